/- Proved here: the document's texts between quotes, and numbers side by side: how long they are, or that there are none; of every line of up to 512 signs. -/
import Derived.Test.YtjlaenglmdpboaaGreatQR7
import Derived.Test.YtjlaenglmdpboaaGreatQN22
set_option linter.unusedSimpArgs false
set_option linter.unusedVariables false
namespace Go.Im
theorem Own.ne {low : Nat} {h : Heap} {size n b e : Nat} {v : Value} {xs C : List Value} (H : Own low h size v n xs) (hg : h.get b = .cells C e) (he : e ≠ size) : vblk v ≠ some b := by
  rcases H with ⟨rfl, _, _⟩ | ⟨q, rfl, _, _, hq, _⟩
  · simp [vblk]
  · intro hh
    simp only [vblk, Option.some.injEq] at hh
    rw [hh, hg] at hq
    simp only [Blk.cells.injEq] at hq
    exact he hq.2
/-- An append to a slice that lies in a struct of the call's own. -/
theorem field_app {h w : Heap} (x : Ext h w) {size bytes : Nat} {v : Value} {n k q e : Nat} {xs new C : List Value} (H : Own h.size w size v n xs) (hq : h.size ≤ q) (hqw : q < w.size) (hg : w.get q = .cells C e) (he : e ≠ size) (hs : 0 < size) (hk : 0 < k) (hn : new.length = k * size)
    (hb : 2 * (n + k) * bytes ≤ 140737488355328) (hc : n + k ≤ 4611686018427387904) (f : Value → List Value) :
    ∃ w1 w2, iapp h.size w size bytes v k (some new) = some (.slice (some ⟨w.size, 0, none⟩) (n + k) big, w1) ∧ w1.get q = .cells C e ∧ w1.size = w.size + 1 ∧ w1.set q (.cells (f (.slice (some ⟨w.size, 0, none⟩) (n + k) big)) e) = w2 ∧ Ext h w2 ∧ w2.size = w.size + 1 ∧
      w2.get q = .cells (f (.slice (some ⟨w.size, 0, none⟩) (n + k) big)) e ∧ Own h.size w2 size (.slice (some ⟨w.size, 0, none⟩) (n + k) big) (n + k) (xs ++ new) ∧ ∀ b, b < w.size → b ≠ q → vblk v ≠ some b → w2.get b = w.get b := by
  obtain ⟨w1, h1, h2, h3, h4⟩ := own_app H x.1 hs hk hn hb hc
  have h5 : w1.get q = .cells C e := (h4 q hqw (H.ne hg he)).trans hg
  have x1 : Ext h w1 := by
    refine ⟨by have := x.1; omega, fun b hb => ?_⟩
    rw [h4 b (by have := x.1; omega), x.2 b hb]
    rcases H with ⟨rfl, _, _⟩ | ⟨b', rfl, hlo, _, _, _⟩
    · simp [vblk]
    · intro hh
      simp only [vblk, Option.some.injEq] at hh
      omega
  obtain ⟨w2, e2, x2, hs2, g2, k2⟩ := put1 x1 hq (.cells (f (.slice (some ⟨w.size, 0, none⟩) (n + k) big)) e)
  refine ⟨w1, w2, h1, h5, h3, e2, x2, by omega, g2, ?_, fun b hb hbq hv => (k2 b hbq).trans (h4 b hb hv)⟩
  rcases h2 with ⟨hh, _⟩ | ⟨b, hh, h6, h7, h8, h9⟩
  · cases hh
  · cases hh
    exact .inr ⟨w.size, rfl, h6, by omega, by rw [k2 _ (by omega)]; exact h8, h9⟩
end Go.Im
namespace Go.Proofs.YtjlaenglmdpboaaGreat.R8
open Go Go.Im Go.Im.Limbs Go.Im.Lexing Go.Im.Dec Go.Proofs Go.RowKit Go.Proofs.YtjlaenglmdpboaaGreat.Hd Go.Proofs.YtjlaenglmdpboaaGreat.N16 Go.Proofs.YtjlaenglmdpboaaGreat.N18 Go.Proofs.YtjlaenglmdpboaaGreat.N20 Go.Proofs.YtjlaenglmdpboaaGreat.N22 Go.Proofs.YtjlaenglmdpboaaGreat.R5 Go.Proofs.YtjlaenglmdpboaaGreat.R6 Go.Proofs.YtjlaenglmdpboaaGreat.R7
set_option maxRecDepth 100000

/-- The cells of plain data. -/
def Arr4 (l : List Value) : Prop := ∃ a n c b a2 n2 c2 a3 n3 c3, l = [.slice a n c, .bool b, .slice a2 n2 c2, .slice a3 n3 c3]

set_option maxHeartbeats 4000000 in
theorem rtext_run (l : List Int) (at' : Nat) {v : Value} (h : Heap) (t : Tx h v l) (hm : l.length ≤ 512) (hat : at' < l.length) :
    Runs K f_ref22_text #[v, .int .i64 (at' : Int)] h fun r w => (textF (l.drop (at' + 1)) = none ∧ ∃ p, r = .tuple #[.agg p.toArray, .int .i64 0] ∧ Arr4 p) ∨
      ∃ k p, textF (l.drop (at' + 1)) = some k ∧ r = .tuple #[.agg p.toArray, .int .i64 ((at' + 1 + k : Nat) : Int)] ∧ Arr4 p := by
  obtain ⟨a, c, rfl⟩ := t.open
  refine Runs.of Kok (Does.intro rfl (by decide +kernel) F_ref22_text rfl ?_)
  obtain ⟨w0, e0', x0, hs0, z0, z1⟩ := lay2 h (.cells [.slice none 0 0, .bool false, .slice none 0 0, .slice none 0 0] 4) (.cells [.slice none 0 0, .bool false, .slice none 0 0, .slice none 0 0] 4)
  have j1 : h.size ≤ h.size + 1 := by omega
  have j0 : h.size ≤ h.size := Nat.le_refl _
  obtain ⟨w1, e1', x1, hs1, g1, k1⟩ := put1 x0 j1 (.cells [.slice none 0 0, .bool true, .slice none 0 0, .slice none 0 0] 4)
  have z0' : w1.get h.size = _ := (k1 _ (by omega)).trans z0
  have i1 : IntKind.i64.wrap ((at' : Int) + 1) = ((at' + 1 : Nat) : Int) := by rw [wrap_i64 (by omega) (by omega)]; omega
  have i4 : IntKind.i64.wrap (((l.length : Nat) : Int) - 1) = ((l.length - 1 : Nat) : Int) := by rw [wrap_i64 (by omega) (by omega)]; omega
  simp +decide only [go_sem, W_region, Wx_some, Nat.reduceAdd, Nat.reduceMul, Nat.reduceEqDiff, Int.reduceAdd, Int.reduceSub, Int.reduceMul, Int.reduceNeg, Int.reduceToNat, e0', z1, j1, e1', i1]
  refine W_loop (α := Nat × List Int × Value) (fun k e w => at' + 1 ≤ k.1 ∧ k.1 ≤ l.length ∧ textF (l.drop (at' + 1)) = (textF (l.drop k.1)).map (· + (k.1 - (at' + 1))) ∧ e.size = 66 ∧ Ext h w ∧ h.size + 1 < w.size ∧ e.get 0 = .slice a l.length c ∧
    e.get 4 = .pointer (some ⟨h.size, 0, none⟩) ∧ e.get 6 = .pointer (some ⟨h.size + 1, 0, none⟩) ∧ e.get 7 = .int .i64 (k.1 : Int) ∧ w.get h.size = .cells [.slice none 0 0, .bool false, .slice none 0 0, .slice none 0 0] 4 ∧ w.get (h.size + 1) = .cells [.slice none 0 0, .bool true, k.2.2, .slice none 0 0] 4 ∧
    Own h.size w 1 k.2.2 k.2.1.length (rv k.2.1) ∧ k.2.1.length ≤ k.1) (fun k => l.length - k.1) (at' + 1, [], .slice none 0 0) ?_ ?_
  · refine ⟨Nat.le_refl _, hat, ?_, by simp +decide only [go_sem], x1, by omega, by simp +decide only [go_sem], by simp +decide only [go_sem], by simp +decide only [go_sem, hs0], by simp +decide only [go_sem], z0', g1, Own.nil _ _ _, by simp⟩
    simp
  · rintro ⟨p, ss, sv⟩ e w ⟨hp1, hp2, htx, hsz, hxw, hws, e0, e4, e6, e7, gh, gq, owns, hss⟩ next
    simp only at hp1 hp2 htx e7 gq owns hss
    rw [textF_at l p] at htx
    obtain ⟨sa, sc, rfl⟩ := owns.shape
    have fin : ∀ (vs : Value), ∃ w2, w.set h.size (.cells [vs, .bool true, .slice sa ss.length sc, .slice none 0 0] 4) = w2 ∧ w2.get h.size = .cells [vs, .bool true, .slice sa ss.length sc, .slice none 0 0] 4 := fun vs => by
      obtain ⟨w2, e2, x2, hs2, g2, k2⟩ := put1 hxw j0 (.cells [vs, .bool true, .slice sa ss.length sc, .slice none 0 0] 4)
      exact ⟨w2, e2, g2⟩
    by_cases hpl : (p : Int) < ((l.length : Nat) : Int)
    case neg =>
      rw [List.getElem?_eq_none (by omega)] at htx
      obtain ⟨w2, e2, g2⟩ := fin (.slice none 0 0)
      simp +decide only [go_sem, W_region, Wx_some, Nat.reduceAdd, Nat.reduceMul, Nat.reduceEqDiff, Int.reduceAdd, Int.reduceSub, Int.reduceMul, Int.reduceNeg, Int.reduceToNat, hsz, e0, e4, e6, e7, gh, gq, hpl, j0, e2, g2]
      exact .inl ⟨htx, _, rfl, ⟨_, _, _, _, _, _, _, _, _, _, rfl⟩⟩
    obtain ⟨y, hy⟩ : ∃ y, l[p]? = some y := ⟨_, List.getElem?_eq_getElem (by omega)⟩
    rw [hy] at htx
    simp only at htx
    have i0 : (0 : Int) ≤ (p : Int) := by omega
    have i2 : IntKind.i64.wrap ((p : Int) + 1) = ((p + 1 : Nat) : Int) := by rw [wrap_i64 (by omega) (by omega)]; omega
    have i3 : IntKind.i64.wrap (((p + 1 : Nat) : Int) + 1) = ((p + 2 : Nat) : Int) := by rw [wrap_i64 (by omega) (by omega)]; omega
    obtain ⟨b', o', cs', q1, q2, q3, q4⟩ := (t.ext hxw).one hy
    cases q1
    have app : ∀ (y : Int), ∃ w1 w2 w3, w.push (.cells [.int .i32 y] 1) = w1 ∧ w1.get w.size = .cells [.int .i32 y] 1 ∧ iapp h.size w1 1 4 (.slice sa ss.length sc) 1 (some [.int .i32 y]) = some (.slice (some ⟨w1.size, 0, none⟩) (ss.length + 1) big, w2) ∧
        w2.get (h.size + 1) = .cells [.slice none 0 0, .bool true, .slice sa ss.length sc, .slice none 0 0] 4 ∧ w2.set (h.size + 1) (.cells [.slice none 0 0, .bool true, .slice (some ⟨w1.size, 0, none⟩) (ss.length + 1) big, .slice none 0 0] 4) = w3 ∧ Ext h w3 ∧ h.size + 1 < w3.size ∧
        w3.get h.size = .cells [.slice none 0 0, .bool false, .slice none 0 0, .slice none 0 0] 4 ∧ w3.get (h.size + 1) = .cells [.slice none 0 0, .bool true, .slice (some ⟨w1.size, 0, none⟩) (ss.length + 1) big, .slice none 0 0] 4 ∧ Own h.size w3 1 (.slice (some ⟨w1.size, 0, none⟩) (ss.length + 1) big) (ss ++ [y]).length (rv (ss ++ [y])) := by
      intro y
      obtain ⟨w1, e1', x1, hs1, g1⟩ := lay1 w (.cells [.int .i32 y] 1)
      have gq1 : w1.get (h.size + 1) = _ := (x1.2 _ hws).trans gq
      have gh1 : w1.get h.size = _ := (x1.2 _ (by omega)).trans gh
      have o1 := owns.ext x1
      obtain ⟨w2, w3, a1, a2, a3, a4, a5, a6, a7, a8, a9⟩ := field_app (hxw.trans x1) (bytes := 4) (k := 1) (new := [.int .i32 y]) o1 j1 (by omega) gq1 (by omega) (by omega) (by omega) rfl (by omega) (by omega) (fun v => [.slice none 0 0, .bool true, v, .slice none 0 0])
      refine ⟨w1, w2, w3, e1', g1, a1, a2, a4, a5, by omega, (a9 _ (by omega) (by omega) (o1.ne gh1 (by omega))).trans gh1, a7, ?_⟩
      rw [rv_append, List.length_append]
      exact a8
    by_cases h39 : y = 39
    case neg =>
      rw [if_neg h39] at htx
      obtain ⟨w1, w2, w3, a1, a2, a3, a4, a5, a6, a7, a8, a9, a10⟩ := app y
      simp +decide only [go_sem, W_region, Wx_some, Nat.reduceAdd, Nat.reduceMul, Nat.reduceEqDiff, Int.reduceAdd, Int.reduceSub, Int.reduceMul, Int.reduceNeg, Int.reduceToNat, hsz, e0, e4, e6, e7, hpl, i0, Int.toNat_natCast, Nat.mul_one, q3, q4, h39, gq, a1, a2, a3, a4, j1, a5, i2]
      refine next (p + 1, ss ++ [y], _) _ _ ⟨by simp only; omega, by simp only; omega, ?_, by simp +decide only [go_sem, hsz], a6, a7, by simp +decide only [go_sem, hsz, e0], by simp +decide only [go_sem, hsz, e4], by simp +decide only [go_sem, hsz, e6], by simp +decide only [go_sem, hsz], a8, a9, a10, by simp; omega⟩ (by simp only; omega)
      rw [htx]
      simp only
      cases textF (l.drop (p + 1)) with
      | none => rfl
      | some k => simp only [Option.map_some]; congr 1; omega
    subst h39
    simp only [if_true] at htx
    have fin2 : textF (l.drop (at' + 1)) = some (p - (at' + 1) + 1) → ∃ k, textF (l.drop (at' + 1)) = some k ∧ at' + 1 + k = p + 1 := fun hh => ⟨_, hh, by omega⟩
    have stop : textF (l.drop (at' + 1)) = some (p - (at' + 1) + 1) → ∀ {e : Env}, e.size = 66 → e.get 4 = .pointer (some ⟨h.size, 0, none⟩) → e.get 6 = .pointer (some ⟨h.size + 1, 0, none⟩) → e.get 7 = .int .i64 (p : Int) → True := fun _ _ _ _ _ _ => trivial
    obtain ⟨w1, wq1, e1', x1, hs1, g1, wq2, wq3⟩ : ∃ w1 : Heap, ∃ w2 : Heap, w.push (.cells [.int .i64 ((ss.length : Nat) : Int)] 1) = w1 ∧ Ext w w1 ∧ w1.size = w.size + 1 ∧ w1.set (h.size + 1) (.cells [.slice (some ⟨w.size, 0, none⟩) 1 1, .bool true, .slice sa ss.length sc, .slice none 0 0] 4) = w2 ∧
        w2.get (h.size + 1) = .cells [.slice (some ⟨w.size, 0, none⟩) 1 1, .bool true, .slice sa ss.length sc, .slice none 0 0] 4 ∧ (w1.get (h.size + 1) = .cells [.slice none 0 0, .bool true, .slice sa ss.length sc, .slice none 0 0] 4 ∧ w2.get h.size = .cells [.slice none 0 0, .bool false, .slice none 0 0, .slice none 0 0] 4 ∧ Ext h w2) := by
      obtain ⟨w1, e1', x1, hs1, g1⟩ := lay1 w (.cells [.int .i64 ((ss.length : Nat) : Int)] 1)
      obtain ⟨w2, e2, x2, hs2, g2, k2⟩ := put1 (hxw.trans x1) j1 (.cells [.slice (some ⟨w.size, 0, none⟩) 1 1, .bool true, .slice sa ss.length sc, .slice none 0 0] 4)
      exact ⟨w1, w2, e1', x1, hs1, e2, g2, (x1.2 _ hws).trans gq, (k2 _ (by omega)).trans ((x1.2 _ (by omega)).trans gh), x2⟩
    obtain ⟨gq1, gh2, xq2⟩ := wq3
    obtain ⟨w5, e5, x5, hs5, g5, k5⟩ := put1 xq2 j0 (.cells [.slice (some ⟨w.size, 0, none⟩) 1 1, .bool true, .slice sa ss.length sc, .slice none 0 0] 4)
    obtain ⟨w6, e6', g6⟩ := fin (.slice none 0 0)
    by_cases hend : (p : Int) = ((l.length - 1 : Nat) : Int)
    · have hnx : l[p + 1]? = none := List.getElem?_eq_none (by omega)
      have hd : decide ((p : Int) = ((l.length - 1 : Nat) : Int)) = true := by simpa using hend
      rw [hnx, if_neg (by simp)] at htx
      simp only [Option.map_some] at htx
      have hpk : at' + 1 + (1 + (p - (at' + 1))) = p + 1 := by omega
      by_cases hone : ((ss.length : Nat) : Int) = 1
      · simp +decide only [go_sem, W_region, Wx_some, Nat.reduceAdd, Nat.reduceMul, Nat.reduceEqDiff, Int.reduceAdd, Int.reduceSub, Int.reduceMul, Int.reduceNeg, Int.reduceToNat, hsz, e0, e4, e6, e7, hpl, i0, Int.toNat_natCast, Nat.mul_one, q3, q4, i4, hd, gq, hone, gh, j0, e6', g6, i2]
        exact .inr ⟨_, _, htx, by rw [hpk], ⟨_, _, _, _, _, _, _, _, _, _, rfl⟩⟩
      · simp +decide only [go_sem, W_region, Wx_some, Nat.reduceAdd, Nat.reduceMul, Nat.reduceEqDiff, Int.reduceAdd, Int.reduceSub, Int.reduceMul, Int.reduceNeg, Int.reduceToNat, hsz, e0, e4, e6, e7, hpl, i0, Int.toNat_natCast, Nat.mul_one, q3, q4, i4, hd, gq, hone, e1', gq1, j1, g1, wq2, gh2, j0, e5, g5, i2]
        exact .inr ⟨_, _, htx, by rw [hpk], ⟨_, _, _, _, _, _, _, _, _, _, rfl⟩⟩
    obtain ⟨z, hz⟩ : ∃ z, l[p + 1]? = some z := ⟨_, List.getElem?_eq_getElem (by omega)⟩
    have hzl := (List.getElem?_eq_some_iff.1 hz).1
    obtain ⟨b2, o2, cs2, p1, p2, p3, p4⟩ := (t.ext hxw).one hz
    cases p1
    rw [q3] at p3
    cases p3
    have i5 : (0 : Int) ≤ ((p + 1 : Nat) : Int) := by omega
    have i6 : ((p + 1 : Nat) : Int) < ((l.length : Nat) : Int) := by omega
    by_cases hz39 : z = 39
    case neg =>
      rw [hz, if_neg (by simpa using hz39)] at htx
      simp only [Option.map_some] at htx
      have hpk : at' + 1 + (1 + (p - (at' + 1))) = p + 1 := by omega
      by_cases hone : ((ss.length : Nat) : Int) = 1
      · simp +decide only [go_sem, W_region, Wx_some, Nat.reduceAdd, Nat.reduceMul, Nat.reduceEqDiff, Int.reduceAdd, Int.reduceSub, Int.reduceMul, Int.reduceNeg, Int.reduceToNat, hsz, e0, e4, e6, e7, hpl, i0, Int.toNat_natCast, Nat.mul_one, q3, q4, i4, hend, i2, i5, i6, p4, hz39, gq, hone, gh, j0, e6', g6]
        exact .inr ⟨_, _, htx, by rw [hpk], ⟨_, _, _, _, _, _, _, _, _, _, rfl⟩⟩
      · simp +decide only [go_sem, W_region, Wx_some, Nat.reduceAdd, Nat.reduceMul, Nat.reduceEqDiff, Int.reduceAdd, Int.reduceSub, Int.reduceMul, Int.reduceNeg, Int.reduceToNat, hsz, e0, e4, e6, e7, hpl, i0, Int.toNat_natCast, Nat.mul_one, q3, q4, i4, hend, i2, i5, i6, p4, hz39, gq, hone, e1', gq1, j1, g1, wq2, gh2, j0, e5, g5]
        exact .inr ⟨_, _, htx, by rw [hpk], ⟨_, _, _, _, _, _, _, _, _, _, rfl⟩⟩
    subst hz39
    rw [hz, if_pos rfl] at htx
    obtain ⟨w1, w2, w3, a1, a2, a3, a4, a5, a6, a7, a8, a9, a10⟩ := app 39
    simp +decide only [go_sem, W_region, Wx_some, Nat.reduceAdd, Nat.reduceMul, Nat.reduceEqDiff, Int.reduceAdd, Int.reduceSub, Int.reduceMul, Int.reduceNeg, Int.reduceToNat, hsz, e0, e4, e6, e7, hpl, i0, Int.toNat_natCast, Nat.mul_one, q3, q4, i4, hend, i2, i5, i6, p4, gq, a1, a2, a3, a4, j1, a5, i3]
    refine next (p + 2, ss ++ [39], _) _ _ ⟨by simp only; omega, by simp only; omega, ?_, by simp +decide only [go_sem, hsz], a6, a7, by simp +decide only [go_sem, hsz, e0], by simp +decide only [go_sem, hsz, e4], by simp +decide only [go_sem, hsz, e6], by simp +decide only [go_sem, hsz], a8, a9, a10, by simp; omega⟩ (by simp only; omega)
    rw [htx]
    simp only
    cases textF (l.drop (p + 2)) with
    | none => rfl
    | some k => simp only [Option.map_some]; congr 1; omega

set_option maxHeartbeats 4000000 in
theorem rnumbers_run (l : List Int) (at' : Nat) {v : Value} (h : Heap) (t : Tx h v l) (hm : l.length ≤ 512) (hat : at' < l.length) (hbg : begins (l.drop at') = true) :
    Runs K f_ref22_numbers #[v, .int .i64 (at' : Int)] h fun r w => (numsF 600 (l.drop at') = none ∧ ∃ p, r = .tuple #[.agg p.toArray, .int .i64 0] ∧ Arr4 p) ∨
      ∃ n m p, numsF 600 (l.drop at') = some (n, m) ∧ at' < at' + m ∧ at' + m ≤ l.length ∧ r = .tuple #[.agg p.toArray, .int .i64 ((at' + m : Nat) : Int)] ∧ Arr4 p := by
  obtain ⟨a, c, rfl⟩ := t.open
  refine Runs.of Kok (Does.intro rfl (by decide +kernel) F_ref22_numbers rfl ?_)
  obtain ⟨w0, e0', x0, hs0, z0, z1⟩ := lay2 h (.cells [.slice none 0 0, .bool false, .slice none 0 0, .slice none 0 0] 4) (.cells [.slice none 0 0, .bool false, .slice none 0 0, .slice none 0 0] 4)
  have j1 : h.size ≤ h.size + 1 := by omega
  have j0 : h.size ≤ h.size := Nat.le_refl _
  simp +decide only [go_sem, W_region, Wx_some, Nat.reduceAdd, Nat.reduceMul, Nat.reduceEqDiff, Int.reduceAdd, Int.reduceSub, Int.reduceMul, Int.reduceNeg, Int.reduceToNat, e0']
  refine W_loop (α := Nat × Nat × Nat × Nat × List Value × Value) (fun k e w => at' ≤ k.2.1 ∧ k.2.1 ≤ k.1 ∧ k.1 ≤ l.length ∧ numsF 600 (l.drop at') = (numsF k.2.2.1 (l.drop k.1)).map (addN at' k.2.2.2.1 k.2.1 k.1) ∧ 513 ≤ k.2.2.1 + k.1 ∧ e.size = 48 ∧ Ext h w ∧ h.size + 1 < w.size ∧
    e.get 0 = .slice a l.length c ∧ e.get 4 = .pointer (some ⟨h.size, 0, none⟩) ∧ e.get 6 = .pointer (some ⟨h.size + 1, 0, none⟩) ∧ e.get 7 = .int .i64 (k.2.1 : Int) ∧ e.get 8 = .int .i64 (k.1 : Int) ∧ w.get h.size = .cells [.slice none 0 0, .bool false, .slice none 0 0, .slice none 0 0] 4 ∧
    w.get (h.size + 1) = .cells [.slice none 0 0, .bool false, .slice none 0 0, k.2.2.2.2.2] 4 ∧ Own h.size w 3 k.2.2.2.2.2 k.2.2.2.1 k.2.2.2.2.1 ∧ k.2.2.2.1 ≤ k.1 ∧ (k.2.2.2.1 = 0 → k.1 = at') ∧ (0 < k.2.2.2.1 → at' < k.2.1)) (fun k => l.length - k.1) (at', at', 600, 0, [], .slice none 0 0) ?_ ?_
  · refine ⟨Nat.le_refl _, Nat.le_refl _, by omega, ?_, by simp only; omega, by simp +decide only [go_sem], x0, by omega, by simp +decide only [go_sem], by simp +decide only [go_sem], by simp +decide only [go_sem], by simp +decide only [go_sem], by simp +decide only [go_sem], z0, z1, Own.nil _ _ _, by simp, by simp, by simp⟩
    cases hq : numsF 600 (l.drop at') with
    | none => rfl
    | some r =>
      obtain ⟨n, m⟩ := r
      simp only [Option.map_some, addN, Nat.sub_self, Nat.zero_add, Option.some.injEq]
      split
      · rename_i h0'
        have h0' : n = 0 := h0'
        subst h0'
        exact absurd hq (numsF_pos (f := 599) hbg)
      · rfl
  · rintro ⟨p, to, f, n, xs, sv⟩ e w ⟨hp1, hp2, hp3, hnm, hf, hsz, hxw, hws, e0, e4, e6, e7, e8, gh, gq, owns, hnp, hz, hpos⟩ next
    simp only at hp1 hp2 hp3 hnm hf e7 e8 gq owns hnp hz hpos
    obtain ⟨g, rfl⟩ : ∃ g, f = g + 1 := ⟨f - 1, by omega⟩
    cases hbp : begins (l.drop p) with
    | false =>
      have hn : numsF (g + 1) (l.drop p) = some (0, 0) := by rw [numsF_succ, hbp]; rfl
      rw [hn] at hnm
      simp only [Option.map_some, addN, if_true] at hnm
      have hq0 : 0 < n := by
        refine Nat.pos_of_ne_zero fun hh => ?_
        have := hz hh
        subst this
        rw [hbg] at hbp
        cases hbp
      have hto := hpos hq0
      have htl : at' + (to - at') = to := by omega
      simp +decide only [go_sem, W_region, Wx_some, Nat.reduceAdd, Nat.reduceMul, Nat.reduceEqDiff, Int.reduceAdd, Int.reduceSub, Int.reduceMul, Int.reduceNeg, Int.reduceToNat, hsz, e0, e4, e6, e7, e8]
      refine W_call Kok hxw.1 (rbegins_run l p w (t.ext hxw) (by omega) hp3) fun r w1 x1 hr => ?_
      rw [hbp] at hr
      subst hr
      have x01 := hxw.trans x1
      obtain ⟨sa, sc, rfl⟩ := owns.shape
      have gq1 : w1.get (h.size + 1) = _ := (x1.2 _ hws).trans gq
      have gh1 : w1.get h.size = _ := (x1.2 _ (by omega)).trans gh
      by_cases h1 : ((n : Nat) : Int) = 1
      · obtain ⟨w2, e2, x2, hs2, g2, k2⟩ := put1 x01 j0 (.cells [.slice none 0 0, .bool false, .slice none 0 0, .slice sa n sc] 4)
        simp +decide only [go_sem, W_region, Wx_some, Nat.reduceAdd, Nat.reduceMul, Nat.reduceEqDiff, Int.reduceAdd, Int.reduceSub, Int.reduceMul, Int.reduceNeg, Int.reduceToNat, hsz, e0, e4, e6, e7, e8, gq1, h1, gh1, j0, e2, g2]
        exact .inr ⟨_, _, _, hnm, by omega, by omega, by rw [htl], ⟨_, _, _, _, _, _, _, _, _, _, rfl⟩⟩
      · obtain ⟨w2, e2, x2, hs2, g2⟩ := lay1 w1 (.cells [.int .i64 (n : Int)] 1)
        have hws1 : h.size + 1 < w1.size := by have := x1.1; omega
        have gq2 : w2.get (h.size + 1) = _ := (x2.2 _ hws1).trans gq1
        have gh2 : w2.get h.size = _ := (x2.2 _ (by omega)).trans gh1
        obtain ⟨w3, e3, x3, hs3, g3, k3⟩ := put1 (x01.trans x2) j1 (.cells [.slice (some ⟨w1.size, 0, none⟩) 1 1, .bool false, .slice none 0 0, .slice sa n sc] 4)
        have gh3 : w3.get h.size = _ := (k3 _ (by omega)).trans gh2
        obtain ⟨w4, e4', x4, hs4, g4, k4⟩ := put1 x3 j0 (.cells [.slice (some ⟨w1.size, 0, none⟩) 1 1, .bool false, .slice none 0 0, .slice sa n sc] 4)
        simp +decide only [go_sem, W_region, Wx_some, Nat.reduceAdd, Nat.reduceMul, Nat.reduceEqDiff, Int.reduceAdd, Int.reduceSub, Int.reduceMul, Int.reduceNeg, Int.reduceToNat, hsz, e0, e4, e6, e7, e8, gq1, h1, e2, gq2, j1, g2, e3, g3, gh3, j0, e4', g4]
        exact .inr ⟨_, _, _, hnm, by omega, by omega, by rw [htl], ⟨_, _, _, _, _, _, _, _, _, _, rfl⟩⟩
    | true =>
      have hunf : numsF (g + 1) (l.drop p) = match readS (l.drop p) with
        | none => none
        | some k => match numsF g (l.drop (p + (k + blanks (l.drop (p + k))))) with
          | none => none
          | some (0, _) => some (1, k)
          | some (n + 1, m) => some (n + 2, k + blanks (l.drop (p + k)) + m) := by
        rw [numsF_succ, hbp, if_pos rfl]
        cases readS (l.drop p) with
        | none => rfl
        | some k =>
          simp only [List.drop_drop]
          cases numsF g (l.drop (p + (k + blanks (l.drop (p + k))))) with
          | none => rfl
          | some r =>
            obtain ⟨n, m⟩ := r
            cases n <;> rfl
      simp +decide only [go_sem, W_region, Wx_some, Nat.reduceAdd, Nat.reduceMul, Nat.reduceEqDiff, Int.reduceAdd, Int.reduceSub, Int.reduceMul, Int.reduceNeg, Int.reduceToNat, hsz, e0, e4, e6, e7, e8]
      refine W_call Kok hxw.1 (rbegins_run l p w (t.ext hxw) (by omega) hp3) fun r w1 x1 hr => ?_
      rw [hbp] at hr
      subst hr
      have x01 := hxw.trans x1
      simp +decide only [go_sem, W_region, Wx_some, Nat.reduceAdd, Nat.reduceMul, Nat.reduceEqDiff, Int.reduceAdd, Int.reduceSub, Int.reduceMul, Int.reduceNeg, Int.reduceToNat, hsz, e0, e4, e6, e7, e8]
      refine W_call Kok x01.1 (rread_run l p w1 (t.ext x01) hm hp3 hbp) fun r w2 x2 hr => ?_
      have x02 := x01.trans x2
      have hws2 : h.size + 1 < w2.size := by have := x1.1; have := x2.1; omega
      have gq2 : w2.get (h.size + 1) = _ := ((x1.trans x2).2 _ hws).trans gq
      have gh2 : w2.get h.size = _ := ((x1.trans x2).2 _ (by omega)).trans gh
      obtain ⟨sa, sc, rfl⟩ := owns.shape
      have j2 := x02.1
      rcases hr with ⟨hrd, rfl⟩ | ⟨k, hrd, hk1, hk2, rfl⟩
      · obtain ⟨w3, e3, x3, hs3, g3⟩ := lay1 w2 (.cells [.bool false, .string ByteArray.empty, .string ByteArray.empty] 3)
        obtain ⟨w4, e4', x4, hs4, g4, k4⟩ := put1 (x02.trans x3) j2 (.cells [.bool false, .string (text (ds 0)), .string (text (ds 1))] 3)
        have gq4 : w4.get (h.size + 1) = _ := (k4 _ (by omega)).trans ((x3.2 _ hws2).trans gq2)
        have gh4 : w4.get h.size = _ := (k4 _ (by omega)).trans ((x3.2 _ (by omega)).trans gh2)
        obtain ⟨w5, e5, x5, hs5, g5, k5⟩ := put1 x4 j0 (.cells [.slice none 0 0, .bool false, .slice none 0 0, .slice sa n sc] 4)
        rw [hunf, hrd] at hnm
        simp only [Option.map_none] at hnm
        simp +decide only [go_sem, W_region, Wx_some, Nat.reduceAdd, Nat.reduceMul, Nat.reduceEqDiff, Int.reduceAdd, Int.reduceSub, Int.reduceMul, Int.reduceNeg, Int.reduceToNat, numA, hsz, e0, e4, e6, e7, e8, e3, g3, j2, e4', gq4, gh4, j0, e5, g5]
        exact .inl ⟨hnm, _, rfl, ⟨_, _, _, _, _, _, _, _, _, _, rfl⟩⟩
      unfold ratN numA
      generalize ((readN (l.drop p)).1 && decide ((readN (l.drop p)).2.1 ≠ 0)) = sg
      generalize text (ds (Go.Proofs.YtjlaenglmdpboaaGreat.N14.scM (readN (l.drop p)).2.1 (readN (l.drop p)).2.2)) = M
      generalize text (ds (Go.Proofs.YtjlaenglmdpboaaGreat.N14.scK (readN (l.drop p)).2.1 (readN (l.drop p)).2.2)) = D
      obtain ⟨w3, e3, x3, hs3, g3⟩ := lay1 w2 (.cells [.bool false, .string ByteArray.empty, .string ByteArray.empty] 3)
      obtain ⟨w4, e4', x4, hs4, g4, k4⟩ := put1 (x02.trans x3) j2 (.cells [.bool sg, .string M, .string D] 3)
      have ext24 : Ext w2 w4 := ⟨by have := x3.1; omega, fun b hb => (k4 b (by omega)).trans (x3.2 b hb)⟩
      obtain ⟨w5, e5, x5, hs5, g5⟩ := lay1 w4 (.cells [.bool sg, .string M, .string D] 3)
      have gq5 : w5.get (h.size + 1) = _ := ((ext24.trans x5).2 _ hws2).trans gq2
      have gh5 : w5.get h.size = _ := ((ext24.trans x5).2 _ (by omega)).trans gh2
      have gq4 : w4.get (h.size + 1) = _ := (ext24.2 _ hws2).trans gq2
      have own5 := (((owns.ext x1).ext x2).ext ext24).ext x5
      obtain ⟨w6, w7, a1, a2, a3, a4, a5, a6, a7, a8, a9⟩ := field_app (x4.trans x5) (bytes := 40) (k := 1) (new := [.bool sg, .string M, .string D]) own5 j1 (by omega) gq5 (by omega) (by omega) (by omega) rfl (by omega) (by omega) (fun v => [.slice none 0 0, .bool false, .slice none 0 0, v])
      have gh7 : w7.get h.size = _ := (a9 _ (by omega) (by omega) (own5.ne gh5 (by omega))).trans gh5
      obtain ⟨B, hB⟩ : ∃ B, B = blanks (l.drop (p + k)) := ⟨_, rfl⟩
      have hBl : p + k + B ≤ l.length := by rw [hB]; exact blanks_len hk1
      rw [hunf, hrd] at hnm
      simp only [← hB] at hnm
      simp +decide only [go_sem, W_region, Wx_some, Nat.reduceAdd, Nat.reduceMul, Nat.reduceEqDiff, Int.reduceAdd, Int.reduceSub, Int.reduceMul, Int.reduceNeg, Int.reduceToNat, hsz, e0, e4, e6, e7, e8, e3, g3, j2, e4', gq4, g4, e5, gq5, g5, a1, a2, j1, a4]
      refine W_call Kok a5.1 (rblanks_run l (p + k) w7 (t.ext a5) (by omega) hk1) fun r w8 x8 hr => ?_
      obtain ⟨rfl, rfl⟩ := hr
      rw [← hB]
      simp +decide only [go_sem, W_region, Wx_some, Nat.reduceAdd, Nat.reduceMul, Nat.reduceEqDiff, Int.reduceAdd, Int.reduceSub, Int.reduceMul, Int.reduceNeg, Int.reduceToNat, hsz]
      refine next (p + k + B, p + k, g, n + 1, xs ++ [.bool sg, .string M, .string D], _) _ _ ⟨by simp only; omega, by simp only; omega, by simp only; omega, ?_, by simp only; omega, by simp +decide only [go_sem, hsz], a5, by omega, by simp +decide only [go_sem, hsz, e0], by simp +decide only [go_sem, hsz, e4], by simp +decide only [go_sem, hsz, e6], by simp +decide only [go_sem, hsz], by simp +decide only [go_sem, hsz], gh7, a7, a8, by simp only; omega, by simp, fun _ => by simp only; omega⟩ (by simp only; omega)
      rw [hnm]
      simp only
      rw [show p + (k + B) = p + k + B by omega]
      cases numsF g (l.drop (p + k + B)) with
      | none => rfl
      | some r =>
        obtain ⟨n, m⟩ := r
        cases n with
        | zero => simp [addN]; omega
        | succ n => simp [addN]; omega
end Go.Proofs.YtjlaenglmdpboaaGreat.R8
