/- Proved here: TokenRemarks answers true, at any two lines laid in memory that is only read; no condition. -/
import Derived.Test.YtjlaenglmdpboaaN25
set_option linter.unusedSimpArgs false
set_option linter.unusedVariables false
namespace Go.Im
/-- An append to a slice of blocks that are newer than h, of any number of elements. -/
theorem own_any {low : Nat} {h w : Heap} (hlow : low ≤ h.size) (x : Ext h w) {size bytes : Nat} {v : Value} {n k : Nat} {xs new : List Value} (H : Own h.size w size v n xs) (hs : 0 < size) (hn : new.length = k * size)
    (hb : 2 * (n + k) * bytes ≤ 140737488355328) (hc : n + k ≤ 4611686018427387904) :
    ∃ a c w', iapp low w size bytes v k (some new) = some (.slice a (n + k) c, w') ∧ Own h.size w' size (.slice a (n + k) c) (n + k) (xs ++ new) ∧ Ext h w' ∧ (c = 0 ∨ c = big) := by
  by_cases h0 : k = 0
  · subst h0
    have hn0 : new = [] := List.eq_nil_of_length_eq_zero (by omega)
    subst hn0
    rcases H with ⟨rfl, rfl, rfl⟩ | ⟨b, rfl, h2, h3, h4, h5⟩
    · refine ⟨none, 0, w, ?_, .inl ⟨rfl, rfl, rfl⟩, x, .inl rfl⟩
      simp [iapp]
    · refine ⟨some ⟨b, 0, none⟩, big, w, ?_, .inr ⟨b, rfl, h2, h3, by rw [List.append_nil]; exact h4, by rw [List.append_nil]; exact h5⟩, x, .inr rfl⟩
      simp only [iapp, Nat.add_zero] at hb hc ⊢
      rw [if_neg (by omega), if_pos trivial]
  · obtain ⟨w', h1, h2, _, h4⟩ := own_app2 hlow x H hs (by omega) hn hb hc
    exact ⟨_, _, w', h1, h2, h4, .inr rfl⟩
end Go.Im
namespace Go.Proofs.Ytjlaenglmdpboaa.N26
open Go Go.Im Go.Im.Limbs Go.Im.Lexing Go.Proofs Go.RowKit Go.Proofs.Ytjlaenglmdpboaa.Hd Go.Proofs.Ytjlaenglmdpboaa.N1 Go.Proofs.Ytjlaenglmdpboaa.N15 Go.Proofs.Ytjlaenglmdpboaa.N16 Go.Proofs.Ytjlaenglmdpboaa.N17 Go.Proofs.Ytjlaenglmdpboaa.N18 Go.Proofs.Ytjlaenglmdpboaa.N19 Go.Proofs.Ytjlaenglmdpboaa.N23
set_option maxRecDepth 100000
set_option linter.unusedSimpArgs false
set_option linter.unusedVariables false

theorem tok_len {x : XT} (h : Arr5 x.2) : (tc4 x.1 ++ x.2).length = 9 := by
  obtain ⟨a, n, c, b, a2, n2, c2, a3, n3, c3, m, h⟩ := h
  rw [h]
  rfl
theorem xcs_at : ∀ {xs : List XT} {i : Nat} {x : XT}, (∀ x ∈ xs, Arr5 x.2) → xs[i]? = some x → ((xcs xs).drop (i * 9)).take 9 = tc4 x.1 ++ x.2
  | [], i, x, _, h => by simp at h
  | y :: xs, 0, x, hA, h => by
    cases h
    have h1 := tok_len (hA y (by simp))
    simp only [xcs, List.flatMap_cons, Nat.zero_mul, List.drop_zero]
    rw [← h1, List.take_left']
    rfl
  | y :: xs, i + 1, x, hA, h => by
    have h1 := tok_len (hA y (by simp))
    have h2 := xcs_at (xs := xs) (i := i) (fun z hz => hA z (by simp [hz])) (by simpa using h)
    rw [← h2]
    simp only [xcs, List.flatMap_cons]
    have : (i + 1) * 9 = 9 + i * 9 := by omega
    rw [this, ← List.drop_drop, ← h1, List.drop_left']
    rfl
/-- A token in memory. -/
theorem Sl.tok {h : Heap} {a : Option Addr} {n c i : Nat} {xs : List XT} {x : XT} (s : Sl h 9 a n c (xcs xs)) (hA : ∀ x ∈ xs, Arr5 x.2) (hn : xs.length = n) (hx : xs[i]? = some x) :
    ∃ b o cs, a = some ⟨b, o, none⟩ ∧ b < h.size ∧ (h.get b).read = .cells cs 9 ∧ cs[o + i * 9]? = some (.int .i64 (x.1.2.kind : Int)) ∧ cs[o + i * 9 + 1]? = some (.int .i64 (x.1.1 : Int)) ∧ cs[o + i * 9 + 2]? = some (.string (runesBytes x.1.2.word)) ∧
      cs[o + i * 9 + 3]? = some (.int .i32 x.1.2.sign) ∧ (cs.drop (o + i * 9)).take 9 = tc4 x.1 ++ x.2 ∧ o + i * 9 + 9 ≤ cs.length := by
  have hi : i < n := by rw [← hn]; exact (List.getElem?_eq_some_iff.1 hx).1
  obtain ⟨b, o, cs, h1, h2, h3, h4, h5⟩ := s.at hi
  have h6 := xcs_at hA hx
  have h9 : i * 9 + 9 ≤ n * 9 := by omega
  rw [h5, List.drop_take, List.take_take, List.drop_drop, Nat.min_eq_left (by omega)] at h6
  have hj : ∀ j, j < 9 → cs[o + i * 9 + j]? = (tc4 x.1 ++ x.2)[j]? := by
    intro j hj
    rw [← h6, List.getElem?_take, if_pos hj, List.getElem?_drop]
  exact ⟨b, o, cs, h1, h2, h3, (hj 0 (by omega)).trans rfl, (hj 1 (by omega)).trans rfl, (hj 2 (by omega)).trans rfl, (hj 3 (by omega)).trans rfl, h6, by omega⟩

theorem remarks_run (l more : List Int) (h : Heap) {a b : Option Addr} {c d : Nat} (sl : Sl h 1 a l.length c (rv l)) (sm : Sl h 1 b more.length d (rv more)) (hc : c = 0 ∨ c = big) :
    Runs K f_law22_TokenRemarks #[.slice a l.length c, .slice b more.length d] h fun r _ => r = .bool true := by
  have t := Tx.all sl hc
  refine Runs.of Kok (Does.intro rfl (by decide +kernel) F_law22_TokenRemarks rfl ?_)
  by_cases h1 : (250 : Int) < ((l.length : Nat) : Int)
  · simp (decide := true) only [go_sem, W_region, KP, Wx_some, Nat.reduceAdd, Nat.reduceMul, Nat.reduceEqDiff, Nat.add_eq_left, Nat.left_eq_add, Int.reduceAdd, Int.reduceSub, Int.reduceMul, Int.reduceNeg, Int.reduceToNat, h1]
    refine W_call Kok (Nat.le_refl _) (law22_awake_runs h) fun r w x hr => ?_
    subst hr
    simp (decide := true) only [go_sem, W_region, KP, Wx_some, Nat.reduceAdd, Nat.reduceMul, Nat.reduceEqDiff, Nat.add_eq_left, Nat.left_eq_add, Int.reduceAdd, Int.reduceSub, Int.reduceMul, Int.reduceNeg, Int.reduceToNat, KP]
  by_cases h2 : (250 : Int) < ((more.length : Nat) : Int)
  · simp (decide := true) only [go_sem, W_region, KP, Wx_some, Nat.reduceAdd, Nat.reduceMul, Nat.reduceEqDiff, Nat.add_eq_left, Nat.left_eq_add, Int.reduceAdd, Int.reduceSub, Int.reduceMul, Int.reduceNeg, Int.reduceToNat, h1, h2]
    refine W_call Kok (Nat.le_refl _) (law22_awake_runs h) fun r w x hr => ?_
    subst hr
    simp (decide := true) only [go_sem, W_region, KP, Wx_some, Nat.reduceAdd, Nat.reduceMul, Nat.reduceEqDiff, Nat.add_eq_left, Nat.left_eq_add, Int.reduceAdd, Int.reduceSub, Int.reduceMul, Int.reduceNeg, Int.reduceToNat, KP]
  simp (decide := true) only [go_sem, W_region, KP, Wx_some, Nat.reduceAdd, Nat.reduceMul, Nat.reduceEqDiff, Nat.add_eq_left, Nat.left_eq_add, Int.reduceAdd, Int.reduceSub, Int.reduceMul, Int.reduceNeg, Int.reduceToNat, h1, h2]
  refine W_call Kok (Nat.le_refl _) (lex_run h t) fun r w1 x1 hr => ?_
  rcases hr with ⟨hlex, rfl⟩ | ⟨xs, a1, c1, hlex, hA, hxl, rfl, s1⟩
  · simp (decide := true) only [go_sem, W_region, KP, Wx_some, Nat.reduceAdd, Nat.reduceMul, Nat.reduceEqDiff, Nat.add_eq_left, Nat.left_eq_add, Int.reduceAdd, Int.reduceSub, Int.reduceMul, Int.reduceNeg, Int.reduceToNat, KP]
    refine W_call Kok x1.1 (law22_awake_runs w1) fun r w x hr => ?_
    subst hr
    simp (decide := true) only [go_sem, W_region, KP, Wx_some, Nat.reduceAdd, Nat.reduceMul, Nat.reduceEqDiff, Nat.add_eq_left, Nat.left_eq_add, Int.reduceAdd, Int.reduceSub, Int.reduceMul, Int.reduceNeg, Int.reduceToNat, KP]
  have i1 := (sl.ext x1).isl
  obtain ⟨w2, e2, x2, hs2, g2⟩ := lay1 w1 (.cells [] 1)
  have i1' := ((sl.ext x1).ext x2).isl
  have hrvl : (rv l).length = l.length * 1 := by rw [rv_length]; omega
  obtain ⟨a3, c3, w3, e3, x3, h3, s3⟩ := app0 (low := h.size) (bytes := 4) (new := rv l) (k := l.length) g2 (by omega) (by omega) hrvl (by omega) (by omega)
  have x13 := x2.trans x3
  obtain ⟨w4, e4, x4, hs4, g4⟩ := lay1 w3 (.cells [.int .i32 9053] 1)
  obtain ⟨w5, a5, c5, e5, own5, x5⟩ : ∃ w5 a5 c5, iapp h.size w4 1 4 (.slice a3 l.length c3) 1 (some [.int .i32 9053]) = some (.slice a5 (l.length + 1) c5, w5) ∧ Own w1.size w5 1 (.slice a5 (l.length + 1) c5) (l.length + 1) (rv (l ++ [9053])) ∧ Ext w1 w5 := by
    rcases h3 with ⟨h0, rfl, rfl, rfl⟩ | ⟨h0, rfl, rfl, rfl⟩
    · have hl0 : l = [] := List.eq_nil_of_length_eq_zero h0
      subst hl0
      have g24 : w4.get w1.size = .cells [] 1 := (x4.2 _ (by omega)).trans g2
      obtain ⟨a6, c6, w6, e6, x6, h6, s6⟩ := app0 (low := h.size) (bytes := 4) (new := [.int .i32 9053]) (k := 1) g24 (by omega) (by omega) rfl (by omega) (by omega)
      rcases h6 with ⟨h7, _⟩ | ⟨_, rfl, rfl, rfl⟩
      · omega
      · exact ⟨_, _, _, e6, .inr ⟨w4.size, rfl, by omega, by simp, by simp [Heap.get_push, intCells], rfl⟩, x13.trans (x4.trans x6)⟩
    · have own3 : Own w1.size w4 1 (.slice (some ⟨w2.size, 0, none⟩) l.length big) l.length (rv l) := .inr ⟨w2.size, rfl, by omega, by have := x4.1; simp at this; omega, by rw [x4.2 _ (by simp), Heap.get_push, if_pos rfl], hrvl⟩
      obtain ⟨w6, e6, own6, _, x6⟩ := own_app2 (bytes := 4) (k := 1) (new := [.int .i32 9053]) x1.1 (x13.trans x4) own3 (by omega) (by omega) rfl (by omega) (by omega)
      exact ⟨w6, _, _, e6, by rw [rv_append]; exact own6, x6⟩
  have x05 := x1.trans x5
  have im := (sm.ext x05).isl
  have hrvm : (rv more).length = more.length * 1 := by rw [rv_length]; omega
  obtain ⟨a6, c6, w6, e6, own6, x6, hc6⟩ := own_any (low := h.size) (bytes := 4) (k := more.length) (new := rv more) x1.1 x5 own5 (by omega) hrvm (by omega) (by omega)
  rw [← rv_append] at own6
  have hlen6 : (l ++ [9053] ++ more).length = l.length + 1 + more.length := by simp; omega
  have t6 : Tx w6 (.slice a6 (l.length + 1 + more.length) c6) (l ++ [9053] ++ more) := Tx.all own6.sl hc6
  have hrem : l ++ [9053] ++ more = rem more l := by simp [rem]
  have hlex6 : lex (l ++ [9053] ++ more) = some (xs.map (·.1)) := by
    rw [hrem]
    exact lex_rem hlex (by rw [← hrem, hlen6]; omega)
  simp (decide := true) only [go_sem, W_region, KP, Wx_some, Nat.reduceAdd, Nat.reduceMul, Nat.reduceEqDiff, Nat.add_eq_left, Nat.left_eq_add, Int.reduceAdd, Int.reduceSub, Int.reduceMul, Int.reduceNeg, Int.reduceToNat, e2, i1', e3, e4, g4, e5, im, e6]
  refine W_call Kok (by have := x1.1; have := x6.1; omega) (lex_run w6 t6) fun r w7 x7 hr => ?_
  rcases hr with ⟨hlex', _⟩ | ⟨ys, a7, c7, hlex', hB, hyl, rfl, s7⟩
  · rw [hlex6] at hlex'
    cases hlex'
  rw [hlex6, Option.some.injEq] at hlex'
  have hxy : ys.length = xs.length := by
    have := congrArg List.length hlex'
    simpa using this.symm
  have x17 := x6.trans x7
  have s1' := s1.ext x17
  have x07 := x1.trans x17
  have hris := lex_rising hlex
  rw [hxy] at s7 ⊢
  simp (decide := true) only [go_sem, W_region, KP, Wx_some, Nat.reduceAdd, Nat.reduceMul, Nat.reduceEqDiff, Nat.add_eq_left, Nat.left_eq_add, Int.reduceAdd, Int.reduceSub, Int.reduceMul, Int.reduceNeg, Int.reduceToNat, KP]
  refine W_loop (α := Nat) (fun i e w => i ≤ xs.length ∧ e.size = 130 ∧ w = w7 ∧ e.get 0 = .slice a l.length c ∧ e.get 5 = .slice a1 xs.length c1 ∧ e.get 7 = .slice a7 xs.length c7 ∧ e.get 9 = .int .i64 (i : Int)) (fun i => xs.length - i) 0 ?_ ?_
  · exact ⟨Nat.zero_le _, by simp (decide := true) only [go_sem, W_region, KP, Wx_some, Nat.reduceAdd, Nat.reduceMul, Nat.reduceEqDiff, Nat.add_eq_left, Nat.left_eq_add, Int.reduceAdd, Int.reduceSub, Int.reduceMul, Int.reduceNeg, Int.reduceToNat, KP], rfl, by simp (decide := true) only [go_sem, W_region, KP, Wx_some, Nat.reduceAdd, Nat.reduceMul, Nat.reduceEqDiff, Nat.add_eq_left, Nat.left_eq_add, Int.reduceAdd, Int.reduceSub, Int.reduceMul, Int.reduceNeg, Int.reduceToNat, KP], by simp (decide := true) only [go_sem, W_region, KP, Wx_some, Nat.reduceAdd, Nat.reduceMul, Nat.reduceEqDiff, Nat.add_eq_left, Nat.left_eq_add, Int.reduceAdd, Int.reduceSub, Int.reduceMul, Int.reduceNeg, Int.reduceToNat, KP], by simp (decide := true) only [go_sem, W_region, KP, Wx_some, Nat.reduceAdd, Nat.reduceMul, Nat.reduceEqDiff, Nat.add_eq_left, Nat.left_eq_add, Int.reduceAdd, Int.reduceSub, Int.reduceMul, Int.reduceNeg, Int.reduceToNat, KP], by simp (decide := true) only [go_sem, W_region, KP, Wx_some, Nat.reduceAdd, Nat.reduceMul, Nat.reduceEqDiff, Nat.add_eq_left, Nat.left_eq_add, Int.reduceAdd, Int.reduceSub, Int.reduceMul, Int.reduceNeg, Int.reduceToNat, KP]; rfl⟩
  · rintro i e w ⟨hi, hsz, rfl, e0, e5, e7, e9⟩ next
    by_cases hil : (i : Int) < ((xs.length : Nat) : Int)
    case neg =>
      simp (decide := true) only [go_sem, W_region, KP, Wx_some, Nat.reduceAdd, Nat.reduceMul, Nat.reduceEqDiff, Nat.add_eq_left, Nat.left_eq_add, Int.reduceAdd, Int.reduceSub, Int.reduceMul, Int.reduceNeg, Int.reduceToNat, hsz, e0, e5, e7, e9, hil]
      refine W_call Kok x07.1 (law22_awake_runs w) fun r w x hr => ?_
      subst hr
      simp (decide := true) only [go_sem, W_region, KP, Wx_some, Nat.reduceAdd, Nat.reduceMul, Nat.reduceEqDiff, Nat.add_eq_left, Nat.left_eq_add, Int.reduceAdd, Int.reduceSub, Int.reduceMul, Int.reduceNeg, Int.reduceToNat, hsz]
    obtain ⟨X, hX⟩ : ∃ X, xs[i]? = some X := ⟨_, List.getElem?_eq_getElem (by omega)⟩
    obtain ⟨Y, hY⟩ : ∃ Y, ys[i]? = some Y := ⟨_, List.getElem?_eq_getElem (by omega)⟩
    have hXY : Y.1 = X.1 := by
      have h8 : (xs.map (·.1))[i]? = (ys.map (·.1))[i]? := by rw [hlex']
      rw [List.getElem?_map, List.getElem?_map, hX, hY] at h8
      simpa using h8.symm
    obtain ⟨b1, o1, cs1, p1, p2, p3, p4, p5, _⟩ := Sl.tok s1' hA rfl hX
    obtain ⟨b2, o2, cs2, r1, r2, r3, r4, r5, _⟩ := Sl.tok s7 hB hxy hY
    subst p1
    subst r1
    rw [hXY] at r4 r5
    obtain ⟨ha, ⟨ch, hch, hch32⟩, hprev⟩ := hris.at (i := i) (t := X.1) (by rw [List.getElem?_map, hX]; rfl)
    obtain ⟨b3, o3, cs3, q1, q2, q3, q4⟩ := (t.ext x07).one hch
    cases q1
    have hlt := (List.getElem?_eq_some_iff.1 hch).1
    have j0 : (0 : Int) ≤ (i : Int) := by omega
    have j1 : ¬ ((X.1.1 : Nat) : Int) < 0 := by omega
    have j1' : (0 : Int) ≤ ((X.1.1 : Nat) : Int) := by omega
    have j2 : ¬ ((l.length : Nat) : Int) ≤ ((X.1.1 : Nat) : Int) := by omega
    have j2' : ((X.1.1 : Nat) : Int) < ((l.length : Nat) : Int) := by omega
    have j5 : IntKind.i64.wrap ((i : Int) + 1) = ((i + 1 : Nat) : Int) := by rw [wrap_i64 (by omega) (by omega)]; omega
    by_cases hi0 : (0 : Int) < (i : Int)
    · obtain ⟨Z, hZ⟩ : ∃ Z, xs[i - 1]? = some Z := ⟨_, List.getElem?_eq_getElem (by omega)⟩
      obtain ⟨b4, o4, cs4, u1, u2, u3, u4, u5, _⟩ := Sl.tok s1' hA rfl hZ
      cases u1
      rw [p3] at u3
      cases u3
      have hpr := hprev Z.1 (by omega) (by rw [List.getElem?_map, hZ]; rfl)
      have j6 : ¬ ((X.1.1 : Nat) : Int) ≤ ((Z.1.1 : Nat) : Int) := by omega
      have j7 : IntKind.i64.wrap ((i : Int) - 1) = ((i - 1 : Nat) : Int) := by rw [wrap_i64 (by omega) (by omega)]; omega
      have j8 : (0 : Int) ≤ ((i - 1 : Nat) : Int) := by omega
      have j9 : ((i - 1 : Nat) : Int) < ((xs.length : Nat) : Int) := by omega
      simp (decide := true) only [go_sem, W_region, KP, Wx_some, Nat.reduceAdd, Nat.reduceMul, Nat.reduceEqDiff, Nat.add_eq_left, Nat.left_eq_add, Int.reduceAdd, Int.reduceSub, Int.reduceMul, Int.reduceNeg, Int.reduceToNat, List.append_eq, hsz, e0, e5, e7, e9, hil, j0, Int.toNat_natCast, p3, p4, p5, r3, r4, r5, j1, j1', j2, j2', Nat.mul_one, q3, q4, hch32, hi0, j7, j8, j9, u5, j6, j5]
      exact next (i + 1) _ _ ⟨by omega, by simp (decide := true) only [go_sem, W_region, KP, Wx_some, Nat.reduceAdd, Nat.reduceMul, Nat.reduceEqDiff, Nat.add_eq_left, Nat.left_eq_add, Int.reduceAdd, Int.reduceSub, Int.reduceMul, Int.reduceNeg, Int.reduceToNat, hsz], rfl, by simp (decide := true) only [go_sem, W_region, KP, Wx_some, Nat.reduceAdd, Nat.reduceMul, Nat.reduceEqDiff, Nat.add_eq_left, Nat.left_eq_add, Int.reduceAdd, Int.reduceSub, Int.reduceMul, Int.reduceNeg, Int.reduceToNat, hsz, e0], by simp (decide := true) only [go_sem, W_region, KP, Wx_some, Nat.reduceAdd, Nat.reduceMul, Nat.reduceEqDiff, Nat.add_eq_left, Nat.left_eq_add, Int.reduceAdd, Int.reduceSub, Int.reduceMul, Int.reduceNeg, Int.reduceToNat, hsz, e5], by simp (decide := true) only [go_sem, W_region, KP, Wx_some, Nat.reduceAdd, Nat.reduceMul, Nat.reduceEqDiff, Nat.add_eq_left, Nat.left_eq_add, Int.reduceAdd, Int.reduceSub, Int.reduceMul, Int.reduceNeg, Int.reduceToNat, hsz, e7], by simp (decide := true) only [go_sem, W_region, KP, Wx_some, Nat.reduceAdd, Nat.reduceMul, Nat.reduceEqDiff, Nat.add_eq_left, Nat.left_eq_add, Int.reduceAdd, Int.reduceSub, Int.reduceMul, Int.reduceNeg, Int.reduceToNat, hsz]⟩ (by omega)
    · simp (decide := true) only [go_sem, W_region, KP, Wx_some, Nat.reduceAdd, Nat.reduceMul, Nat.reduceEqDiff, Nat.add_eq_left, Nat.left_eq_add, Int.reduceAdd, Int.reduceSub, Int.reduceMul, Int.reduceNeg, Int.reduceToNat, List.append_eq, hsz, e0, e5, e7, e9, hil, j0, Int.toNat_natCast, p3, p4, p5, r3, r4, r5, j1, j1', j2, j2', Nat.mul_one, q3, q4, hch32, hi0, j5]
      exact next (i + 1) _ _ ⟨by omega, by simp (decide := true) only [go_sem, W_region, KP, Wx_some, Nat.reduceAdd, Nat.reduceMul, Nat.reduceEqDiff, Nat.add_eq_left, Nat.left_eq_add, Int.reduceAdd, Int.reduceSub, Int.reduceMul, Int.reduceNeg, Int.reduceToNat, hsz], rfl, by simp (decide := true) only [go_sem, W_region, KP, Wx_some, Nat.reduceAdd, Nat.reduceMul, Nat.reduceEqDiff, Nat.add_eq_left, Nat.left_eq_add, Int.reduceAdd, Int.reduceSub, Int.reduceMul, Int.reduceNeg, Int.reduceToNat, hsz, e0], by simp (decide := true) only [go_sem, W_region, KP, Wx_some, Nat.reduceAdd, Nat.reduceMul, Nat.reduceEqDiff, Nat.add_eq_left, Nat.left_eq_add, Int.reduceAdd, Int.reduceSub, Int.reduceMul, Int.reduceNeg, Int.reduceToNat, hsz, e5], by simp (decide := true) only [go_sem, W_region, KP, Wx_some, Nat.reduceAdd, Nat.reduceMul, Nat.reduceEqDiff, Nat.add_eq_left, Nat.left_eq_add, Int.reduceAdd, Int.reduceSub, Int.reduceMul, Int.reduceNeg, Int.reduceToNat, hsz, e7], by simp (decide := true) only [go_sem, W_region, KP, Wx_some, Nat.reduceAdd, Nat.reduceMul, Nat.reduceEqDiff, Nat.add_eq_left, Nat.left_eq_add, Int.reduceAdd, Int.reduceSub, Int.reduceMul, Int.reduceNeg, Int.reduceToNat, hsz]⟩ (by omega)
end Go.Proofs.Ytjlaenglmdpboaa.N26
