/- Proved here: the document's token at a place of a line, and all tokens of a line: the same as the ones that are cut by the plain law; of every line. -/
import Derived.Test.YtjlaenglmdpboaaGreatQR8
import Derived.Test.YtjlaenglmdpboaaGreatQN25
import Derived.Test.YtjlaenglmdpboaaGreatQN26
set_option linter.unusedSimpArgs false
set_option linter.unusedVariables false
namespace Go.Im
theorem Tx.isl {h : Heap} {a : Option Addr} {n c : Nat} {l : List Int} (t : Tx h (.slice a n c) l) (hne : l ≠ []) : islice h 1 (.slice a n c) = some (rv l) := by
  rcases t with ⟨h0, _⟩ | ⟨b, o, cs, e1, e2, e3, e4, e5⟩
  · exact absurd h0 hne
  · cases e1
    simp only [islice, Heap.look, e3]
    rw [if_pos ⟨trivial, by omega⟩, e5, Nat.mul_one]
end Go.Im
namespace Go.Proofs.YtjlaenglmdpboaaGreat.R9
open Go Go.Im Go.Im.Limbs Go.Im.Lexing Go.Im.Dec Go.Proofs Go.RowKit Go.Proofs.YtjlaenglmdpboaaGreat.Hd Go.Proofs.YtjlaenglmdpboaaGreat.N16 Go.Proofs.YtjlaenglmdpboaaGreat.N18 Go.Proofs.YtjlaenglmdpboaaGreat.N19 Go.Proofs.YtjlaenglmdpboaaGreat.N20 Go.Proofs.YtjlaenglmdpboaaGreat.N22 Go.Proofs.YtjlaenglmdpboaaGreat.N23 Go.Proofs.YtjlaenglmdpboaaGreat.R5 Go.Proofs.YtjlaenglmdpboaaGreat.R6 Go.Proofs.YtjlaenglmdpboaaGreat.R7 Go.Proofs.YtjlaenglmdpboaaGreat.R8
set_option maxRecDepth 100000

/-- What the document's token comes to. -/
def ROne (l : List Int) (at' : Nat) (r : Value) : Prop := (tokS (l.drop at') = none ∧ ∃ (k q z : Int) (s : ByteArray) (p : List Value), r = .tuple #[.agg (([.int .i64 k, .int .i64 q, .string s, .int .i32 z] : List Value) ++ p).toArray, .int .i64 0] ∧ Arr4 p) ∨
  ∃ tk k p, tokS (l.drop at') = some (some tk, k) ∧ at' < at' + k ∧ at' + k ≤ l.length ∧ r = .tuple #[.agg (tc4 (at', tk) ++ p).toArray, .int .i64 ((at' + k : Nat) : Int)] ∧ Arr4 p
theorem word_len (l : List Int) {i : Nat} (h : i ≤ l.length) : i + ((l.drop i).takeWhile isW).length ≤ l.length := by
  have := tw_le (p := isW) (l.drop i)
  rw [List.length_drop] at this
  omega

set_option maxHeartbeats 4000000 in
theorem rone_run (l : List Int) (at' : Nat) {v : Value} (h : Heap) (t : Tx h v l) (hm : l.length ≤ 512) (hat : at' < l.length) (h32 : l[at']? ≠ some 32) :
    Runs K f_ref22_One #[v, .int .i64 (at' : Int)] h fun r w => ROne l at' r := by
  obtain ⟨a, c0, rfl⟩ := t.open
  have hne : l ≠ [] := by rintro rfl; simp at hat
  refine Runs.of Kok (Does.intro rfl (by decide +kernel) F_ref22_One rfl ?_)
  obtain ⟨w0, e0', x0, hs0, z0, z1⟩ := lay2 h (.cells [.int .i64 0, .int .i64 0, .string ByteArray.empty, .int .i32 0, .slice none 0 0, .bool false, .slice none 0 0, .slice none 0 0] 8) (.cells [.int .i64 0, .int .i64 0, .string ByteArray.empty, .int .i32 0, .slice none 0 0, .bool false, .slice none 0 0, .slice none 0 0] 8)
  have j1 : h.size ≤ h.size + 1 := by omega
  have j0 : h.size ≤ h.size := Nat.le_refl _
  obtain ⟨w1, e1', x1, hs1, g1, k1⟩ := put1 x0 j1 (.cells [.int .i64 0, .int .i64 (at' : Int), .string ByteArray.empty, .int .i32 0, .slice none 0 0, .bool false, .slice none 0 0, .slice none 0 0] 8)
  have gh1 : w1.get h.size = _ := (k1 _ (by omega)).trans z0
  have hws1 : h.size + 1 < w1.size := by omega
  obtain ⟨c, hc⟩ : ∃ c, l[at']? = some c := ⟨_, List.getElem?_eq_getElem hat⟩
  have hc32 : ¬ c = 32 := fun hh => h32 (by rw [hc, hh])
  have hk1 : ¬ kindOf c = 1 := by
    intro hh
    apply hc32
    unfold kindOf at hh
    split at hh
    · assumption
    · repeat' split at hh
      all_goals first | omega | cases hh
  have htok := tokS_at hc
  rw [if_neg hk1] at htok
  have i0 : (0 : Int) ≤ (at' : Int) := by omega
  have i1 : IntKind.i64.wrap ((at' : Int) + 1) = ((at' + 1 : Nat) : Int) := by rw [wrap_i64 (by omega) (by omega)]; omega
  have il : (at' : Int) < ((l.length : Nat) : Int) := by omega
  obtain ⟨b, o, cs, q1, q2, q3, q4⟩ := (t.ext x1).one hc
  cases q1
  simp +decide only [go_sem, W_region, Wx_some, Nat.reduceAdd, Nat.reduceMul, Nat.reduceEqDiff, Int.reduceAdd, Int.reduceSub, Int.reduceMul, Int.reduceNeg, Int.reduceToNat, e0', z1, j1, e1', il, i0, Int.toNat_natCast, Nat.mul_one, q3, q4]
  refine W_call Kok x1.1 (rkind_run c w1) fun r w2 x2 hr => ?_
  subst hr
  have x02 := x1.trans x2
  simp +decide only [go_sem, W_region, Wx_some, Nat.reduceAdd, Nat.reduceMul, Nat.reduceEqDiff, Int.reduceAdd, Int.reduceSub, Int.reduceMul, Int.reduceNeg, Int.reduceToNat, i1]
  refine W_call Kok x02.1 (rbegins_run l at' w2 (t.ext x02) (by omega) (by omega)) fun r w3 x3 hr => ?_
  subst hr
  have x03 := x02.trans x3
  have x13 := x2.trans x3
  have g3 : w3.get (h.size + 1) = _ := (x13.2 _ hws1).trans g1
  have gh3 : w3.get h.size = _ := (x13.2 _ (by omega)).trans gh1
  have hws3 : h.size + 1 < w3.size := by have := x13.1; omega
  obtain ⟨b3, o3, cs3, q1, q2, q3, q4⟩ := (t.ext x03).one hc
  cases q1
  -- the token's cells, written to the result
  have fin : ∀ (w : Heap) (C : List Value), Ext h w → h.size + 1 < w.size → ∃ w8, w.set h.size (.cells C 8) = w8 ∧ w8.get h.size = .cells C 8 := fun w C xw hw => by
    obtain ⟨w8, e8, x8, hs8, g8, k8⟩ := put1 xw j0 (.cells C 8)
    exact ⟨w8, e8, g8⟩
  cases hbg : begins (l.drop at') with
  | true =>
    rw [hbg, if_pos rfl] at htok
    obtain ⟨w5, e5, x5, hs5, g5, k5⟩ := put1 x03 j1 (.cells [.int .i64 1, .int .i64 (at' : Int), .string ByteArray.empty, .int .i32 0, .slice none 0 0, .bool false, .slice none 0 0, .slice none 0 0] 8)
    have gh5 : w5.get h.size = _ := (k5 _ (by omega)).trans gh3
    simp +decide only [go_sem, W_region, Wx_some, Nat.reduceAdd, Nat.reduceMul, Nat.reduceEqDiff, Int.reduceAdd, Int.reduceSub, Int.reduceMul, Int.reduceNeg, Int.reduceToNat, g3, j1, e5]
    refine W_call Kok x5.1 (rnumbers_run l at' w5 (t.ext x5) hm hat hbg) fun r w6 x6 hr => ?_
    have g6 : w6.get (h.size + 1) = _ := (x6.2 _ (by omega)).trans g5
    have gh6 : w6.get h.size = _ := (x6.2 _ (by omega)).trans gh5
    have x06 := x5.trans x6
    rcases hr with ⟨hn, p, rfl, pa, pn, pc, pb, pa2, pn2, pc2, pa3, pn3, pc3, rfl⟩ | ⟨n, m, p, hn, hm1, hm2, rfl, pa, pn, pc, pb, pa2, pn2, pc2, pa3, pn3, pc3, rfl⟩
    · obtain ⟨w7, e7, x7, hs7, g7, k7⟩ := put1 x06 j1 (.cells [.int .i64 1, .int .i64 (at' : Int), .string ByteArray.empty, .int .i32 0, .slice pa pn pc, .bool pb, .slice pa2 pn2 pc2, .slice pa3 pn3 pc3] 8)
      have gh7 : w7.get h.size = _ := (k7 _ (by omega)).trans gh6
      obtain ⟨w8, e8, g8⟩ := fin w7 [.int .i64 1, .int .i64 (at' : Int), .string ByteArray.empty, .int .i32 0, .slice pa pn pc, .bool pb, .slice pa2 pn2 pc2, .slice pa3 pn3 pc3] x7 (by have := x6.1; omega)
      rw [hn] at htok
      simp +decide only [go_sem, W_region, Wx_some, Nat.reduceAdd, Nat.reduceMul, Nat.reduceEqDiff, Int.reduceAdd, Int.reduceSub, Int.reduceMul, Int.reduceNeg, Int.reduceToNat, g6, j1, e7, g7, gh7, j0, e8, g8]
      exact .inl ⟨htok, _, _, _, _, _, rfl, ⟨_, _, _, _, _, _, _, _, _, _, rfl⟩⟩
    · obtain ⟨w7, e7, x7, hs7, g7, k7⟩ := put1 x06 j1 (.cells [.int .i64 1, .int .i64 (at' : Int), .string ByteArray.empty, .int .i32 0, .slice pa pn pc, .bool pb, .slice pa2 pn2 pc2, .slice pa3 pn3 pc3] 8)
      have gh7 : w7.get h.size = _ := (k7 _ (by omega)).trans gh6
      obtain ⟨w8, e8, g8⟩ := fin w7 [.int .i64 1, .int .i64 (at' : Int), .string ByteArray.empty, .int .i32 0, .slice pa pn pc, .bool pb, .slice pa2 pn2 pc2, .slice pa3 pn3 pc3] x7 (by have := x6.1; omega)
      rw [hn] at htok
      simp +decide only [go_sem, W_region, Wx_some, Nat.reduceAdd, Nat.reduceMul, Nat.reduceEqDiff, Int.reduceAdd, Int.reduceSub, Int.reduceMul, Int.reduceNeg, Int.reduceToNat, g6, j1, e7, g7, gh7, j0, e8, g8]
      exact .inr ⟨_, _, _, htok, hm1, hm2, rfl, ⟨_, _, _, _, _, _, _, _, _, _, rfl⟩⟩
  | false =>
  rw [hbg, if_neg (by simp)] at htok
  by_cases h39 : c = 39
  · subst h39
    have hk39 : ¬ kindOf 39 = 2 := by decide
    rw [if_neg hk39, if_pos rfl] at htok
    obtain ⟨w5, e5, x5, hs5, g5, k5⟩ := put1 x03 j1 (.cells [.int .i64 1, .int .i64 (at' : Int), .string ByteArray.empty, .int .i32 0, .slice none 0 0, .bool false, .slice none 0 0, .slice none 0 0] 8)
    have gh5 : w5.get h.size = _ := (k5 _ (by omega)).trans gh3
    simp +decide only [go_sem, W_region, Wx_some, Nat.reduceAdd, Nat.reduceMul, Nat.reduceEqDiff, Int.reduceAdd, Int.reduceSub, Int.reduceMul, Int.reduceNeg, Int.reduceToNat, il, i0, Int.toNat_natCast, Nat.mul_one, q3, q4, g3, j1, e5]
    refine W_call Kok x5.1 (rtext_run l at' w5 (t.ext x5) hm hat) fun r w6 x6 hr => ?_
    have g6 : w6.get (h.size + 1) = _ := (x6.2 _ (by omega)).trans g5
    have gh6 : w6.get h.size = _ := (x6.2 _ (by omega)).trans gh5
    have x06 := x5.trans x6
    rcases hr with ⟨hn, p, rfl, pa, pn, pc, pb, pa2, pn2, pc2, pa3, pn3, pc3, rfl⟩ | ⟨k, p, hn, rfl, pa, pn, pc, pb, pa2, pn2, pc2, pa3, pn3, pc3, rfl⟩
    · obtain ⟨w7, e7, x7, hs7, g7, k7⟩ := put1 x06 j1 (.cells [.int .i64 1, .int .i64 (at' : Int), .string ByteArray.empty, .int .i32 0, .slice pa pn pc, .bool pb, .slice pa2 pn2 pc2, .slice pa3 pn3 pc3] 8)
      have gh7 : w7.get h.size = _ := (k7 _ (by omega)).trans gh6
      obtain ⟨w8, e8, g8⟩ := fin w7 [.int .i64 1, .int .i64 (at' : Int), .string ByteArray.empty, .int .i32 0, .slice pa pn pc, .bool pb, .slice pa2 pn2 pc2, .slice pa3 pn3 pc3] x7 (by have := x6.1; omega)
      rw [hn] at htok
      simp +decide only [go_sem, W_region, Wx_some, Nat.reduceAdd, Nat.reduceMul, Nat.reduceEqDiff, Int.reduceAdd, Int.reduceSub, Int.reduceMul, Int.reduceNeg, Int.reduceToNat, g6, j1, e7, g7, gh7, j0, e8, g8]
      exact .inl ⟨htok, _, _, _, _, _, rfl, ⟨_, _, _, _, _, _, _, _, _, _, rfl⟩⟩
    · obtain ⟨w7, e7, x7, hs7, g7, k7⟩ := put1 x06 j1 (.cells [.int .i64 1, .int .i64 (at' : Int), .string ByteArray.empty, .int .i32 0, .slice pa pn pc, .bool pb, .slice pa2 pn2 pc2, .slice pa3 pn3 pc3] 8)
      have gh7 : w7.get h.size = _ := (k7 _ (by omega)).trans gh6
      obtain ⟨w8, e8, g8⟩ := fin w7 [.int .i64 1, .int .i64 (at' : Int), .string ByteArray.empty, .int .i32 0, .slice pa pn pc, .bool pb, .slice pa2 pn2 pc2, .slice pa3 pn3 pc3] x7 (by have := x6.1; omega)
      rw [hn] at htok
      have hkl := textF_len hn
      rw [List.length_drop] at hkl
      simp +decide only [go_sem, W_region, Wx_some, Nat.reduceAdd, Nat.reduceMul, Nat.reduceEqDiff, Int.reduceAdd, Int.reduceSub, Int.reduceMul, Int.reduceNeg, Int.reduceToNat, g6, j1, e7, g7, gh7, j0, e8, g8]
      exact .inr ⟨_, _, _, htok, by omega, by omega, by rw [Nat.add_assoc]; rfl, ⟨_, _, _, _, _, _, _, _, _, _, rfl⟩⟩
  apply W_join (α := Unit) (fun _ e w => e.size = 117 ∧ Ext h w ∧ h.size + 1 < w.size ∧ e.get 0 = .slice (some ⟨b, o, none⟩) l.length big ∧ e.get 1 = .int .i64 (at' : Int) ∧ e.get 4 = .pointer (some ⟨h.size, 0, none⟩) ∧ e.get 6 = .pointer (some ⟨h.size + 1, 0, none⟩) ∧ e.get 7 = .int .i64 ((kindOf c : Nat) : Int) ∧
    e.get 8 = .int .i64 ((at' + 1 : Nat) : Int) ∧ e.get 9 = .bool (quadS l at' c) ∧ w.get h.size = .cells [.int .i64 0, .int .i64 0, .string ByteArray.empty, .int .i32 0, .slice none 0 0, .bool false, .slice none 0 0, .slice none 0 0] 8 ∧
    w.get (h.size + 1) = .cells [.int .i64 0, .int .i64 (at' : Int), .string ByteArray.empty, .int .i32 0, .slice none 0 0, .bool false, .slice none 0 0, .slice none 0 0] 8)
  · intro cont
    simp +decide only [go_sem, Wx_some, Nat.reduceAdd, Nat.reduceMul, Nat.reduceEqDiff, Int.reduceAdd, Int.reduceSub, Int.reduceMul, Int.reduceNeg, Int.reduceToNat, il, i0, Int.toNat_natCast, Nat.mul_one, q3, q4, h39]
    (rw [W_region]; simp +decide only [go_sem, Wx_some, Nat.reduceAdd, Nat.reduceMul, Nat.reduceEqDiff, Int.reduceAdd, Int.reduceSub, Int.reduceMul, Int.reduceNeg, Int.reduceToNat, il, i0, Int.toNat_natCast, Nat.mul_one, q3, q4, h39])
    by_cases hq : c = 9109
    case neg =>
      have hqq : quadS l at' c = false := by simp [quadS, hq]
      (rw [W_region]; simp +decide only [go_sem, Wx_some, Nat.reduceAdd, Nat.reduceMul, Nat.reduceEqDiff, Int.reduceAdd, Int.reduceSub, Int.reduceMul, Int.reduceNeg, Int.reduceToNat, il, i0, Int.toNat_natCast, Nat.mul_one, q3, q4, hq])
      exact cont () _ _ ⟨by simp +decide only [go_sem], x03, hws3, by simp +decide only [go_sem], by simp +decide only [go_sem], by simp +decide only [go_sem], by simp +decide only [go_sem, hs0], by simp +decide only [go_sem], by simp +decide only [go_sem], by simp +decide only [go_sem, hqq], gh3, g3⟩
    by_cases hl2 : ((at' + 1 : Nat) : Int) < ((l.length : Nat) : Int)
    case neg =>
      have hqq : quadS l at' c = false := by simp [quadS, List.getElem?_eq_none (show l.length ≤ at' + 1 by omega)]
      (rw [W_region]; simp +decide only [go_sem, Wx_some, Nat.reduceAdd, Nat.reduceMul, Nat.reduceEqDiff, Int.reduceAdd, Int.reduceSub, Int.reduceMul, Int.reduceNeg, Int.reduceToNat, il, i0, Int.toNat_natCast, Nat.mul_one, q3, q4, hq, hl2])
      rw [hq] at hqq
      exact cont () _ _ ⟨by simp +decide only [go_sem], x03, hws3, by simp +decide only [go_sem], by simp +decide only [go_sem], by simp +decide only [go_sem], by simp +decide only [go_sem, hs0], by simp +decide only [go_sem, hq], by simp +decide only [go_sem], by simp +decide only [go_sem, hq, hqq], gh3, g3⟩
    obtain ⟨d, hd⟩ : ∃ d, l[at' + 1]? = some d := ⟨_, List.getElem?_eq_getElem (by omega)⟩
    obtain ⟨b4, o4, cs4, p1, p2, p3, p4⟩ := (t.ext x03).one hd
    cases p1
    rw [q3] at p3
    cases p3
    have i2 : (0 : Int) ≤ ((at' + 1 : Nat) : Int) := by omega
    (rw [W_region]; simp +decide only [go_sem, Wx_some, Nat.reduceAdd, Nat.reduceMul, Nat.reduceEqDiff, Int.reduceAdd, Int.reduceSub, Int.reduceMul, Int.reduceNeg, Int.reduceToNat, il, i0, Int.toNat_natCast, Nat.mul_one, q3, q4, hq, hl2, i2, p4])
    refine W_call Kok x03.1 (rkind_run d w3) fun r w4 x4 hr => ?_
    subst hr
    have hqq : quadS l at' c = decide (((kindOf d : Nat) : Int) = 2) := by
      simp only [quadS, hq, hd, decide_true, Bool.true_and]
      exact decide_eq_decide.2 (by omega)
    simp +decide only [go_sem, Wx_some, Nat.reduceAdd, Nat.reduceMul, Nat.reduceEqDiff, Int.reduceAdd, Int.reduceSub, Int.reduceMul, Int.reduceNeg, Int.reduceToNat]
    rw [hq] at hqq
    exact cont () _ _ ⟨by simp +decide only [go_sem], x03.trans x4, by have := x4.1; omega, by simp +decide only [go_sem], by simp +decide only [go_sem], by simp +decide only [go_sem], by simp +decide only [go_sem, hs0], by simp +decide only [go_sem, hq], by simp +decide only [go_sem], by simp +decide only [go_sem, hq, hqq], (x4.2 _ (by omega)).trans gh3, (x4.2 _ hws3).trans g3⟩
  rintro _ e w ⟨hsz, hxw, hws, e0, e1, e4, e6, e7, e8, e9, gh, gq⟩
  have tw := t.ext hxw
  obtain ⟨b5, o5, cs5, q1, q2, q3, q4⟩ := tw.one hc
  cases q1
  have put : ∀ {w : Heap} (C : List Value), Ext h w → h.size + 1 < w.size → w.get h.size = .cells [.int .i64 0, .int .i64 0, .string ByteArray.empty, .int .i32 0, .slice none 0 0, .bool false, .slice none 0 0, .slice none 0 0] 8 → ∃ w7, w.set (h.size + 1) (.cells C 8) = w7 ∧ Ext h w7 ∧ h.size + 1 < w7.size ∧ w7.get (h.size + 1) = .cells C 8 ∧
      w7.get h.size = .cells [.int .i64 0, .int .i64 0, .string ByteArray.empty, .int .i32 0, .slice none 0 0, .bool false, .slice none 0 0, .slice none 0 0] 8 := fun {w} C xw hw gw => by
    obtain ⟨w7, e7, x7, hs7, g7, k7⟩ := put1 xw j1 (.cells C 8)
    exact ⟨w7, e7, x7, by omega, g7, (k7 _ (by omega)).trans gw⟩
  apply W_join (α := Nat × Nat) (fun k e w => e.size = 117 ∧ Ext h w ∧ h.size + 1 < w.size ∧ e.get 0 = .slice (some ⟨b, o, none⟩) l.length big ∧ e.get 1 = .int .i64 (k.1 : Int) ∧ e.get 4 = .pointer (some ⟨h.size, 0, none⟩) ∧ e.get 6 = .pointer (some ⟨h.size + 1, 0, none⟩) ∧
    w.get h.size = .cells [.int .i64 0, .int .i64 0, .string ByteArray.empty, .int .i32 0, .slice none 0 0, .bool false, .slice none 0 0, .slice none 0 0] 8 ∧
    w.get (h.size + 1) = .cells [.int .i64 (k.2 : Int), .int .i64 (at' : Int), .string ByteArray.empty, .int .i32 0, .slice none 0 0, .bool false, .slice none 0 0, .slice none 0 0] 8 ∧ k.1 ≤ l.length ∧ at' ≤ k.1 ∧
    tokS (l.drop at') = (wordS k.2 (l.drop k.1)).map fun x => (some x.1, k.1 - at' + x.2))
  · intro cont
    by_cases hk2 : kindOf c = 2
    · have hk2' : ((kindOf c : Nat) : Int) = 2 := by omega
      have hqq : quadS l at' c = false := by
        have : ¬ c = 9109 := by
          rintro rfl
          revert hk2
          decide
        simp [quadS, this]
      rw [if_pos hk2] at htok
      rw [hqq] at e9
      obtain ⟨w7, f1, f2, f3, f4, f5⟩ := put [.int .i64 2, .int .i64 (at' : Int), .string ByteArray.empty, .int .i32 0, .slice none 0 0, .bool false, .slice none 0 0, .slice none 0 0] hxw hws gh
      (rw [W_region]; simp +decide only [go_sem, Wx_some, Nat.reduceAdd, Nat.reduceMul, Nat.reduceEqDiff, Int.reduceAdd, Int.reduceSub, Int.reduceMul, Int.reduceNeg, Int.reduceToNat, hsz, e0, e1, e4, e6, e7, e8, e9, hk2'])
      (rw [W_region]; simp +decide only [go_sem, Wx_some, Nat.reduceAdd, Nat.reduceMul, Nat.reduceEqDiff, Int.reduceAdd, Int.reduceSub, Int.reduceMul, Int.reduceNeg, Int.reduceToNat, hsz, e0, e1, e4, e6, e7, e8, e9, gq, j1, f1])
      (rw [W_region]; simp +decide only [go_sem, Wx_some, Nat.reduceAdd, Nat.reduceMul, Nat.reduceEqDiff, Int.reduceAdd, Int.reduceSub, Int.reduceMul, Int.reduceNeg, Int.reduceToNat, hsz, e9])
      refine cont (at', 2) _ _ ⟨by simp +decide only [go_sem, hsz], f2, f3, by simp +decide only [go_sem, hsz, e0], by simp +decide only [go_sem, hsz, e1], by simp +decide only [go_sem, hsz, e4], by simp +decide only [go_sem, hsz, e6], f5, f4, by simp only; omega, Nat.le_refl _, ?_⟩
      rw [htok]
      simp
    rw [if_neg hk2, if_neg h39] at htok
    have hk2' : ¬ ((kindOf c : Nat) : Int) = 2 := by omega
    cases hqq : quadS l at' c with
    | true =>
      rw [hqq, if_pos rfl] at htok
      rw [hqq] at e9
      have hlt : at' + 1 ≤ l.length := by omega
      obtain ⟨w7, f1, f2, f3, f4, f5⟩ := put [.int .i64 2, .int .i64 (at' : Int), .string ByteArray.empty, .int .i32 0, .slice none 0 0, .bool false, .slice none 0 0, .slice none 0 0] hxw hws gh
      obtain ⟨w8, d1, d2, d3, d4, d5⟩ := put [.int .i64 3, .int .i64 (at' : Int), .string ByteArray.empty, .int .i32 0, .slice none 0 0, .bool false, .slice none 0 0, .slice none 0 0] f2 f3 f5
      (rw [W_region]; simp +decide only [go_sem, Wx_some, Nat.reduceAdd, Nat.reduceMul, Nat.reduceEqDiff, Int.reduceAdd, Int.reduceSub, Int.reduceMul, Int.reduceNeg, Int.reduceToNat, hsz, e0, e1, e4, e6, e7, e8, e9, hk2'])
      (rw [W_region]; simp +decide only [go_sem, Wx_some, Nat.reduceAdd, Nat.reduceMul, Nat.reduceEqDiff, Int.reduceAdd, Int.reduceSub, Int.reduceMul, Int.reduceNeg, Int.reduceToNat, hsz, e0, e1, e4, e6, e7, e8, e9, gq, j1, f1])
      (rw [W_region]; simp +decide only [go_sem, Wx_some, Nat.reduceAdd, Nat.reduceMul, Nat.reduceEqDiff, Int.reduceAdd, Int.reduceSub, Int.reduceMul, Int.reduceNeg, Int.reduceToNat, hsz, e9])
      (rw [W_region]; simp +decide only [go_sem, Wx_some, Nat.reduceAdd, Nat.reduceMul, Nat.reduceEqDiff, Int.reduceAdd, Int.reduceSub, Int.reduceMul, Int.reduceNeg, Int.reduceToNat, hsz, e0, e1, e4, e6, e7, e8, e9, f4, j1, d1])
      (rw [W_region]; simp +decide only [go_sem, Wx_some, Nat.reduceAdd, Nat.reduceMul, Nat.reduceEqDiff, Int.reduceAdd, Int.reduceSub, Int.reduceMul, Int.reduceNeg, Int.reduceToNat, hsz, e8])
      refine cont (at' + 1, 3) _ _ ⟨by simp +decide only [go_sem, hsz], d2, d3, by simp +decide only [go_sem, hsz, e0], by simp +decide only [go_sem, hsz], by simp +decide only [go_sem, hsz, e4], by simp +decide only [go_sem, hsz, e6], d5, d4, hlt, by simp, ?_⟩
      rw [htok]
      simp
    | false =>
      rw [hqq, if_neg (by simp)] at htok
      rw [hqq] at e9
      obtain ⟨w7, f1, f2, f3, f4, f5⟩ := put [.int .i64 0, .int .i64 (at' : Int), .string ByteArray.empty, .int .i32 c, .slice none 0 0, .bool false, .slice none 0 0, .slice none 0 0] hxw hws gh
      have done : ∀ kd : Nat, ∃ w8 w9, w7.set (h.size + 1) (.cells [.int .i64 (kd : Int), .int .i64 (at' : Int), .string ByteArray.empty, .int .i32 c, .slice none 0 0, .bool false, .slice none 0 0, .slice none 0 0] 8) = w8 ∧
          w8.get (h.size + 1) = .cells [.int .i64 (kd : Int), .int .i64 (at' : Int), .string ByteArray.empty, .int .i32 c, .slice none 0 0, .bool false, .slice none 0 0, .slice none 0 0] 8 ∧
          w8.get h.size = .cells [.int .i64 0, .int .i64 0, .string ByteArray.empty, .int .i32 0, .slice none 0 0, .bool false, .slice none 0 0, .slice none 0 0] 8 ∧
          w8.set h.size (.cells [.int .i64 (kd : Int), .int .i64 (at' : Int), .string ByteArray.empty, .int .i32 c, .slice none 0 0, .bool false, .slice none 0 0, .slice none 0 0] 8) = w9 ∧ w9.get h.size = .cells [.int .i64 (kd : Int), .int .i64 (at' : Int), .string ByteArray.empty, .int .i32 c, .slice none 0 0, .bool false, .slice none 0 0, .slice none 0 0] 8 := fun kd => by
        obtain ⟨w8, d1, d2, d3, d4, d5⟩ := put [.int .i64 (kd : Int), .int .i64 (at' : Int), .string ByteArray.empty, .int .i32 c, .slice none 0 0, .bool false, .slice none 0 0, .slice none 0 0] f2 f3 f5
        obtain ⟨w9, b1, b2⟩ := fin w8 [.int .i64 (kd : Int), .int .i64 (at' : Int), .string ByteArray.empty, .int .i32 c, .slice none 0 0, .bool false, .slice none 0 0, .slice none 0 0] d2 d3
        exact ⟨w8, w9, d1, d4, d5, b1, b2⟩
      by_cases h45 : kindOf c = 4 ∨ kindOf c = 5
      · rw [if_pos h45] at htok
        obtain ⟨w8, w9, d1, d2, d3, d4, d5⟩ := done 4
        rcases h45 with h4 | h5
        · have h4' : ((kindOf c : Nat) : Int) = 4 := by omega
          simp only [Int.cast_ofNat_Int] at d1 d2 d3 d4 d5
          simp +decide only [go_sem, W_region, Wx_some, Nat.reduceAdd, Nat.reduceMul, Nat.reduceEqDiff, Int.reduceAdd, Int.reduceSub, Int.reduceMul, Int.reduceNeg, Int.reduceToNat, hsz, e0, e1, e4, e6, e7, e8, e9, il, i0, Int.toNat_natCast, Nat.mul_one, q3, q4, hk2', gq, j1, f1, f4, h4', d1, d2, d3, j0, d4, d5]
          exact .inr ⟨_, _, _, htok, by omega, by omega, rfl, ⟨_, _, _, _, _, _, _, _, _, _, rfl⟩⟩
        · have h4' : ¬ ((kindOf c : Nat) : Int) = 4 := by omega
          have h5' : ((kindOf c : Nat) : Int) = 5 := by omega
          simp only [Int.cast_ofNat_Int] at d1 d2 d3 d4 d5
          simp +decide only [go_sem, W_region, Wx_some, Nat.reduceAdd, Nat.reduceMul, Nat.reduceEqDiff, Int.reduceAdd, Int.reduceSub, Int.reduceMul, Int.reduceNeg, Int.reduceToNat, hsz, e0, e1, e4, e6, e7, e8, e9, il, i0, Int.toNat_natCast, Nat.mul_one, q3, q4, hk2', gq, j1, f1, f4, h4', h5', d1, d2, d3, j0, d4, d5]
          exact .inr ⟨_, _, _, htok, by omega, by omega, rfl, ⟨_, _, _, _, _, _, _, _, _, _, rfl⟩⟩
      rw [if_neg h45] at htok
      have h4' : ¬ ((kindOf c : Nat) : Int) = 4 := by omega
      have h5' : ¬ ((kindOf c : Nat) : Int) = 5 := by omega
      by_cases h6 : kindOf c = 6
      · rw [if_pos h6] at htok
        obtain ⟨w8, w9, d1, d2, d3, d4, d5⟩ := done 5
        have h6' : ((kindOf c : Nat) : Int) = 6 := by omega
        simp only [Int.cast_ofNat_Int] at d1 d2 d3 d4 d5
        have i6 : IntKind.i64.wrap 5 = 5 := rfl
        simp +decide only [go_sem, W_region, Wx_some, Nat.reduceAdd, Nat.reduceMul, Nat.reduceEqDiff, Int.reduceAdd, Int.reduceSub, Int.reduceMul, Int.reduceNeg, Int.reduceToNat, hsz, e0, e1, e4, e6, e7, e8, e9, il, i0, Int.toNat_natCast, Nat.mul_one, q3, q4, hk2', gq, j1, f1, f4, h4', h5', h6', i6, d1, d2, d3, j0, d4, d5]
        exact .inr ⟨_, _, _, htok, by omega, by omega, rfl, ⟨_, _, _, _, _, _, _, _, _, _, rfl⟩⟩
      rw [if_neg h6] at htok
      have h6' : ¬ ((kindOf c : Nat) : Int) = 6 := by omega
      by_cases h7 : kindOf c = 7
      · rw [if_pos h7] at htok
        obtain ⟨w8, w9, d1, d2, d3, d4, d5⟩ := done 6
        have h7' : ((kindOf c : Nat) : Int) = 7 := by omega
        simp only [Int.cast_ofNat_Int] at d1 d2 d3 d4 d5
        have i6 : IntKind.i64.wrap 6 = 6 := rfl
        simp +decide only [go_sem, W_region, Wx_some, Nat.reduceAdd, Nat.reduceMul, Nat.reduceEqDiff, Int.reduceAdd, Int.reduceSub, Int.reduceMul, Int.reduceNeg, Int.reduceToNat, hsz, e0, e1, e4, e6, e7, e8, e9, il, i0, Int.toNat_natCast, Nat.mul_one, q3, q4, hk2', gq, j1, f1, f4, h4', h5', h6', h7', i6, d1, d2, d3, j0, d4, d5]
        exact .inr ⟨_, _, _, htok, by omega, by omega, rfl, ⟨_, _, _, _, _, _, _, _, _, _, rfl⟩⟩
      rw [if_neg h7] at htok
      have h7' : ¬ ((kindOf c : Nat) : Int) = 7 := by omega
      obtain ⟨w9, b1, b2⟩ := fin w7 [.int .i64 0, .int .i64 (at' : Int), .string ByteArray.empty, .int .i32 c, .slice none 0 0, .bool false, .slice none 0 0, .slice none 0 0] f2 f3
      simp +decide only [go_sem, W_region, Wx_some, Nat.reduceAdd, Nat.reduceMul, Nat.reduceEqDiff, Int.reduceAdd, Int.reduceSub, Int.reduceMul, Int.reduceNeg, Int.reduceToNat, hsz, e0, e1, e4, e6, e7, e8, e9, il, i0, Int.toNat_natCast, Nat.mul_one, q3, q4, hk2', gq, j1, f1, f4, h4', h5', h6', h7', f5, j0, b1, b2]
      exact .inl ⟨htok, _, _, _, _, _, rfl, ⟨_, _, _, _, _, _, _, _, _, _, rfl⟩⟩
  rintro ⟨i, kd⟩ e w ⟨hsz, hxw, hws, e0, e1, e4, e6, gh, gq, hil, hati, htok⟩
  simp only at e1 gq hil hati htok
  obtain ⟨D, hD⟩ : ∃ D, D = (l.drop i).takeWhile isW := ⟨_, rfl⟩
  have hDl := word_len l hil
  unfold wordS at htok
  rw [← hD] at htok hDl
  simp +decide only [go_sem, W_region, Wx_some, Nat.reduceAdd, Nat.reduceMul, Nat.reduceEqDiff, Int.reduceAdd, Int.reduceSub, Int.reduceMul, Int.reduceNeg, Int.reduceToNat, hsz, e0, e1]
  refine W_call Kok hxw.1 (rword22_run l i w (t.ext hxw) hne (by omega) hil) fun r w4 x4 hr => ?_
  obtain ⟨tD, aD, rfl⟩ := hr
  rw [← hD] at tD ⊢
  have x04 := hxw.trans x4
  simp +decide only [go_sem, W_region, Wx_some, Nat.reduceAdd, Nat.reduceMul, Nat.reduceEqDiff, Int.reduceAdd, Int.reduceSub, Int.reduceMul, Int.reduceNeg, Int.reduceToNat, hsz]
  refine W_call Kok x04.1 (rname_run D w4 tD (by omega)) fun r w5 x5 hr => ?_
  subst hr
  have x05 := x04.trans x5
  have gh5 : w5.get h.size = _ := ((x4.trans x5).2 _ (by omega)).trans gh
  have gq5 : w5.get (h.size + 1) = _ := ((x4.trans x5).2 _ hws).trans gq
  have hws5 : h.size + 1 < w5.size := by have := (x4.trans x5).1; omega
  cases hnm : nameOK D with
  | false =>
    rw [hnm, if_neg (by simp)] at htok
    obtain ⟨w9, b1, b2⟩ := fin w5 [.int .i64 (kd : Int), .int .i64 (at' : Int), .string ByteArray.empty, .int .i32 0, .slice none 0 0, .bool false, .slice none 0 0, .slice none 0 0] x05 hws5
    simp +decide only [go_sem, W_region, Wx_some, Nat.reduceAdd, Nat.reduceMul, Nat.reduceEqDiff, Int.reduceAdd, Int.reduceSub, Int.reduceMul, Int.reduceNeg, Int.reduceToNat, hsz, e4, e6, gq5, gh5, j0, b1, b2]
    exact .inl ⟨htok, _, _, _, _, _, rfl, ⟨_, _, _, _, _, _, _, _, _, _, rfl⟩⟩
  | true =>
    rw [hnm, if_pos rfl] at htok
    have hD1 := nameOK_len hnm
    have hDne : D ≠ [] := by
      rintro rfl
      simp at hD1
    have hisl := (tD.ext x5).isl hDne
    obtain ⟨w7, f1, f2, f3, f4, f5⟩ := put (w := w5) [.int .i64 (kd : Int), .int .i64 (at' : Int), .string (runesBytes D), .int .i32 0, .slice none 0 0, .bool false, .slice none 0 0, .slice none 0 0] x05 hws5 gh5
    obtain ⟨w9, b1, b2⟩ := fin w7 [.int .i64 (kd : Int), .int .i64 (at' : Int), .string (runesBytes D), .int .i32 0, .slice none 0 0, .bool false, .slice none 0 0, .slice none 0 0] f2 f3
    have i6 : IntKind.i64.wrap ((i : Int) + ((D.length : Nat) : Int)) = ((i + D.length : Nat) : Int) := by rw [wrap_i64 (by omega) (by omega)]; omega
    simp +decide only [go_sem, W_region, Wx_some, Nat.reduceAdd, Nat.reduceMul, Nat.reduceEqDiff, Int.reduceAdd, Int.reduceSub, Int.reduceMul, Int.reduceNeg, Int.reduceToNat, hsz, e1, e4, e6, hisl, icvs_rv, gq5, j1, f1, f4, f5, i6, j0, b1, b2]
    simp only [Option.map_some] at htok
    exact .inr ⟨_, _, _, htok, by omega, by omega, by rw [show at' + (i - at' + D.length) = i + D.length by omega]; rfl, ⟨_, _, _, _, _, _, _, _, _, _, rfl⟩⟩

/-- Blanks ahead of a token. -/
theorem lexF_blanks : ∀ (k f p : Nat) {s : List Int}, k = blanks s → lexF (f + k) p s = lexF f (p + k) (s.drop k)
  | 0, f, p, s, _ => by simp
  | k + 1, f, p, [], h => by simp [blanks] at h
  | k + 1, f, p, c :: s, h => by
    by_cases hc : c = 32
    · subst hc
      have h' : k = blanks s := by
        simp only [blanks, List.takeWhile_cons, decide_true, if_true, List.length_cons] at h
        unfold blanks
        omega
      have e1 : tokS (32 :: s) = some (none, 1) := by rw [tokS_cons, if_pos kindOf_32]
      have h9 : ¬ (32 : Int) = 9053 := by omega
      rw [show f + (k + 1) = (f + k) + 1 by omega, lexF_s, if_neg h9, e1]
      simp only [List.drop_succ_cons, List.drop_zero]
      rw [lexF_blanks k f (p + 1) h', show p + 1 + k = p + (k + 1) by omega]
    · have : blanks (c :: s) = 0 := by simp [blanks, List.takeWhile_cons, hc]
      omega
theorem rcs_arr {p : List Value} (h : Arr4 p) : p.length = 4 := by
  obtain ⟨a, n, c, b, a2, n2, c2, a3, n3, c3, rfl⟩ := h
  rfl

theorem rlex_run (h : Heap) {l : List Int} {tv : Value} (t : Tx h tv l) :
    Runs K f_ref22_Lex #[tv] h fun r w => (lex l = none ∧ r = .tuple #[.slice none 0 0, .bool false]) ∨
      ∃ (xs : List XT) (a : Option Addr) (c : Nat), lex l = some (xs.map (·.1)) ∧ (∀ x ∈ xs, Arr4 x.2) ∧ xs.length ≤ l.length ∧ r = .tuple #[.slice a xs.length c, .bool true] ∧ Sl w 8 a xs.length c (xcs xs) := by
  obtain ⟨a, c, rfl⟩ := t.open
  refine Runs.of Kok (Does.intro rfl (by decide +kernel) F_ref22_Lex rfl ?_)
  by_cases h512 : (512 : Int) < ((l.length : Nat) : Int)
  · have : lex l = none := by
      unfold lex
      rw [if_pos (by omega)]
    simp +decide only [go_sem, W_region, Wx_some, Nat.reduceAdd, Nat.reduceMul, Nat.reduceEqDiff, Int.reduceAdd, Int.reduceSub, Int.reduceMul, Int.reduceNeg, Int.reduceToNat, h512]
    simp [this]
  have hl512 : ¬ 512 < l.length := by omega
  have b0 : blanks l ≤ l.length := by
    have := blanks_len (l := l) (p := 0) (Nat.zero_le _)
    simpa using this
  simp +decide only [go_sem, W_region, Wx_some, Nat.reduceAdd, Nat.reduceMul, Nat.reduceEqDiff, Int.reduceAdd, Int.reduceSub, Int.reduceMul, Int.reduceNeg, Int.reduceToNat, h512]
  refine W_call Kok (Nat.le_refl _) (rblanks_run l 0 h t (by omega) (Nat.zero_le _)) fun r w1 x1 hr => ?_
  obtain ⟨rfl, rfl⟩ := hr
  rw [List.drop_zero, Nat.zero_add]
  simp +decide only [go_sem, W_region, Wx_some, Nat.reduceAdd, Nat.reduceMul, Nat.reduceEqDiff, Int.reduceAdd, Int.reduceSub, Int.reduceMul, Int.reduceNeg, Int.reduceToNat]
  refine W_loop (α := Nat × Nat × List XT × Value) (fun k e w => k.1 ≤ l.length ∧ lex l = (lexF k.2.1 k.1 (l.drop k.1)).map (k.2.2.1.map (·.1) ++ ·) ∧ 600 ≤ k.2.1 + k.1 ∧ e.size = 40 ∧ Ext w1 w ∧ e.get 0 = .slice a l.length c ∧ e.get 4 = k.2.2.2 ∧ e.get 5 = .int .i64 (k.1 : Int) ∧ l[k.1]? ≠ some 32 ∧
    Own w1.size w 8 k.2.2.2 k.2.2.1.length (xcs k.2.2.1) ∧ (∀ x ∈ k.2.2.1, Arr4 x.2) ∧ k.2.2.1.length ≤ k.1) (fun k => l.length - k.1) (blanks l, 600 - blanks l, [], .slice none 0 0) ?_ ?_
  · refine ⟨b0, ?_, by simp only; omega, by simp +decide only [go_sem], Ext.refl _, by simp +decide only [go_sem], by simp +decide only [go_sem], by simp +decide only [go_sem], ?_, Own.nil _ _ _, by simp, by simp⟩
    · unfold lex
      rw [if_neg hl512]
      have := lexF_blanks (blanks l) (600 - blanks l) 0 (s := l) rfl
      rw [Nat.zero_add, show 600 - blanks l + blanks l = 600 by omega] at this
      rw [this]
      simp
    · intro hh
      have := blanks_end (l := l) (p := 0) (c := 32) (by simpa using hh)
      exact this rfl
  · rintro ⟨p, f, xs, sv⟩ e w ⟨hp, hlex, hf, hsz, hxw, e0, e4, e5, h32, own, hall, hxp⟩ next
    simp only at hp hlex hf e4 e5 h32 own hall hxp
    obtain ⟨g, rfl⟩ : ∃ g, f = g + 1 := ⟨f - 1, by omega⟩
    have hb0 : (l.drop p)[0]? = l[p]? := by rw [List.getElem?_drop, Nat.add_zero]
    rw [lexF_succ, hb0] at hlex
    obtain ⟨oa, oc, rfl⟩ := own.shape
    by_cases hpl : (p : Int) < ((l.length : Nat) : Int)
    case neg =>
      rw [List.getElem?_eq_none (by omega)] at hlex
      simp +decide only [go_sem, W_region, Wx_some, Nat.reduceAdd, Nat.reduceMul, Nat.reduceEqDiff, Int.reduceAdd, Int.reduceSub, Int.reduceMul, Int.reduceNeg, Int.reduceToNat, hsz, e0, e4, e5, hpl]
      exact .inr ⟨xs, _, _, by simpa using hlex, hall, by omega, rfl, own.sl⟩
    obtain ⟨y, hy⟩ : ∃ y, l[p]? = some y := ⟨_, List.getElem?_eq_getElem (by omega)⟩
    rw [hy] at hlex
    simp only at hlex
    have i0 : (0 : Int) ≤ (p : Int) := by omega
    obtain ⟨b', o', cs', q1, q2, q3, q4⟩ := (t.ext hxw).one hy
    cases q1
    by_cases hlamp : y = 9053
    · rw [if_pos hlamp] at hlex
      simp +decide only [go_sem, W_region, Wx_some, Nat.reduceAdd, Nat.reduceMul, Nat.reduceEqDiff, Int.reduceAdd, Int.reduceSub, Int.reduceMul, Int.reduceNeg, Int.reduceToNat, hsz, e0, e4, e5, hpl, i0, Int.toNat_natCast, Nat.mul_one, q3, q4, hlamp]
      exact .inr ⟨xs, _, _, by simpa using hlex, hall, by omega, rfl, own.sl⟩
    rw [if_neg hlamp] at hlex
    simp +decide only [go_sem, W_region, Wx_some, Nat.reduceAdd, Nat.reduceMul, Nat.reduceEqDiff, Int.reduceAdd, Int.reduceSub, Int.reduceMul, Int.reduceNeg, Int.reduceToNat, hsz, e0, e4, e5, hpl, i0, Int.toNat_natCast, Nat.mul_one, q3, q4, hlamp]
    refine W_call Kok hxw.1 (rone_run l p w (t.ext hxw) (by omega) (by omega) h32) fun r w2 x2 hr => ?_
    have hx2 := hxw.trans x2
    have hk2 := hx2.1
    rcases hr with ⟨ht, kk, qq, zz, ss, P, rfl, pa, pn, pc, pb, pa2, pn2, pc2, pa3, pn3, pc3, rfl⟩ | ⟨tk, k, P, ht, hk1, hk3, rfl, hA⟩
    · rw [ht] at hlex
      obtain ⟨w3, e3, x3, hs3, g3⟩ := lay1 w2 (.cells [.int .i64 0, .int .i64 0, .string ByteArray.empty, .int .i32 0, .slice none 0 0, .bool false, .slice none 0 0, .slice none 0 0] 8)
      obtain ⟨w4, e4', x4, hs4, g4, k4⟩ := put1 (hx2.trans x3) hk2 (.cells [.int .i64 kk, .int .i64 qq, .string ss, .int .i32 zz, .slice pa pn pc, .bool pb, .slice pa2 pn2 pc2, .slice pa3 pn3 pc3] 8)
      simp only [List.cons_append, List.nil_append]
      simp +decide only [go_sem, W_region, Wx_some, Nat.reduceAdd, Nat.reduceMul, Nat.reduceEqDiff, Int.reduceAdd, Int.reduceSub, Int.reduceMul, Int.reduceNeg, Int.reduceToNat, hsz, e0, e4, e5, e3, g3, hk2, e4', g4]
      simpa using hlex
    · rw [ht] at hlex
      simp only [List.drop_drop] at hlex
      obtain ⟨w3, e3, x3, hs3, g3⟩ := lay1 w2 (.cells [.int .i64 0, .int .i64 0, .string ByteArray.empty, .int .i32 0, .slice none 0 0, .bool false, .slice none 0 0, .slice none 0 0] 8)
      have hA' := hA
      obtain ⟨pa, pn, pc, pb, pa2, pn2, pc2, pa3, pn3, pc3, rfl⟩ := hA'
      obtain ⟨w4, e4', x4, hs4, g4, k4⟩ := put1 (hx2.trans x3) hk2 (.cells (tc4 (p, tk) ++ [.slice pa pn pc, .bool pb, .slice pa2 pn2 pc2, .slice pa3 pn3 pc3]) 8)
      obtain ⟨w5, e5', x5, hs5, g5⟩ := lay1 w4 (.cells (tc4 (p, tk) ++ [.slice pa pn pc, .bool pb, .slice pa2 pn2 pc2, .slice pa3 pn3 pc3]) 8)
      have ext24 : Ext w2 w4 := ⟨by have := x3.1; omega, fun b hb => (k4 b (by omega)).trans (x3.2 b hb)⟩
      have own5 := ((own.ext x2).ext ext24).ext x5
      obtain ⟨w6, e6, own6, hs6, x6⟩ := own_app2 (low := w1.size) (bytes := 120) (k := 1) (new := tc4 (p, tk) ++ [.slice pa pn pc, .bool pb, .slice pa2 pn2 pc2, .slice pa3 pn3 pc3]) (Nat.le_refl _) (x4.trans x5) own5 (by omega) (by omega) rfl (by omega) (by omega)
      have hz : ¬ ((p + k : Nat) : Int) = 0 := by omega
      simp only [tc4, List.cons_append, List.nil_append] at e4' g4 e5' g5 e6 ⊢
      simp +decide only [go_sem, W_region, Wx_some, Nat.reduceAdd, Nat.reduceMul, Nat.reduceEqDiff, Int.reduceAdd, Int.reduceSub, Int.reduceMul, Int.reduceNeg, Int.reduceToNat, hsz, e0, e4, e5, e3, g3, hk2, e4', g4, hz, e5', g5, e6]
      obtain ⟨B, hB⟩ : ∃ B, B = blanks (l.drop (p + k)) := ⟨_, rfl⟩
      have hBl : p + k + B ≤ l.length := by rw [hB]; exact blanks_len hk3
      refine W_call Kok x6.1 (rblanks_run l (p + k) w6 (t.ext x6) (by omega) hk3) fun r w7 x7 hr => ?_
      obtain ⟨rfl, rfl⟩ := hr
      rw [← hB]
      simp +decide only [go_sem, W_region, Wx_some, Nat.reduceAdd, Nat.reduceMul, Nat.reduceEqDiff, Int.reduceAdd, Int.reduceSub, Int.reduceMul, Int.reduceNeg, Int.reduceToNat, hsz]
      refine next (p + k + B, g - B, xs ++ [((p, tk), [.slice pa pn pc, .bool pb, .slice pa2 pn2 pc2, .slice pa3 pn3 pc3])], .slice (some ⟨w5.size, 0, none⟩) (xs.length + 1) big) _ _ ⟨hBl, ?_, by simp only; omega, by simp +decide only [go_sem, hsz], x6, by simp +decide only [go_sem, hsz, e0], by simp +decide only [go_sem, hsz], by simp +decide only [go_sem, hsz], ?_, ?_, ?_, by simp; omega⟩ (by simp only; omega)
      · rw [hlex]
        have hlb := lexF_blanks B (g - B) (p + k) (s := l.drop (p + k)) hB
        rw [show g - B + B = g by omega, List.drop_drop] at hlb
        rw [hlb]
        simp only [Option.map_map]
        congr 1
        funext z
        simp
      · intro hh
        exact blanks_end (l := l) (p := p + k) (c := 32) (by rw [← hB]; exact hh) rfl
      · rw [xcs_append, List.length_append]
        exact own6
      · intro x hx
        rcases List.mem_append.1 hx with hx | hx
        · exact hall x hx
        · rw [List.mem_singleton] at hx
          subst hx
          exact hA
end Go.Proofs.YtjlaenglmdpboaaGreat.R9
