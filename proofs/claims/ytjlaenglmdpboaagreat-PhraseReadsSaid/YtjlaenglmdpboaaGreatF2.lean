/- Proved here: the program's phrases: which brackets are axes, whether an operand ends at a token; PhraseOperands answers true at every line, every list of names and every place, laid in memory that is only read. -/
import Derived.Test.YtjlaenglmdpboaaGreatF1
set_option linter.unusedSimpArgs false
set_option linter.unusedVariables false
namespace Go.Proofs.YtjlaenglmdpboaaGreat.F2
open Go Go.Im Go.Im.Limbs Go.Im.Lexing Go.Proofs Go.RowKit Go.Proofs.YtjlaenglmdpboaaGreat.Hd Go.Proofs.YtjlaenglmdpboaaGreat.N18 Go.Proofs.YtjlaenglmdpboaaGreat.N19 Go.Proofs.YtjlaenglmdpboaaGreat.N23 Go.Proofs.YtjlaenglmdpboaaGreat.N26 Go.Proofs.YtjlaenglmdpboaaGreat.R8 Go.Proofs.YtjlaenglmdpboaaGreat.R9 Go.Proofs.YtjlaenglmdpboaaGreat.T1 Go.Proofs.YtjlaenglmdpboaaGreat.F1
set_option maxRecDepth 100000

theorem app3 (v p : Value) : (#[] ++ #[v] ++ #[p] : Array Value) = #[v, p] := rfl
/-- The law's function of names. -/
theorem isO_run (names : List NR) (x : ByteArray) (h : Heap) {nb : Nat} {na : Option Addr} {nc : Nat} (hg : h.get nb = .cells [.slice na names.length nc] 1) (sn : Sl h 2 na names.length nc (ncells names)) (hn : names.length ≤ 1000) :
    Runs K f_law32_PhraseOperands_1 #[.string x, .pointer (some ⟨nb, 0, none⟩)] h fun r w => r = .int .i64 (classN names x) := by
  refine Runs.of Kok (Does.intro rfl (by decide +kernel) F_law32_PhraseOperands_1 rfl ?_)
  simp (decide := true) only [go_sem, W_region, Wx_some, Nat.reduceAdd, Nat.reduceMul, Nat.reduceEqDiff, Int.reduceAdd, Int.reduceSub, Int.reduceMul, Int.reduceNeg, Int.reduceToNat, hg]
  refine W_call Kok (Nat.le_refl _) (rclass_run names x h sn hn) fun r w x hr => ?_
  obtain ⟨rfl, rfl⟩ := hr
  simp (decide := true) only [go_sem, W_region, Wx_some, Nat.reduceAdd, Nat.reduceMul, Nat.reduceEqDiff, Int.reduceAdd, Int.reduceSub, Int.reduceMul, Int.reduceNeg, Int.reduceToNat]

section
variable (xs : List XT) (h : Heap) {a : Option Addr} {c : Nat} (s : Sl h 9 a xs.length c (xcs xs)) (hA : ∀ x ∈ xs, Arr5 x.2) (hl : xs.length ≤ 1000)
include s hA hl
theorem axis_run (i : Int) : Runs K f_phrase_Axis #[.slice a xs.length c, .int .i64 i] h fun r w => r = .bool (axisT (xs.map (·.1)) i) := by
  refine Runs.of Kok (Does.intro rfl (by decide +kernel) F_phrase_Axis rfl ?_)
  by_cases h0 : i < 0
  · simp (decide := true) only [go_sem, W_region, Wx_some, Nat.reduceAdd, Nat.reduceMul, Nat.reduceEqDiff, Int.reduceAdd, Int.reduceSub, Int.reduceMul, Int.reduceNeg, Int.reduceToNat, h0]
    simp [axisT, (out_of (ts := xs.map (·.1)) (.inl h0)).2]
  by_cases h1 : ((xs.length : Nat) : Int) ≤ i
  · simp (decide := true) only [go_sem, W_region, Wx_some, Nat.reduceAdd, Nat.reduceMul, Nat.reduceEqDiff, Int.reduceAdd, Int.reduceSub, Int.reduceMul, Int.reduceNeg, Int.reduceToNat, h0, h1]
    simp [axisT, (out_of (ts := xs.map (·.1)) (.inr (by simpa using h1))).2]
  obtain ⟨n, rfl⟩ := Int.eq_ofNat_of_zero_le (show 0 ≤ i by omega)
  obtain ⟨X, hX⟩ : ∃ X, xs[n]? = some X := ⟨_, List.getElem?_eq_getElem (by omega)⟩
  have hXm : (xs.map (·.1))[n]? = some X.1 := by rw [List.getElem?_map, hX]; rfl
  have s' := s
  obtain ⟨b1, o1, cs1, rfl, p2, p3, _, _, _, _, p4, p5⟩ := Sl.tok s hA rfl hX
  have j0 : (0 : Int) ≤ (n : Int) := by omega
  have j1 : (n : Int) < ((xs.length : Nat) : Int) := by omega
  simp (decide := true) only [go_sem, W_region, Wx_some, Nat.reduceAdd, Nat.reduceMul, Nat.reduceEqDiff, Int.reduceAdd, Int.reduceSub, Int.reduceMul, Int.reduceNeg, Int.reduceToNat, h0, h1, j0, j1, Int.toNat_natCast, p3, p5, p4]
  refine W_call Kok (Nat.le_refl _) (is_run X.1 (hA X (List.mem_of_getElem? hX)) 93 h) fun r w1 x1 hr => ?_
  subst hr
  unfold axisT
  rw [markT_at hXm, Int.toNat_natCast]
  cases hm : isM X.1.2 93 with
  | false =>
    simp (decide := true) only [go_sem, W_region, Wx_some, Nat.reduceAdd, Nat.reduceMul, Nat.reduceEqDiff, Int.reduceAdd, Int.reduceSub, Int.reduceMul, Int.reduceNeg, Int.reduceToNat]
  | true =>
  simp (decide := true) only [go_sem, W_region, Wx_some, Nat.reduceAdd, Nat.reduceMul, Nat.reduceEqDiff, Int.reduceAdd, Int.reduceSub, Int.reduceMul, Int.reduceNeg, Int.reduceToNat]
  refine W_call Kok x1.1 (opener_run xs n w1 (s'.ext x1) hA (by omega) hl) fun r w2 x2 hr => ?_
  subst hr
  obtain ⟨j, hj⟩ : ∃ j, j = openT (xs.map (·.1)) (n + 1) 0 := ⟨_, rfl⟩
  have hb := openT_bounds (xs.map (·.1)) (n + 1) 0
  rw [← hj] at hb ⊢
  have i1 : IntKind.i64.wrap (j - 1) = j - 1 := wrap_i64 (by omega) (by omega)
  by_cases hj1 : (0 : Int) ≤ j - 1
  case neg =>
    simp (decide := true) only [go_sem, W_region, Wx_some, Nat.reduceAdd, Nat.reduceMul, Nat.reduceEqDiff, Int.reduceAdd, Int.reduceSub, Int.reduceMul, Int.reduceNeg, Int.reduceToNat, i1, hj1]
  obtain ⟨m, hm⟩ := Int.eq_ofNat_of_zero_le hj1
  obtain ⟨Y, hY⟩ : ∃ Y, xs[m]? = some Y := ⟨_, List.getElem?_eq_getElem (by omega)⟩
  have hYm : (xs.map (·.1))[m]? = some Y.1 := by rw [List.getElem?_map, hY]; rfl
  obtain ⟨b2, o2, cs2, hq, q2, q3, q4, _, _, _, _, q5⟩ := Sl.tok (s'.ext (x1.trans x2)) hA rfl hY
  cases hq
  have i1 := i1.trans hm
  rw [hm, kindT_at hYm]
  have k0 : (0 : Int) ≤ (m : Int) := by omega
  have k1 : (m : Int) < ((xs.length : Nat) : Int) := by omega
  by_cases hk4 : Y.1.2.kind = 4
  · have hk4' : ((Y.1.2.kind : Nat) : Int) = 4 := by omega
    simp (decide := true) only [go_sem, W_region, Wx_some, Nat.reduceAdd, Nat.reduceMul, Nat.reduceEqDiff, Int.reduceAdd, Int.reduceSub, Int.reduceMul, Int.reduceNeg, Int.reduceToNat, i1, k0, k1, Int.toNat_natCast, q3, q4, hk4', Nat.add_zero]
    simp [hk4]
  · have hk4' : ¬ ((Y.1.2.kind : Nat) : Int) = 4 := by omega
    simp (decide := true) only [go_sem, W_region, Wx_some, Nat.reduceAdd, Nat.reduceMul, Nat.reduceEqDiff, Int.reduceAdd, Int.reduceSub, Int.reduceMul, Int.reduceNeg, Int.reduceToNat, i1, k0, k1, Int.toNat_natCast, q3, q4, hk4', Nat.add_zero]
    simp [hk4]
    omega
set_option maxHeartbeats 4000000 in
theorem operand_run (names : List NR) (i : Int) {nb : Nat} (hnb : nb < h.size) {na : Option Addr} {nc : Nat} (hg : h.get nb = .cells [.slice na names.length nc] 1) (sn : Sl h 2 na names.length nc (ncells names)) (hn : names.length ≤ 1000) :
    Runs K f_phrase_Operand #[.slice a xs.length c, .int .i64 i, .func (.func f_law32_PhraseOperands_1) #[] #[.pointer (some ⟨nb, 0, none⟩)]] h fun r w => r = .bool (operandT names (xs.map (·.1)) i) := by
  refine Runs.of Kok (Does.intro rfl (by decide +kernel) F_phrase_Operand rfl ?_)
  by_cases h0 : i < 0
  · simp (decide := true) only [go_sem, W_region, Wx_some, Nat.reduceAdd, Nat.reduceMul, Nat.reduceEqDiff, Int.reduceAdd, Int.reduceSub, Int.reduceMul, Int.reduceNeg, Int.reduceToNat, h0]
    simp [operandT, out_of (ts := xs.map (·.1)) (.inl h0)]
  by_cases h1 : ((xs.length : Nat) : Int) ≤ i
  · simp (decide := true) only [go_sem, W_region, Wx_some, Nat.reduceAdd, Nat.reduceMul, Nat.reduceEqDiff, Int.reduceAdd, Int.reduceSub, Int.reduceMul, Int.reduceNeg, Int.reduceToNat, h0, h1]
    simp [operandT, out_of (ts := xs.map (·.1)) (.inr (by simpa using h1))]
  obtain ⟨n, rfl⟩ := Int.eq_ofNat_of_zero_le (show 0 ≤ i by omega)
  obtain ⟨X, hX⟩ : ∃ X, xs[n]? = some X := ⟨_, List.getElem?_eq_getElem (by omega)⟩
  have hXm : (xs.map (·.1))[n]? = some X.1 := by rw [List.getElem?_map, hX]; rfl
  have s' := s
  obtain ⟨b1, o1, cs1, rfl, p2, p3, _, _, _, _, p4, p5⟩ := Sl.tok s hA rfl hX
  have j0 : (0 : Int) ≤ (n : Int) := by omega
  have j1 : (n : Int) < ((xs.length : Nat) : Int) := by omega
  have hXA := hA X (List.mem_of_getElem? hX)
  have hXA' := hXA
  obtain ⟨ta, tn, tc, tb, ta2, tn2, tc2, ta3, tn3, tc3, tm, hrest⟩ := hXA'
  obtain ⟨w0, e0, x0, hs0, z0⟩ := lay1 h (.cells [.int .i64 0, .int .i64 0, .string ByteArray.empty, .int .i32 0, .slice none 0 0, .bool false, .slice none 0 0, .slice none 0 0, .bool false] 9)
  obtain ⟨w1, e1, x1, hs1, z1, k1⟩ := put1 x0 (Nat.le_refl _) (.cells (tc4 X.1 ++ X.2) 9)
  have hk : kindT (xs.map (·.1)) (n : Int) = X.1.2.kind := kindT_at hXm
  have hw : wordT (xs.map (·.1)) (n : Int) = runesBytes X.1.2.word := by simp only [wordT, Int.toNat_natCast, hXm]
  have hcell : ∀ cs, cs = tc4 X.1 ++ X.2 → cs = [.int .i64 (X.1.2.kind : Int), .int .i64 (X.1.1 : Int), .string (runesBytes X.1.2.word), .int .i32 X.1.2.sign, .slice ta tn tc, .bool tb, .slice ta2 tn2 tc2, .slice ta3 tn3 tc3, .bool tm] := fun cs hcs => by rw [hcs, hrest]; rfl
  have hcl := hcell _ rfl
  have nofn : ∀ {c : Int}, noFn c = (!decide (c = 3) && !decide (c = 4)) := rfl
  have hgn : w1.get nb = .cells [.slice na names.length nc] 1 := by rw [k1 _ (by omega), x0.2 _ hnb]; exact hg
  have sn1 := sn.ext x1
  unfold operandT classT
  rw [hk, hw]
  by_cases k1e : X.1.2.kind = 1
  · have k1' : ((X.1.2.kind : Nat) : Int) = 1 := by omega
    rw [hcl] at p4 e1 z1
    simp (decide := true) only [go_sem, W_region, Wx_some, Nat.reduceAdd, Nat.reduceMul, Nat.reduceEqDiff, Int.reduceAdd, Int.reduceSub, Int.reduceMul, Int.reduceNeg, Int.reduceToNat, h0, h1, j0, j1, Int.toNat_natCast, p3, p5, p4, e0, z0, Nat.le_refl, e1, z1, k1']
    simp [k1e, markT_kind (ts := xs.map (·.1)) (i := (n : Int)) (c := 93) (by rw [hk, k1e]; simp)]
  have k1' : ¬ ((X.1.2.kind : Nat) : Int) = 1 := by omega
  by_cases k2e : X.1.2.kind = 2
  · have k2' : ((X.1.2.kind : Nat) : Int) = 2 := by omega
    rw [hcl, k2'] at p4 e1 z1
    simp (decide := true) only [go_sem, W_region, Wx_some, Nat.reduceAdd, Nat.reduceMul, Nat.reduceEqDiff, Int.reduceAdd, Int.reduceSub, Int.reduceMul, Int.reduceNeg, Int.reduceToNat, h0, h1, j0, j1, Int.toNat_natCast, p3, p5, p4, e0, z0, Nat.le_refl, e1, z1, app3]
    refine W_call Kok x1.1 (isO_run names _ w1 hgn sn1 hn) fun r w2 x2 hr => ?_
    subst hr
    by_cases c3 : classN names (runesBytes X.1.2.word) = 3
    · simp (decide := true) only [go_sem, W_region, Wx_some, Nat.reduceAdd, Nat.reduceMul, Nat.reduceEqDiff, Int.reduceAdd, Int.reduceSub, Int.reduceMul, Int.reduceNeg, Int.reduceToNat, c3]
      simp [k2e, noFn, c3]
    · simp (decide := true) only [go_sem, W_region, Wx_some, Nat.reduceAdd, Nat.reduceMul, Nat.reduceEqDiff, Int.reduceAdd, Int.reduceSub, Int.reduceMul, Int.reduceNeg, Int.reduceToNat, c3]
      simp [k2e, noFn, c3]
  have k2' : ¬ ((X.1.2.kind : Nat) : Int) = 2 := by omega
  by_cases k3e : X.1.2.kind = 3
  · have k3' : ((X.1.2.kind : Nat) : Int) = 3 := by omega
    rw [hcl, k3'] at p4 e1 z1
    simp (decide := true) only [go_sem, W_region, Wx_some, Nat.reduceAdd, Nat.reduceMul, Nat.reduceEqDiff, Int.reduceAdd, Int.reduceSub, Int.reduceMul, Int.reduceNeg, Int.reduceToNat, h0, h1, j0, j1, Int.toNat_natCast, p3, p5, p4, e0, z0, Nat.le_refl, e1, z1]
    refine W_call Kok x1.1 (psys_run _ w1) fun r w2 x2 hr => ?_
    subst hr
    by_cases c3 : classN sysL (runesBytes X.1.2.word) = 3
    · simp (decide := true) only [go_sem, W_region, Wx_some, Nat.reduceAdd, Nat.reduceMul, Nat.reduceEqDiff, Int.reduceAdd, Int.reduceSub, Int.reduceMul, Int.reduceNeg, Int.reduceToNat, c3]
      simp [k3e, noFn, c3]
    · simp (decide := true) only [go_sem, W_region, Wx_some, Nat.reduceAdd, Nat.reduceMul, Nat.reduceEqDiff, Int.reduceAdd, Int.reduceSub, Int.reduceMul, Int.reduceNeg, Int.reduceToNat, c3]
      simp [k3e, noFn, c3]
  have k3' : ¬ ((X.1.2.kind : Nat) : Int) = 3 := by omega
  have hno : ¬ (X.1.2.kind = 2 ∨ X.1.2.kind = 3) := by omega
  rw [if_neg hno]
  by_cases k6e : X.1.2.kind = 6
  case neg =>
    have k6' : ¬ ((X.1.2.kind : Nat) : Int) = 6 := by omega
    have mkn : ∀ c, markT (xs.map (·.1)) (n : Int) c = false := fun c => markT_kind (by rw [hk]; exact k6e)
    rw [hcl] at p4 e1 z1
    simp (decide := true) only [go_sem, W_region, Wx_some, Nat.reduceAdd, Nat.reduceMul, Nat.reduceEqDiff, Int.reduceAdd, Int.reduceSub, Int.reduceMul, Int.reduceNeg, Int.reduceToNat, h0, h1, j0, j1, Int.toNat_natCast, p3, p5, p4, e0, z0, Nat.le_refl, e1, z1, k1', k2', k3', k6']
    simp [mkn, k1e]
  have k6' : ((X.1.2.kind : Nat) : Int) = 6 := by omega
  have mk : ∀ y (w : Heap), Runs K f_token_Token_Is #[.agg #[.int .i64 (X.1.2.kind : Int), .int .i64 (X.1.1 : Int), .string (runesBytes X.1.2.word), .int .i32 X.1.2.sign, .slice ta tn tc, .bool tb, .slice ta2 tn2 tc2, .slice ta3 tn3 tc3, .bool tm], .int .i32 y] w fun r _ => r = .bool (markT (xs.map (·.1)) (n : Int) y) := fun y w => by
    have := is_run X.1 hXA y w
    rw [hcl] at this
    rw [markT_at hXm]
    exact this
  rw [hcl] at p4 e1 z1
  rw [k6'] at p4 e1 z1
  simp only [k6'] at mk
  simp (decide := true) only [go_sem, W_region, Wx_some, Nat.reduceAdd, Nat.reduceMul, Nat.reduceEqDiff, Int.reduceAdd, Int.reduceSub, Int.reduceMul, Int.reduceNeg, Int.reduceToNat, h0, h1, j0, j1, Int.toNat_natCast, p3, p5, p4, e0, z0, Nat.le_refl, e1, z1]
  refine W_call Kok x1.1 (mk 41 w1) fun r w2 x2 hr => ?_
  subst hr
  have excl : ∀ {c d : Int}, c ≠ d → markT (xs.map (·.1)) (n : Int) c = true → markT (xs.map (·.1)) (n : Int) d = false := by
    intro c d hcd hc
    rw [markT_at hXm] at hc ⊢
    simp only [isM, Bool.and_eq_true, decide_eq_true_eq] at hc
    simp [isM, hc.2, hcd]
  have z2 : w2.get h.size = _ := (x2.2 _ (by omega)).trans z1
  cases m41 : markT (xs.map (·.1)) (n : Int) 41 with
  | true =>
    simp (decide := true) only [go_sem, W_region, Wx_some, Nat.reduceAdd, Nat.reduceMul, Nat.reduceEqDiff, Int.reduceAdd, Int.reduceSub, Int.reduceMul, Int.reduceNeg, Int.reduceToNat]
    simp [excl (d := 93) (by omega) m41]
  | false =>
  simp (decide := true) only [go_sem, W_region, Wx_some, Nat.reduceAdd, Nat.reduceMul, Nat.reduceEqDiff, Int.reduceAdd, Int.reduceSub, Int.reduceMul, Int.reduceNeg, Int.reduceToNat, z2]
  refine W_call Kok (x1.trans x2).1 (mk 9109 w2) fun r w3 x3 hr => ?_
  subst hr
  have z3 : w3.get h.size = _ := (x3.2 _ (by have := x2.1; omega)).trans z2
  cases m91 : markT (xs.map (·.1)) (n : Int) 9109 with
  | true =>
    simp (decide := true) only [go_sem, W_region, Wx_some, Nat.reduceAdd, Nat.reduceMul, Nat.reduceEqDiff, Int.reduceAdd, Int.reduceSub, Int.reduceMul, Int.reduceNeg, Int.reduceToNat]
    simp [excl (d := 93) (by omega) m91]
  | false =>
  simp (decide := true) only [go_sem, W_region, Wx_some, Nat.reduceAdd, Nat.reduceMul, Nat.reduceEqDiff, Int.reduceAdd, Int.reduceSub, Int.reduceMul, Int.reduceNeg, Int.reduceToNat, z3]
  refine W_call Kok (x1.trans (x2.trans x3)).1 (mk 9054 w3) fun r w4 x4 hr => ?_
  subst hr
  have z4 : w4.get h.size = _ := (x4.2 _ (by have := x2.1; have := x3.1; omega)).trans z3
  cases m90 : markT (xs.map (·.1)) (n : Int) 9054 with
  | true =>
    simp (decide := true) only [go_sem, W_region, Wx_some, Nat.reduceAdd, Nat.reduceMul, Nat.reduceEqDiff, Int.reduceAdd, Int.reduceSub, Int.reduceMul, Int.reduceNeg, Int.reduceToNat]
    simp [excl (d := 93) (by omega) m90]
  | false =>
  simp (decide := true) only [go_sem, W_region, Wx_some, Nat.reduceAdd, Nat.reduceMul, Nat.reduceEqDiff, Int.reduceAdd, Int.reduceSub, Int.reduceMul, Int.reduceNeg, Int.reduceToNat, z4]
  have x14 := x1.trans (x2.trans (x3.trans x4))
  refine W_call Kok x14.1 (mk 93 w4) fun r w5 x5 hr => ?_
  subst hr
  cases m93 : markT (xs.map (·.1)) (n : Int) 93 with
  | false =>
    simp (decide := true) only [go_sem, W_region, Wx_some, Nat.reduceAdd, Nat.reduceMul, Nat.reduceEqDiff, Int.reduceAdd, Int.reduceSub, Int.reduceMul, Int.reduceNeg, Int.reduceToNat]
    simp [k1e]
  | true =>
  simp (decide := true) only [go_sem, W_region, Wx_some, Nat.reduceAdd, Nat.reduceMul, Nat.reduceEqDiff, Int.reduceAdd, Int.reduceSub, Int.reduceMul, Int.reduceNeg, Int.reduceToNat]
  refine W_call Kok (x14.trans x5).1 (axis_run xs w5 (s'.ext (x14.trans x5)) hA hl (n : Int)) fun r w6 x6 hr => ?_
  subst hr
  simp (decide := true) only [go_sem, W_region, Wx_some, Nat.reduceAdd, Nat.reduceMul, Nat.reduceEqDiff, Int.reduceAdd, Int.reduceSub, Int.reduceMul, Int.reduceNeg, Int.reduceToNat]
end
end Go.Proofs.YtjlaenglmdpboaaGreat.F2
