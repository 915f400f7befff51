/- Proved here: the program's phrases: the function that ends at a place, of every list of tokens and of names; what a phrase may take. -/
import Derived.Test.YtjlaenglmdpboaaGreatF2
import Derived.Test.YtjlaenglmdpboaaGreatF4
set_option linter.unusedSimpArgs false
set_option linter.unusedVariables false
namespace Go.Im.Lexing
def funT (ts : List (Nat × Tk)) (i : Int) : Ph × Bool :=
  if markT ts (i - 1) 46 then
    if kindT ts (i - 2) = 4 then (⟨5, signT ts (i - 2), signT ts i, ByteArray.empty, 0, i - 2⟩, true)
    else if markT ts (i - 2) 8728 then (⟨6, 0, signT ts i, ByteArray.empty, 0, i - 2⟩, true) else (phZ, false)
  else if signT ts i = 9038 then (⟨2, 0, 0, ByteArray.empty, 0, i⟩, true) else (⟨1, 0, signT ts i, ByteArray.empty, 0, i⟩, true)
theorem markT_in {ts : List (Nat × Tk)} {i c : Int} (h : markT ts i c = true) : ∃ n : Nat, i = (n : Int) ∧ n < ts.length := by
  have h0 : ¬ (i < 0 ∨ (ts.length : Int) ≤ i) := fun hh => by
    have := (out_of hh).2 c
    rw [h] at this
    cases this
  exact ⟨i.toNat, by omega, by omega⟩
end Go.Im.Lexing
namespace Go.Proofs.YtjlaenglmdpboaaGreat.F5
open Go Go.Im Go.Im.Limbs Go.Im.Lexing Go.Proofs Go.RowKit Go.Proofs.YtjlaenglmdpboaaGreat.Hd Go.Proofs.YtjlaenglmdpboaaGreat.N18 Go.Proofs.YtjlaenglmdpboaaGreat.N19 Go.Proofs.YtjlaenglmdpboaaGreat.N23 Go.Proofs.YtjlaenglmdpboaaGreat.N26 Go.Proofs.YtjlaenglmdpboaaGreat.R8 Go.Proofs.YtjlaenglmdpboaaGreat.R9 Go.Proofs.YtjlaenglmdpboaaGreat.T1 Go.Proofs.YtjlaenglmdpboaaGreat.F1 Go.Proofs.YtjlaenglmdpboaaGreat.F2 Go.Proofs.YtjlaenglmdpboaaGreat.F4
set_option maxRecDepth 100000

theorem of_run (x : Ph) (h : Heap) : Runs K f_law32_of #[x.v] h fun r _ => r = x.v := by
  obtain ⟨k, f, g, w, c, p⟩ := x
  refine Runs.of Kok (Does.intro rfl (by decide +kernel) F_law32_of rfl ?_)
  obtain ⟨w0, e0, x0, hs0, z0, z1⟩ := lay2 h (.cells [.int .i64 k, .int .i32 f, .int .i32 g, .string w, .int .i64 c, .int .i64 p] 6) (.cells [.int .i64 0, .int .i32 0, .int .i32 0, .string ByteArray.empty, .int .i64 0, .int .i64 0] 6)
  have j1 : h.size ≤ h.size + 1 := by omega
  obtain ⟨w1, e1, x1, hs1, g1, _⟩ := put1 x0 j1 (.cells [.int .i64 k, .int .i32 f, .int .i32 g, .string w, .int .i64 c, .int .i64 p] 6)
  simp (decide := true) only [go_sem, W_region, Wx_some, Nat.reduceAdd, Nat.reduceMul, Nat.reduceEqDiff, Int.reduceAdd, Int.reduceSub, Int.reduceMul, Int.reduceNeg, Int.reduceToNat, Ph.v, Ph.l, e0, z0, z1, j1, e1, g1]
theorem along_run (x : Ph) (h : Heap) : Runs K f_phrase_Phrase_Along #[x.v] h fun r _ => r = .bool (alongT x.k) := by
  obtain ⟨k, f, g, w, c, p⟩ := x
  refine Runs.of Kok (Does.intro rfl (by decide +kernel) F_phrase_Phrase_Along rfl ?_)
  obtain ⟨w0, e0, x0, hs0, z0⟩ := lay1 h (.cells [.int .i64 k, .int .i32 f, .int .i32 g, .string w, .int .i64 c, .int .i64 p] 6)
  by_cases h1 : k = 1
  · subst h1
    simp (decide := true) only [go_sem, W_region, Wx_some, Nat.reduceAdd, Nat.reduceMul, Nat.reduceEqDiff, Int.reduceAdd, Int.reduceSub, Int.reduceMul, Int.reduceNeg, Int.reduceToNat, Ph.v, Ph.l, e0, z0]
    simp [alongT]
  by_cases h3 : k = 3
  · subst h3
    simp (decide := true) only [go_sem, W_region, Wx_some, Nat.reduceAdd, Nat.reduceMul, Nat.reduceEqDiff, Int.reduceAdd, Int.reduceSub, Int.reduceMul, Int.reduceNeg, Int.reduceToNat, Ph.v, Ph.l, e0, z0]
    simp [alongT]
  simp (decide := true) only [go_sem, W_region, Wx_some, Nat.reduceAdd, Nat.reduceMul, Nat.reduceEqDiff, Int.reduceAdd, Int.reduceSub, Int.reduceMul, Int.reduceNeg, Int.reduceToNat, Ph.v, Ph.l, e0, z0, h1, h3]
  simp [alongT, h1, h3]
theorem fits_run (x : Ph) (two : Bool) (h : Heap) : Runs K f_phrase_Phrase_Fits #[x.v, .bool two] h fun r _ => r = .bool (fitsT x.k x.c two) := by
  obtain ⟨k, f, g, w, c, p⟩ := x
  refine Runs.of Kok (Does.intro rfl (by decide +kernel) F_phrase_Phrase_Fits rfl ?_)
  obtain ⟨w0, e0, x0, hs0, z0⟩ := lay1 h (.cells [.int .i64 k, .int .i32 f, .int .i32 g, .string w, .int .i64 c, .int .i64 p] 6)
  unfold fitsT
  by_cases h1 : k = 1
  · subst h1
    simp (decide := true) only [go_sem, W_region, Wx_some, Nat.reduceAdd, Nat.reduceMul, Nat.reduceEqDiff, Int.reduceAdd, Int.reduceSub, Int.reduceMul, Int.reduceNeg, Int.reduceToNat, Ph.v, Ph.l, e0, z0]
  by_cases h2 : k = 2
  · subst h2
    simp (decide := true) only [go_sem, W_region, Wx_some, Nat.reduceAdd, Nat.reduceMul, Nat.reduceEqDiff, Int.reduceAdd, Int.reduceSub, Int.reduceMul, Int.reduceNeg, Int.reduceToNat, Ph.v, Ph.l, e0, z0]
  by_cases h3 : k = 3
  · subst h3
    simp (decide := true) only [go_sem, W_region, Wx_some, Nat.reduceAdd, Nat.reduceMul, Nat.reduceEqDiff, Int.reduceAdd, Int.reduceSub, Int.reduceMul, Int.reduceNeg, Int.reduceToNat, Ph.v, Ph.l, e0, z0]
  by_cases h4 : k = 4
  · subst h4
    simp (decide := true) only [go_sem, W_region, Wx_some, Nat.reduceAdd, Nat.reduceMul, Nat.reduceEqDiff, Int.reduceAdd, Int.reduceSub, Int.reduceMul, Int.reduceNeg, Int.reduceToNat, Ph.v, Ph.l, e0, z0]
  by_cases h5 : k = 5
  · subst h5
    simp (decide := true) only [go_sem, W_region, Wx_some, Nat.reduceAdd, Nat.reduceMul, Nat.reduceEqDiff, Int.reduceAdd, Int.reduceSub, Int.reduceMul, Int.reduceNeg, Int.reduceToNat, Ph.v, Ph.l, e0, z0]
  by_cases h6 : k = 6
  · subst h6
    simp (decide := true) only [go_sem, W_region, Wx_some, Nat.reduceAdd, Nat.reduceMul, Nat.reduceEqDiff, Int.reduceAdd, Int.reduceSub, Int.reduceMul, Int.reduceNeg, Int.reduceToNat, Ph.v, Ph.l, e0, z0]
  have h46 : ¬ (4 ≤ k ∧ k ≤ 6) := by omega
  simp (decide := true) only [go_sem, W_region, Wx_some, Nat.reduceAdd, Nat.reduceMul, Nat.reduceEqDiff, Int.reduceAdd, Int.reduceSub, Int.reduceMul, Int.reduceNeg, Int.reduceToNat, Ph.v, Ph.l, e0, z0, h1, h2, h3, h4, h5, h6]
  rw [if_neg h46]

section
variable (xs : List XT) (h : Heap) {a : Option Addr} {c : Nat} (s : Sl h 9 a xs.length c (xcs xs)) (hA : ∀ x ∈ xs, Arr5 x.2) (hl : xs.length ≤ 1000)
include s hA
/-- A token of the list, by its place. -/
theorem tok_at {ts : List (Nat × Tk)} (hts : ts = xs.map (·.1)) {n : Nat} (hn : n < ts.length) : ∃ X b o cs, xs[n]? = some X ∧ a = some ⟨b, o, none⟩ ∧ b < h.size ∧ (h.get b).read = .cells cs 9 ∧ cs[o + n * 9]? = some (.int .i64 ((kindT ts (n : Int) : Nat) : Int)) ∧
    cs[o + n * 9 + 2]? = some (.string (wordT ts (n : Int))) ∧ cs[o + n * 9 + 3]? = some (.int .i32 (signT ts (n : Int))) ∧ (cs.drop (o + n * 9)).take 9 = tc4 X.1 ++ X.2 ∧ o + n * 9 + 9 ≤ cs.length ∧ Arr5 X.2 ∧ (∀ y, markT ts (n : Int) y = isM X.1.2 y) ∧ kindT ts (n : Int) = X.1.2.kind ∧ wordT ts (n : Int) = runesBytes X.1.2.word := by
  rw [hts, List.length_map] at hn
  obtain ⟨Y, hY⟩ : ∃ Y, xs[n]? = some Y := ⟨_, List.getElem?_eq_getElem hn⟩
  have hYm : ts[n]? = some Y.1 := by rw [hts, List.getElem?_map, hY]; rfl
  obtain ⟨b1, o1, cs1, rfl, p2, p3, p4, _, p5, p6, p7, p8⟩ := Sl.tok s hA rfl hY
  exact ⟨Y, b1, o1, cs1, hY, rfl, p2, p3, by rw [kindT_at hYm]; exact p4, by rw [wordT_at hYm]; exact p5, by rw [signT_at hYm]; exact p6, p7, p8, hA Y (List.mem_of_getElem? hY), fun y => markT_at hYm y, kindT_at hYm, wordT_at hYm⟩
include hl
set_option maxHeartbeats 4000000 in
theorem fun_run (n : Nat) (hn : n < xs.length) : Runs K f_phrase_function #[.slice a xs.length c, .int .i64 (n : Int)] h fun r _ => r = .tuple #[(funT (xs.map (·.1)) (n : Int)).1.v, .bool (funT (xs.map (·.1)) (n : Int)).2] := by
  refine Runs.of Kok (Does.intro rfl (by decide +kernel) F_phrase_function rfl ?_)
  obtain ⟨w0, e0, x0, hs0, z0⟩ := lay1 h (.cells [.int .i64 0, .int .i32 0, .int .i32 0, .string ByteArray.empty, .int .i64 0, .int .i64 0] 6)
  have j0 : h.size ≤ h.size := Nat.le_refl _
  obtain ⟨ts, hts⟩ : ∃ ts, ts = xs.map (·.1) := ⟨_, rfl⟩
  have hlen : ts.length = xs.length := by rw [hts, List.length_map]
  rw [← hts]
  have fin : ∀ (w : Heap) (C : List Value), Ext h w → ∃ w', w.set h.size (.cells C 6) = w' ∧ w'.get h.size = .cells C 6 := fun w C xw => by
    obtain ⟨w1, e1, x1, hs1, g1, _⟩ := put1 xw j0 (.cells C 6)
    exact ⟨w1, e1, g1⟩
  have s0 := s.ext x0
  obtain ⟨X, b, o, cs, hX, rfl, hb, hcs, p4, p5, p6, p7, p8, _⟩ := tok_at xs w0 s0 hA hts (n := n) (by omega)
  have c0 : (0 : Int) ≤ (n : Int) := by omega
  have c1 : (n : Int) < ((xs.length : Nat) : Int) := by omega
  have i1 : IntKind.i64.wrap ((n : Int) - 1) = (n : Int) - 1 := wrap_i64 (by omega) (by omega)
  have i2 : IntKind.i64.wrap ((n : Int) - 2) = (n : Int) - 2 := wrap_i64 (by omega) (by omega)
  unfold funT
  -- no point ahead
  have plainE : ∀ (w : Heap), Ext w0 w → w.get h.size = .cells [.int .i64 0, .int .i32 0, .int .i32 0, .string ByteArray.empty, .int .i64 0, .int .i64 0] 6 := fun w xw => (xw.2 _ (by omega)).trans z0
  by_cases n0 : (0 : Int) < (n : Int)
  case neg =>
    have hm : markT ts ((n : Int) - 1) 46 = false := (out_of (.inl (by omega))).2 _
    rw [hm, if_neg (by simp)]
    by_cases s9 : signT ts (n : Int) = 9038
    · rw [if_pos s9]
      obtain ⟨w', ew, gw⟩ := fin w0 [.int .i64 2, .int .i32 0, .int .i32 0, .string ByteArray.empty, .int .i64 0, .int .i64 (n : Int)] x0
      simp (decide := true) only [go_sem, W_region, Wx_some, Nat.reduceAdd, Nat.reduceMul, Nat.reduceEqDiff, Int.reduceAdd, Int.reduceSub, Int.reduceMul, Int.reduceNeg, Int.reduceToNat, e0, c0, c1, Int.toNat_natCast, hcs, p6, n0, s9, z0, j0, ew, gw]
      rfl
    · rw [if_neg s9]
      obtain ⟨w', ew, gw⟩ := fin w0 [.int .i64 1, .int .i32 0, .int .i32 (signT ts (n : Int)), .string ByteArray.empty, .int .i64 0, .int .i64 (n : Int)] x0
      simp (decide := true) only [go_sem, W_region, Wx_some, Nat.reduceAdd, Nat.reduceMul, Nat.reduceEqDiff, Int.reduceAdd, Int.reduceSub, Int.reduceMul, Int.reduceNeg, Int.reduceToNat, e0, c0, c1, Int.toNat_natCast, hcs, p6, n0, s9, z0, j0, ew, gw]
      rfl
  obtain ⟨m, hm⟩ : ∃ m : Nat, (n : Int) - 1 = (m : Int) := ⟨n - 1, by omega⟩
  obtain ⟨Y, b2, o2, cs2, hY, hq, _, hcs2, _, _, _, q7, q8, hYA, hYm, _⟩ := tok_at xs w0 s0 hA hts (n := m) (by omega)
  cases hq
  rw [hcs] at hcs2
  cases hcs2
  have d0 : (0 : Int) ≤ (m : Int) := by omega
  have d1 : (m : Int) < ((xs.length : Nat) : Int) := by omega
  have i1' := i1.trans hm
  rw [hm, hYm]
  simp (decide := true) only [go_sem, W_region, Wx_some, Nat.reduceAdd, Nat.reduceMul, Nat.reduceEqDiff, Int.reduceAdd, Int.reduceSub, Int.reduceMul, Int.reduceNeg, Int.reduceToNat, e0, c0, c1, Int.toNat_natCast, hcs, p6, n0, i1', d0, d1, q8, q7]
  refine W_call Kok x0.1 (is_run Y.1 hYA 46 w0) fun r w1 x1 hr => ?_
  subst hr
  have z1 := plainE w1 x1
  have x01 := x0.trans x1
  cases hmk : isM Y.1.2 46 with
  | false =>
    rw [if_neg (by simp)]
    by_cases s9 : signT ts (n : Int) = 9038
    · rw [if_pos s9]
      obtain ⟨w', ew, gw⟩ := fin w1 [.int .i64 2, .int .i32 0, .int .i32 0, .string ByteArray.empty, .int .i64 0, .int .i64 (n : Int)] x01
      simp (decide := true) only [go_sem, W_region, Wx_some, Nat.reduceAdd, Nat.reduceMul, Nat.reduceEqDiff, Int.reduceAdd, Int.reduceSub, Int.reduceMul, Int.reduceNeg, Int.reduceToNat, s9, z1, j0, ew, gw]
      rfl
    · rw [if_neg s9]
      obtain ⟨w', ew, gw⟩ := fin w1 [.int .i64 1, .int .i32 0, .int .i32 (signT ts (n : Int)), .string ByteArray.empty, .int .i64 0, .int .i64 (n : Int)] x01
      simp (decide := true) only [go_sem, W_region, Wx_some, Nat.reduceAdd, Nat.reduceMul, Nat.reduceEqDiff, Int.reduceAdd, Int.reduceSub, Int.reduceMul, Int.reduceNeg, Int.reduceToNat, s9, z1, j0, ew, gw]
      rfl
  | true =>
  rw [if_pos rfl]
  by_cases n1 : (1 : Int) < (n : Int)
  case neg =>
    have hk0 : ¬ kindT ts ((n : Int) - 2) = 4 := by rw [(out_of (.inl (by omega))).1]; omega
    have hm0 : markT ts ((n : Int) - 2) 8728 = false := (out_of (.inl (by omega))).2 _
    rw [if_neg hk0, hm0, if_neg (by simp)]
    obtain ⟨w', ew, gw⟩ := fin w1 [.int .i64 0, .int .i32 0, .int .i32 0, .string ByteArray.empty, .int .i64 0, .int .i64 0] x01
    simp (decide := true) only [go_sem, W_region, Wx_some, Nat.reduceAdd, Nat.reduceMul, Nat.reduceEqDiff, Int.reduceAdd, Int.reduceSub, Int.reduceMul, Int.reduceNeg, Int.reduceToNat, n1, z1, j0, ew, gw]
    rfl
  obtain ⟨u, hu⟩ : ∃ u : Nat, (n : Int) - 2 = (u : Int) := ⟨n - 2, by omega⟩
  obtain ⟨Z, b3, o3, cs3, hZ, hq, _, hcs3, u4, u5, u6, u7, u8, hZA, hZm, _⟩ := tok_at xs w1 (s0.ext x1) hA hts (n := u) (by omega)
  cases hq
  have hcs1 : (w1.get b).read = .cells cs 9 := by rw [x1.2 _ hb]; exact hcs
  rw [hcs1] at hcs3
  cases hcs3
  have v0 : (0 : Int) ≤ (u : Int) := by omega
  have v1 : (u : Int) < ((xs.length : Nat) : Int) := by omega
  have i2' := i2.trans hu
  rw [hu, hZm]
  by_cases k4 : kindT ts (u : Int) = 4
  · rw [if_pos k4]
    have k4' : ((kindT ts (u : Int) : Nat) : Int) = 4 := by omega
    rw [k4'] at u4
    obtain ⟨w', ew, gw⟩ := fin w1 [.int .i64 5, .int .i32 (signT ts (u : Int)), .int .i32 (signT ts (n : Int)), .string ByteArray.empty, .int .i64 0, .int .i64 (u : Int)] x01
    simp (decide := true) only [go_sem, W_region, Wx_some, Nat.reduceAdd, Nat.reduceMul, Nat.reduceEqDiff, Int.reduceAdd, Int.reduceSub, Int.reduceMul, Int.reduceNeg, Int.reduceToNat, n1, i2', v0, v1, Int.toNat_natCast, hcs1, u4, u6, z1, j0, ew, gw, Nat.add_zero]
    rfl
  rw [if_neg k4]
  have k4' : ¬ ((kindT ts (u : Int) : Nat) : Int) = 4 := by omega
  simp (decide := true) only [go_sem, W_region, Wx_some, Nat.reduceAdd, Nat.reduceMul, Nat.reduceEqDiff, Int.reduceAdd, Int.reduceSub, Int.reduceMul, Int.reduceNeg, Int.reduceToNat, n1, i2', v0, v1, Int.toNat_natCast, hcs1, u4, k4', u8, u7, Nat.add_zero]
  refine W_call Kok x01.1 (is_run Z.1 hZA 8728 w1) fun r w2 x2 hr => ?_
  subst hr
  have z2 := plainE w2 (x1.trans x2)
  cases hmz : isM Z.1.2 8728 with
  | true =>
    rw [if_pos rfl]
    obtain ⟨w', ew, gw⟩ := fin w2 [.int .i64 6, .int .i32 0, .int .i32 (signT ts (n : Int)), .string ByteArray.empty, .int .i64 0, .int .i64 (u : Int)] (x01.trans x2)
    simp (decide := true) only [go_sem, W_region, Wx_some, Nat.reduceAdd, Nat.reduceMul, Nat.reduceEqDiff, Int.reduceAdd, Int.reduceSub, Int.reduceMul, Int.reduceNeg, Int.reduceToNat, i2', z2, j0, ew, gw]
    rfl
  | false =>
    rw [if_neg (by simp)]
    obtain ⟨w', ew, gw⟩ := fin w2 [.int .i64 0, .int .i32 0, .int .i32 0, .string ByteArray.empty, .int .i64 0, .int .i64 0] (x01.trans x2)
    simp (decide := true) only [go_sem, W_region, Wx_some, Nat.reduceAdd, Nat.reduceMul, Nat.reduceEqDiff, Int.reduceAdd, Int.reduceSub, Int.reduceMul, Int.reduceNeg, Int.reduceToNat, z2, j0, ew, gw]
    rfl
end
end Go.Proofs.YtjlaenglmdpboaaGreat.F5
