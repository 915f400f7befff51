/- Proved here: the document's phrases: the function that ends at a place, of every list of tokens and of names; what a phrase may take. -/
import Derived.Test.YtjlaenglmdpboaaGreatF1
set_option linter.unusedSimpArgs false
set_option linter.unusedVariables false
namespace Go.Im.Lexing
/-- A function among tokens. -/
structure Ph where
  k : Int
  f : Int
  g : Int
  w : ByteArray
  c : Int
  p : Int
def Ph.l (x : Ph) : List Value := [.int .i64 x.k, .int .i32 x.f, .int .i32 x.g, .string x.w, .int .i64 x.c, .int .i64 x.p]
def Ph.v (x : Ph) : Value := .agg x.l.toArray
def phZ : Ph := ⟨0, 0, 0, ByteArray.empty, 0, 0⟩
def readT (names : List NR) (ts : List (Nat × Tk)) (i : Int) : Ph × Bool :=
  if kindT ts i = 4 then
    if markT ts (i - 1) 46 then
      if kindT ts (i - 2) = 4 then (⟨5, signT ts (i - 2), signT ts i, ByteArray.empty, 0, i - 2⟩, true)
      else if markT ts (i - 2) 8728 then (⟨6, 0, signT ts i, ByteArray.empty, 0, i - 2⟩, true) else (phZ, false)
    else if signT ts i = 9038 then (⟨2, 0, 0, ByteArray.empty, 0, i⟩, true) else (⟨1, 0, signT ts i, ByteArray.empty, 0, i⟩, true)
  else if kindT ts i = 5 then
    if kindT ts (i - 1) = 4 then (⟨3, signT ts i, signT ts (i - 1), ByteArray.empty, 0, i - 1⟩, true) else (⟨4, signT ts i, 0, ByteArray.empty, 0, i⟩, true)
  else if kindT ts i = 2 ∨ kindT ts i = 3 then
    if classT names ts i = 3 ∨ classT names ts i = 4 then (⟨(kindT ts i : Int) + 5, 0, 0, wordT ts i, classT names ts i, i⟩, true) else (phZ, false)
  else (phZ, false)
def alongT (k : Int) : Bool := decide (k = 1) || (decide (k = 3) || decide (k = 4))
def fitsT (k c : Int) (two : Bool) : Bool := if k = 1 then true else if k = 2 ∨ k = 3 then !two else if 4 ≤ k ∧ k ≤ 6 then two else decide (two = decide (c = 4))
theorem kindT_in {ts : List (Nat × Tk)} {i : Int} (h : kindT ts i ≠ 0) : ∃ n : Nat, i = (n : Int) ∧ n < ts.length := by
  have h0 : ¬ (i < 0 ∨ (ts.length : Int) ≤ i) := fun hh => h (out_of hh).1
  exact ⟨i.toNat, by omega, by omega⟩
theorem signT_at {ts : List (Nat × Tk)} {i : Nat} {t : Nat × Tk} (h : ts[i]? = some t) : signT ts (i : Int) = t.2.sign := by
  simp only [signT, Int.toNat_natCast, h]
theorem wordT_at {ts : List (Nat × Tk)} {i : Nat} {t : Nat × Tk} (h : ts[i]? = some t) : wordT ts (i : Int) = runesBytes t.2.word := by
  simp only [wordT, Int.toNat_natCast, h]
end Go.Im.Lexing
namespace Go.Proofs.YtjlaenglmdpboaaGreat.F4
open Go Go.Im Go.Im.Limbs Go.Im.Lexing Go.Proofs Go.RowKit Go.Proofs.YtjlaenglmdpboaaGreat.Hd Go.Proofs.YtjlaenglmdpboaaGreat.N18 Go.Proofs.YtjlaenglmdpboaaGreat.N19 Go.Proofs.YtjlaenglmdpboaaGreat.N23 Go.Proofs.YtjlaenglmdpboaaGreat.N26 Go.Proofs.YtjlaenglmdpboaaGreat.R8 Go.Proofs.YtjlaenglmdpboaaGreat.R9 Go.Proofs.YtjlaenglmdpboaaGreat.T1 Go.Proofs.YtjlaenglmdpboaaGreat.F1
set_option maxRecDepth 100000

theorem or_run (x : Ph) (b : Bool) (h : Heap) : Runs K f_ref32_Phrase_or #[x.v, .bool b] h fun r _ => r = .tuple #[(if b then x else phZ).v, .bool b] := by
  obtain ⟨k, f, g, w, c, p⟩ := x
  refine Runs.of Kok (Does.intro rfl (by decide +kernel) F_ref32_Phrase_or rfl ?_)
  obtain ⟨w0, e0, x0, hs0, z0, z1⟩ := lay2 h (.cells [.int .i64 k, .int .i32 f, .int .i32 g, .string w, .int .i64 c, .int .i64 p] 6) (.cells [.int .i64 0, .int .i32 0, .int .i32 0, .string ByteArray.empty, .int .i64 0, .int .i64 0] 6)
  have j1 : h.size ≤ h.size + 1 := by omega
  cases b with
  | true =>
    obtain ⟨w1, e1, x1, hs1, g1, _⟩ := put1 x0 j1 (.cells [.int .i64 k, .int .i32 f, .int .i32 g, .string w, .int .i64 c, .int .i64 p] 6)
    simp (decide := true) only [go_sem, W_region, Wx_some, Nat.reduceAdd, Nat.reduceMul, Nat.reduceEqDiff, Int.reduceAdd, Int.reduceSub, Int.reduceMul, Int.reduceNeg, Int.reduceToNat, Ph.v, Ph.l, e0, z0, z1, j1, e1, g1]
  | false =>
    obtain ⟨w1, e1, x1, hs1, g1, _⟩ := put1 x0 j1 (.cells [.int .i64 0, .int .i32 0, .int .i32 0, .string ByteArray.empty, .int .i64 0, .int .i64 0] 6)
    simp (decide := true) only [go_sem, W_region, Wx_some, Nat.reduceAdd, Nat.reduceMul, Nat.reduceEqDiff, Int.reduceAdd, Int.reduceSub, Int.reduceMul, Int.reduceNeg, Int.reduceToNat, Ph.v, Ph.l, e0, z0, z1, j1, e1, g1]
    rfl
theorem ralong_run (x : Ph) (h : Heap) : Runs K f_ref32_Along #[x.v] h fun r _ => r = .bool (alongT x.k) := by
  obtain ⟨k, f, g, w, c, p⟩ := x
  refine Runs.of Kok (Does.intro rfl (by decide +kernel) F_ref32_Along rfl ?_)
  obtain ⟨w0, e0, x0, hs0, z0⟩ := lay1 h (.cells [.int .i64 k, .int .i32 f, .int .i32 g, .string w, .int .i64 c, .int .i64 p] 6)
  by_cases h1 : k = 1
  · subst h1
    simp (decide := true) only [go_sem, W_region, Wx_some, Nat.reduceAdd, Nat.reduceMul, Nat.reduceEqDiff, Int.reduceAdd, Int.reduceSub, Int.reduceMul, Int.reduceNeg, Int.reduceToNat, Ph.v, Ph.l, e0, z0]
    simp [alongT]
  by_cases h3 : k = 3
  · subst h3
    simp (decide := true) only [go_sem, W_region, Wx_some, Nat.reduceAdd, Nat.reduceMul, Nat.reduceEqDiff, Int.reduceAdd, Int.reduceSub, Int.reduceMul, Int.reduceNeg, Int.reduceToNat, Ph.v, Ph.l, e0, z0]
    simp [alongT]
  simp (decide := true) only [go_sem, W_region, Wx_some, Nat.reduceAdd, Nat.reduceMul, Nat.reduceEqDiff, Int.reduceAdd, Int.reduceSub, Int.reduceMul, Int.reduceNeg, Int.reduceToNat, Ph.v, Ph.l, e0, z0, h1, h3]
  simp [alongT, h1, h3]
theorem rfits_run (x : Ph) (two : Bool) (h : Heap) : Runs K f_ref32_Fits #[x.v, .bool two] h fun r _ => r = .bool (fitsT x.k x.c two) := by
  obtain ⟨k, f, g, w, c, p⟩ := x
  refine Runs.of Kok (Does.intro rfl (by decide +kernel) F_ref32_Fits rfl ?_)
  obtain ⟨w0, e0, x0, hs0, z0⟩ := lay1 h (.cells [.int .i64 k, .int .i32 f, .int .i32 g, .string w, .int .i64 c, .int .i64 p] 6)
  unfold fitsT
  by_cases h1 : k = 1
  · subst h1
    simp (decide := true) only [go_sem, W_region, Wx_some, Nat.reduceAdd, Nat.reduceMul, Nat.reduceEqDiff, Int.reduceAdd, Int.reduceSub, Int.reduceMul, Int.reduceNeg, Int.reduceToNat, Ph.v, Ph.l, e0, z0]
  by_cases h2 : k = 2
  · subst h2
    simp (decide := true) only [go_sem, W_region, Wx_some, Nat.reduceAdd, Nat.reduceMul, Nat.reduceEqDiff, Int.reduceAdd, Int.reduceSub, Int.reduceMul, Int.reduceNeg, Int.reduceToNat, Ph.v, Ph.l, e0, z0]
  by_cases h3 : k = 3
  · subst h3
    simp (decide := true) only [go_sem, W_region, Wx_some, Nat.reduceAdd, Nat.reduceMul, Nat.reduceEqDiff, Int.reduceAdd, Int.reduceSub, Int.reduceMul, Int.reduceNeg, Int.reduceToNat, Ph.v, Ph.l, e0, z0]
  by_cases h4 : 4 ≤ k
  · by_cases h6 : k ≤ 6
    · simp (decide := true) only [go_sem, W_region, Wx_some, Nat.reduceAdd, Nat.reduceMul, Nat.reduceEqDiff, Int.reduceAdd, Int.reduceSub, Int.reduceMul, Int.reduceNeg, Int.reduceToNat, Ph.v, Ph.l, e0, z0, h1, h2, h3, h4, h6]
    · simp (decide := true) only [go_sem, W_region, Wx_some, Nat.reduceAdd, Nat.reduceMul, Nat.reduceEqDiff, Int.reduceAdd, Int.reduceSub, Int.reduceMul, Int.reduceNeg, Int.reduceToNat, Ph.v, Ph.l, e0, z0, h1, h2, h3, h4, h6]
  · simp (decide := true) only [go_sem, W_region, Wx_some, Nat.reduceAdd, Nat.reduceMul, Nat.reduceEqDiff, Int.reduceAdd, Int.reduceSub, Int.reduceMul, Int.reduceNeg, Int.reduceToNat, Ph.v, Ph.l, e0, z0, h1, h2, h3, h4]
    simp [h1, h2, h3, h4]

set_option maxHeartbeats 4000000 in
theorem rread_run (ys : List XT) (h : Heap) {a : Option Addr} {c : Nat} (s : Sl h 8 a ys.length c (xcs ys)) (hA : ∀ x ∈ ys, Arr4 x.2) (hl : ys.length ≤ 1000) (names : List NR) (i : Int) {na : Option Addr} {nc : Nat} (sn : Sl h 2 na names.length nc (ncells names)) (hn : names.length ≤ 1000) :
    Runs K f_ref32_Read #[.slice a ys.length c, .int .i64 i, .slice na names.length nc] h fun r w => r = .tuple #[(readT names (ys.map (·.1)) i).1.v, .bool (readT names (ys.map (·.1)) i).2] := by
  refine Runs.of Kok (Does.intro rfl (by decide +kernel) F_ref32_Read rfl ?_)
  obtain ⟨w0, e0, x0, hs0, z0⟩ := lay1 h (.cells [.int .i64 0, .int .i32 0, .int .i32 0, .string ByteArray.empty, .int .i64 0, .int .i64 0] 6)
  have s0 := s.ext x0
  have sn0 := sn.ext x0
  have j0 : h.size ≤ h.size := Nat.le_refl _
  obtain ⟨ts, hts⟩ : ∃ ts, ts = ys.map (·.1) := ⟨_, rfl⟩
  have kn : ∀ j : Int, Runs K f_ref32_kind #[.slice a ys.length c, .int .i64 j] w0 fun r w => r = .int .i64 ((kindT ts j : Nat) : Int) ∧ w = w0 := fun j => by rw [hts]; exact kind22_run ys w0 s0 hA j
  have mk : ∀ j y : Int, Runs K f_ref32_mark #[.slice a ys.length c, .int .i64 j, .int .i32 y] w0 fun r w => r = .bool (markT ts j y) ∧ w = w0 := fun j y => by rw [hts]; exact mark22_run ys w0 s0 hA j y
  have cl : kindT ts i = 2 ∨ kindT ts i = 3 → Runs K f_ref32_class #[.slice a ys.length c, .int .i64 i, .slice na names.length nc] w0 fun r w => r = .int .i64 (classT names ts i) := fun hk => by rw [hts] at hk ⊢; exact class22_run ys w0 s0 hA names i hk sn0 hn
  have fin : ∀ (w : Heap) (C : List Value), Ext h w → ∃ w', w.set h.size (.cells C 6) = w' ∧ w'.get h.size = .cells C 6 := fun w C xw => by
    obtain ⟨w1, e1, x1, hs1, g1, _⟩ := put1 xw j0 (.cells C 6)
    exact ⟨w1, e1, g1⟩
  -- a token of the list, by its place
  have tok : ∀ {n : Nat}, n < ts.length → ∃ b o cs k, a = some ⟨b, o, none⟩ ∧ b < w0.size ∧ (w0.get b).read = .cells cs 8 ∧ cs[o + n * 8]? = some (.int .i64 ((kindT ts (n : Int) : Nat) : Int)) ∧ cs[o + n * 8 + 2]? = some (.string (wordT ts (n : Int))) ∧ cs[o + n * 8 + 3]? = some (.int .i32 (signT ts (n : Int))) ∧ k = n := by
    intro n hn
    rw [hts, List.length_map] at hn
    obtain ⟨Y, hY⟩ : ∃ Y, ys[n]? = some Y := ⟨_, List.getElem?_eq_getElem hn⟩
    have hYm : ts[n]? = some Y.1 := by rw [hts, List.getElem?_map, hY]; rfl
    obtain ⟨b1, o1, cs1, rfl, p2, p3, p4, _, p5, p6, _, _⟩ := Sl.tok8 s0 hA rfl hY
    exact ⟨b1, o1, cs1, n, rfl, p2, p3, by rw [kindT_at hYm]; exact p4, by rw [wordT_at hYm]; exact p5, by rw [signT_at hYm]; exact p6, rfl⟩
  have hlen : ts.length = ys.length := by rw [hts, List.length_map]
  rw [← hts]
  simp (decide := true) only [go_sem, W_region, Wx_some, Nat.reduceAdd, Nat.reduceMul, Nat.reduceEqDiff, Int.reduceAdd, Int.reduceSub, Int.reduceMul, Int.reduceNeg, Int.reduceToNat, e0]
  refine W_call Kok x0.1 (kn i) fun r w x hr => ?_
  obtain ⟨rfl, rfl⟩ := hr
  unfold readT
  by_cases k4 : kindT ts i = 4
  · rw [if_pos k4]
    have k4' : ((kindT ts i : Nat) : Int) = 4 := by omega
    obtain ⟨n, rfl, hn'⟩ := kindT_in (ts := ts) (i := i) (by rw [k4]; omega)
    obtain ⟨b, o, cs, _, rfl, hb, hcs, p4, p5, p6, _⟩ := tok hn'
    have i1 : IntKind.i64.wrap ((n : Int) - 1) = (n : Int) - 1 := wrap_i64 (by omega) (by omega)
    have i2 : IntKind.i64.wrap ((n : Int) - 2) = (n : Int) - 2 := wrap_i64 (by omega) (by omega)
    have c0 : (0 : Int) ≤ (n : Int) := by omega
    have c1 : (n : Int) < ((ys.length : Nat) : Int) := by omega
    simp (decide := true) only [go_sem, W_region, Wx_some, Nat.reduceAdd, Nat.reduceMul, Nat.reduceEqDiff, Int.reduceAdd, Int.reduceSub, Int.reduceMul, Int.reduceNeg, Int.reduceToNat, k4', i1]
    refine W_call Kok x0.1 (mk ((n : Int) - 1) 46) fun r w' x hr => ?_
    obtain ⟨rfl, hw⟩ := hr
    have hw := hw.symm
    subst hw
    cases hm : markT ts ((n : Int) - 1) 46 with
    | true =>
      rw [if_pos rfl]
      simp (decide := true) only [go_sem, W_region, Wx_some, Nat.reduceAdd, Nat.reduceMul, Nat.reduceEqDiff, Int.reduceAdd, Int.reduceSub, Int.reduceMul, Int.reduceNeg, Int.reduceToNat, i2]
      refine W_call Kok x0.1 (kn ((n : Int) - 2)) fun r w' x hr => ?_
      obtain ⟨rfl, hw⟩ := hr
      have hw := hw.symm
      subst hw
      by_cases g4 : kindT ts ((n : Int) - 2) = 4
      · rw [if_pos g4]
        have g4' : ((kindT ts ((n : Int) - 2) : Nat) : Int) = 4 := by omega
        obtain ⟨m, hmm, hm'⟩ := kindT_in (ts := ts) (i := (n : Int) - 2) (by rw [g4]; omega)
        obtain ⟨b2, o2, cs2, _, hq, hb2, hcs2, q4, q5, q6, _⟩ := tok hm'
        cases hq
        rw [hcs] at hcs2
        cases hcs2
        have d0 : (0 : Int) ≤ (m : Int) := by omega
        have d1 : (m : Int) < ((ys.length : Nat) : Int) := by omega
        have i2' := i2.trans hmm
        rw [hmm] at g4' ⊢
        obtain ⟨w', ew, gw⟩ := fin w [.int .i64 5, .int .i32 (signT ts (m : Int)), .int .i32 (signT ts (n : Int)), .string ByteArray.empty, .int .i64 0, .int .i64 (m : Int)] x0
        simp (decide := true) only [go_sem, W_region, Wx_some, Nat.reduceAdd, Nat.reduceMul, Nat.reduceEqDiff, Int.reduceAdd, Int.reduceSub, Int.reduceMul, Int.reduceNeg, Int.reduceToNat, g4', i2', c0, c1, d0, d1, Int.toNat_natCast, hcs, p6, q6, z0, j0, ew, gw]
        rfl
      rw [if_neg g4]
      have g4' : ¬ ((kindT ts ((n : Int) - 2) : Nat) : Int) = 4 := by omega
      simp (decide := true) only [go_sem, W_region, Wx_some, Nat.reduceAdd, Nat.reduceMul, Nat.reduceEqDiff, Int.reduceAdd, Int.reduceSub, Int.reduceMul, Int.reduceNeg, Int.reduceToNat, g4', i2, c0, c1, Int.toNat_natCast, hcs, p6]
      refine W_call Kok x0.1 (mk ((n : Int) - 2) 8728) fun r w' x hr => ?_
      obtain ⟨rfl, hw⟩ := hr
      have hw := hw.symm
      subst hw
      simp (decide := true) only [go_sem, W_region, Wx_some, Nat.reduceAdd, Nat.reduceMul, Nat.reduceEqDiff, Int.reduceAdd, Int.reduceSub, Int.reduceMul, Int.reduceNeg, Int.reduceToNat]
      refine W_call Kok x0.1 (or_run ⟨6, 0, signT ts (n : Int), ByteArray.empty, 0, (n : Int) - 2⟩ (markT ts ((n : Int) - 2) 8728) w) fun r w1 x1 hr => ?_
      subst hr
      have z1 : w1.get h.size = _ := (x1.2 _ (by omega)).trans z0
      cases hm2 : markT ts ((n : Int) - 2) 8728 with
      | true =>
        obtain ⟨w', ew, gw⟩ := fin w1 [.int .i64 6, .int .i32 0, .int .i32 (signT ts (n : Int)), .string ByteArray.empty, .int .i64 0, .int .i64 ((n : Int) - 2)] (x0.trans x1)
        simp (decide := true) only [go_sem, W_region, Wx_some, Nat.reduceAdd, Nat.reduceMul, Nat.reduceEqDiff, Int.reduceAdd, Int.reduceSub, Int.reduceMul, Int.reduceNeg, Int.reduceToNat, Ph.v, Ph.l, z1, j0, ew, gw]
      | false =>
        obtain ⟨w', ew, gw⟩ := fin w1 [.int .i64 0, .int .i32 0, .int .i32 0, .string ByteArray.empty, .int .i64 0, .int .i64 0] (x0.trans x1)
        simp (decide := true) only [go_sem, W_region, Wx_some, Nat.reduceAdd, Nat.reduceMul, Nat.reduceEqDiff, Int.reduceAdd, Int.reduceSub, Int.reduceMul, Int.reduceNeg, Int.reduceToNat, Ph.v, Ph.l, phZ, z1, j0, ew, gw]
    | false =>
      rw [if_neg (by simp)]
      by_cases s9 : signT ts (n : Int) = 9038
      · rw [if_pos s9]
        obtain ⟨w', ew, gw⟩ := fin w [.int .i64 2, .int .i32 0, .int .i32 0, .string ByteArray.empty, .int .i64 0, .int .i64 (n : Int)] x0
        simp (decide := true) only [go_sem, W_region, Wx_some, Nat.reduceAdd, Nat.reduceMul, Nat.reduceEqDiff, Int.reduceAdd, Int.reduceSub, Int.reduceMul, Int.reduceNeg, Int.reduceToNat, k4', c0, c1, Int.toNat_natCast, hcs, p6, s9, z0, j0, ew, gw]
        rfl
      · rw [if_neg s9]
        obtain ⟨w', ew, gw⟩ := fin w [.int .i64 1, .int .i32 0, .int .i32 (signT ts (n : Int)), .string ByteArray.empty, .int .i64 0, .int .i64 (n : Int)] x0
        simp (decide := true) only [go_sem, W_region, Wx_some, Nat.reduceAdd, Nat.reduceMul, Nat.reduceEqDiff, Int.reduceAdd, Int.reduceSub, Int.reduceMul, Int.reduceNeg, Int.reduceToNat, k4', c0, c1, Int.toNat_natCast, hcs, p6, s9, z0, j0, ew, gw]
        rfl
  rw [if_neg k4]
  have k4' : ¬ ((kindT ts i : Nat) : Int) = 4 := by omega
  by_cases k5 : kindT ts i = 5
  · rw [if_pos k5]
    have k5' : ((kindT ts i : Nat) : Int) = 5 := by omega
    obtain ⟨n, rfl, hn'⟩ := kindT_in (ts := ts) (i := i) (by rw [k5]; omega)
    obtain ⟨b, o, cs, _, rfl, hb, hcs, p4, p5, p6, _⟩ := tok hn'
    have i1 : IntKind.i64.wrap ((n : Int) - 1) = (n : Int) - 1 := wrap_i64 (by omega) (by omega)
    have c0 : (0 : Int) ≤ (n : Int) := by omega
    have c1 : (n : Int) < ((ys.length : Nat) : Int) := by omega
    simp (decide := true) only [go_sem, W_region, Wx_some, Nat.reduceAdd, Nat.reduceMul, Nat.reduceEqDiff, Int.reduceAdd, Int.reduceSub, Int.reduceMul, Int.reduceNeg, Int.reduceToNat, k4', k5', i1]
    refine W_call Kok x0.1 (kn ((n : Int) - 1)) fun r w' x hr => ?_
    obtain ⟨rfl, hw⟩ := hr
    have hw := hw.symm
    subst hw
    by_cases g4 : kindT ts ((n : Int) - 1) = 4
    · rw [if_pos g4]
      have g4' : ((kindT ts ((n : Int) - 1) : Nat) : Int) = 4 := by omega
      obtain ⟨m, hmm, hm'⟩ := kindT_in (ts := ts) (i := (n : Int) - 1) (by rw [g4]; omega)
      obtain ⟨b2, o2, cs2, _, hq, hb2, hcs2, q4, q5, q6, _⟩ := tok hm'
      cases hq
      rw [hcs] at hcs2
      cases hcs2
      have d0 : (0 : Int) ≤ (m : Int) := by omega
      have d1 : (m : Int) < ((ys.length : Nat) : Int) := by omega
      have i1' := i1.trans hmm
      rw [hmm] at g4' ⊢
      obtain ⟨w', ew, gw⟩ := fin w [.int .i64 3, .int .i32 (signT ts (n : Int)), .int .i32 (signT ts (m : Int)), .string ByteArray.empty, .int .i64 0, .int .i64 (m : Int)] x0
      simp (decide := true) only [go_sem, W_region, Wx_some, Nat.reduceAdd, Nat.reduceMul, Nat.reduceEqDiff, Int.reduceAdd, Int.reduceSub, Int.reduceMul, Int.reduceNeg, Int.reduceToNat, g4', i1', c0, c1, d0, d1, Int.toNat_natCast, hcs, p6, q6, z0, j0, ew, gw]
      rfl
    · rw [if_neg g4]
      have g4' : ¬ ((kindT ts ((n : Int) - 1) : Nat) : Int) = 4 := by omega
      obtain ⟨w', ew, gw⟩ := fin w [.int .i64 4, .int .i32 (signT ts (n : Int)), .int .i32 0, .string ByteArray.empty, .int .i64 0, .int .i64 (n : Int)] x0
      simp (decide := true) only [go_sem, W_region, Wx_some, Nat.reduceAdd, Nat.reduceMul, Nat.reduceEqDiff, Int.reduceAdd, Int.reduceSub, Int.reduceMul, Int.reduceNeg, Int.reduceToNat, g4', k5', c0, c1, Int.toNat_natCast, hcs, p6, z0, j0, ew, gw]
      rfl
  rw [if_neg k5]
  have k5' : ¬ ((kindT ts i : Nat) : Int) = 5 := by omega
  by_cases k23 : kindT ts i = 2 ∨ kindT ts i = 3
  case neg =>
    rw [if_neg k23]
    have k2' : ¬ ((kindT ts i : Nat) : Int) = 2 := by omega
    have k3' : ¬ ((kindT ts i : Nat) : Int) = 3 := by omega
    obtain ⟨w', ew, gw⟩ := fin w [.int .i64 0, .int .i32 0, .int .i32 0, .string ByteArray.empty, .int .i64 0, .int .i64 0] x0
    simp (decide := true) only [go_sem, W_region, Wx_some, Nat.reduceAdd, Nat.reduceMul, Nat.reduceEqDiff, Int.reduceAdd, Int.reduceSub, Int.reduceMul, Int.reduceNeg, Int.reduceToNat, k4', k5', k2', k3', z0, j0, ew, gw]
    rfl
  rw [if_pos k23]
  obtain ⟨n, rfl, hn'⟩ := kindT_in (ts := ts) (i := i) (by rcases k23 with h2 | h2 <;> rw [h2] <;> omega)
  obtain ⟨b, o, cs, _, rfl, hb, hcs, p4, p5, p6, _⟩ := tok hn'
  have c0 : (0 : Int) ≤ (n : Int) := by omega
  have c1 : (n : Int) < ((ys.length : Nat) : Int) := by omega
  have hcl := cl k23
  generalize hC : classT names ts (n : Int) = C at hcl ⊢
  obtain ⟨kk, hkk⟩ : ∃ kk, kk = kindT ts (n : Int) := ⟨_, rfl⟩
  rw [← hkk] at k4' k5' k23 ⊢
  have i5 : IntKind.i64.wrap ((kk : Int) + 5) = (kk : Int) + 5 := wrap_i64 (by omega) (by omega)
  have tail : ∀ (w1 : Heap), Ext w w1 → ∃ z1 : w1.get h.size = .cells [.int .i64 0, .int .i32 0, .int .i32 0, .string ByteArray.empty, .int .i64 0, .int .i64 0] 6, (w1.get b).read = .cells cs 8 := fun w1 x1 => ⟨(x1.2 _ (by omega)).trans z0, by rw [x1.2 _ hb]; exact hcs⟩
  have go : ∀ {w1 : Heap}, Ext w w1 → ∀ bb : Bool, bb = decide (C = 3 ∨ C = 4) → True := fun _ _ _ => trivial
  have done : ∀ (w1 w2 : Heap), Ext w w1 → Ext w1 w2 → ∀ (cc : Bool), ∃ w' z', w2.set h.size (.cells (if cc then (⟨(kk : Int) + 5, 0, 0, wordT ts (n : Int), C, (n : Int)⟩ : Ph) else phZ).l 6) = w' ∧ w'.get h.size = .cells (if cc then (⟨(kk : Int) + 5, 0, 0, wordT ts (n : Int), C, (n : Int)⟩ : Ph) else phZ).l 6 ∧ w2.get h.size = z' ∧ z' = .cells [.int .i64 0, .int .i32 0, .int .i32 0, .string ByteArray.empty, .int .i64 0, .int .i64 0] 6 := fun w1 w2 x1 x2 cc => by
    obtain ⟨w', ew, gw⟩ := fin w2 (if cc then (⟨(kk : Int) + 5, 0, 0, wordT ts (n : Int), C, (n : Int)⟩ : Ph) else phZ).l (x0.trans (x1.trans x2))
    exact ⟨w', _, ew, gw, (((x1.trans x2).2 _ (by omega)).trans z0), rfl⟩
  have fork : (kk : Int) = 2 ∨ ((¬ (kk : Int) = 2) ∧ (kk : Int) = 3) := by omega
  have rest : ∀ (cc : Bool), cc = decide (C = 3 ∨ C = 4) → ((if C = 3 ∨ C = 4 then ((⟨(kk : Int) + 5, 0, 0, wordT ts (n : Int), C, (n : Int)⟩ : Ph), true) else (phZ, false)).1 = if cc then (⟨(kk : Int) + 5, 0, 0, wordT ts (n : Int), C, (n : Int)⟩ : Ph) else phZ) ∧ (if C = 3 ∨ C = 4 then ((⟨(kk : Int) + 5, 0, 0, wordT ts (n : Int), C, (n : Int)⟩ : Ph), true) else (phZ, false)).2 = cc := by
    intro cc hcc
    by_cases hc : C = 3 ∨ C = 4
    · rw [if_pos hc, hcc, decide_eq_true hc]
      exact ⟨rfl, rfl⟩
    · rw [if_neg hc, hcc, decide_eq_false hc]
      exact ⟨rfl, rfl⟩
  by_cases c3 : C = 3
  · obtain ⟨r1, r2⟩ := rest true (by simp [c3])
    rw [r1, r2]
    rcases fork with k2' | ⟨k2', k3'⟩
    · simp (decide := true) only [go_sem, W_region, Wx_some, Nat.reduceAdd, Nat.reduceMul, Nat.reduceEqDiff, Int.reduceAdd, Int.reduceSub, Int.reduceMul, Int.reduceNeg, Int.reduceToNat, k4', k5', k2']
      refine W_call Kok x0.1 hcl fun r w1 x1 hr => ?_
      subst hr
      obtain ⟨z1, hcs1⟩ := tail w1 x1
      simp (decide := true) only [go_sem, W_region, Wx_some, Nat.reduceAdd, Nat.reduceMul, Nat.reduceEqDiff, Int.reduceAdd, Int.reduceSub, Int.reduceMul, Int.reduceNeg, Int.reduceToNat, show IntKind.i64.wrap 7 = 7 from rfl, k2', c0, c1, Int.toNat_natCast, hcs1, p5, c3]
      rw [k2', show (2 : Int) + 5 = 7 from rfl, c3] at done
      refine W_call Kok (x0.trans x1).1 (or_run ⟨7, 0, 0, wordT ts (n : Int), 3, (n : Int)⟩ true w1) fun r w2 x2 hr => ?_
      subst hr
      obtain ⟨w', z', ew, gw, hz, hz'⟩ := done w1 w2 x1 x2 true
      subst hz'
      simp only [if_true, Ph.l] at ew gw
      simp (decide := true) only [go_sem, W_region, Wx_some, Nat.reduceAdd, Nat.reduceMul, Nat.reduceEqDiff, Int.reduceAdd, Int.reduceSub, Int.reduceMul, Int.reduceNeg, Int.reduceToNat, Ph.v, Ph.l, hz, j0, ew, gw]
    · simp (decide := true) only [go_sem, W_region, Wx_some, Nat.reduceAdd, Nat.reduceMul, Nat.reduceEqDiff, Int.reduceAdd, Int.reduceSub, Int.reduceMul, Int.reduceNeg, Int.reduceToNat, k4', k5', k2', k3']
      refine W_call Kok x0.1 hcl fun r w1 x1 hr => ?_
      subst hr
      obtain ⟨z1, hcs1⟩ := tail w1 x1
      simp (decide := true) only [go_sem, W_region, Wx_some, Nat.reduceAdd, Nat.reduceMul, Nat.reduceEqDiff, Int.reduceAdd, Int.reduceSub, Int.reduceMul, Int.reduceNeg, Int.reduceToNat, show IntKind.i64.wrap 8 = 8 from rfl, k3', c0, c1, Int.toNat_natCast, hcs1, p5, c3]
      rw [k3', show (3 : Int) + 5 = 8 from rfl, c3] at done
      refine W_call Kok (x0.trans x1).1 (or_run ⟨8, 0, 0, wordT ts (n : Int), 3, (n : Int)⟩ true w1) fun r w2 x2 hr => ?_
      subst hr
      obtain ⟨w', z', ew, gw, hz, hz'⟩ := done w1 w2 x1 x2 true
      subst hz'
      simp only [if_true, Ph.l] at ew gw
      simp (decide := true) only [go_sem, W_region, Wx_some, Nat.reduceAdd, Nat.reduceMul, Nat.reduceEqDiff, Int.reduceAdd, Int.reduceSub, Int.reduceMul, Int.reduceNeg, Int.reduceToNat, Ph.v, Ph.l, hz, j0, ew, gw]
  · obtain ⟨r1, r2⟩ := rest (decide (C = 4)) (by simp [c3])
    rw [r1, r2]
    rcases fork with k2' | ⟨k2', k3'⟩
    · simp (decide := true) only [go_sem, W_region, Wx_some, Nat.reduceAdd, Nat.reduceMul, Nat.reduceEqDiff, Int.reduceAdd, Int.reduceSub, Int.reduceMul, Int.reduceNeg, Int.reduceToNat, k4', k5', k2']
      refine W_call Kok x0.1 hcl fun r w1 x1 hr => ?_
      subst hr
      obtain ⟨z1, hcs1⟩ := tail w1 x1
      simp (decide := true) only [go_sem, W_region, Wx_some, Nat.reduceAdd, Nat.reduceMul, Nat.reduceEqDiff, Int.reduceAdd, Int.reduceSub, Int.reduceMul, Int.reduceNeg, Int.reduceToNat, show IntKind.i64.wrap 7 = 7 from rfl, k2', c0, c1, Int.toNat_natCast, hcs1, p5, c3]
      rw [k2', show (2 : Int) + 5 = 7 from rfl] at done
      refine W_call Kok (x0.trans x1).1 (or_run ⟨7, 0, 0, wordT ts (n : Int), C, (n : Int)⟩ (decide (C = 4)) w1) fun r w2 x2 hr => ?_
      subst hr
      obtain ⟨w', z', ew, gw, hz, hz'⟩ := done w1 w2 x1 x2 (decide (C = 4))
      subst hz'
      by_cases c4 : C = 4
      · simp only [c4, decide_true, if_true, Ph.l] at ew gw
        simp (decide := true) only [go_sem, W_region, Wx_some, Nat.reduceAdd, Nat.reduceMul, Nat.reduceEqDiff, Int.reduceAdd, Int.reduceSub, Int.reduceMul, Int.reduceNeg, Int.reduceToNat, Ph.v, Ph.l, hz, j0, ew, gw, c4]
      · simp only [decide_eq_false c4, Bool.false_eq_true, if_false, Ph.l, phZ] at ew gw
        simp (decide := true) only [go_sem, W_region, Wx_some, Nat.reduceAdd, Nat.reduceMul, Nat.reduceEqDiff, Int.reduceAdd, Int.reduceSub, Int.reduceMul, Int.reduceNeg, Int.reduceToNat, Ph.v, Ph.l, phZ, hz, j0, ew, gw, c4]
    · simp (decide := true) only [go_sem, W_region, Wx_some, Nat.reduceAdd, Nat.reduceMul, Nat.reduceEqDiff, Int.reduceAdd, Int.reduceSub, Int.reduceMul, Int.reduceNeg, Int.reduceToNat, k4', k5', k2', k3']
      refine W_call Kok x0.1 hcl fun r w1 x1 hr => ?_
      subst hr
      obtain ⟨z1, hcs1⟩ := tail w1 x1
      simp (decide := true) only [go_sem, W_region, Wx_some, Nat.reduceAdd, Nat.reduceMul, Nat.reduceEqDiff, Int.reduceAdd, Int.reduceSub, Int.reduceMul, Int.reduceNeg, Int.reduceToNat, show IntKind.i64.wrap 8 = 8 from rfl, k3', c0, c1, Int.toNat_natCast, hcs1, p5, c3]
      rw [k3', show (3 : Int) + 5 = 8 from rfl] at done
      refine W_call Kok (x0.trans x1).1 (or_run ⟨8, 0, 0, wordT ts (n : Int), C, (n : Int)⟩ (decide (C = 4)) w1) fun r w2 x2 hr => ?_
      subst hr
      obtain ⟨w', z', ew, gw, hz, hz'⟩ := done w1 w2 x1 x2 (decide (C = 4))
      subst hz'
      by_cases c4 : C = 4
      · simp only [c4, decide_true, if_true, Ph.l] at ew gw
        simp (decide := true) only [go_sem, W_region, Wx_some, Nat.reduceAdd, Nat.reduceMul, Nat.reduceEqDiff, Int.reduceAdd, Int.reduceSub, Int.reduceMul, Int.reduceNeg, Int.reduceToNat, Ph.v, Ph.l, hz, j0, ew, gw, c4]
      · simp only [decide_eq_false c4, Bool.false_eq_true, if_false, Ph.l, phZ] at ew gw
        simp (decide := true) only [go_sem, W_region, Wx_some, Nat.reduceAdd, Nat.reduceMul, Nat.reduceEqDiff, Int.reduceAdd, Int.reduceSub, Int.reduceMul, Int.reduceNeg, Int.reduceToNat, Ph.v, Ph.l, phZ, hz, j0, ew, gw, c4]
end Go.Proofs.YtjlaenglmdpboaaGreat.F4
