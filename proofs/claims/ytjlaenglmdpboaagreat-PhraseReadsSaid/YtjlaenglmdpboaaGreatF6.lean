/- Proved here: the program's phrases: the function that ends at any place; PhraseReads answers true at every line, every list of names and every place, laid in memory that is only read. -/
import Derived.Test.YtjlaenglmdpboaaGreatF3
import Derived.Test.YtjlaenglmdpboaaGreatF5
set_option linter.unusedSimpArgs false
set_option linter.unusedVariables false
namespace Go.Proofs.YtjlaenglmdpboaaGreat.F6
open Go Go.Im Go.Im.Limbs Go.Im.Lexing Go.Proofs Go.RowKit Go.Proofs.YtjlaenglmdpboaaGreat.Hd Go.Proofs.YtjlaenglmdpboaaGreat.N18 Go.Proofs.YtjlaenglmdpboaaGreat.N19 Go.Proofs.YtjlaenglmdpboaaGreat.N23 Go.Proofs.YtjlaenglmdpboaaGreat.N26 Go.Proofs.YtjlaenglmdpboaaGreat.R8 Go.Proofs.YtjlaenglmdpboaaGreat.R9 Go.Proofs.YtjlaenglmdpboaaGreat.T1 Go.Proofs.YtjlaenglmdpboaaGreat.F1 Go.Proofs.YtjlaenglmdpboaaGreat.F2 Go.Proofs.YtjlaenglmdpboaaGreat.F3 Go.Proofs.YtjlaenglmdpboaaGreat.F4 Go.Proofs.YtjlaenglmdpboaaGreat.F5
set_option maxRecDepth 100000

/-- The law's function of names. -/
theorem isP_run (names : List NR) (x : ByteArray) (h : Heap) {nb : Nat} {na : Option Addr} {nc : Nat} (hg : h.get nb = .cells [.slice na names.length nc] 1) (sn : Sl h 2 na names.length nc (ncells names)) (hn : names.length ≤ 1000) :
    Runs K f_law32_PhraseReads_1 #[.string x, .pointer (some ⟨nb, 0, none⟩)] h fun r w => r = .int .i64 (classN names x) := by
  refine Runs.of Kok (Does.intro rfl (by decide +kernel) F_law32_PhraseReads_1 rfl ?_)
  simp (decide := true) only [go_sem, W_region, Wx_some, Nat.reduceAdd, Nat.reduceMul, Nat.reduceEqDiff, Int.reduceAdd, Int.reduceSub, Int.reduceMul, Int.reduceNeg, Int.reduceToNat, hg]
  refine W_call Kok (Nat.le_refl _) (rclass_run names x h sn hn) fun r w x hr => ?_
  obtain ⟨rfl, rfl⟩ := hr
  simp (decide := true) only [go_sem, W_region, Wx_some, Nat.reduceAdd, Nat.reduceMul, Nat.reduceEqDiff, Int.reduceAdd, Int.reduceSub, Int.reduceMul, Int.reduceNeg, Int.reduceToNat]

section
variable (xs : List XT) (h : Heap) {a : Option Addr} {c : Nat} (s : Sl h 9 a xs.length c (xcs xs)) (hA : ∀ x ∈ xs, Arr5 x.2) (hl : xs.length ≤ 1000)
include s hA hl
set_option maxHeartbeats 4000000 in
theorem pread_run (names : List NR) (i : Int) {nb : Nat} (hnb : nb < h.size) {na : Option Addr} {nc : Nat} (hg : h.get nb = .cells [.slice na names.length nc] 1) (sn : Sl h 2 na names.length nc (ncells names)) (hn : names.length ≤ 1000) :
    Runs K f_phrase_Read #[.slice a xs.length c, .int .i64 i, .func (.func f_law32_PhraseReads_1) #[] #[.pointer (some ⟨nb, 0, none⟩)]] h fun r w => r = .tuple #[(readT names (xs.map (·.1)) i).1.v, .bool (readT names (xs.map (·.1)) i).2] := by
  refine Runs.of Kok (Does.intro rfl (by decide +kernel) F_phrase_Read rfl ?_)
  obtain ⟨w0, e0, x0, hs0, z0⟩ := lay1 h (.cells [.int .i64 0, .int .i32 0, .int .i32 0, .string ByteArray.empty, .int .i64 0, .int .i64 0] 6)
  have j0 : h.size ≤ h.size := Nat.le_refl _
  obtain ⟨ts, hts⟩ : ∃ ts, ts = xs.map (·.1) := ⟨_, rfl⟩
  have hlen : ts.length = xs.length := by rw [hts, List.length_map]
  rw [← hts]
  have fin : ∀ (w : Heap) (C : List Value), Ext h w → ∃ w', w.set h.size (.cells C 6) = w' ∧ w'.get h.size = .cells C 6 := fun w C xw => by
    obtain ⟨w1, e1, x1, hs1, g1, _⟩ := put1 xw j0 (.cells C 6)
    exact ⟨w1, e1, g1⟩
  unfold readT
  by_cases h0 : i < 0
  · obtain ⟨w', ew, gw⟩ := fin w0 [.int .i64 0, .int .i32 0, .int .i32 0, .string ByteArray.empty, .int .i64 0, .int .i64 0] x0
    rw [(out_of (ts := ts) (.inl h0)).1]
    simp (decide := true) only [go_sem, W_region, Wx_some, Nat.reduceAdd, Nat.reduceMul, Nat.reduceEqDiff, Int.reduceAdd, Int.reduceSub, Int.reduceMul, Int.reduceNeg, Int.reduceToNat, e0, h0, z0, j0, ew, gw]
    rfl
  by_cases h1 : ((xs.length : Nat) : Int) ≤ i
  · obtain ⟨w', ew, gw⟩ := fin w0 [.int .i64 0, .int .i32 0, .int .i32 0, .string ByteArray.empty, .int .i64 0, .int .i64 0] x0
    rw [(out_of (ts := ts) (.inr (by rw [hlen]; exact h1))).1]
    simp (decide := true) only [go_sem, W_region, Wx_some, Nat.reduceAdd, Nat.reduceMul, Nat.reduceEqDiff, Int.reduceAdd, Int.reduceSub, Int.reduceMul, Int.reduceNeg, Int.reduceToNat, e0, h0, h1, z0, j0, ew, gw]
    rfl
  obtain ⟨n, rfl⟩ := Int.eq_ofNat_of_zero_le (show 0 ≤ i by omega)
  have s0 := s.ext x0
  obtain ⟨X, b, o, cs, hX, rfl, hb, hcs, p4, p5, p6, p7, p8, hXA, hXm, hk, hw⟩ := tok_at xs w0 s0 hA hts (n := n) (by omega)
  have c0 : (0 : Int) ≤ (n : Int) := by omega
  have c1 : (n : Int) < ((xs.length : Nat) : Int) := by omega
  have hXA' := hXA
  obtain ⟨ta, tn, tc, tb, ta2, tn2, tc2, ta3, tn3, tc3, tm, hrest⟩ := hXA'
  have j1 : h.size ≤ w0.size := x0.1
  obtain ⟨w1, e1, x1, hs1, z1⟩ := lay1 w0 (.cells [.int .i64 0, .int .i64 0, .string ByteArray.empty, .int .i32 0, .slice none 0 0, .bool false, .slice none 0 0, .slice none 0 0, .bool false] 9)
  obtain ⟨w2, e2, x2, hs2, z2, k2⟩ := put1 (x0.trans x1) j1 (.cells (tc4 X.1 ++ X.2) 9)
  have x02 : Ext w0 w2 := ⟨by have := x1.1; omega, fun q hq => (k2 q (by omega)).trans (x1.2 q hq)⟩
  have hcl : tc4 X.1 ++ X.2 = [.int .i64 (X.1.2.kind : Int), .int .i64 (X.1.1 : Int), .string (runesBytes X.1.2.word), .int .i32 X.1.2.sign, .slice ta tn tc, .bool tb, .slice ta2 tn2 tc2, .slice ta3 tn3 tc3, .bool tm] := by rw [hrest]; rfl
  rw [hcl] at p7 e2 z2
  have zh : w2.get h.size = _ := (x02.2 _ (by omega)).trans z0
  have hgn : w2.get nb = .cells [.slice na names.length nc] 1 := by rw [x02.2 _ (by omega), x0.2 _ hnb]; exact hg
  have sn2 := sn.ext x2
  have hs9 : X.1.2.sign = signT ts (n : Int) := by
    have hXm' : ts[n]? = some X.1 := by rw [hts, List.getElem?_map, hX]; rfl
    exact (signT_at hXm').symm
  rw [hs9, ← hw, ← hk] at p7 e2 z2
  generalize hkk : kindT ts (n : Int) = kk at p7 e2 z2 ⊢
  have xh2 := x0.trans x02
  have dead : ∀ (w : Heap), Ext w2 w → w.get h.size = .cells [.int .i64 0, .int .i32 0, .int .i32 0, .string ByteArray.empty, .int .i64 0, .int .i64 0] 6 := fun w xw => (xw.2 _ (by have := x02.1; omega)).trans zh
  by_cases k4 : kk = 4
  · subst k4
    rw [if_pos rfl]
    simp only [Int.cast_ofNat_Int] at p7 e2 z2
    simp (decide := true) only [go_sem, W_region, Wx_some, Nat.reduceAdd, Nat.reduceMul, Nat.reduceEqDiff, Int.reduceAdd, Int.reduceSub, Int.reduceMul, Int.reduceNeg, Int.reduceToNat, e0, h0, h1, c0, c1, Int.toNat_natCast, hcs, p8, p7, e1, z1, j1, e2, z2]
    refine W_call Kok xh2.1 (fun_run xs w2 (s0.ext x02) hA hl n (by omega)) fun r w3 x3 hr => ?_
    subst hr
    rw [← hts]
    have hf : (if markT ts ((n : Int) - 1) 46 then
      if kindT ts ((n : Int) - 2) = 4 then ((⟨5, signT ts ((n : Int) - 2), signT ts (n : Int), ByteArray.empty, 0, (n : Int) - 2⟩ : Ph), true)
      else if markT ts ((n : Int) - 2) 8728 then (⟨6, 0, signT ts (n : Int), ByteArray.empty, 0, (n : Int) - 2⟩, true) else (phZ, false)
    else if signT ts (n : Int) = 9038 then (⟨2, 0, 0, ByteArray.empty, 0, (n : Int)⟩, true) else (⟨1, 0, signT ts (n : Int), ByteArray.empty, 0, (n : Int)⟩, true)) = funT ts (n : Int) := rfl
    rw [hf]
    generalize funT ts (n : Int) = F
    obtain ⟨⟨fk, ff, fg, fw, fc, fp⟩, fb⟩ := F
    have z3 := dead w3 x3
    obtain ⟨w', ew, gw⟩ := fin w3 [.int .i64 fk, .int .i32 ff, .int .i32 fg, .string fw, .int .i64 fc, .int .i64 fp] (xh2.trans x3)
    simp (decide := true) only [go_sem, W_region, Wx_some, Nat.reduceAdd, Nat.reduceMul, Nat.reduceEqDiff, Int.reduceAdd, Int.reduceSub, Int.reduceMul, Int.reduceNeg, Int.reduceToNat, Ph.v, Ph.l, z3, j0, ew, gw]
  rw [if_neg k4]
  have k4' : ¬ (kk : Int) = 4 := by omega
  by_cases k5 : kk = 5
  · subst k5
    rw [if_pos rfl]
    simp only [Int.cast_ofNat_Int] at p7 e2 z2
    by_cases n0 : (0 : Int) < (n : Int)
    case neg =>
      have g4 : ¬ kindT ts ((n : Int) - 1) = 4 := by rw [(out_of (.inl (by omega))).1]; omega
      rw [if_neg g4]
      obtain ⟨w', ew, gw⟩ := fin w2 [.int .i64 4, .int .i32 (signT ts (n : Int)), .int .i32 0, .string ByteArray.empty, .int .i64 0, .int .i64 (n : Int)] xh2
      simp (decide := true) only [go_sem, W_region, Wx_some, Nat.reduceAdd, Nat.reduceMul, Nat.reduceEqDiff, Int.reduceAdd, Int.reduceSub, Int.reduceMul, Int.reduceNeg, Int.reduceToNat, e0, h0, h1, c0, c1, Int.toNat_natCast, hcs, p8, p7, e1, z1, j1, e2, z2, n0, zh, j0, ew, gw]
      rfl
    obtain ⟨m, hm⟩ : ∃ m : Nat, (n : Int) - 1 = (m : Int) := ⟨n - 1, by omega⟩
    obtain ⟨Y, b2, o2, cs2, hY, hq, _, hcs2, q4, q5, q6, q7, q8, hYA, hYm, _⟩ := tok_at xs w2 (s0.ext x02) hA hts (n := m) (by omega)
    cases hq
    have d0 : (0 : Int) ≤ (m : Int) := by omega
    have d1 : (m : Int) < ((xs.length : Nat) : Int) := by omega
    have i1 : IntKind.i64.wrap ((n : Int) - 1) = (m : Int) := by rw [wrap_i64 (by omega) (by omega)]; exact hm
    rw [hm]
    by_cases g4 : kindT ts (m : Int) = 4
    · rw [if_pos g4]
      have g4' : ((kindT ts (m : Int) : Nat) : Int) = 4 := by omega
      rw [g4'] at q4
      obtain ⟨w', ew, gw⟩ := fin w2 [.int .i64 3, .int .i32 (signT ts (n : Int)), .int .i32 (signT ts (m : Int)), .string ByteArray.empty, .int .i64 0, .int .i64 (m : Int)] xh2
      simp (decide := true) only [go_sem, W_region, Wx_some, Nat.reduceAdd, Nat.reduceMul, Nat.reduceEqDiff, Int.reduceAdd, Int.reduceSub, Int.reduceMul, Int.reduceNeg, Int.reduceToNat, e0, h0, h1, c0, c1, Int.toNat_natCast, hcs, p8, p7, e1, z1, j1, e2, z2, n0, i1, d0, d1, hcs2, q4, q6, zh, j0, ew, gw, Nat.add_zero]
      rfl
    · rw [if_neg g4]
      have g4' : ¬ ((kindT ts (m : Int) : Nat) : Int) = 4 := by omega
      obtain ⟨w', ew, gw⟩ := fin w2 [.int .i64 4, .int .i32 (signT ts (n : Int)), .int .i32 0, .string ByteArray.empty, .int .i64 0, .int .i64 (n : Int)] xh2
      simp (decide := true) only [go_sem, W_region, Wx_some, Nat.reduceAdd, Nat.reduceMul, Nat.reduceEqDiff, Int.reduceAdd, Int.reduceSub, Int.reduceMul, Int.reduceNeg, Int.reduceToNat, e0, h0, h1, c0, c1, Int.toNat_natCast, hcs, p8, p7, e1, z1, j1, e2, z2, n0, i1, d0, d1, hcs2, q4, g4', zh, j0, ew, gw, Nat.add_zero]
      rfl
  rw [if_neg k5]
  have k5' : ¬ (kk : Int) = 5 := by omega
  by_cases k23 : kk = 2 ∨ kk = 3
  case neg =>
    rw [if_neg k23]
    have k2' : ¬ (kk : Int) = 2 := by omega
    have k3' : ¬ (kk : Int) = 3 := by omega
    obtain ⟨w', ew, gw⟩ := fin w2 [.int .i64 0, .int .i32 0, .int .i32 0, .string ByteArray.empty, .int .i64 0, .int .i64 0] xh2
    simp (decide := true) only [go_sem, W_region, Wx_some, Nat.reduceAdd, Nat.reduceMul, Nat.reduceEqDiff, Int.reduceAdd, Int.reduceSub, Int.reduceMul, Int.reduceNeg, Int.reduceToNat, e0, h0, h1, c0, c1, Int.toNat_natCast, hcs, p8, p7, e1, z1, j1, e2, z2, k4', k5', k2', k3', zh, j0, ew, gw]
    rfl
  rw [if_pos k23]
  unfold classT
  rw [hkk]
  by_cases k2 : kk = 2
  · subst k2
    rw [if_pos (show (2 : Nat) = 2 from rfl)]
    simp only [Int.cast_ofNat_Int] at p7 e2 z2
    simp (decide := true) only [go_sem, W_region, Wx_some, Nat.reduceAdd, Nat.reduceMul, Nat.reduceEqDiff, Int.reduceAdd, Int.reduceSub, Int.reduceMul, Int.reduceNeg, Int.reduceToNat, e0, h0, h1, c0, c1, Int.toNat_natCast, hcs, p8, p7, e1, z1, j1, e2, z2, app3]
    refine W_call Kok xh2.1 (isP_run names _ w2 hgn sn2 hn) fun r w3 x3 hr => ?_
    subst hr
    have z3 := dead w3 x3
    have y3 : w3.get w0.size = _ := (x3.2 _ (by have := x1.1; omega)).trans z2
    generalize classN names (wordT ts (n : Int)) = C
    by_cases c34 : C = 3 ∨ C = 4
    · rw [if_pos c34]
      obtain ⟨w', ew, gw⟩ := fin w3 [.int .i64 7, .int .i32 0, .int .i32 0, .string (wordT ts (n : Int)), .int .i64 C, .int .i64 (n : Int)] (xh2.trans x3)
      by_cases c3 : C = 3
      · subst c3
        simp (decide := true) only [go_sem, W_region, Wx_some, Nat.reduceAdd, Nat.reduceMul, Nat.reduceEqDiff, Int.reduceAdd, Int.reduceSub, Int.reduceMul, Int.reduceNeg, Int.reduceToNat, y3, z3, j0, ew, gw]
        rfl
      · have c4 : C = 4 := by omega
        subst c4
        simp (decide := true) only [go_sem, W_region, Wx_some, Nat.reduceAdd, Nat.reduceMul, Nat.reduceEqDiff, Int.reduceAdd, Int.reduceSub, Int.reduceMul, Int.reduceNeg, Int.reduceToNat, y3, z3, j0, ew, gw]
        rfl
    · rw [if_neg c34]
      obtain ⟨w', ew, gw⟩ := fin w3 [.int .i64 0, .int .i32 0, .int .i32 0, .string ByteArray.empty, .int .i64 0, .int .i64 0] (xh2.trans x3)
      have c3 : ¬ C = 3 := by omega
      have c4 : ¬ C = 4 := by omega
      simp (decide := true) only [go_sem, W_region, Wx_some, Nat.reduceAdd, Nat.reduceMul, Nat.reduceEqDiff, Int.reduceAdd, Int.reduceSub, Int.reduceMul, Int.reduceNeg, Int.reduceToNat, y3, c3, c4, z3, j0, ew, gw]
      rfl
  · obtain rfl : kk = 3 := by omega
    rw [if_neg (show ¬ (3 : Nat) = 2 by decide)]
    simp only [Int.cast_ofNat_Int] at p7 e2 z2
    simp (decide := true) only [go_sem, W_region, Wx_some, Nat.reduceAdd, Nat.reduceMul, Nat.reduceEqDiff, Int.reduceAdd, Int.reduceSub, Int.reduceMul, Int.reduceNeg, Int.reduceToNat, e0, h0, h1, c0, c1, Int.toNat_natCast, hcs, p8, p7, e1, z1, j1, e2, z2]
    refine W_call Kok xh2.1 (psys_run _ w2) fun r w3 x3 hr => ?_
    subst hr
    have z3 := dead w3 x3
    have y3 : w3.get w0.size = _ := (x3.2 _ (by have := x1.1; omega)).trans z2
    generalize classN sysL (wordT ts (n : Int)) = C
    by_cases c34 : C = 3 ∨ C = 4
    · rw [if_pos c34]
      obtain ⟨w', ew, gw⟩ := fin w3 [.int .i64 8, .int .i32 0, .int .i32 0, .string (wordT ts (n : Int)), .int .i64 C, .int .i64 (n : Int)] (xh2.trans x3)
      by_cases c3 : C = 3
      · subst c3
        simp (decide := true) only [go_sem, W_region, Wx_some, Nat.reduceAdd, Nat.reduceMul, Nat.reduceEqDiff, Int.reduceAdd, Int.reduceSub, Int.reduceMul, Int.reduceNeg, Int.reduceToNat, y3, z3, j0, ew, gw]
        rfl
      · have c4 : C = 4 := by omega
        subst c4
        simp (decide := true) only [go_sem, W_region, Wx_some, Nat.reduceAdd, Nat.reduceMul, Nat.reduceEqDiff, Int.reduceAdd, Int.reduceSub, Int.reduceMul, Int.reduceNeg, Int.reduceToNat, y3, z3, j0, ew, gw]
        rfl
    · rw [if_neg c34]
      obtain ⟨w', ew, gw⟩ := fin w3 [.int .i64 0, .int .i32 0, .int .i32 0, .string ByteArray.empty, .int .i64 0, .int .i64 0] (xh2.trans x3)
      have c3 : ¬ C = 3 := by omega
      have c4 : ¬ C = 4 := by omega
      simp (decide := true) only [go_sem, W_region, Wx_some, Nat.reduceAdd, Nat.reduceMul, Nat.reduceEqDiff, Int.reduceAdd, Int.reduceSub, Int.reduceMul, Int.reduceNeg, Int.reduceToNat, y3, c3, c4, z3, j0, ew, gw]
      rfl
end
end Go.Proofs.YtjlaenglmdpboaaGreat.F6
