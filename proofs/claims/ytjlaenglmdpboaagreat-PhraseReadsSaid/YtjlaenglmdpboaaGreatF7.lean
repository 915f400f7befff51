/- Proved here: PhraseReads answers true at every line, every list of names and every place, laid in memory that is only read. -/
import Derived.Test.YtjlaenglmdpboaaGreatF3
import Derived.Test.YtjlaenglmdpboaaGreatF6
set_option linter.unusedSimpArgs false
set_option linter.unusedVariables false
namespace Go.Proofs.YtjlaenglmdpboaaGreat.F7
open Go Go.Im Go.Im.Limbs Go.Im.Lexing Go.Proofs Go.RowKit Go.Proofs.YtjlaenglmdpboaaGreat.Hd Go.Proofs.YtjlaenglmdpboaaGreat.N18 Go.Proofs.YtjlaenglmdpboaaGreat.N19 Go.Proofs.YtjlaenglmdpboaaGreat.N23 Go.Proofs.YtjlaenglmdpboaaGreat.N26 Go.Proofs.YtjlaenglmdpboaaGreat.R8 Go.Proofs.YtjlaenglmdpboaaGreat.R9 Go.Proofs.YtjlaenglmdpboaaGreat.T1 Go.Proofs.YtjlaenglmdpboaaGreat.F1 Go.Proofs.YtjlaenglmdpboaaGreat.F2 Go.Proofs.YtjlaenglmdpboaaGreat.F3 Go.Proofs.YtjlaenglmdpboaaGreat.F4 Go.Proofs.YtjlaenglmdpboaaGreat.F5 Go.Proofs.YtjlaenglmdpboaaGreat.F6
set_option maxRecDepth 100000

theorem lay41 : eqlay Tryz.prog 41 = some [(.int .i64, 0), (.int .i32, 1), (.int .i32, 2), (.string, 3), (.int .i64, 4), (.int .i64, 5)] := by kernel_rfl

theorem ne41 {x y : Array Value} : ibinop Tryz.prog .neq 41 (.agg x) (.agg y) = eqst (some [(.int .i64, 0), (.int .i32, 1), (.int .i32, 2), (.string, 3), (.int .i64, 4), (.int .i64, 5)]) .neq x y := ibinop_agg lay41 fun _ _ => rfl
theorem eq41 {x y : Array Value} : ibinop Tryz.prog .eql 41 (.agg x) (.agg y) = eqst (some [(.int .i64, 0), (.int .i32, 1), (.int .i32, 2), (.string, 3), (.int .i64, 4), (.int .i64, 5)]) .eql x y := ibinop_agg lay41 fun _ _ => rfl
set_option maxHeartbeats 4000000 in
theorem preads_run (l : List Int) (names : List NR) (q : Int) (h : Heap) {a na : Option Addr} {c nc : Nat} (sl : Sl h 1 a l.length c (rv l)) (hc : c = 0 ∨ c = big) (sn : Sl h 2 na names.length nc (ncells names)) :
    Runs K f_law32_PhraseReads #[.slice a l.length c, .slice na names.length nc, .int .i64 q] h fun r _ => r = .bool true := by
  have t := Tx.all sl hc
  refine Runs.of Kok (Does.intro rfl (by decide +kernel) F_law32_PhraseReads rfl ?_)
  obtain ⟨w0, e0, x0, hs0, z0⟩ := lay1 h (.cells [.slice na names.length nc] 1)
  simp (decide := true) only [go_sem, W_region, Wx_some, Nat.reduceAdd, Nat.reduceMul, Nat.reduceEqDiff, Int.reduceAdd, Int.reduceSub, Int.reduceMul, Int.reduceNeg, Int.reduceToNat, e0]
  refine W_call Kok x0.1 (tokens_run w0 (t.ext x0)) fun r w1 x1 hr => ?_
  have z1 : w1.get h.size = _ := (x1.2 _ (by omega)).trans z0
  have x01 := x0.trans x1
  rcases hr with ⟨b1, n1, d1, b2, n2, d2, rfl⟩ | ⟨xs, ys, a1, c1, a2, c2, rfl, s1, s2, hA, hB, hxy, hxl, hyl⟩
  · simp (decide := true) only [go_sem, W_region, Wx_some, Nat.reduceAdd, Nat.reduceMul, Nat.reduceEqDiff, Int.reduceAdd, Int.reduceSub, Int.reduceMul, Int.reduceNeg, Int.reduceToNat]
    refine W_call Kok x01.1 (law32_awake_runs w1) fun r w x hr => ?_
    subst hr
    simp (decide := true) only [go_sem, W_region, Wx_some, Nat.reduceAdd, Nat.reduceMul, Nat.reduceEqDiff, Int.reduceAdd, Int.reduceSub, Int.reduceMul, Int.reduceNeg, Int.reduceToNat]
  by_cases h40 : (40 : Int) < ((names.length : Nat) : Int)
  · simp (decide := true) only [go_sem, W_region, Wx_some, Nat.reduceAdd, Nat.reduceMul, Nat.reduceEqDiff, Int.reduceAdd, Int.reduceSub, Int.reduceMul, Int.reduceNeg, Int.reduceToNat, z1, h40]
    refine W_call Kok x01.1 (law32_awake_runs w1) fun r w x hr => ?_
    subst hr
    simp (decide := true) only [go_sem, W_region, Wx_some, Nat.reduceAdd, Nat.reduceMul, Nat.reduceEqDiff, Int.reduceAdd, Int.reduceSub, Int.reduceMul, Int.reduceNeg, Int.reduceToNat]
  have hlen : ys.length = xs.length := by
    have := congrArg List.length hxy
    simpa using this.symm
  have hnb : h.size < w1.size := by have := x1.1; omega
  have both : ∀ (w : Heap), Ext w1 w → ∀ i : Int, Runs K f_phrase_Read #[.slice a1 xs.length c1, .int .i64 i, .func (.func f_law32_PhraseReads_1) #[] #[.pointer (some ⟨h.size, 0, none⟩)]] w (fun r _ => r = .tuple #[(readT names (xs.map (·.1)) i).1.v, .bool (readT names (xs.map (·.1)) i).2]) ∧
      Runs K f_ref32_Read #[.slice a2 ys.length c2, .int .i64 i, .slice na names.length nc] w (fun r _ => r = .tuple #[(readT names (xs.map (·.1)) i).1.v, .bool (readT names (xs.map (·.1)) i).2]) ∧ w.get h.size = .cells [.slice na names.length nc] 1 := by
    intro w x i
    have zw : w.get h.size = .cells [.slice na names.length nc] 1 := (x.2 _ hnb).trans z1
    have snw := (sn.ext x01).ext x
    refine ⟨pread_run xs w (s1.ext x) hA (by omega) names i (by have := x.1; omega) zw snw (by omega), ?_, zw⟩
    rw [hxy]
    exact rread_run ys w (s2.ext x) hB (by omega) names i snw (by omega)
  simp (decide := true) only [go_sem, W_region, Wx_some, Nat.reduceAdd, Nat.reduceMul, Nat.reduceEqDiff, Int.reduceAdd, Int.reduceSub, Int.reduceMul, Int.reduceNeg, Int.reduceToNat, z1, h40]
  refine W_loop (α := Nat) (fun k e w => k ≤ xs.length + 2 ∧ e.size = 114 ∧ Ext w1 w ∧ e.get 2 = .int .i64 q ∧ e.get 4 = .pointer (some ⟨h.size, 0, none⟩) ∧ e.get 7 = .slice a1 xs.length c1 ∧ e.get 8 = .slice a2 ys.length c2 ∧ e.get 10 = .func (.func f_law32_PhraseReads_1) #[] #[.pointer (some ⟨h.size, 0, none⟩)] ∧ e.get 11 = .int .i64 ((k : Int) - 1)) (fun k => xs.length + 2 - k) 0 ?_ ?_
  · exact ⟨Nat.zero_le _, by simp (decide := true) only [go_sem], Ext.refl _, by simp (decide := true) only [go_sem], by simp (decide := true) only [go_sem], by simp (decide := true) only [go_sem], by simp (decide := true) only [go_sem], by simp (decide := true) only [go_sem], by simp (decide := true) only [go_sem]; rfl⟩
  · rintro k e w ⟨hk, hsz, hxw, e2, e4, e7, e8, e10, e11⟩ next
    have y0 := x01.trans hxw
    by_cases hkl : (k : Int) - 1 ≤ ((xs.length : Nat) : Int)
    · obtain ⟨r1, _, _⟩ := both w hxw ((k : Int) - 1)
      simp (decide := true) only [go_sem, W_region, Wx_some, Nat.reduceAdd, Nat.reduceMul, Nat.reduceEqDiff, Int.reduceAdd, Int.reduceSub, Int.reduceMul, Int.reduceNeg, Int.reduceToNat, hsz, e4, e7, e8, e10, e11, hkl]
      refine W_call Kok y0.1 r1 fun r w3 x3 hr => ?_
      subst hr
      generalize hF : readT names (xs.map (·.1)) ((k : Int) - 1) = F
      obtain ⟨⟨fk, ff, fg, fw, fc, fp⟩, fb⟩ := F
      obtain ⟨v3, ev3, xv3, hsv3, zv3⟩ := lay1 w3 (.cells [.int .i64 0, .int .i32 0, .int .i32 0, .string ByteArray.empty, .int .i64 0, .int .i64 0] 6)
      obtain ⟨u3, eu3, xu3, hsu3, zu3, _⟩ := put1 xv3 (Nat.le_refl _) (.cells [.int .i64 fk, .int .i32 ff, .int .i32 fg, .string fw, .int .i64 fc, .int .i64 fp] 6)
      have x13 := hxw.trans (x3.trans xu3)
      obtain ⟨_, r2, z3⟩ := both u3 x13 ((k : Int) - 1)
      rw [hF] at r2
      have j3 : h.size ≤ w3.size := (y0.trans x3).1
      simp (decide := true) only [go_sem, W_region, Wx_some, Nat.reduceAdd, Nat.reduceMul, Nat.reduceEqDiff, Int.reduceAdd, Int.reduceSub, Int.reduceMul, Int.reduceNeg, Int.reduceToNat, Ph.v, Ph.l, ev3, zv3, j3, eu3, hsz, e4, e7, e8, e10, e11, z3]
      refine W_call Kok (x01.trans x13).1 r2 fun r w4 x4 hr => ?_
      subst hr
      obtain ⟨v4, ev4, xv4, hsv4, zv4⟩ := lay1 w4 (.cells [.int .i64 0, .int .i32 0, .int .i32 0, .string ByteArray.empty, .int .i64 0, .int .i64 0] 6)
      obtain ⟨u4, eu4, xu4, hsu4, zu4, _⟩ := put1 xv4 (Nat.le_refl _) (.cells [.int .i64 fk, .int .i32 ff, .int .i32 fg, .string fw, .int .i64 fc, .int .i64 fp] 6)
      have x34 := x4.trans xu4
      have hw3 : w3.size < u3.size := by omega
      have hw4 : w4.size < u4.size := by omega
      have y3 : u4.get w3.size = _ := (x34.2 _ hw3).trans zu3
      have j4 : h.size ≤ w4.size := (x01.trans (x13.trans x4)).1
      have q3 : u4.get w3.size = _ := y3
      have x14 := x13.trans x34
      simp (decide := true) only [go_sem, Wx_some, Nat.reduceAdd, Nat.reduceMul, Nat.reduceEqDiff, Int.reduceAdd, Int.reduceSub, Int.reduceMul, Int.reduceNeg, Int.reduceToNat, Ph.v, Ph.l, ev4, zv4, j4, eu4, hsz, y3]
      obtain ⟨pv, hpv⟩ : ∃ pv, pv = (⟨fk, ff, fg, fw, fc, fp⟩ : Ph) := ⟨_, rfl⟩
      have ofR := fun w => of_run pv w
      have alR := fun w => along_run pv w
      have ralR := fun w => ralong_run pv w
      have fiR := fun b w => fits_run pv b w
      have rfiR := fun b w => rfits_run pv b w
      subst hpv
      simp only [Ph.v, Ph.l] at ofR alR ralR fiR rfiR
      have i1 : IntKind.i64.wrap ((k : Int) - 1 + 1) = ((k + 1 : Nat) : Int) - 1 := by rw [wrap_i64 (by omega) (by omega)]; omega
      have keep : ∀ w, Ext u4 w → w.get w3.size = .cells [.int .i64 fk, .int .i32 ff, .int .i32 fg, .string fw, .int .i64 fc, .int .i64 fp] 6 ∧ w.get w4.size = .cells [.int .i64 fk, .int .i32 ff, .int .i32 fg, .string fw, .int .i64 fc, .int .i64 fp] 6 ∧ h.size ≤ w.size := fun w x => ⟨(x.2 _ (by have := x34.1; omega)).trans y3, (x.2 _ hw4).trans zu4, (x01.trans (x14.trans x)).1⟩
      simp (decide := true) only [go_sem, W_region, Wx_some, Nat.reduceAdd, Nat.reduceMul, Nat.reduceEqDiff, Int.reduceAdd, Int.reduceSub, Int.reduceMul, Int.reduceNeg, Int.reduceToNat, hsz, y3]
      refine W_call Kok (x01.trans x14).1 (ofR u4) fun r w5 x5 hr => ?_
      subst hr
      obtain ⟨y5, q5, l5⟩ := keep w5 x5
      cases fb with
      | false =>
        simp (decide := true) only [go_sem, W_region, Wx_some, Nat.reduceAdd, Nat.reduceMul, Nat.reduceEqDiff, Int.reduceAdd, Int.reduceSub, Int.reduceMul, Int.reduceNeg, Int.reduceToNat, hsz, y5, q5, ne41, i1, e11]
        exact next (k + 1) _ _ ⟨by omega, by simp (decide := true) only [go_sem, hsz], x14.trans x5, by simp (decide := true) only [go_sem, hsz, e2], by simp (decide := true) only [go_sem, hsz, e4], by simp (decide := true) only [go_sem, hsz, e7], by simp (decide := true) only [go_sem, hsz, e8], by simp (decide := true) only [go_sem, hsz, e10], by simp (decide := true) only [go_sem, hsz]⟩ (by omega)
      | true =>
        simp (decide := true) only [go_sem, W_region, Wx_some, Nat.reduceAdd, Nat.reduceMul, Nat.reduceEqDiff, Int.reduceAdd, Int.reduceSub, Int.reduceMul, Int.reduceNeg, Int.reduceToNat, hsz, y5, q5, ne41]
        refine W_call Kok l5 (alR w5) fun r w6 x6 hr => ?_
        subst hr
        have v6 := x5.trans x6
        obtain ⟨y6, q6, l6⟩ := keep w6 v6
        simp (decide := true) only [go_sem, W_region, Wx_some, Nat.reduceAdd, Nat.reduceMul, Nat.reduceEqDiff, Int.reduceAdd, Int.reduceSub, Int.reduceMul, Int.reduceNeg, Int.reduceToNat, hsz, y6, q6]
        refine W_call Kok l6 (ralR w6) fun r w7 x7 hr => ?_
        subst hr
        have v7 := v6.trans x7
        obtain ⟨y7, q7, l7⟩ := keep w7 v7
        generalize alongT fk = A
        simp (decide := true) only [go_sem, W_region, Wx_some, Nat.reduceAdd, Nat.reduceMul, Nat.reduceEqDiff, Int.reduceAdd, Int.reduceSub, Int.reduceMul, Int.reduceNeg, Int.reduceToNat, hsz, y7, q7]
        refine W_call Kok l7 (fiR true w7) fun r w8 x8 hr => ?_
        subst hr
        have v8 := v7.trans x8
        obtain ⟨y8, q8, l8⟩ := keep w8 v8
        simp (decide := true) only [go_sem, W_region, Wx_some, Nat.reduceAdd, Nat.reduceMul, Nat.reduceEqDiff, Int.reduceAdd, Int.reduceSub, Int.reduceMul, Int.reduceNeg, Int.reduceToNat, hsz, y8, q8]
        refine W_call Kok l8 (rfiR true w8) fun r w9 x9 hr => ?_
        subst hr
        have v9 := v8.trans x9
        obtain ⟨y9, q9, l9⟩ := keep w9 v9
        generalize fitsT fk fc true = B
        simp (decide := true) only [go_sem, W_region, Wx_some, Nat.reduceAdd, Nat.reduceMul, Nat.reduceEqDiff, Int.reduceAdd, Int.reduceSub, Int.reduceMul, Int.reduceNeg, Int.reduceToNat, hsz, y9, q9]
        refine W_call Kok l9 (fiR false w9) fun r w10 x10 hr => ?_
        subst hr
        have v10 := v9.trans x10
        obtain ⟨y10, q10, l10⟩ := keep w10 v10
        simp (decide := true) only [go_sem, W_region, Wx_some, Nat.reduceAdd, Nat.reduceMul, Nat.reduceEqDiff, Int.reduceAdd, Int.reduceSub, Int.reduceMul, Int.reduceNeg, Int.reduceToNat, hsz, y10, q10]
        refine W_call Kok l10 (rfiR false w10) fun r w11 x11 hr => ?_
        subst hr
        generalize fitsT fk fc false = C
        simp (decide := true) only [go_sem, W_region, Wx_some, Nat.reduceAdd, Nat.reduceMul, Nat.reduceEqDiff, Int.reduceAdd, Int.reduceSub, Int.reduceMul, Int.reduceNeg, Int.reduceToNat, hsz, i1, e11]
        exact next (k + 1) _ _ ⟨by omega, by simp (decide := true) only [go_sem, hsz], x14.trans (v10.trans x11), by simp (decide := true) only [go_sem, hsz, e2], by simp (decide := true) only [go_sem, hsz, e4], by simp (decide := true) only [go_sem, hsz, e7], by simp (decide := true) only [go_sem, hsz, e8], by simp (decide := true) only [go_sem, hsz, e10], by simp (decide := true) only [go_sem, hsz]⟩ (by omega)
    · obtain ⟨r1, _, _⟩ := both w hxw q
      simp (decide := true) only [go_sem, W_region, Wx_some, Nat.reduceAdd, Nat.reduceMul, Nat.reduceEqDiff, Int.reduceAdd, Int.reduceSub, Int.reduceMul, Int.reduceNeg, Int.reduceToNat, hsz, e2, e4, e7, e8, e10, e11, hkl]
      refine W_call Kok y0.1 r1 fun r w3 x3 hr => ?_
      subst hr
      generalize hF : readT names (xs.map (·.1)) q = F
      obtain ⟨⟨fk, ff, fg, fw, fc, fp⟩, fb⟩ := F
      obtain ⟨v3, ev3, xv3, hsv3, zv3⟩ := lay1 w3 (.cells [.int .i64 0, .int .i32 0, .int .i32 0, .string ByteArray.empty, .int .i64 0, .int .i64 0] 6)
      obtain ⟨u3, eu3, xu3, hsu3, zu3, _⟩ := put1 xv3 (Nat.le_refl _) (.cells [.int .i64 fk, .int .i32 ff, .int .i32 fg, .string fw, .int .i64 fc, .int .i64 fp] 6)
      have x13 := hxw.trans (x3.trans xu3)
      obtain ⟨_, r2, z3⟩ := both u3 x13 q
      rw [hF] at r2
      have j3 : h.size ≤ w3.size := (y0.trans x3).1
      simp (decide := true) only [go_sem, W_region, Wx_some, Nat.reduceAdd, Nat.reduceMul, Nat.reduceEqDiff, Int.reduceAdd, Int.reduceSub, Int.reduceMul, Int.reduceNeg, Int.reduceToNat, Ph.v, Ph.l, ev3, zv3, j3, eu3, hsz, e2, e4, e7, e8, e10, e11, z3]
      refine W_call Kok (x01.trans x13).1 r2 fun r w4 x4 hr => ?_
      subst hr
      obtain ⟨v4, ev4, xv4, hsv4, zv4⟩ := lay1 w4 (.cells [.int .i64 0, .int .i32 0, .int .i32 0, .string ByteArray.empty, .int .i64 0, .int .i64 0] 6)
      obtain ⟨u4, eu4, xu4, hsu4, zu4, _⟩ := put1 xv4 (Nat.le_refl _) (.cells [.int .i64 fk, .int .i32 ff, .int .i32 fg, .string fw, .int .i64 fc, .int .i64 fp] 6)
      have x34 := x4.trans xu4
      have hw3 : w3.size < u3.size := by omega
      have hw4 : w4.size < u4.size := by omega
      have y3 : u4.get w3.size = _ := (x34.2 _ hw3).trans zu3
      have j4 : h.size ≤ w4.size := (x01.trans (x13.trans x4)).1
      have x14 := x13.trans x34
      simp (decide := true) only [go_sem, Wx_some, Nat.reduceAdd, Nat.reduceMul, Nat.reduceEqDiff, Int.reduceAdd, Int.reduceSub, Int.reduceMul, Int.reduceNeg, Int.reduceToNat, Ph.v, Ph.l, ev4, zv4, j4, eu4, hsz, y3]
      have ofR := of_run ⟨fk, ff, fg, fw, fc, fp⟩ u4
      simp only [Ph.v, Ph.l] at ofR
      simp (decide := true) only [go_sem, W_region, Wx_some, Nat.reduceAdd, Nat.reduceMul, Nat.reduceEqDiff, Int.reduceAdd, Int.reduceSub, Int.reduceMul, Int.reduceNeg, Int.reduceToNat, hsz, y3]
      refine W_call Kok (x01.trans x14).1 ofR fun r w5 x5 hr => ?_
      subst hr
      have q5 : w5.get w4.size = _ := (x5.2 _ hw4).trans zu4
      simp (decide := true) only [go_sem, W_region, Wx_some, Nat.reduceAdd, Nat.reduceMul, Nat.reduceEqDiff, Int.reduceAdd, Int.reduceSub, Int.reduceMul, Int.reduceNeg, Int.reduceToNat, hsz, q5, eq41]
      refine W_call Kok (x01.trans (x14.trans x5)).1 (law32_awake_runs w5) fun r w x hr => ?_
      subst hr
      simp (decide := true) only [go_sem, W_region, Wx_some, Nat.reduceAdd, Nat.reduceMul, Nat.reduceEqDiff, Int.reduceAdd, Int.reduceSub, Int.reduceMul, Int.reduceNeg, Int.reduceToNat, hsz]
end Go.Proofs.YtjlaenglmdpboaaGreat.F7
