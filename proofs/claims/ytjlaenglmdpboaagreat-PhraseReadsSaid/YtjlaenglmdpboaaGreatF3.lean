/- Proved here: PhraseOperands answers true at every line, every list of names and every place, laid in memory that is only read. -/
import Derived.Test.YtjlaenglmdpboaaGreatF2
set_option linter.unusedSimpArgs false
set_option linter.unusedVariables false
namespace Go.Proofs.YtjlaenglmdpboaaGreat.F3
open Go Go.Im Go.Im.Limbs Go.Im.Lexing Go.Proofs Go.RowKit Go.Proofs.YtjlaenglmdpboaaGreat.Hd Go.Proofs.YtjlaenglmdpboaaGreat.N18 Go.Proofs.YtjlaenglmdpboaaGreat.N19 Go.Proofs.YtjlaenglmdpboaaGreat.N23 Go.Proofs.YtjlaenglmdpboaaGreat.N26 Go.Proofs.YtjlaenglmdpboaaGreat.R8 Go.Proofs.YtjlaenglmdpboaaGreat.R9 Go.Proofs.YtjlaenglmdpboaaGreat.T1 Go.Proofs.YtjlaenglmdpboaaGreat.F1 Go.Proofs.YtjlaenglmdpboaaGreat.F2
set_option maxRecDepth 100000

theorem tokens_run (h : Heap) {l : List Int} {tv : Value} (t : Tx h tv l) :
    Runs K f_law32_tokens #[tv] h fun r w => (∃ a n c a2 n2 c2, r = .tuple #[.slice a n c, .slice a2 n2 c2, .bool false]) ∨
      ∃ (xs ys : List XT) (a1 : Option Addr) (c1 : Nat) (a2 : Option Addr) (c2 : Nat), r = .tuple #[.slice a1 xs.length c1, .slice a2 ys.length c2, .bool true] ∧ Sl w 9 a1 xs.length c1 (xcs xs) ∧ Sl w 8 a2 ys.length c2 (xcs ys) ∧ (∀ x ∈ xs, Arr5 x.2) ∧ (∀ x ∈ ys, Arr4 x.2) ∧
        xs.map (·.1) = ys.map (·.1) ∧ xs.length ≤ 200 ∧ ys.length ≤ 200 := by
  obtain ⟨a, c, rfl⟩ := t.open
  refine Runs.of Kok (Does.intro rfl (by decide +kernel) F_law32_tokens rfl ?_)
  by_cases h1 : (200 : Int) < ((l.length : Nat) : Int)
  · simp (decide := true) only [go_sem, W_region, Wx_some, Nat.reduceAdd, Nat.reduceMul, Nat.reduceEqDiff, Int.reduceAdd, Int.reduceSub, Int.reduceMul, Int.reduceNeg, Int.reduceToNat, h1]
    exact .inl ⟨_, _, _, _, _, _, rfl⟩
  simp (decide := true) only [go_sem, W_region, Wx_some, Nat.reduceAdd, Nat.reduceMul, Nat.reduceEqDiff, Int.reduceAdd, Int.reduceSub, Int.reduceMul, Int.reduceNeg, Int.reduceToNat, h1]
  refine W_call Kok (Nat.le_refl _) (lex_run h t) fun r w1 x1 hr => ?_
  rcases hr with ⟨hlex, rfl⟩ | ⟨xs, a1, c1, hlex, hA, hxl, rfl, s1⟩
  · simp (decide := true) only [go_sem, W_region, Wx_some, Nat.reduceAdd, Nat.reduceMul, Nat.reduceEqDiff, Int.reduceAdd, Int.reduceSub, Int.reduceMul, Int.reduceNeg, Int.reduceToNat]
    refine W_call Kok x1.1 (rlex_run w1 (t.ext x1)) fun r w2 x2 hr => ?_
    rcases hr with ⟨_, rfl⟩ | ⟨_, _, _, hlex2, _⟩
    · simp (decide := true) only [go_sem, W_region, Wx_some, Nat.reduceAdd, Nat.reduceMul, Nat.reduceEqDiff, Int.reduceAdd, Int.reduceSub, Int.reduceMul, Int.reduceNeg, Int.reduceToNat]
      exact .inl ⟨_, _, _, _, _, _, rfl⟩
    · rw [hlex] at hlex2
      cases hlex2
  simp (decide := true) only [go_sem, W_region, Wx_some, Nat.reduceAdd, Nat.reduceMul, Nat.reduceEqDiff, Int.reduceAdd, Int.reduceSub, Int.reduceMul, Int.reduceNeg, Int.reduceToNat]
  refine W_call Kok x1.1 (rlex_run w1 (t.ext x1)) fun r w2 x2 hr => ?_
  rcases hr with ⟨hlex2, _⟩ | ⟨ys, a2, c2, hlex2, hB, hyl, rfl, s2⟩
  · rw [hlex] at hlex2
    cases hlex2
  rw [hlex, Option.some.injEq] at hlex2
  have hxy : ys.length = xs.length := by
    have := congrArg List.length hlex2
    simpa using this.symm
  have hxy' : ((xs.length : Nat) : Int) = ((ys.length : Nat) : Int) := by omega
  have hd : decide (((xs.length : Nat) : Int) = ((ys.length : Nat) : Int)) = true := decide_eq_true hxy'
  simp (decide := true) only [go_sem, W_region, Wx_some, Nat.reduceAdd, Nat.reduceMul, Nat.reduceEqDiff, Int.reduceAdd, Int.reduceSub, Int.reduceMul, Int.reduceNeg, Int.reduceToNat, hd]
  exact .inr ⟨xs, ys, _, _, _, _, rfl, s1.ext x2, s2, hA, hB, hlex2, by omega, by omega⟩

theorem pops_run (l : List Int) (names : List NR) (q : Int) (h : Heap) {a na : Option Addr} {c nc : Nat} (sl : Sl h 1 a l.length c (rv l)) (hc : c = 0 ∨ c = big) (sn : Sl h 2 na names.length nc (ncells names)) :
    Runs K f_law32_PhraseOperands #[.slice a l.length c, .slice na names.length nc, .int .i64 q] h fun r _ => r = .bool true := by
  have t := Tx.all sl hc
  refine Runs.of Kok (Does.intro rfl (by decide +kernel) F_law32_PhraseOperands rfl ?_)
  obtain ⟨w0, e0, x0, hs0, z0⟩ := lay1 h (.cells [.slice na names.length nc] 1)
  simp (decide := true) only [go_sem, W_region, Wx_some, Nat.reduceAdd, Nat.reduceMul, Nat.reduceEqDiff, Int.reduceAdd, Int.reduceSub, Int.reduceMul, Int.reduceNeg, Int.reduceToNat, e0]
  refine W_call Kok x0.1 (tokens_run w0 (t.ext x0)) fun r w1 x1 hr => ?_
  have z1 : w1.get h.size = _ := (x1.2 _ (by omega)).trans z0
  have x01 := x0.trans x1
  rcases hr with ⟨b1, n1, d1, b2, n2, d2, rfl⟩ | ⟨xs, ys, a1, c1, a2, c2, rfl, s1, s2, hA, hB, hxy, hxl, hyl⟩
  · simp (decide := true) only [go_sem, W_region, Wx_some, Nat.reduceAdd, Nat.reduceMul, Nat.reduceEqDiff, Int.reduceAdd, Int.reduceSub, Int.reduceMul, Int.reduceNeg, Int.reduceToNat]
    refine W_call Kok x01.1 (law32_awake_runs w1) fun r w x hr => ?_
    subst hr
    simp (decide := true) only [go_sem, W_region, Wx_some, Nat.reduceAdd, Nat.reduceMul, Nat.reduceEqDiff, Int.reduceAdd, Int.reduceSub, Int.reduceMul, Int.reduceNeg, Int.reduceToNat]
  by_cases h40 : (40 : Int) < ((names.length : Nat) : Int)
  · simp (decide := true) only [go_sem, W_region, Wx_some, Nat.reduceAdd, Nat.reduceMul, Nat.reduceEqDiff, Int.reduceAdd, Int.reduceSub, Int.reduceMul, Int.reduceNeg, Int.reduceToNat, z1, h40]
    refine W_call Kok x01.1 (law32_awake_runs w1) fun r w x hr => ?_
    subst hr
    simp (decide := true) only [go_sem, W_region, Wx_some, Nat.reduceAdd, Nat.reduceMul, Nat.reduceEqDiff, Int.reduceAdd, Int.reduceSub, Int.reduceMul, Int.reduceNeg, Int.reduceToNat]
  have hlen : ys.length = xs.length := by
    have := congrArg List.length hxy
    simpa using this.symm
  have hnb : h.size < w1.size := by have := x1.1; omega
  have both : ∀ (w : Heap), Ext w1 w → ∀ i : Int, Runs K f_phrase_Operand #[.slice a1 xs.length c1, .int .i64 i, .func (.func f_law32_PhraseOperands_1) #[] #[.pointer (some ⟨h.size, 0, none⟩)]] w (fun r _ => r = .bool (operandT names (xs.map (·.1)) i)) ∧
      Runs K f_ref32_Operand #[.slice a2 ys.length c2, .int .i64 i, .slice na names.length nc] w (fun r _ => r = .bool (operandT names (xs.map (·.1)) i)) ∧ Runs K f_phrase_Axis #[.slice a1 xs.length c1, .int .i64 i] w (fun r _ => r = .bool (axisT (xs.map (·.1)) i)) ∧
      Runs K f_ref32_Axis #[.slice a2 ys.length c2, .int .i64 i] w (fun r _ => r = .bool (axisT (xs.map (·.1)) i)) ∧ w.get h.size = .cells [.slice na names.length nc] 1 := by
    intro w x i
    have zw : w.get h.size = .cells [.slice na names.length nc] 1 := (x.2 _ hnb).trans z1
    have snw := (sn.ext x01).ext x
    refine ⟨operand_run xs w (s1.ext x) hA (by omega) names i (by have := x.1; omega) zw snw (by omega), ?_, axis_run xs w (s1.ext x) hA (by omega) i, ?_, zw⟩
    · rw [hxy]
      exact roperand_run ys w (s2.ext x) hB (by omega) names i snw (by omega)
    · rw [hxy]
      exact raxis_run ys w (s2.ext x) hB (by omega) i
  simp (decide := true) only [go_sem, W_region, Wx_some, Nat.reduceAdd, Nat.reduceMul, Nat.reduceEqDiff, Int.reduceAdd, Int.reduceSub, Int.reduceMul, Int.reduceNeg, Int.reduceToNat, z1, h40]
  refine W_loop (α := Nat) (fun k e w => k ≤ xs.length + 2 ∧ e.size = 72 ∧ Ext w1 w ∧ e.get 2 = .int .i64 q ∧ e.get 4 = .pointer (some ⟨h.size, 0, none⟩) ∧ e.get 7 = .slice a1 xs.length c1 ∧ e.get 8 = .slice a2 ys.length c2 ∧ e.get 10 = .func (.func f_law32_PhraseOperands_1) #[] #[.pointer (some ⟨h.size, 0, none⟩)] ∧ e.get 11 = .int .i64 ((k : Int) - 1)) (fun k => xs.length + 2 - k) 0 ?_ ?_
  · exact ⟨Nat.zero_le _, by simp (decide := true) only [go_sem], Ext.refl _, by simp (decide := true) only [go_sem], by simp (decide := true) only [go_sem], by simp (decide := true) only [go_sem], by simp (decide := true) only [go_sem], by simp (decide := true) only [go_sem], by simp (decide := true) only [go_sem]; rfl⟩
  · rintro k e w ⟨hk, hsz, hxw, e2, e4, e7, e8, e10, e11⟩ next
    have y0 := x01.trans hxw
    by_cases hkl : (k : Int) - 1 ≤ ((xs.length : Nat) : Int)
    · obtain ⟨r1, _, _, _, _⟩ := both w hxw ((k : Int) - 1)
      simp (decide := true) only [go_sem, W_region, Wx_some, Nat.reduceAdd, Nat.reduceMul, Nat.reduceEqDiff, Int.reduceAdd, Int.reduceSub, Int.reduceMul, Int.reduceNeg, Int.reduceToNat, hsz, e4, e7, e8, e10, e11, hkl]
      refine W_call Kok y0.1 r1 fun r w3 x3 hr => ?_
      subst hr
      obtain ⟨_, r2, _, _, z3⟩ := both w3 (hxw.trans x3) ((k : Int) - 1)
      simp (decide := true) only [go_sem, W_region, Wx_some, Nat.reduceAdd, Nat.reduceMul, Nat.reduceEqDiff, Int.reduceAdd, Int.reduceSub, Int.reduceMul, Int.reduceNeg, Int.reduceToNat, hsz, e4, e7, e8, e10, e11, z3]
      refine W_call Kok (y0.trans x3).1 r2 fun r w4 x4 hr => ?_
      subst hr
      have x24 := hxw.trans (x3.trans x4)
      obtain ⟨_, _, r3, _, _⟩ := both w4 x24 ((k : Int) - 1)
      simp (decide := true) only [go_sem, W_region, Wx_some, Nat.reduceAdd, Nat.reduceMul, Nat.reduceEqDiff, Int.reduceAdd, Int.reduceSub, Int.reduceMul, Int.reduceNeg, Int.reduceToNat, hsz, e4, e7, e8, e10, e11]
      refine W_call Kok (x01.trans x24).1 r3 fun r w5 x5 hr => ?_
      subst hr
      obtain ⟨_, _, _, r4, _⟩ := both w5 (x24.trans x5) ((k : Int) - 1)
      simp (decide := true) only [go_sem, W_region, Wx_some, Nat.reduceAdd, Nat.reduceMul, Nat.reduceEqDiff, Int.reduceAdd, Int.reduceSub, Int.reduceMul, Int.reduceNeg, Int.reduceToNat, hsz, e4, e7, e8, e10, e11]
      refine W_call Kok (x01.trans (x24.trans x5)).1 r4 fun r w6 x6 hr => ?_
      subst hr
      have i1 : IntKind.i64.wrap ((k : Int) - 1 + 1) = ((k + 1 : Nat) : Int) - 1 := by rw [wrap_i64 (by omega) (by omega)]; omega
      simp (decide := true) only [go_sem, W_region, Wx_some, Nat.reduceAdd, Nat.reduceMul, Nat.reduceEqDiff, Int.reduceAdd, Int.reduceSub, Int.reduceMul, Int.reduceNeg, Int.reduceToNat, hsz, e11, i1]
      exact next (k + 1) _ _ ⟨by omega, by simp (decide := true) only [go_sem, hsz], x24.trans (x5.trans x6), by simp (decide := true) only [go_sem, hsz, e2], by simp (decide := true) only [go_sem, hsz, e4], by simp (decide := true) only [go_sem, hsz, e7], by simp (decide := true) only [go_sem, hsz, e8], by simp (decide := true) only [go_sem, hsz, e10], by simp (decide := true) only [go_sem, hsz]⟩ (by omega)
    · obtain ⟨r1, _, _, _, _⟩ := both w hxw q
      simp (decide := true) only [go_sem, W_region, Wx_some, Nat.reduceAdd, Nat.reduceMul, Nat.reduceEqDiff, Int.reduceAdd, Int.reduceSub, Int.reduceMul, Int.reduceNeg, Int.reduceToNat, hsz, e2, e4, e7, e8, e10, e11, hkl]
      refine W_call Kok y0.1 r1 fun r w3 x3 hr => ?_
      subst hr
      obtain ⟨_, r2, _, _, z3⟩ := both w3 (hxw.trans x3) q
      simp (decide := true) only [go_sem, W_region, Wx_some, Nat.reduceAdd, Nat.reduceMul, Nat.reduceEqDiff, Int.reduceAdd, Int.reduceSub, Int.reduceMul, Int.reduceNeg, Int.reduceToNat, hsz, e2, e4, e7, e8, e10, e11, z3]
      refine W_call Kok (y0.trans x3).1 r2 fun r w4 x4 hr => ?_
      subst hr
      have x24 := hxw.trans (x3.trans x4)
      obtain ⟨_, _, r3, _, _⟩ := both w4 x24 q
      simp (decide := true) only [go_sem, W_region, Wx_some, Nat.reduceAdd, Nat.reduceMul, Nat.reduceEqDiff, Int.reduceAdd, Int.reduceSub, Int.reduceMul, Int.reduceNeg, Int.reduceToNat, hsz, e2, e4, e7, e8, e10, e11]
      refine W_call Kok (x01.trans x24).1 r3 fun r w5 x5 hr => ?_
      subst hr
      obtain ⟨_, _, _, r4, _⟩ := both w5 (x24.trans x5) q
      simp (decide := true) only [go_sem, W_region, Wx_some, Nat.reduceAdd, Nat.reduceMul, Nat.reduceEqDiff, Int.reduceAdd, Int.reduceSub, Int.reduceMul, Int.reduceNeg, Int.reduceToNat, hsz, e2, e4, e7, e8, e10, e11]
      refine W_call Kok (x01.trans (x24.trans x5)).1 r4 fun r w6 x6 hr => ?_
      subst hr
      simp (decide := true) only [go_sem, W_region, Wx_some, Nat.reduceAdd, Nat.reduceMul, Nat.reduceEqDiff, Int.reduceAdd, Int.reduceSub, Int.reduceMul, Int.reduceNeg, Int.reduceToNat, hsz]
      refine W_call Kok (x01.trans (x24.trans (x5.trans x6))).1 (law32_awake_runs w6) fun r w x hr => ?_
      subst hr
      simp (decide := true) only [go_sem, W_region, Wx_some, Nat.reduceAdd, Nat.reduceMul, Nat.reduceEqDiff, Int.reduceAdd, Int.reduceSub, Int.reduceMul, Int.reduceNeg, Int.reduceToNat, hsz]
end Go.Proofs.YtjlaenglmdpboaaGreat.F3
