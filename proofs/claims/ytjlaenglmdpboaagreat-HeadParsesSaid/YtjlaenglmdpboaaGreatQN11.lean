/- Proved here: powers of numbers of limbs, and numbers read from digits; of every number of few enough limbs. -/
import Derived.Test.YtjlaenglmdpboaaGreatQN10
namespace Go.Proofs.YtjlaenglmdpboaaGreat.N11
open Go Go.Im Go.Im.Limbs Go.Proofs Go.RowKit Go.Proofs.YtjlaenglmdpboaaGreat.Hd Go.Proofs.YtjlaenglmdpboaaGreat.N1 Go.Proofs.YtjlaenglmdpboaaGreat.N2 Go.Proofs.YtjlaenglmdpboaaGreat.N10
set_option maxRecDepth 100000
set_option linter.unusedSimpArgs false
set_option linter.unusedVariables false

theorem pow_run (x n most : Nat) (h : Heap) {v : Value} (hv : NatV h v x) (hx0 : x ≠ 0) (hx1 : x ≠ 1) (hn : n ≤ 1099511627776) (hm : ∀ i, i ≤ n → (dig (x ^ i)).length ≤ most) (hmost : most ≤ 549755813) :
    Runs K f_nat_Nat_Pow #[v, .int .i64 (n : Int), .int .i64 (most : Int)] h fun r w => ∃ q, r = .tuple #[q, .bool true] ∧ NatV w q (x ^ n) := by
  obtain ⟨a, c, rfl, sa⟩ := hv.open
  refine Runs.of Kok (Does.intro rfl (by decide +kernel) F_nat_Nat_Pow rfl ?_)
  obtain ⟨w0, e0, x0, hs0, z0, z1⟩ := lay2 h (.cells [.slice a (dig x).length c] 1) (.cells [.slice none 0 0] 1)
  simp +decide only [go_sem, W_region, Wx_some, Nat.reduceAdd, Nat.reduceMul, Nat.reduceEqDiff, Int.reduceAdd, Int.reduceSub, Int.reduceMul, Int.reduceNeg, Int.reduceToNat, e0]
  refine W_call Kok (by omega) (of_run 1 w0 (by omega)) fun r w1 x1 hr => ?_
  obtain ⟨a1, c1, rfl, s1⟩ := hr.open
  obtain ⟨w2, e2, x2, hs2, g2⟩ := lay1 w1 (.cells [.slice none 0 0] 1)
  have hx2 := x0.trans (x1.trans x2)
  have hsz : h.size + 2 ≤ w1.size := by have := x1.1; omega
  have j1 : h.size ≤ w1.size := by omega
  have j2 : h.size ≤ h.size + 1 := by omega
  obtain ⟨w3, e3, x3, hs3, g3, k3⟩ := put1 hx2 j1 (.cells [.slice a1 (dig 1).length c1] 1)
  have y0 : w3.get h.size = .cells [.slice a (dig x).length c] 1 := (k3 _ (by omega)).trans (((x1.trans x2).2 _ (by omega)).trans z0)
  have y1 : w3.get (h.size + 1) = .cells [.slice none 0 0] 1 := (k3 _ (by omega)).trans (((x1.trans x2).2 _ (by omega)).trans z1)
  have n3 : NatV w3 (.agg #[.slice a1 (dig 1).length c1]) 1 := (hr.ext x2).over g2 (by rfl) (by rfl) hs3 g3 k3
  obtain ⟨ob, hob⟩ : ∃ ob, ob = w1.size := ⟨_, rfl⟩
  -- the result is put down
  have fin : ∀ (w : Heap) (p : Value) (X : Nat), Ext h w → w.get (h.size + 1) = .cells [.slice none 0 0] 1 → NatV w (.agg #[p]) X → ∃ wd, w.set (h.size + 1) (.cells [p] 1) = wd ∧ wd.get (h.size + 1) = .cells [p] 1 ∧ NatV wd (.agg #[p]) X := by
    intro w p X hx g2 n1
    obtain ⟨wd, ed, xd, hsd, gd, kd⟩ := put1 hx j2 (.cells [p] 1)
    exact ⟨wd, ed, gd, n1.over g2 (by rfl) (by rfl) hsd gd kd⟩
  by_cases hn0 : (n : Int) ≤ 0
  · have : n = 0 := by omega
    subst this
    obtain ⟨wd, ed, gd, nd⟩ := fin w3 _ 1 x3 y1 n3
    simp +decide only [go_sem, W_region, Wx_some, Nat.reduceAdd, Nat.reduceMul, Nat.reduceEqDiff, Int.reduceAdd, Int.reduceSub, Int.reduceMul, Int.reduceNeg, Int.reduceToNat, e2, g2, j1, e3, g3, hn0, y1, j2, ed, gd]
    exact ⟨_, rfl, nd⟩
  simp +decide only [go_sem, W_region, Wx_some, Nat.reduceAdd, Nat.reduceMul, Nat.reduceEqDiff, Int.reduceAdd, Int.reduceSub, Int.reduceMul, Int.reduceNeg, Int.reduceToNat, e2, g2, j1, e3, hn0, y0]
  refine W_call Kok (by omega) (one_run x w3 (hv.ext x3)) fun r w4 x4 hr => ?_
  subst hr
  have y0 : w4.get h.size = _ := (x4.2 _ (by omega)).trans y0
  have y1 : w4.get (h.size + 1) = _ := (x4.2 _ (by omega)).trans y1
  have hs4 : w3.size ≤ w4.size := x4.1
  have hx4 := x3.trans x4
  simp +decide only [go_sem, W_region, Wx_some, Nat.reduceAdd, Nat.reduceMul, Nat.reduceEqDiff, Int.reduceAdd, Int.reduceSub, Int.reduceMul, Int.reduceNeg, Int.reduceToNat, hx1, y0]
  refine W_call Kok (by omega) (zero_run x w4 (hv.ext hx4)) fun r w5 x5 hr => ?_
  subst hr
  have y0 : w5.get h.size = _ := (x5.2 _ (by omega)).trans y0
  have y1 : w5.get (h.size + 1) = _ := (x5.2 _ (by omega)).trans y1
  have g5 : w5.get ob = .cells [.slice a1 (dig 1).length c1] 1 := by rw [hob]; exact (x5.2 _ (by omega)).trans ((x4.2 _ (by omega)).trans g3)
  have hs5 : w4.size ≤ w5.size := x5.1
  have hx5 := hx4.trans x5
  simp +decide only [go_sem, W_region, Wx_some, Nat.reduceAdd, Nat.reduceMul, Nat.reduceEqDiff, Int.reduceAdd, Int.reduceSub, Int.reduceMul, Int.reduceNeg, Int.reduceToNat, hx0]
  refine W_loop (α := Nat × Option Addr × Nat) (fun k e w => k.1 ≤ n ∧ e.size = 33 ∧ Ext h w ∧ ob < w.size ∧ w.get h.size = .cells [.slice a (dig x).length c] 1 ∧ w.get (h.size + 1) = .cells [.slice none 0 0] 1 ∧ w.get ob = .cells [.slice k.2.1 (dig (x ^ k.1)).length k.2.2] 1 ∧ NatV w (.agg #[.slice k.2.1 (dig (x ^ k.1)).length k.2.2]) (x ^ k.1) ∧
    e.get 2 = .int .i64 (most : Int) ∧ e.get 3 = .pointer (some ⟨h.size, 0, none⟩) ∧ e.get 6 = .pointer (some ⟨h.size + 1, 0, none⟩) ∧ e.get 8 = .pointer (some ⟨ob, 0, none⟩) ∧ e.get 20 = .int .i64 (n : Int) ∧ e.get 21 = .int .i64 (k.1 : Int)) (fun k => n - k.1) (0, a1, c1) ?_ ?_
  · refine ⟨Nat.zero_le _, by simp +decide only [go_sem], hx5, by omega, y0, y1, ?_, ?_, by simp +decide only [go_sem], by simp +decide only [go_sem], by simp +decide only [go_sem], by simp +decide only [go_sem, ← hob], by simp +decide only [go_sem], by simp +decide only [go_sem]; rfl⟩
    · simpa using g5
    · have := n3.ext (x4.trans x5)
      simpa using this
  · rintro ⟨k, aO, cO⟩ e w ⟨hk, hsz', hxw, hobw, g0, g1, go, nO, e2', e3', e6, e8, e20, e21⟩ next
    simp only at hk go nO e21
    by_cases hkn : (k : Int) < (n : Int)
    case neg =>
      have hkk : k = n := by omega
      subst hkk
      obtain ⟨wd, ed, gd, nd⟩ := fin w _ _ hxw g1 nO
      simp +decide only [go_sem, W_region, Wx_some, Nat.reduceAdd, Nat.reduceMul, Nat.reduceEqDiff, Int.reduceAdd, Int.reduceSub, Int.reduceMul, Int.reduceNeg, Int.reduceToNat, hsz', e2', e3', e6, e8, e20, e21, hkn, go, g1, j2, ed, gd]
      exact ⟨_, rfl, nd⟩
    have hlO : (dig (x ^ k)).length ≤ 549755813887 := Nat.le_trans (hm k (by omega)) (by omega)
    have hlx : (dig x).length ≤ 549755813887 := by
      have := hm 1 (by omega)
      rw [Nat.pow_one] at this
      omega
    simp +decide only [go_sem, W_region, Wx_some, Nat.reduceAdd, Nat.reduceMul, Nat.reduceEqDiff, Int.reduceAdd, Int.reduceSub, Int.reduceMul, Int.reduceNeg, Int.reduceToNat, hsz', e2', e3', e6, e8, e20, e21, hkn, go, g0]
    refine W_call Kok (by have := hxw.1; omega) (mul_run (x ^ k) x w nO (hv.ext hxw) hlO hlx) fun r w6 x6 hr => ?_
    rw [← Nat.pow_succ] at hr
    obtain ⟨a6, c6, rfl, s6⟩ := hr.open
    have g0 : w6.get h.size = _ := (x6.2 _ (by omega)).trans g0
    have g1 : w6.get (h.size + 1) = _ := (x6.2 _ (by omega)).trans g1
    have go : w6.get ob = _ := (x6.2 _ (by omega)).trans go
    have hs6 := x6.1
    have jo : h.size ≤ ob := by omega
    obtain ⟨w7, e7, x7, hs7, g7, k7⟩ := put1 (hxw.trans x6) jo (.cells [.slice a6 (dig (x ^ (k + 1))).length c6] 1)
    have n7 : NatV w7 (.agg #[.slice a6 (dig (x ^ (k + 1))).length c6]) (x ^ (k + 1)) := hr.over go (by rfl) (by rfl) hs7 g7 k7
    have g0 : w7.get h.size = _ := (k7 _ (by omega)).trans g0
    have g1 : w7.get (h.size + 1) = _ := (k7 _ (by omega)).trans g1
    simp +decide only [go_sem, W_region, Wx_some, Nat.reduceAdd, Nat.reduceMul, Nat.reduceEqDiff, Int.reduceAdd, Int.reduceSub, Int.reduceMul, Int.reduceNeg, Int.reduceToNat, hsz', e2', e3', e6, e8, e20, e21, go, jo, e7, g7]
    refine W_call Kok (by omega) (limbs_run (x ^ (k + 1)) w7 n7) fun r w8 x8 hr => ?_
    subst hr
    have hlim : ¬ (most : Int) < (((dig (x ^ (k + 1))).length : Nat) : Int) := by
      have := hm (k + 1) (by omega)
      omega
    have i5 : IntKind.i64.wrap ((k : Int) + 1) = ((k + 1 : Nat) : Int) := by rw [wrap_i64 (by omega) (by omega)]; omega
    simp +decide only [go_sem, W_region, Wx_some, Nat.reduceAdd, Nat.reduceMul, Nat.reduceEqDiff, Int.reduceAdd, Int.reduceSub, Int.reduceMul, Int.reduceNeg, Int.reduceToNat, hsz', e2', e3', e6, e8, e20, e21, hlim, i5]
    exact next (k + 1, a6, c6) _ _ ⟨by simp only; omega, by simp +decide only [go_sem, hsz'], x7.trans x8, by have := x8.1; omega, (x8.2 _ (by omega)).trans g0, (x8.2 _ (by omega)).trans g1, (x8.2 _ (by omega)).trans g7, n7.ext x8, by simp +decide only [go_sem, hsz', e2'], by simp +decide only [go_sem, hsz', e3'], by simp +decide only [go_sem, hsz', e6], by simp +decide only [go_sem, hsz', e8], by simp +decide only [go_sem, hsz', e20], by simp +decide only [go_sem, hsz']⟩ (by simp only; omega)

theorem ten_run (n : Nat) (h : Heap) (hn : n ≤ 2000) : Runs K f_deci_ten #[.int .i64 (n : Int)] h fun r w => NatV w r (10 ^ n) := by
  refine Runs.of Kok (Does.intro rfl (by decide +kernel) F_deci_ten rfl ?_)
  obtain ⟨w0, e0, x0, hs0, z0⟩ := lay1 h (.cells [.slice none 0 0] 1)
  simp +decide only [go_sem, W_region, Wx_some, Nat.reduceAdd, Nat.reduceMul, Nat.reduceEqDiff, Int.reduceAdd, Int.reduceSub, Int.reduceMul, Int.reduceNeg, Int.reduceToNat, e0]
  refine W_call Kok (by omega) (of_run 10 w0 (by omega)) fun r w1 x1 hr => ?_
  have hm : ∀ i, i ≤ n → (dig (10 ^ i)).length ≤ 1048576 := by
    intro i hi
    obtain ⟨N, hN⟩ : ∃ N, N = 1048576 := ⟨_, rfl⟩
    rw [dig_length, ← hN]
    have h1 : 10 ^ i ≤ B ^ i := Nat.pow_le_pow_left (by rw [B_eq]; omega) i
    have h2 : B ^ i < B ^ N := Nat.pow_lt_pow_right (by rw [B_eq]; omega) (by omega)
    omega
  simp +decide only [go_sem, W_region, Wx_some, Nat.reduceAdd, Nat.reduceMul, Nat.reduceEqDiff, Int.reduceAdd, Int.reduceSub, Int.reduceMul, Int.reduceNeg, Int.reduceToNat]
  refine W_call Kok (by have := x1.1; omega) (pow_run 10 n 1048576 w1 hr (by omega) (by omega) (by omega) hm (by omega)) fun r w2 x2 hr => ?_
  obtain ⟨q, rfl, hq⟩ := hr
  obtain ⟨a2, c2, rfl, s2⟩ := hq.open
  obtain ⟨w3, e3, x3, hs3, g3⟩ := lay1 w2 (.cells [.slice none 0 0] 1)
  have hx2 := x0.trans (x1.trans x2)
  have j1 : h.size ≤ w2.size := hx2.1
  have s2' : h.size + 1 ≤ w2.size := by have := x1.1; have := x2.1; omega
  obtain ⟨w4, e4, x4, hs4, g4, k4⟩ := put1 (hx2.trans x3) j1 (.cells [.slice a2 (dig (10 ^ n)).length c2] 1)
  have z4 : w4.get h.size = .cells [.slice none 0 0] 1 := (k4 _ (by omega)).trans (((x1.trans (x2.trans x3)).2 _ (by omega)).trans z0)
  obtain ⟨w5, e5, x5, hs5, g5, k5⟩ := put1 x4 (Nat.le_refl h.size) (.cells [.slice a2 (dig (10 ^ n)).length c2] 1)
  simp +decide only [go_sem, W_region, Wx_some, Nat.reduceAdd, Nat.reduceMul, Nat.reduceEqDiff, Int.reduceAdd, Int.reduceSub, Int.reduceMul, Int.reduceNeg, Int.reduceToNat, e3, g3, j1, e4, g4, z4, Nat.le_refl, e5, g5]
  exact ((hq.ext x3).over g3 (by rfl) (by rfl) hs4 g4 k4).over z4 (by rfl) (by rfl) hs5 g5 k5
end Go.Proofs.YtjlaenglmdpboaaGreat.N11
