/- Proved here: ratios multiplied and divided, scaled by powers of ten; of all numbers of few enough limbs. -/
import Derived.Test.YtjlaenglmdpboaaGreatQN13
namespace Go.Proofs.YtjlaenglmdpboaaGreat.N14
open Go Go.Im Go.Im.Limbs Go.Proofs Go.RowKit Go.Proofs.YtjlaenglmdpboaaGreat.Hd Go.Proofs.YtjlaenglmdpboaaGreat.N1 Go.Proofs.YtjlaenglmdpboaaGreat.N2 Go.Proofs.YtjlaenglmdpboaaGreat.N10 Go.Proofs.YtjlaenglmdpboaaGreat.N11 Go.Proofs.YtjlaenglmdpboaaGreat.N12 Go.Proofs.YtjlaenglmdpboaaGreat.N13
set_option maxRecDepth 100000
set_option linter.unusedSimpArgs false
set_option linter.unusedVariables false

theorem pow_dig {n N : Nat} (h : n < N) : (dig (10 ^ n)).length ≤ N := dig_ten (Nat.pow_lt_pow_right (by omega) h)
theorem dig_mul {m k a b : Nat} (h1 : (dig m).length ≤ a) (h2 : (dig k).length ≤ b) : (dig (m * k)).length ≤ a + b := by
  rw [dig_length] at *
  rw [Nat.pow_add]
  have h3 : m * k ≤ m * B ^ b := Nat.mul_le_mul_left _ (Nat.le_of_lt h2)
  have h4 : m * B ^ b < B ^ a * B ^ b := Nat.mul_lt_mul_of_pos_right h1 (Nat.pow_pos B_pos)
  omega
theorem gcd_quo {m k : Nat} (hk : k ≠ 0) : m / Nat.gcd m k ≠ 0 ↔ m ≠ 0 := by
  have hg : 0 < Nat.gcd m k := Nat.pos_of_ne_zero fun h0 => hk (Nat.eq_zero_of_gcd_eq_zero_right h0)
  constructor
  · rintro h rfl
    simp at h
  · intro h h0
    have h2 := Nat.div_mul_cancel (Nat.gcd_dvd_left m k)
    rw [h0, Nat.zero_mul] at h2
    exact h h2.symm

set_option maxHeartbeats 4000000 in
theorem rtimes_run (h : Heap) {v p2 q2 : Value} {m k m2 k2 b : Nat} {s t : Bool} (hv : RatV h v m s k) (hb : b < h.size) (hg : h.get b = .cells [p2, .bool t, q2] 3) (hp2 : NatV h (.agg #[p2]) m2) (hq2 : NatV h (.agg #[q2]) k2)
    (hk : k ≠ 0) (hk2 : k2 ≠ 0) (l1 : (dig m).length ≤ 200000000) (l2 : (dig k).length ≤ 200000000) (l3 : (dig m2).length ≤ 200000000) (l4 : (dig k2).length ≤ 200000000) :
    Runs K f_ratio_Rat_Times #[v, .slice (some ⟨b, 0, none⟩) 1 1] h fun r w => RatV w r (m * m2 / Nat.gcd (m * m2) (k * k2)) ((s != t) && decide (m * m2 ≠ 0)) (k * k2 / Nat.gcd (m * m2) (k * k2)) := by
  obtain ⟨p, q, rfl, hp, hq⟩ := hv
  obtain ⟨a, n, c, rfl⟩ := natv_slice hp
  obtain ⟨a', n', c', rfl⟩ := natv_slice hq
  obtain ⟨a2, n2, c2, rfl⟩ := natv_slice hp2
  obtain ⟨a2', n2', c2', rfl⟩ := natv_slice hq2
  refine Runs.of Kok (Does.intro rfl (by decide +kernel) F_ratio_Rat_Times rfl ?_)
  obtain ⟨w0, e0, x0, hs0, z0, z1⟩ := lay2 h (.cells [.slice a n c, .bool s, .slice a' n' c'] 3) (.cells [.slice none 0 0, .bool false, .slice none 0 0] 3)
  have j1 : h.size ≤ h.size + 1 := by omega
  simp +decide only [go_sem, W_region, Wx_some, Nat.reduceAdd, Nat.reduceMul, Nat.reduceEqDiff, Int.reduceAdd, Int.reduceSub, Int.reduceMul, Int.reduceNeg, Int.reduceToNat, e0]
  rw [W_round]
  have hg0 : w0.get b = _ := (x0.2 _ hb).trans hg
  obtain ⟨w1, e1, x1, hs1, g1⟩ := lay1 w0 (.cells [.slice none 0 0, .bool false, .slice none 0 0] 3)
  have k1 : h.size ≤ w0.size := by omega
  have hg1 : w1.get b = _ := (x1.2 _ (by omega)).trans hg0
  obtain ⟨w2, e2, x2, hs2, g2, k2'⟩ := put1 (x0.trans x1) k1 (.cells [.slice a2 n2 c2, .bool t, .slice a2' n2' c2'] 3)
  have z0 : w2.get h.size = _ := (k2' _ (by omega)).trans ((x1.2 _ (by omega)).trans z0)
  have z1 : w2.get (h.size + 1) = _ := (k2' _ (by omega)).trans ((x1.2 _ (by omega)).trans z1)
  have up : ∀ {v : Value} {M : Nat}, NatV h v M → NatV w2 v M := fun H => ((H.ext x0).ext x1).over g1 (by rfl) (by rfl) hs2 g2 k2'
  have np := up hp
  have nq := up hq
  have np2 := up hp2
  have nq2 := up hq2
  obtain ⟨w3, e3, x3, hs3, g3⟩ := lay1 w2 (.cells [.slice a2 n2 c2, .bool t] 2)
  simp +decide only [go_sem, W_region, Wx_some, Nat.reduceAdd, Nat.reduceMul, Nat.reduceEqDiff, Int.reduceAdd, Int.reduceSub, Int.reduceMul, Int.reduceNeg, Int.reduceToNat, e1, hg0, g1, k1, e2, z0, g2, e3]
  refine W_call Kok (by omega) (itimes_run w3 (m := m) (s := s) (b := w2.size) ⟨_, rfl, np.ext x3⟩ (by omega) g3 (np2.ext x3) (by omega) (by omega)) fun r w4 x4 hr4 => ?_
  obtain ⟨pt, rfl, hpt⟩ := hr4
  have z0 : w4.get h.size = _ := (x4.2 _ (by omega)).trans ((x3.2 _ (by omega)).trans z0)
  have g2' : w4.get w0.size = _ := (x4.2 _ (by omega)).trans ((x3.2 _ (by omega)).trans g2)
  have x34 := x3.trans x4
  simp +decide only [go_sem, W_region, Wx_some, Nat.reduceAdd, Nat.reduceMul, Nat.reduceEqDiff, Int.reduceAdd, Int.reduceSub, Int.reduceMul, Int.reduceNeg, Int.reduceToNat, z0]
  refine W_call Kok (by have := x34.1; omega) (under_run w4 (m := m) (s := s) ⟨_, _, rfl, np.ext x34, nq.ext x34⟩ hk) fun r w5 x5 hr5 => ?_
  obtain ⟨pu, rfl, hpu⟩ := hr5
  have g2' : w5.get w0.size = _ := (x5.2 _ (by have := x34.1; omega)).trans g2'
  have x35 := x34.trans x5
  simp +decide only [go_sem, W_region, Wx_some, Nat.reduceAdd, Nat.reduceMul, Nat.reduceEqDiff, Int.reduceAdd, Int.reduceSub, Int.reduceMul, Int.reduceNeg, Int.reduceToNat, g2']
  refine W_call Kok (by have := x35.1; omega) (under_run w5 (m := m2) (s := t) ⟨_, _, rfl, np2.ext x35, nq2.ext x35⟩ hk2) fun r w6 x6 hr6 => ?_
  obtain ⟨pv, rfl, hpv⟩ := hr6
  obtain ⟨av, nv, cv, rfl⟩ := natv_slice hpv
  obtain ⟨w7, e7, x7, hs7, g7⟩ := lay1 w6 (.cells [.slice av nv cv, .bool false] 2)
  have x36 := x35.trans x6
  have x37 := x36.trans x7
  simp +decide only [go_sem, W_region, Wx_some, Nat.reduceAdd, Nat.reduceMul, Nat.reduceEqDiff, Int.reduceAdd, Int.reduceSub, Int.reduceMul, Int.reduceNeg, Int.reduceToNat, e7]
  refine W_call Kok (by have := x36.1; omega) (itimes_run w7 (m := k) (s := false) (b := w6.size) ⟨_, rfl, hpu.ext (x6.trans x7)⟩ (by omega) g7 (hpv.ext x7) (by omega) (by omega)) fun r w8 x8 hr8 => ?_
  obtain ⟨pw, rfl, hpw⟩ := hr8
  have x38 := x37.trans x8
  simp +decide only [go_sem, W_region, Wx_some, Nat.reduceAdd, Nat.reduceMul, Nat.reduceEqDiff, Int.reduceAdd, Int.reduceSub, Int.reduceMul, Int.reduceNeg, Int.reduceToNat]
  have hkk : k * k2 ≠ 0 := Nat.mul_ne_zero hk hk2
  refine W_call Kok (by have := x38.1; omega) (new_run w8 (m := m * m2) (k := k * k2) ⟨_, rfl, hpt.ext (x5.trans (x6.trans (x7.trans x8)))⟩ ⟨_, rfl, hpw⟩ hkk (Nat.le_trans (dig_mul l1 l3) (by omega)) (Nat.le_trans (dig_mul l2 l4) (by omega))) fun r w9 x9 hr9 => ?_
  obtain ⟨qr, rfl, hqr⟩ := hr9
  have hsg : ((((s != t) && decide (m * m2 ≠ 0)) != ((false != false) && decide (k * k2 ≠ 0))) && decide (m * m2 / Nat.gcd (m * m2) (k * k2) ≠ 0)) = ((s != t) && decide (m * m2 ≠ 0)) := by
    have hx := gcd_quo (m := m * m2) hkk
    by_cases h0 : m * m2 = 0
    · simp [h0]
    · have h1 := hx.2 h0
      simp [h0, h1]
  rw [hsg] at hqr
  obtain ⟨pr, qq, rfl, hpr, hqq⟩ := hqr
  obtain ⟨a9, n9, c9, rfl⟩ := natv_slice hpr
  obtain ⟨a9', n9', c9', rfl⟩ := natv_slice hqq
  have x39 := x38.trans x9
  have z0 : w9.get h.size = .cells [.slice a n c, .bool s, .slice a' n' c'] 3 := (((x5.trans (x6.trans (x7.trans (x8.trans x9)))).2 _ (by have := x34.1; omega))).trans z0
  have z1 : w9.get (h.size + 1) = _ := (x39.2 _ (by omega)).trans z1
  obtain ⟨wa, ea, xa, hsa, ga, ka⟩ := put1 (x2.trans x39) (Nat.le_refl h.size) (.cells [.slice a9 n9 c9, .bool ((s != t) && decide (m * m2 ≠ 0)), .slice a9' n9' c9'] 3)
  have z1 : wa.get (h.size + 1) = _ := (ka _ (by omega)).trans z1
  obtain ⟨wb, eb, xb, hsb, gb, kb⟩ := put1 xa j1 (.cells [.slice a9 n9 c9, .bool ((s != t) && decide (m * m2 ≠ 0)), .slice a9' n9' c9'] 3)
  have i1 : IntKind.i64.wrap (0 + 1) = 1 := wrap_i64 (by omega) (by omega)
  generalize hbs : ((s != t) && decide (m * m2 ≠ 0)) = bs at *
  simp +decide only [go_sem, W_region, Wx_some, Nat.reduceAdd, Nat.reduceMul, Nat.reduceEqDiff, Int.reduceAdd, Int.reduceSub, Int.reduceMul, Int.reduceNeg, Int.reduceToNat, z0, Nat.le_refl, ea, i1]
  rw [W_round]
  simp +decide only [go_sem, W_region, Wx_some, Nat.reduceAdd, Nat.reduceMul, Nat.reduceEqDiff, Int.reduceAdd, Int.reduceSub, Int.reduceMul, Int.reduceNeg, Int.reduceToNat, ga, z1, j1, eb, gb]
  exact ⟨_, _, rfl, (hpr.over z0 (by rfl) (by rfl) hsa ga ka).over z1 (by rfl) (by rfl) hsb gb kb, (hqq.over z0 (by rfl) (by rfl) hsa ga ka).over z1 (by rfl) (by rfl) hsb gb kb⟩

set_option maxHeartbeats 4000000 in
theorem by_run (h : Heap) {v u : Value} {m k m2 k2 : Nat} {s : Bool} (hv : RatV h v m s k) (hu : RatV h u m2 false k2)
    (hk : k ≠ 0) (hk2 : k2 ≠ 0) (hm2 : m2 ≠ 0) (l1 : (dig m).length ≤ 200000000) (l2 : (dig k).length ≤ 200000000) (l3 : (dig m2).length ≤ 200000000) (l4 : (dig k2).length ≤ 200000000) :
    Runs K f_ratio_Rat_By #[v, u] h fun r w => ∃ q, r = .tuple #[q, .bool true] ∧ RatV w q (m * k2 / Nat.gcd (m * k2) (k * m2)) (s && decide (m * k2 ≠ 0)) (k * m2 / Nat.gcd (m * k2) (k * m2)) := by
  obtain ⟨p, q, rfl, hp, hq⟩ := hv
  obtain ⟨a, n, c, rfl⟩ := natv_slice hp
  obtain ⟨a', n', c', rfl⟩ := natv_slice hq
  obtain ⟨p2, q2, rfl, hp2, hq2⟩ := hu
  obtain ⟨a2, n2, c2, rfl⟩ := natv_slice hp2
  obtain ⟨a2', n2', c2', rfl⟩ := natv_slice hq2
  refine Runs.of Kok (Does.intro rfl (by decide +kernel) F_ratio_Rat_By rfl ?_)
  obtain ⟨w2, e0, x0, hs0, z0, z1, z2⟩ := lay3 h (.cells [.slice a n c, .bool s, .slice a' n' c'] 3) (.cells [.slice a2 n2 c2, .bool false, .slice a2' n2' c2'] 3) (.cells [.slice none 0 0, .bool false, .slice none 0 0] 3)
  have j2 : h.size ≤ h.size + 2 := by omega
  have np := hp.ext x0
  have nq := hq.ext x0
  have np2 := hp2.ext x0
  have nq2 := hq2.ext x0
  simp +decide only [go_sem, W_region, Wx_some, Nat.reduceAdd, Nat.reduceMul, Nat.reduceEqDiff, Int.reduceAdd, Int.reduceSub, Int.reduceMul, Int.reduceNeg, Int.reduceToNat, e0, z0, z1]
  refine W_call Kok (by omega) (under_run w2 (m := m2) (s := false) ⟨_, _, rfl, np2, nq2⟩ hk2) fun r w3 x3 hr3 => ?_
  obtain ⟨pv, rfl, hpv⟩ := hr3
  obtain ⟨av, nv, cv, rfl⟩ := natv_slice hpv
  obtain ⟨w4, e4, x4, hs4, g4⟩ := lay1 w3 (.cells [.slice av nv cv, .bool false] 2)
  have x34 := x3.trans x4
  simp +decide only [go_sem, W_region, Wx_some, Nat.reduceAdd, Nat.reduceMul, Nat.reduceEqDiff, Int.reduceAdd, Int.reduceSub, Int.reduceMul, Int.reduceNeg, Int.reduceToNat, e4]
  refine W_call Kok (by have := x3.1; omega) (itimes_run w4 (m := m) (s := s) (b := w3.size) ⟨_, rfl, np.ext x34⟩ (by omega) g4 (hpv.ext x4) (by omega) (by omega)) fun r w5 x5 hr5 => ?_
  obtain ⟨pt, rfl, hpt⟩ := hr5
  have x35 := x34.trans x5
  have z0 : w5.get h.size = _ := (x35.2 _ (by omega)).trans z0
  have z1 : w5.get (h.size + 1) = _ := (x35.2 _ (by omega)).trans z1
  simp +decide only [go_sem, W_region, Wx_some, Nat.reduceAdd, Nat.reduceMul, Nat.reduceEqDiff, Int.reduceAdd, Int.reduceSub, Int.reduceMul, Int.reduceNeg, Int.reduceToNat, z0]
  refine W_call Kok (by have := x35.1; omega) (under_run w5 (m := m) (s := s) ⟨_, _, rfl, np.ext x35, nq.ext x35⟩ hk) fun r w6 x6 hr6 => ?_
  obtain ⟨pu, rfl, hpu⟩ := hr6
  have x36 := x35.trans x6
  have z1 : w6.get (h.size + 1) = _ := (x6.2 _ (by have := x35.1; omega)).trans z1
  obtain ⟨w7, e7, x7, hs7, g7⟩ := lay1 w6 (.cells [.slice a2 n2 c2, .bool false] 2)
  have x37 := x36.trans x7
  simp +decide only [go_sem, W_region, Wx_some, Nat.reduceAdd, Nat.reduceMul, Nat.reduceEqDiff, Int.reduceAdd, Int.reduceSub, Int.reduceMul, Int.reduceNeg, Int.reduceToNat, z1, e7]
  refine W_call Kok (by have := x36.1; omega) (itimes_run w7 (m := k) (s := false) (b := w6.size) ⟨_, rfl, hpu.ext x7⟩ (by omega) g7 (np2.ext x37) (by omega) (by omega)) fun r w8 x8 hr8 => ?_
  obtain ⟨pw, rfl, hpw⟩ := hr8
  have x38 := x37.trans x8
  simp +decide only [go_sem, W_region, Wx_some, Nat.reduceAdd, Nat.reduceMul, Nat.reduceEqDiff, Int.reduceAdd, Int.reduceSub, Int.reduceMul, Int.reduceNeg, Int.reduceToNat]
  have hkk : k * m2 ≠ 0 := Nat.mul_ne_zero hk hm2
  refine W_call Kok (by have := x38.1; omega) (new_run w8 (m := m * k2) (k := k * m2) ⟨_, rfl, hpt.ext (x6.trans (x7.trans x8))⟩ ⟨_, rfl, hpw⟩ hkk (Nat.le_trans (dig_mul l1 l4) (by omega)) (Nat.le_trans (dig_mul l2 l3) (by omega))) fun r w9 x9 hr9 => ?_
  obtain ⟨qr, rfl, hqr⟩ := hr9
  have hsg : ((((s != false) && decide (m * k2 ≠ 0)) != ((false != false) && decide (k * m2 ≠ 0))) && decide (m * k2 / Nat.gcd (m * k2) (k * m2) ≠ 0)) = (s && decide (m * k2 ≠ 0)) := by
    have hx := gcd_quo (m := m * k2) hkk
    by_cases h0 : m * k2 = 0
    · simp [h0]
    · have h1 := hx.2 h0
      simp [h0, h1]
  rw [hsg] at hqr
  obtain ⟨pr, qq, rfl, hpr, hqq⟩ := hqr
  obtain ⟨a9, n9, c9, rfl⟩ := natv_slice hpr
  obtain ⟨a9', n9', c9', rfl⟩ := natv_slice hqq
  have x39 := x38.trans x9
  have z2 : w9.get (h.size + 2) = _ := (x39.2 _ (by omega)).trans z2
  generalize hbs : (s && decide (m * k2 ≠ 0)) = bs at *
  obtain ⟨wa, ea, xa, hsa, ga, ka⟩ := put1 (x0.trans x39) j2 (.cells [.slice a9 n9 c9, .bool bs, .slice a9' n9' c9'] 3)
  simp +decide only [go_sem, W_region, Wx_some, Nat.reduceAdd, Nat.reduceMul, Nat.reduceEqDiff, Int.reduceAdd, Int.reduceSub, Int.reduceMul, Int.reduceNeg, Int.reduceToNat, z2, j2, ea, ga]
  exact ⟨_, rfl, _, _, rfl, hpr.over z2 (by rfl) (by rfl) hsa ga ka, hqq.over z2 (by rfl) (by rfl) hsa ga ka⟩

/-- A whole number times a power of ten. -/
def scM (m : Nat) (e : Int) : Nat := if 0 ≤ e then m * 10 ^ e.toNat else m / Nat.gcd m (10 ^ (-e).toNat)
def scK (m : Nat) (e : Int) : Nat := if 0 ≤ e then 1 else 10 ^ (-e).toNat / Nat.gcd m (10 ^ (-e).toNat)
set_option maxHeartbeats 4000000 in
theorem scaled_run (h : Heap) {v : Value} {m : Nat} {s : Bool} {e : Int} (hv : RatV h v m s 1) (hs : s = true → m ≠ 0) (l1 : (dig m).length ≤ 100000000) (he1 : -2000 ≤ e) (he2 : e ≤ 2000) :
    Runs K f_deci_scaled #[v, .int .i64 e] h fun r w => RatV w r (scM m e) s (scK m e) := by
  obtain ⟨p, q, rfl, hp, hq⟩ := hv
  obtain ⟨a, n, c, rfl⟩ := natv_slice hp
  obtain ⟨a', n', c', rfl⟩ := natv_slice hq
  have l10 : ∀ n, n ≤ 2000 → (dig (10 ^ n)).length ≤ 2001 := fun n hn => pow_dig (by omega)
  refine Runs.of Kok (Does.intro rfl (by decide +kernel) F_deci_scaled rfl ?_)
  obtain ⟨w0, e0, x0, hs0, z0, z1⟩ := lay2 h (.cells [.slice a n c, .bool s, .slice a' n' c'] 3) (.cells [.slice none 0 0, .bool false, .slice none 0 0] 3)
  have j1 : h.size ≤ h.size + 1 := by omega
  have i1 : IntKind.i64.wrap (0 - e) = 0 - e := wrap_i64 (by omega) (by omega)
  obtain ⟨g, hg⟩ : ∃ g : Nat, g = (max e (0 - e)).toNat := ⟨_, rfl⟩
  have i2 : max e (0 - e) = (g : Int) := by omega
  simp +decide only [go_sem, W_region, Wx_some, Nat.reduceAdd, Nat.reduceMul, Nat.reduceEqDiff, Int.reduceAdd, Int.reduceSub, Int.reduceMul, Int.reduceNeg, Int.reduceToNat, e0, i1, i2]
  refine W_call Kok (by omega) (ten_run g w0 (by omega)) fun r w1 x1 hr => ?_
  simp +decide only [go_sem, W_region, Wx_some, Nat.reduceAdd, Nat.reduceMul, Nat.reduceEqDiff, Int.reduceAdd, Int.reduceSub, Int.reduceMul, Int.reduceNeg, Int.reduceToNat]
  refine W_call Kok (by have := x1.1; omega) (wof_run w1 false hr) fun r w2 x2 hr => ?_
  simp +decide only [go_sem, W_region, Wx_some, Nat.reduceAdd, Nat.reduceMul, Nat.reduceEqDiff, Int.reduceAdd, Int.reduceSub, Int.reduceMul, Int.reduceNeg, Int.reduceToNat]
  refine W_call Kok (by have := x1.1; have := x2.1; omega) (whole_run w2 hr) fun r w3 x3 hr => ?_
  obtain ⟨p3, q3, rfl, hp3, hq3⟩ := hr
  obtain ⟨a3, n3, c3, rfl⟩ := natv_slice hp3
  obtain ⟨a3', n3', c3', rfl⟩ := natv_slice hq3
  have x13 := x1.trans (x2.trans x3)
  have hx3 := x0.trans x13
  obtain ⟨w4, e4, x4, hs4, g4⟩ := lay1 w3 (.cells [.slice none 0 0, .bool false, .slice none 0 0] 3)
  have t3 : w0.size ≤ w3.size := x13.1
  have k3 : h.size ≤ w3.size := by omega
  obtain ⟨w5, e5, x5, hs5, g5, k5⟩ := put1 (hx3.trans x4) k3 (.cells [.slice a3 n3 c3, .bool false, .slice a3' n3' c3'] 3)
  have up : ∀ {v : Value} {M : Nat}, NatV w3 v M → NatV w5 v M := fun H => (H.ext x4).over g4 (by rfl) (by rfl) hs5 g5 k5
  have np := up ((hp.ext x0).ext x13)
  have nq := up ((hq.ext x0).ext x13)
  have np3 := up hp3
  have nq3 := up hq3
  have z0 : w5.get h.size = _ := (k5 _ (by omega)).trans ((x4.2 _ (by omega)).trans ((x13.2 _ (by omega)).trans z0))
  have z1 : w5.get (h.size + 1) = _ := (k5 _ (by omega)).trans ((x4.2 _ (by omega)).trans ((x13.2 _ (by omega)).trans z1))
  have fin : ∀ (w : Heap) {u : Value} {M K' : Nat}, Ext w5 w → RatV w u M s K' → ∃ aa nn cc a2 n2 c2 wd, u = .agg #[.slice aa nn cc, .bool s, .slice a2 n2 c2] ∧ w.set (h.size + 1) (.cells [.slice aa nn cc, .bool s, .slice a2 n2 c2] 3) = wd ∧ w.get (h.size + 1) = .cells [.slice none 0 0, .bool false, .slice none 0 0] 3 ∧ wd.get (h.size + 1) = .cells [.slice aa nn cc, .bool s, .slice a2 n2 c2] 3 ∧ RatV wd u M s K' := by
    intro w u M K' hx hu
    obtain ⟨pp, qq, rfl, hpp, hqq⟩ := hu
    obtain ⟨aa, nn, cc, rfl⟩ := natv_slice hpp
    obtain ⟨a2, n2, c2, rfl⟩ := natv_slice hqq
    have z1 : w.get (h.size + 1) = _ := (hx.2 _ (by omega)).trans z1
    obtain ⟨wd, ed, xd, hsd, gd, kd⟩ := put1 (x5.trans hx) j1 (.cells [.slice aa nn cc, .bool s, .slice a2 n2 c2] 3)
    exact ⟨aa, nn, cc, a2, n2, c2, wd, rfl, ed, z1, gd, _, _, rfl, hpp.over z1 (by rfl) (by rfl) hsd gd kd, hqq.over z1 (by rfl) (by rfl) hsd gd kd⟩
  have hsm : ∀ M, M ≠ 0 → (s && decide (m * M ≠ 0)) = s := by
    intro M hM
    cases s with
    | false => rfl
    | true =>
      have := Nat.mul_ne_zero (hs rfl) hM
      simp [this]
  have h10 : 10 ^ g ≠ 0 := by have : 0 < 10 ^ g := Nat.pow_pos (by omega); omega
  by_cases hpos : (0 : Int) ≤ e
  · obtain ⟨w6, e6, x6, hs6, g6⟩ := lay1 w5 (.cells [.slice a3 n3 c3, .bool false, .slice a3' n3' c3'] 3)
    simp +decide only [go_sem, W_region, Wx_some, Nat.reduceAdd, Nat.reduceMul, Nat.reduceEqDiff, Int.reduceAdd, Int.reduceSub, Int.reduceMul, Int.reduceNeg, Int.reduceToNat, Bool.false_and, e4, g4, k3, e5, hpos, z0, g5, e6]
    refine W_call Kok (by have := x5.1; omega) (rtimes_run w6 (m := m) (k := 1) (s := s) (b := w5.size) ⟨_, _, rfl, np.ext x6, nq.ext x6⟩ (by omega) g6 (np3.ext x6) (nq3.ext x6) (by omega) (by omega) (by omega) (Nat.le_trans (dig_length.2 (show 1 < B ^ 1 by rw [B_eq]; omega)) (by omega)) (Nat.le_trans (l10 g (by omega)) (by omega)) (Nat.le_trans (dig_length.2 (show 1 < B ^ 1 by rw [B_eq]; omega)) (by omega))) fun r w7 x7 hr => ?_
    have eg : e.toNat = g := by omega
    have hM : m * 10 ^ g / Nat.gcd (m * 10 ^ g) (1 * 1) = scM m e := by
      rw [scM, if_pos hpos, eg, Nat.mul_one, Nat.gcd_one_right, Nat.div_one]
    have hK : 1 * 1 / Nat.gcd (m * 10 ^ g) (1 * 1) = scK m e := by
      rw [scK, if_pos hpos, Nat.mul_one, Nat.gcd_one_right]
    rw [hM, hK, Bool.bne_false, hsm _ h10] at hr
    obtain ⟨aa, nn, cc, a2, n2, c2, wd, rfl, ed, zz1, gd, hfin⟩ := fin w7 (x6.trans x7) hr
    simp +decide only [go_sem, W_region, Wx_some, Nat.reduceAdd, Nat.reduceMul, Nat.reduceEqDiff, Int.reduceAdd, Int.reduceSub, Int.reduceMul, Int.reduceNeg, Int.reduceToNat, zz1, j1, ed, gd]
    exact hfin
  · simp +decide only [go_sem, W_region, Wx_some, Nat.reduceAdd, Nat.reduceMul, Nat.reduceEqDiff, Int.reduceAdd, Int.reduceSub, Int.reduceMul, Int.reduceNeg, Int.reduceToNat, Bool.false_and, e4, g4, k3, e5, hpos, z0, g5]
    refine W_call Kok (by have := x5.1; omega) (by_run w5 (m := m) (k := 1) (s := s) ⟨_, _, rfl, np, nq⟩ ⟨_, _, rfl, np3, nq3⟩ (by omega) (by omega) h10 (by omega) (Nat.le_trans (dig_length.2 (show 1 < B ^ 1 by rw [B_eq]; omega)) (by omega)) (Nat.le_trans (l10 g (by omega)) (by omega)) (Nat.le_trans (dig_length.2 (show 1 < B ^ 1 by rw [B_eq]; omega)) (by omega))) fun r w7 x7 hr => ?_
    obtain ⟨qv, rfl, hqv⟩ := hr
    have eg : (-e).toNat = g := by omega
    have hM : m * 1 / Nat.gcd (m * 1) (1 * 10 ^ g) = scM m e := by
      rw [scM, if_neg hpos, eg, Nat.mul_one, Nat.one_mul]
    have hK : 1 * 10 ^ g / Nat.gcd (m * 1) (1 * 10 ^ g) = scK m e := by
      rw [scK, if_neg hpos, eg, Nat.mul_one, Nat.one_mul]
    rw [hM, hK, hsm 1 (by omega)] at hqv
    obtain ⟨pp, qq, rfl, hpp, hqq⟩ := hqv
    obtain ⟨aa, nn, cc, rfl⟩ := natv_slice hpp
    obtain ⟨a2, n2, c2, rfl⟩ := natv_slice hqq
    obtain ⟨w8, e8, x8, hs8, g8⟩ := lay1 w7 (.cells [.slice none 0 0, .bool false, .slice none 0 0] 3)
    have k7 : h.size ≤ w7.size := by have := x7.1; have := x5.1; omega
    obtain ⟨w9, e9, x9, hs9, g9, k9⟩ := put1 (x5.trans (x7.trans x8)) k7 (.cells [.slice aa nn cc, .bool s, .slice a2 n2 c2] 3)
    have zz1 : w9.get (h.size + 1) = .cells [.slice none 0 0, .bool false, .slice none 0 0] 3 := (k9 _ (by have := x7.1; omega)).trans ((x8.2 _ (by have := x7.1; omega)).trans ((x7.2 _ (by omega)).trans z1))
    obtain ⟨wd, ed, xd, hsd, gd, kd⟩ := put1 x9 j1 (.cells [.slice aa nn cc, .bool s, .slice a2 n2 c2] 3)
    simp +decide only [go_sem, W_region, Wx_some, Nat.reduceAdd, Nat.reduceMul, Nat.reduceEqDiff, Int.reduceAdd, Int.reduceSub, Int.reduceMul, Int.reduceNeg, Int.reduceToNat, e8, g8, k7, e9, g9, zz1, j1, ed, gd]
    exact ⟨_, _, rfl, ((hpp.ext x8).over g8 (by rfl) (by rfl) hs9 g9 k9).over zz1 (by rfl) (by rfl) hsd gd kd, ((hqq.ext x8).over g8 (by rfl) (by rfl) hs9 g9 k9).over zz1 (by rfl) (by rfl) hsd gd kd⟩
end Go.Proofs.YtjlaenglmdpboaaGreat.N14
