/- Proved here: the document's whole numbers and ratios: signs, products, quotients, powers of ten; of numbers of up to a thousand digits. -/
import Derived.Test.YtjlaenglmdpboaaGreatQR3
set_option linter.unusedSimpArgs false
set_option linter.unusedVariables false
namespace Go.Im.Dec
open Go Go.Im Go.Im.Limbs Go.Proofs.YtjlaenglmdpboaaGreat.N12
/-- A whole number of the document's. -/
def intA (s : Bool) (n : Nat) : Value := .agg #[.bool s, .string (text (ds n))]
/-- A ratio of the document's. -/
def numA (s : Bool) (m k : Nat) : Value := .agg #[.bool s, .string (text (ds m)), .string (text (ds k))]
theorem zt {n : Nat} : (text (ds n) = (⟨#[48]⟩ : ByteArray)) = (n = 0) := propext ⟨fun h => ds_inj.1 ((text_inj.1 (h.trans (show (⟨#[48]⟩ : ByteArray) = text [48] from rfl))).trans ds_zero.symm), fun h => by subst h; rw [ds_zero]; rfl⟩
theorem ds_pow (n : Nat) : ds (10 ^ n) = 49 :: List.replicate n 48 := by
  induction n with
  | zero => exact ds_one
  | succ n ih =>
    have : 1 ≤ 10 ^ n := Nat.pow_pos (by omega)
    rw [ds_ge (by rw [Nat.pow_succ]; omega), Nat.pow_succ, Nat.mul_div_cancel _ (by omega), Nat.mul_mod_left, ih, List.replicate_succ']
    rfl
theorem ds_mul {m k a b : Nat} (h1 : (ds m).length ≤ a) (h2 : (ds k).length ≤ b) : (ds (m * k)).length ≤ a + b := by
  have l1 := Nat.lt_of_lt_of_le (ds_lt_pow m) (Nat.pow_le_pow_right (by omega) h1)
  have l2 := Nat.lt_of_lt_of_le (ds_lt_pow k) (Nat.pow_le_pow_right (by omega) h2)
  have := ds_pos m
  refine ds_len ?_ (by omega)
  rw [Nat.pow_add]
  exact Nat.mul_lt_mul_of_lt_of_lt l1 l2
theorem ds_div {m g a : Nat} (h : (ds m).length ≤ a) : (ds (m / g)).length ≤ a := Nat.le_trans (ds_mono (Nat.div_le_self m g)) h
end Go.Im.Dec
namespace Go.Proofs.YtjlaenglmdpboaaGreat.R4
open Go Go.Im Go.Im.Limbs Go.Im.Dec Go.Proofs Go.RowKit Go.Proofs.YtjlaenglmdpboaaGreat.Hd Go.Proofs.YtjlaenglmdpboaaGreat.N12 Go.Proofs.YtjlaenglmdpboaaGreat.R1 Go.Proofs.YtjlaenglmdpboaaGreat.R2 Go.Proofs.YtjlaenglmdpboaaGreat.R3
set_option maxRecDepth 100000

theorem of_run (s : Bool) {t : List UInt8} (hd : Digs t) (hne : t ≠ []) (hl : t.length ≤ 1000000) (h : Heap) : Runs K f_ref02_Of #[.bool s, .string (text t)] h fun r _ => r = intA (s && decide (dec t ≠ 0)) (dec t) := by
  refine Runs.of Kok (Does.intro rfl (by decide +kernel) F_ref02_Of rfl ?_)
  obtain ⟨w0, e0, x0, hs0, z0⟩ := lay1 h (.cells [.bool false, .string ByteArray.empty] 2)
  simp +decide only [go_sem, W_region, Wx_some, Nat.reduceAdd, Nat.reduceMul, Nat.reduceEqDiff, Int.reduceAdd, Int.reduceSub, Int.reduceMul, Int.reduceNeg, Int.reduceToNat, e0]
  refine W_call Kok x0.1 (trim_ds_run hd hne w0 (by omega)) fun r w1 x1 hr => ?_
  subst hr
  have z1 : w1.get h.size = _ := (x1.2 _ (by omega)).trans z0
  cases s
  · obtain ⟨w2, e2, x2, hs2, z2, _⟩ := put1 (x0.trans x1) (Nat.le_refl _) (.cells [.bool false, .string (text (ds (dec t)))] 2)
    simp +decide only [go_sem, W_region, Wx_some, Nat.reduceAdd, Nat.reduceMul, Nat.reduceEqDiff, Int.reduceAdd, Int.reduceSub, Int.reduceMul, Int.reduceNeg, Int.reduceToNat, z1, e2, z2, Nat.le_refl]
    rfl
  · obtain ⟨w2, e2, x2, hs2, z2, _⟩ := put1 (x0.trans x1) (Nat.le_refl _) (.cells [.bool (!decide (dec t = 0)), .string (text (ds (dec t)))] 2)
    simp +decide only [go_sem, W_region, Wx_some, Nat.reduceAdd, Nat.reduceMul, Nat.reduceEqDiff, Int.reduceAdd, Int.reduceSub, Int.reduceMul, Int.reduceNeg, Int.reduceToNat, z1, zt, e2, z2, Nat.le_refl]
    simp [intA]
theorem of_ds (s : Bool) (n : Nat) (hl : (ds n).length ≤ 1000000) (h : Heap) : Runs K f_ref02_Of #[.bool s, .string (text (ds n))] h fun r _ => r = intA (s && decide (n ≠ 0)) n := by
  have := of_run s (ds_digs n) (ds_ne n) hl h
  rwa [dec_ds] at this
theorem mul2_run (s u : Bool) (m k : Nat) (h : Heap) (h1 : (ds m).length ≤ 200000) (h2 : (ds k).length ≤ 200000) : Runs K f_ref02_Mul #[intA s m, intA u k] h fun r _ => r = intA (!decide (s = u) && decide (m * k ≠ 0)) (m * k) := by
  refine Runs.of Kok (Does.intro rfl (by decide +kernel) F_ref02_Mul rfl ?_)
  obtain ⟨w0, e0, x0, hs0, z0, z1, z2⟩ := lay3 h (.cells [.bool s, .string (text (ds m))] 2) (.cells [.bool u, .string (text (ds k))] 2) (.cells [.bool false, .string ByteArray.empty] 2)
  simp +decide only [go_sem, W_region, Wx_some, Nat.reduceAdd, Nat.reduceMul, Nat.reduceEqDiff, Int.reduceAdd, Int.reduceSub, Int.reduceMul, Int.reduceNeg, Int.reduceToNat, intA, e0, z0, z1]
  refine W_call Kok x0.1 (mul_run m k w0 h1 h2) fun r w1 x1 hr => ?_
  subst hr
  have hl := ds_mul h1 h2
  simp +decide only [go_sem, W_region, Wx_some, Nat.reduceAdd, Nat.reduceMul, Nat.reduceEqDiff, Int.reduceAdd, Int.reduceSub, Int.reduceMul, Int.reduceNeg, Int.reduceToNat]
  refine W_call Kok (x0.trans x1).1 (of_ds (!decide (s = u)) (m * k) (by omega) w1) fun r w2 x2 hr => ?_
  subst hr
  have z2' : w2.get (h.size + 2) = _ := (x2.2 _ (by have := x1.1; omega)).trans ((x1.2 _ (by omega)).trans z2)
  have j1 : h.size ≤ h.size + 2 := by omega
  obtain ⟨w3, e3, x3, hs3, z3, _⟩ := put1 (x0.trans (x1.trans x2)) j1 (.cells [.bool (!decide (s = u) && decide (m * k ≠ 0)), .string (text (ds (m * k)))] 2)
  simp +decide only [go_sem, W_region, Wx_some, Nat.reduceAdd, Nat.reduceMul, Nat.reduceEqDiff, Int.reduceAdd, Int.reduceSub, Int.reduceMul, Int.reduceNeg, Int.reduceToNat, intA, z2', j1, e3, z3]
theorem top_run (s : Bool) (m k : Nat) (h : Heap) (hl : (ds m).length ≤ 1000000) : Runs K f_ref03_Top #[numA s m k] h fun r _ => r = intA (s && decide (m ≠ 0)) m := by
  refine Runs.of Kok (Does.intro rfl (by decide +kernel) F_ref03_Top rfl ?_)
  obtain ⟨w0, e0, x0, hs0, z0, z1⟩ := lay2 h (.cells [.bool s, .string (text (ds m)), .string (text (ds k))] 3) (.cells [.bool false, .string ByteArray.empty] 2)
  simp +decide only [go_sem, W_region, Wx_some, Nat.reduceAdd, Nat.reduceMul, Nat.reduceEqDiff, Int.reduceAdd, Int.reduceSub, Int.reduceMul, Int.reduceNeg, Int.reduceToNat, numA, e0, z0]
  refine W_call Kok x0.1 (of_ds s m hl w0) fun r w2 x2 hr => ?_
  subst hr
  have z1' : w2.get (h.size + 1) = _ := (x2.2 _ (by omega)).trans z1
  have j1 : h.size ≤ h.size + 1 := by omega
  obtain ⟨w3, e3, x3, hs3, z3, _⟩ := put1 (x0.trans x2) j1 (.cells [.bool (s && decide (m ≠ 0)), .string (text (ds m))] 2)
  simp +decide only [go_sem, W_region, Wx_some, Nat.reduceAdd, Nat.reduceMul, Nat.reduceEqDiff, Int.reduceAdd, Int.reduceSub, Int.reduceMul, Int.reduceNeg, Int.reduceToNat, intA, z1', j1, e3, z3]
theorem bot_run (s : Bool) (m k : Nat) (h : Heap) (hl : (ds k).length ≤ 1000000) : Runs K f_ref03_Bot #[numA s m k] h fun r _ => r = intA false k := by
  refine Runs.of Kok (Does.intro rfl (by decide +kernel) F_ref03_Bot rfl ?_)
  obtain ⟨w0, e0, x0, hs0, z0, z1⟩ := lay2 h (.cells [.bool s, .string (text (ds m)), .string (text (ds k))] 3) (.cells [.bool false, .string ByteArray.empty] 2)
  simp +decide only [go_sem, W_region, Wx_some, Nat.reduceAdd, Nat.reduceMul, Nat.reduceEqDiff, Int.reduceAdd, Int.reduceSub, Int.reduceMul, Int.reduceNeg, Int.reduceToNat, numA, e0, z0]
  refine W_call Kok x0.1 (of_ds false k hl w0) fun r w2 x2 hr => ?_
  subst hr
  have z1' : w2.get (h.size + 1) = _ := (x2.2 _ (by omega)).trans z1
  have j1 : h.size ≤ h.size + 1 := by omega
  obtain ⟨w3, e3, x3, hs3, z3, _⟩ := put1 (x0.trans x2) j1 (.cells [.bool false, .string (text (ds k))] 2)
  simp +decide only [go_sem, W_region, Wx_some, Nat.reduceAdd, Nat.reduceMul, Nat.reduceEqDiff, Int.reduceAdd, Int.reduceSub, Int.reduceMul, Int.reduceNeg, Int.reduceToNat, intA, z1', j1, e3, z3]
theorem zero_run (h : Heap) : Runs K f_ref03_Zero #[] h fun r _ => r = numA false 0 1 := by
  refine Runs.of Kok (Does.intro rfl (by decide +kernel) F_ref03_Zero rfl ?_)
  obtain ⟨w0, e0, x0, hs0, z0⟩ := lay1 h (.cells [.bool false, .string ByteArray.empty, .string ByteArray.empty] 3)
  obtain ⟨w1, e1, x1, hs1, z1, _⟩ := put1 x0 (Nat.le_refl _) (.cells [.bool false, .string ⟨#[48]⟩, .string ⟨#[49]⟩] 3)
  have sz : (Env.start 2 []).size = 2 := rfl
  simp +decide only [go_sem, W_region, Wx_some, Nat.reduceAdd, Nat.reduceMul, Nat.reduceEqDiff, Int.reduceAdd, Int.reduceSub, Int.reduceMul, Int.reduceNeg, Int.reduceToNat, e0, z0, Nat.le_refl, e1, z1, sz]
  rw [numA, ds_zero, ds_one]
  rfl
theorem whole_run (s : Bool) (m : Nat) (h : Heap) : Runs K f_ref03_Whole #[intA s m] h fun r _ => r = numA s m 1 := by
  refine Runs.of Kok (Does.intro rfl (by decide +kernel) F_ref03_Whole rfl ?_)
  have j1 : h.size ≤ h.size + 1 := by omega
  obtain ⟨w0, e0, x0, hs0, z0, z1⟩ := lay2 h (.cells [.bool s, .string (text (ds m))] 2) (.cells [.bool false, .string ByteArray.empty, .string ByteArray.empty] 3)
  obtain ⟨w1, e1, x1, hs1, z1', _⟩ := put1 x0 j1 (.cells [.bool s, .string (text (ds m)), .string ⟨#[49]⟩] 3)
  simp +decide only [go_sem, W_region, Wx_some, Nat.reduceAdd, Nat.reduceMul, Nat.reduceEqDiff, Int.reduceAdd, Int.reduceSub, Int.reduceMul, Int.reduceNeg, Int.reduceToNat, intA, e0, z0, z1, j1, e1, z1']
  rw [numA, ds_one]
  rfl
theorem new_run (s u : Bool) (m k : Nat) (h : Heap) (hk : k ≠ 0) (h1 : (ds m).length ≤ 2900) (h2 : (ds k).length ≤ 2900) :
    Runs K f_ref03_New #[intA s m, intA u k] h fun r _ => r = .tuple #[numA (!decide (s = u) && decide (m / Nat.gcd m k ≠ 0)) (m / Nat.gcd m k) (k / Nat.gcd m k), .bool true] := by
  refine Runs.of Kok (Does.intro rfl (by decide +kernel) F_ref03_New rfl ?_)
  obtain ⟨w0, e0, x0, hs0, z0, z1, z2⟩ := lay3 h (.cells [.bool s, .string (text (ds m))] 2) (.cells [.bool u, .string (text (ds k))] 2) (.cells [.bool false, .string ByteArray.empty, .string ByteArray.empty] 3)
  have hg : Nat.gcd m k ≠ 0 := fun hh => hk (Nat.gcd_eq_zero_iff.1 hh).2
  have hgl : (ds (Nat.gcd m k)).length ≤ 2900 := Nat.le_trans (ds_mono (Nat.gcd_le_right m (Nat.pos_of_ne_zero hk))) h2
  simp +decide only [go_sem, W_region, Wx_some, Nat.reduceAdd, Nat.reduceMul, Nat.reduceEqDiff, Int.reduceAdd, Int.reduceSub, Int.reduceMul, Int.reduceNeg, Int.reduceToNat, intA, e0, z0, z1, zt, hk]
  refine W_call Kok x0.1 (gcd_run m k w0 h1 h2) fun r w1 x1 hr => ?_
  subst hr
  have z1' : w1.get (h.size + 1) = _ := (x1.2 _ (by omega)).trans z1
  have z0' : w1.get h.size = _ := (x1.2 _ (by omega)).trans z0
  simp +decide only [go_sem, W_region, Wx_some, Nat.reduceAdd, Nat.reduceMul, Nat.reduceEqDiff, Int.reduceAdd, Int.reduceSub, Int.reduceMul, Int.reduceNeg, Int.reduceToNat, z0']
  refine W_call Kok (x0.trans x1).1 (divmod_run m (Nat.gcd m k) w1 hg (by omega) (by omega)) fun r w2 x2 hr => ?_
  subst hr
  have z1'' : w2.get (h.size + 1) = _ := (x2.2 _ (by have := x1.1; omega)).trans z1'
  simp +decide only [go_sem, W_region, Wx_some, Nat.reduceAdd, Nat.reduceMul, Nat.reduceEqDiff, Int.reduceAdd, Int.reduceSub, Int.reduceMul, Int.reduceNeg, Int.reduceToNat, z1'']
  refine W_call Kok (x0.trans (x1.trans x2)).1 (divmod_run k (Nat.gcd m k) w2 hg (by omega) (by omega)) fun r w3 x3 hr => ?_
  subst hr
  have x13 := x1.trans (x2.trans x3)
  have y0 : w3.get h.size = _ := (x13.2 _ (by omega)).trans z0
  have y1 : w3.get (h.size + 1) = _ := (x13.2 _ (by omega)).trans z1
  have y2 : w3.get (h.size + 2) = _ := (x13.2 _ (by omega)).trans z2
  have j1 : h.size ≤ h.size + 2 := by omega
  obtain ⟨w4, e4, x4, hs4, z4, _⟩ := put1 (x0.trans x13) j1 (.cells [.bool (!decide (s = u) && decide (m / Nat.gcd m k ≠ 0)), .string (text (ds (m / Nat.gcd m k))), .string (text (ds (k / Nat.gcd m k)))] 3)
  by_cases hsu : s = u
  · have d1 : decide (s = u) = true := by simpa using hsu
    rw [d1] at e4 z4
    simp only [Bool.not_true, Bool.false_and] at e4 z4
    simp +decide only [go_sem, W_region, Wx_some, Nat.reduceAdd, Nat.reduceMul, Nat.reduceEqDiff, Int.reduceAdd, Int.reduceSub, Int.reduceMul, Int.reduceNeg, Int.reduceToNat, y0, y1, y2, d1, j1, e4, z4]
    simp [numA, hsu]
  · have d1 : decide (s = u) = false := by simpa using hsu
    rw [d1] at e4 z4
    simp only [Bool.not_false, Bool.true_and, ne_eq, decide_not] at e4 z4
    simp +decide only [go_sem, W_region, Wx_some, Nat.reduceAdd, Nat.reduceMul, Nat.reduceEqDiff, Int.reduceAdd, Int.reduceSub, Int.reduceMul, Int.reduceNeg, Int.reduceToNat, y0, y1, y2, d1, zt, j1, e4, z4]
    simp only [numA, d1, Bool.not_false, Bool.true_and, ne_eq, decide_not]
theorem new_zero (s u : Bool) (m : Nat) (h : Heap) : Runs K f_ref03_New #[intA s m, intA u 0] h fun r _ => r = .tuple #[numA false 0 1, .bool false] := by
  refine Runs.of Kok (Does.intro rfl (by decide +kernel) F_ref03_New rfl ?_)
  obtain ⟨w0, e0, x0, hs0, z0, z1, z2⟩ := lay3 h (.cells [.bool s, .string (text (ds m))] 2) (.cells [.bool u, .string (text (ds 0))] 2) (.cells [.bool false, .string ByteArray.empty, .string ByteArray.empty] 3)
  simp +decide only [go_sem, W_region, Wx_some, Nat.reduceAdd, Nat.reduceMul, Nat.reduceEqDiff, Int.reduceAdd, Int.reduceSub, Int.reduceMul, Int.reduceNeg, Int.reduceToNat, intA, e0, z0, z1, zt]
  refine W_call Kok x0.1 (zero_run w0) fun r w1 x1 hr => ?_
  subst hr
  have z2' : w1.get (h.size + 2) = _ := (x1.2 _ (by omega)).trans z2
  have j1 : h.size ≤ h.size + 2 := by omega
  obtain ⟨w4, e4, x4, hs4, z4, _⟩ := put1 (x0.trans x1) j1 (.cells [.bool false, .string (text (ds 0)), .string (text (ds 1))] 3)
  simp +decide only [go_sem, W_region, Wx_some, Nat.reduceAdd, Nat.reduceMul, Nat.reduceEqDiff, Int.reduceAdd, Int.reduceSub, Int.reduceMul, Int.reduceNeg, Int.reduceToNat, numA, z2', j1, e4, z4]

theorem mul3_run (s u : Bool) (m k m2 k2 : Nat) (h : Heap) (hk : k ≠ 0) (hk2 : k2 ≠ 0) (h1 : (ds m).length ≤ 1400) (h2 : (ds k).length ≤ 1400) (h3 : (ds m2).length ≤ 1400) (h4 : (ds k2).length ≤ 1400) :
    Runs K f_ref03_Mul #[numA s m k, numA u m2 k2] h fun r _ => r = numA (!decide ((s && decide (m ≠ 0)) = (u && decide (m2 ≠ 0))) && decide (m * m2 ≠ 0)) (m * m2 / Nat.gcd (m * m2) (k * k2)) (k * k2 / Nat.gcd (m * m2) (k * k2)) := by
  refine Runs.of Kok (Does.intro rfl (by decide +kernel) F_ref03_Mul rfl ?_)
  obtain ⟨w0, e0, x0, hs0, z0, z1, z2⟩ := lay3 h (.cells [.bool s, .string (text (ds m)), .string (text (ds k))] 3) (.cells [.bool u, .string (text (ds m2)), .string (text (ds k2))] 3) (.cells [.bool false, .string ByteArray.empty, .string ByteArray.empty] 3)
  simp +decide only [go_sem, W_region, Wx_some, Nat.reduceAdd, Nat.reduceMul, Nat.reduceEqDiff, Int.reduceAdd, Int.reduceSub, Int.reduceMul, Int.reduceNeg, Int.reduceToNat, numA, e0, z0]
  refine W_call Kok x0.1 (top_run s m k w0 (by omega)) fun r w1 x1 hr => ?_
  subst hr
  have a1 : w1.get (h.size + 1) = _ := (x1.2 _ (by omega)).trans z1
  simp +decide only [go_sem, W_region, Wx_some, Nat.reduceAdd, Nat.reduceMul, Nat.reduceEqDiff, Int.reduceAdd, Int.reduceSub, Int.reduceMul, Int.reduceNeg, Int.reduceToNat, a1]
  have y1 := x0.trans x1
  refine W_call Kok y1.1 (top_run u m2 k2 w1 (by omega)) fun r w2 x2 hr => ?_
  subst hr
  have y2 := y1.trans x2
  simp +decide only [go_sem, W_region, Wx_some, Nat.reduceAdd, Nat.reduceMul, Nat.reduceEqDiff, Int.reduceAdd, Int.reduceSub, Int.reduceMul, Int.reduceNeg, Int.reduceToNat]
  refine W_call Kok y2.1 (mul2_run (s && decide (m ≠ 0)) (u && decide (m2 ≠ 0)) m m2 w2 (by omega) (by omega)) fun r w3 x3 hr => ?_
  subst hr
  generalize hS1 : (!decide ((s && decide (m ≠ 0)) = (u && decide (m2 ≠ 0))) && decide (m * m2 ≠ 0)) = S1
  have y3 := y2.trans x3
  have x13 := x1.trans (x2.trans x3)
  have a0 : w3.get h.size = _ := (x13.2 _ (by omega)).trans z0
  simp +decide only [go_sem, W_region, Wx_some, Nat.reduceAdd, Nat.reduceMul, Nat.reduceEqDiff, Int.reduceAdd, Int.reduceSub, Int.reduceMul, Int.reduceNeg, Int.reduceToNat, a0]
  refine W_call Kok y3.1 (bot_run s m k w3 (by omega)) fun r w4 x4 hr => ?_
  subst hr
  have y4 := y3.trans x4
  have x14 := x13.trans x4
  have a1 : w4.get (h.size + 1) = _ := (x14.2 _ (by omega)).trans z1
  simp +decide only [go_sem, W_region, Wx_some, Nat.reduceAdd, Nat.reduceMul, Nat.reduceEqDiff, Int.reduceAdd, Int.reduceSub, Int.reduceMul, Int.reduceNeg, Int.reduceToNat, a1]
  refine W_call Kok y4.1 (bot_run u m2 k2 w4 (by omega)) fun r w5 x5 hr => ?_
  subst hr
  have y5 := y4.trans x5
  simp +decide only [go_sem, W_region, Wx_some, Nat.reduceAdd, Nat.reduceMul, Nat.reduceEqDiff, Int.reduceAdd, Int.reduceSub, Int.reduceMul, Int.reduceNeg, Int.reduceToNat]
  refine W_call Kok y5.1 (mul2_run false false k k2 w5 (by omega) (by omega)) fun r w6 x6 hr => ?_
  subst hr
  generalize hS2 : (!decide (false = false) && decide (k * k2 ≠ 0)) = S2
  have y6 := y5.trans x6
  have l1 := ds_mul h1 h3
  have l2 := ds_mul h2 h4
  have hkk : k * k2 ≠ 0 := Nat.mul_ne_zero hk hk2
  simp +decide only [go_sem, W_region, Wx_some, Nat.reduceAdd, Nat.reduceMul, Nat.reduceEqDiff, Int.reduceAdd, Int.reduceSub, Int.reduceMul, Int.reduceNeg, Int.reduceToNat]
  refine W_call Kok y6.1 (new_run _ _ (m * m2) (k * k2) w6 hkk (by omega) (by omega)) fun r w7 x7 hr => ?_
  subst hr
  have x17 := x14.trans (x5.trans (x6.trans x7))
  have y7 := y6.trans x7
  have a2 : w7.get (h.size + 2) = _ := (x17.2 _ (by omega)).trans z2
  have hsg : (!decide ((!decide ((s && decide (m ≠ 0)) = (u && decide (m2 ≠ 0))) && decide (m * m2 ≠ 0)) = (!decide (false = false) && decide (k * k2 ≠ 0))) && decide (m * m2 / Nat.gcd (m * m2) (k * k2) ≠ 0)) =
      (!decide ((s && decide (m ≠ 0)) = (u && decide (m2 ≠ 0))) && decide (m * m2 ≠ 0)) := by
    have e1 : decide (m * m2 / Nat.gcd (m * m2) (k * k2) ≠ 0) = decide (m * m2 ≠ 0) := decide_eq_decide.2 (Go.Proofs.YtjlaenglmdpboaaGreat.N14.gcd_quo hkk)
    rw [e1]
    cases (!decide ((s && decide (m ≠ 0)) = (u && decide (m2 ≠ 0)))) <;> cases decide (m * m2 ≠ 0) <;> rfl
  subst hS1
  subst hS2
  rw [hsg]
  generalize (!decide ((s && decide (m ≠ 0)) = (u && decide (m2 ≠ 0))) && decide (m * m2 ≠ 0)) = sg
  generalize m * m2 / Nat.gcd (m * m2) (k * k2) = M
  generalize k * k2 / Nat.gcd (m * m2) (k * k2) = D
  obtain ⟨w8, e8, x8, hs8, z8⟩ := lay1 w7 (.cells [.bool false, .string ByteArray.empty, .string ByteArray.empty] 3)
  have j1 : h.size ≤ h.size + 2 := by omega
  have j2 : h.size ≤ w7.size := y7.1
  obtain ⟨w9, e9, x9, hs9, z9, k9⟩ := put1 (y7.trans x8) j2 (.cells [.bool sg, .string (text (ds M)), .string (text (ds D))] 3)
  have lt7 : h.size + 2 < w7.size := by have := x17.1; omega
  have a3 : w9.get (h.size + 2) = _ := (k9 _ (by omega)).trans ((x8.2 _ lt7).trans a2)
  obtain ⟨w10, e10, x10, hs10, z10, _⟩ := put1 x9 j1 (.cells [.bool sg, .string (text (ds M)), .string (text (ds D))] 3)
  simp +decide only [go_sem, W_region, Wx_some, Nat.reduceAdd, Nat.reduceMul, Nat.reduceEqDiff, Int.reduceAdd, Int.reduceSub, Int.reduceMul, Int.reduceNeg, Int.reduceToNat, numA, e8, z8, j1, j2, e9, z9, a3, e10, z10]
theorem div3_run (s u : Bool) (m k m2 k2 : Nat) (h : Heap) (hk : k ≠ 0) (hm2 : m2 ≠ 0) (h1 : (ds m).length ≤ 1400) (h2 : (ds k).length ≤ 1400) (h3 : (ds m2).length ≤ 1400) (h4 : (ds k2).length ≤ 1400) (hk2 : k2 ≠ 0) :
    Runs K f_ref03_Div #[numA s m k, numA u m2 k2] h fun r _ => r = .tuple #[numA (!decide ((s && decide (m ≠ 0)) = u) && decide (m ≠ 0)) (m * k2 / Nat.gcd (m * k2) (k * m2)) (k * m2 / Nat.gcd (m * k2) (k * m2)), .bool true] := by
  refine Runs.of Kok (Does.intro rfl (by decide +kernel) F_ref03_Div rfl ?_)
  obtain ⟨w0, e0, x0, hs0, z0, z1, z2⟩ := lay3 h (.cells [.bool s, .string (text (ds m)), .string (text (ds k))] 3) (.cells [.bool u, .string (text (ds m2)), .string (text (ds k2))] 3) (.cells [.bool false, .string ByteArray.empty, .string ByteArray.empty] 3)
  simp +decide only [go_sem, W_region, Wx_some, Nat.reduceAdd, Nat.reduceMul, Nat.reduceEqDiff, Int.reduceAdd, Int.reduceSub, Int.reduceMul, Int.reduceNeg, Int.reduceToNat, numA, e0, z0]
  refine W_call Kok x0.1 (top_run s m k w0 (by omega)) fun r w1 x1 hr => ?_
  subst hr
  have a1 : w1.get (h.size + 1) = _ := (x1.2 _ (by omega)).trans z1
  simp +decide only [go_sem, W_region, Wx_some, Nat.reduceAdd, Nat.reduceMul, Nat.reduceEqDiff, Int.reduceAdd, Int.reduceSub, Int.reduceMul, Int.reduceNeg, Int.reduceToNat, a1]
  have y1 := x0.trans x1
  refine W_call Kok y1.1 (bot_run u m2 k2 w1 (by omega)) fun r w2 x2 hr => ?_
  subst hr
  have y2 := y1.trans x2
  simp +decide only [go_sem, W_region, Wx_some, Nat.reduceAdd, Nat.reduceMul, Nat.reduceEqDiff, Int.reduceAdd, Int.reduceSub, Int.reduceMul, Int.reduceNeg, Int.reduceToNat]
  refine W_call Kok y2.1 (mul2_run (s && decide (m ≠ 0)) false m k2 w2 (by omega) (by omega)) fun r w3 x3 hr => ?_
  subst hr
  generalize hS1 : (!decide ((s && decide (m ≠ 0)) = false) && decide (m * k2 ≠ 0)) = S1
  have y3 := y2.trans x3
  have x13 := x1.trans (x2.trans x3)
  have a0 : w3.get h.size = _ := (x13.2 _ (by omega)).trans z0
  simp +decide only [go_sem, W_region, Wx_some, Nat.reduceAdd, Nat.reduceMul, Nat.reduceEqDiff, Int.reduceAdd, Int.reduceSub, Int.reduceMul, Int.reduceNeg, Int.reduceToNat, a0]
  refine W_call Kok y3.1 (bot_run s m k w3 (by omega)) fun r w4 x4 hr => ?_
  subst hr
  have y4 := y3.trans x4
  have x14 := x13.trans x4
  have a1 : w4.get (h.size + 1) = _ := (x14.2 _ (by omega)).trans z1
  simp +decide only [go_sem, W_region, Wx_some, Nat.reduceAdd, Nat.reduceMul, Nat.reduceEqDiff, Int.reduceAdd, Int.reduceSub, Int.reduceMul, Int.reduceNeg, Int.reduceToNat, a1]
  refine W_call Kok y4.1 (top_run u m2 k2 w4 (by omega)) fun r w5 x5 hr => ?_
  subst hr
  have y5 := y4.trans x5
  simp +decide only [go_sem, W_region, Wx_some, Nat.reduceAdd, Nat.reduceMul, Nat.reduceEqDiff, Int.reduceAdd, Int.reduceSub, Int.reduceMul, Int.reduceNeg, Int.reduceToNat]
  refine W_call Kok y5.1 (mul2_run false (u && decide (m2 ≠ 0)) k m2 w5 (by omega) (by omega)) fun r w6 x6 hr => ?_
  subst hr
  generalize hS2 : (!decide (false = (u && decide (m2 ≠ 0))) && decide (k * m2 ≠ 0)) = S2
  have y6 := y5.trans x6
  have l1 := ds_mul h1 h4
  have l2 := ds_mul h2 h3
  have hkk : k * m2 ≠ 0 := Nat.mul_ne_zero hk hm2
  simp +decide only [go_sem, W_region, Wx_some, Nat.reduceAdd, Nat.reduceMul, Nat.reduceEqDiff, Int.reduceAdd, Int.reduceSub, Int.reduceMul, Int.reduceNeg, Int.reduceToNat]
  refine W_call Kok y6.1 (new_run _ _ (m * k2) (k * m2) w6 hkk (by omega) (by omega)) fun r w7 x7 hr => ?_
  subst hr
  have x17 := x14.trans (x5.trans (x6.trans x7))
  have y7 := y6.trans x7
  have a2 : w7.get (h.size + 2) = _ := (x17.2 _ (by omega)).trans z2
  have hmk : (m * k2 ≠ 0) = (m ≠ 0) := propext ⟨fun hh h0 => hh (by rw [h0, Nat.zero_mul]), fun hh => Nat.mul_ne_zero hh hk2⟩
  have hsg : (!decide ((!decide ((s && decide (m ≠ 0)) = false) && decide (m * k2 ≠ 0)) = (!decide (false = (u && decide (m2 ≠ 0))) && decide (k * m2 ≠ 0))) && decide (m * k2 / Nat.gcd (m * k2) (k * m2) ≠ 0)) =
      (!decide ((s && decide (m ≠ 0)) = u) && decide (m ≠ 0)) := by
    have e1 : decide (m * k2 / Nat.gcd (m * k2) (k * m2) ≠ 0) = decide (m ≠ 0) := decide_eq_decide.2 ((Go.Proofs.YtjlaenglmdpboaaGreat.N14.gcd_quo hkk).trans (by rw [hmk]))
    rw [e1]
    simp only [hmk, decide_eq_true hm2, decide_eq_true hkk, Bool.and_true]
    cases decide (m ≠ 0) <;> cases s <;> cases u <;> rfl
  subst hS1
  subst hS2
  rw [hsg]
  generalize (!decide ((s && decide (m ≠ 0)) = u) && decide (m ≠ 0)) = sg
  generalize m * k2 / Nat.gcd (m * k2) (k * m2) = M
  generalize k * m2 / Nat.gcd (m * k2) (k * m2) = D
  have j1 : h.size ≤ h.size + 2 := by omega
  obtain ⟨w10, e10, x10, hs10, z10, _⟩ := put1 y7 j1 (.cells [.bool sg, .string (text (ds M)), .string (text (ds D))] 3)
  simp +decide only [go_sem, W_region, Wx_some, Nat.reduceAdd, Nat.reduceMul, Nat.reduceEqDiff, Int.reduceAdd, Int.reduceSub, Int.reduceMul, Int.reduceNeg, Int.reduceToNat, numA, a2, j1, e10, z10]
/-- So many noughts. -/
theorem zeros_run (n : Nat) (h : Heap) (hn : n ≤ 1000000) : Runs K f_ref04_zeros #[.int .i64 (n : Int)] h fun r _ => r = .string (text (List.replicate n 48)) := by
  refine Runs.of Kok (Does.intro rfl (by decide +kernel) F_ref04_zeros rfl ?_)
  simp +decide only [go_sem, W_region, Wx_some, Nat.reduceAdd, Nat.reduceMul, Nat.reduceEqDiff, Int.reduceAdd, Int.reduceSub, Int.reduceMul, Int.reduceNeg, Int.reduceToNat]
  refine W_loop (α := Nat) (fun i e w => i ≤ n ∧ e.size = 13 ∧ Ext h w ∧ e.get 0 = .int .i64 (n : Int) ∧ e.get 3 = .string (text (List.replicate i 48)) ∧ e.get 4 = .int .i64 (i : Int)) (fun i => n - i) 0 ?_ ?_
  · exact ⟨Nat.zero_le _, by simp +decide only [go_sem], Ext.refl h, by simp +decide only [go_sem], by simp +decide only [go_sem]; rfl, by simp +decide only [go_sem]; rfl⟩
  · rintro i e w ⟨hi, hsz, hxw, e0, e3, e4⟩ next
    by_cases hc : (i : Int) < (n : Int)
    · have hcat : ∀ t, ibinop Tryz.prog .add t (.string (text (List.replicate i 48))) (.string (⟨#[48]⟩ : ByteArray)) = some (.string (text (List.replicate (i + 1) 48))) := fun t => by
        rw [List.replicate_succ']
        exact cat_ok (b := [48]) (by simp; omega)
      have i1 : IntKind.i64.wrap ((i : Int) + 1) = ((i + 1 : Nat) : Int) := by rw [wrap_i64 (by omega) (by omega)]; omega
      simp +decide only [go_sem, W_region, Wx_some, Nat.reduceAdd, Nat.reduceMul, Nat.reduceEqDiff, Int.reduceAdd, Int.reduceSub, Int.reduceMul, Int.reduceNeg, Int.reduceToNat, hsz, e0, e3, e4, hc, hcat, i1]
      exact next (i + 1) _ _ ⟨by omega, by simp +decide only [go_sem, hsz], hxw, by simp +decide only [go_sem, hsz, e0], by simp +decide only [go_sem, hsz], by simp +decide only [go_sem, hsz]⟩ (by omega)
    · have : i = n := by omega
      subst this
      simp +decide only [go_sem, W_region, Wx_some, Nat.reduceAdd, Nat.reduceMul, Nat.reduceEqDiff, Int.reduceAdd, Int.reduceSub, Int.reduceMul, Int.reduceNeg, Int.reduceToNat, hsz, e0, e3, e4, hc]
theorem times10_run (s : Bool) (m k : Nat) (n : Int) (h : Heap) (hk : k ≠ 0) (h1 : (ds m).length ≤ 1400) (h2 : (ds k).length ≤ 1400) (hn1 : -1300 ≤ n) (hn2 : n ≤ 1300) :
    Runs K f_ref04_Times10 #[numA s m k, .int .i64 n] h fun r _ => if 0 ≤ n then r = numA (s && decide (m ≠ 0)) (m * 10 ^ n.toNat / Nat.gcd (m * 10 ^ n.toNat) k) (k / Nat.gcd (m * 10 ^ n.toNat) k)
      else r = numA (s && decide (m ≠ 0)) (m / Nat.gcd m (k * 10 ^ (-n).toNat)) (k * 10 ^ (-n).toNat / Nat.gcd m (k * 10 ^ (-n).toNat)) := by
  refine Runs.of Kok (Does.intro rfl (by decide +kernel) F_ref04_Times10 rfl ?_)
  obtain ⟨w0, e0, x0, hs0, z0, z1⟩ := lay2 h (.cells [.bool s, .string (text (ds m)), .string (text (ds k))] 3) (.cells [.bool false, .string ByteArray.empty, .string ByteArray.empty] 3)
  have j1 : h.size ≤ h.size + 1 := by omega
  by_cases hn : 0 ≤ n
  · obtain ⟨N, rfl⟩ := Int.eq_ofNat_of_zero_le hn
    simp +decide only [go_sem, W_region, Wx_some, Nat.reduceAdd, Nat.reduceMul, Nat.reduceEqDiff, Int.reduceAdd, Int.reduceSub, Int.reduceMul, Int.reduceNeg, Int.reduceToNat, numA, e0, z0, hn]
    refine W_call Kok x0.1 (zeros_run N w0 (by omega)) fun r w1 x1 hr => ?_
    subst hr
    have hcat : ∀ t, ibinop Tryz.prog .add t (.string (⟨#[49]⟩ : ByteArray)) (.string (text (List.replicate N 48))) = some (.string (text (ds (10 ^ N)))) := fun t => by
      rw [ds_pow]
      exact cat_ok (a := [49]) (by simp; omega)
    simp +decide only [go_sem, W_region, Wx_some, Nat.reduceAdd, Nat.reduceMul, Nat.reduceEqDiff, Int.reduceAdd, Int.reduceSub, Int.reduceMul, Int.reduceNeg, Int.reduceToNat, hcat]
    have hp : (ds (10 ^ N)).length ≤ 1400 := by rw [ds_pow]; simp; omega
    have hp0 : 10 ^ N ≠ 0 := Nat.ne_of_gt (Nat.pow_pos (by omega))
    have e1 : (⟨#[49]⟩ : ByteArray) = text (ds 1) := by rw [ds_one]; rfl
    have l1 : (ds 1).length ≤ 1400 := by rw [ds_one]; simp
    rw [e1]
    refine W_call Kok (x0.trans x1).1 (mul3_run s false m k (10 ^ N) 1 w1 hk (by omega) h1 h2 hp l1) fun r w2 x2 hr => ?_
    subst hr
    have z1' : w2.get (h.size + 1) = _ := ((x1.trans x2).2 _ (by omega)).trans z1
    have hsg : (!decide ((s && decide (m ≠ 0)) = (false && decide (10 ^ N ≠ 0))) && decide (m * 10 ^ N ≠ 0)) = (s && decide (m ≠ 0)) := by
      have : (m * 10 ^ N ≠ 0) = (m ≠ 0) := propext ⟨fun hh h0 => hh (by rw [h0, Nat.zero_mul]), fun hh => Nat.mul_ne_zero hh hp0⟩
      simp only [this, Bool.false_and]
      cases decide (m ≠ 0) <;> cases s <;> rfl
    rw [hsg, Nat.mul_one]
    obtain ⟨w3, e3, x3, hs3, z3, _⟩ := put1 (x0.trans (x1.trans x2)) j1 (.cells [.bool (s && decide (m ≠ 0)), .string (text (ds (m * 10 ^ N / Nat.gcd (m * 10 ^ N) k))), .string (text (ds (k / Nat.gcd (m * 10 ^ N) k)))] 3)
    simp +decide only [go_sem, W_region, Wx_some, Nat.reduceAdd, Nat.reduceMul, Nat.reduceEqDiff, Int.reduceAdd, Int.reduceSub, Int.reduceMul, Int.reduceNeg, Int.reduceToNat, numA, z1', j1, e3, z3, Int.toNat_natCast]
  · obtain ⟨N, hN⟩ : ∃ N : Nat, -n = (N : Int) := ⟨(-n).toNat, by omega⟩
    have hn' : n = -(N : Int) := by omega
    subst hn'
    have i1 : IntKind.i64.wrap (0 - -(N : Int)) = (N : Int) := by rw [wrap_i64 (by omega) (by omega)]; omega
    simp +decide only [go_sem, W_region, Wx_some, Nat.reduceAdd, Nat.reduceMul, Nat.reduceEqDiff, Int.reduceAdd, Int.reduceSub, Int.reduceMul, Int.reduceNeg, Int.reduceToNat, numA, e0, z0, hn, i1]
    refine W_call Kok x0.1 (zeros_run N w0 (by omega)) fun r w1 x1 hr => ?_
    subst hr
    have hcat : ∀ t, ibinop Tryz.prog .add t (.string (⟨#[49]⟩ : ByteArray)) (.string (text (List.replicate N 48))) = some (.string (text (ds (10 ^ N)))) := fun t => by
      rw [ds_pow]
      exact cat_ok (a := [49]) (by simp; omega)
    simp +decide only [go_sem, W_region, Wx_some, Nat.reduceAdd, Nat.reduceMul, Nat.reduceEqDiff, Int.reduceAdd, Int.reduceSub, Int.reduceMul, Int.reduceNeg, Int.reduceToNat, hcat]
    have hp : (ds (10 ^ N)).length ≤ 1400 := by rw [ds_pow]; simp; omega
    have hp0 : 10 ^ N ≠ 0 := Nat.ne_of_gt (Nat.pow_pos (by omega))
    have e1 : (⟨#[49]⟩ : ByteArray) = text (ds 1) := by rw [ds_one]; rfl
    have l1 : (ds 1).length ≤ 1400 := by rw [ds_one]; simp
    rw [e1]
    refine W_call Kok (x0.trans x1).1 (div3_run s false m k (10 ^ N) 1 w1 hk hp0 h1 h2 hp l1 (by omega)) fun r w2 x2 hr => ?_
    subst hr
    have z1' : w2.get (h.size + 1) = _ := ((x1.trans x2).2 _ (by omega)).trans z1
    have hsg : (!decide ((s && decide (m ≠ 0)) = false) && decide (m ≠ 0)) = (s && decide (m ≠ 0)) := by
      cases decide (m ≠ 0) <;> cases s <;> rfl
    rw [hsg, Nat.mul_one]
    obtain ⟨w3, e3, x3, hs3, z3⟩ := lay1 w2 (.cells [.bool false, .string ByteArray.empty, .string ByteArray.empty] 3)
    have y2 := x0.trans (x1.trans x2)
    have j2 := y2.1
    obtain ⟨w4, e4, x4, hs4, z4, k4⟩ := put1 (y2.trans x3) j2 (.cells [.bool (s && decide (m ≠ 0)), .string (text (ds (m / Nat.gcd m (k * 10 ^ N)))), .string (text (ds (k * 10 ^ N / Nat.gcd m (k * 10 ^ N))))] 3)
    have lt2 : h.size + 1 < w2.size := by have := (x1.trans x2).1; omega
    have z1'' : w4.get (h.size + 1) = _ := (k4 _ (by omega)).trans ((x3.2 _ lt2).trans z1')
    obtain ⟨w5, e5, x5, hs5, z5, _⟩ := put1 x4 j1 (.cells [.bool (s && decide (m ≠ 0)), .string (text (ds (m / Nat.gcd m (k * 10 ^ N)))), .string (text (ds (k * 10 ^ N / Nat.gcd m (k * 10 ^ N))))] 3)
    have i2 : (- -(N : Int)).toNat = N := by omega
    simp +decide only [go_sem, W_region, Wx_some, Nat.reduceAdd, Nat.reduceMul, Nat.reduceEqDiff, Int.reduceAdd, Int.reduceSub, Int.reduceMul, Int.reduceNeg, Int.reduceToNat, numA, e3, z3, j1, j2, e4, z4, z1'', e5, z5, hn, i2]
end Go.Proofs.YtjlaenglmdpboaaGreat.R4
