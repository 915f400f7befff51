/- Proved here: quotients, rests, greatest common divisors of numbers of limbs; of every two numbers of few enough limbs. -/
import Derived.Test.YtjlaenglmdpboaaGreatQN9
namespace Go.Proofs.YtjlaenglmdpboaaGreat.N10
open Go Go.Im Go.Im.Limbs Go.Proofs Go.RowKit Go.Proofs.YtjlaenglmdpboaaGreat.Hd Go.Proofs.YtjlaenglmdpboaaGreat.N1 Go.Proofs.YtjlaenglmdpboaaGreat.N2 Go.Proofs.YtjlaenglmdpboaaGreat.N3 Go.Proofs.YtjlaenglmdpboaaGreat.N4 Go.Proofs.YtjlaenglmdpboaaGreat.N5 Go.Proofs.YtjlaenglmdpboaaGreat.N9
set_option maxRecDepth 100000
set_option linter.unusedSimpArgs false
set_option linter.unusedVariables false

theorem NatV.zero (h : Heap) : NatV h (.agg #[.slice none 0 0]) 0 := ⟨none, 0, 0, rfl, by rw [dig_zero]; exact Sl.nil _ _⟩
theorem dig_le_of {m n : Nat} (h : m ≤ n) : (dig m).length ≤ (dig n).length := dig_length.2 (Nat.lt_of_le_of_lt h (dig_lt n))

theorem divmod_run (x y : Nat) (h : Heap) {v u : Value} (hv : NatV h v x) (hu : NatV h u y) (hl : (dig x).length ≤ 549755813) :
    Runs K f_nat_Nat_DivMod #[v, u] h fun r w => ∃ q t, r = .tuple #[q, t, .bool (decide (y ≠ 0))] ∧ NatV w q (if y = 0 then 0 else x / y) ∧ NatV w t (if y = 0 then 0 else x % y) := by
  obtain ⟨a, c, rfl, sa⟩ := hv.open
  obtain ⟨b, d, rfl, sb⟩ := hu.open
  refine Runs.of Kok (Does.intro rfl (by decide +kernel) F_nat_Nat_DivMod rfl ?_)
  obtain ⟨w0, e0, hx0, hs0, z0, z1, z2, z3⟩ := lay4 h (.cells [.slice a (dig x).length c] 1) (.cells [.slice b (dig y).length d] 1) (.cells [.slice none 0 0] 1) (.cells [.slice none 0 0] 1)
  have j2 : h.size ≤ h.size + 2 := by omega
  have j3 : h.size ≤ h.size + 3 := by omega
  -- two results are put down
  have fin : ∀ (w : Heap) (p q : Value) (X Y : Nat), Ext h w → w.get (h.size + 2) = .cells [.slice none 0 0] 1 → w.get (h.size + 3) = .cells [.slice none 0 0] 1 → NatV w (.agg #[p]) X → NatV w (.agg #[q]) Y →
      ∃ wd we, w.set (h.size + 2) (.cells [p] 1) = wd ∧ wd.get (h.size + 3) = .cells [.slice none 0 0] 1 ∧ wd.set (h.size + 3) (.cells [q] 1) = we ∧ we.get (h.size + 2) = .cells [p] 1 ∧ we.get (h.size + 3) = .cells [q] 1 ∧ NatV we (.agg #[p]) X ∧ NatV we (.agg #[q]) Y := by
    intro w p q X Y hx g2 g3 n1 n2
    obtain ⟨wd, ed, xd, hsd, gd, kd⟩ := put1 hx j2 (.cells [p] 1)
    have g3' : wd.get (h.size + 3) = .cells [.slice none 0 0] 1 := (kd _ (by omega)).trans g3
    obtain ⟨we, ee, xe, hse, ge, ke⟩ := put1 xd j3 (.cells [q] 1)
    exact ⟨wd, we, ed, g3', ee, (ke _ (by omega)).trans gd, ge, (n1.over g2 (by rfl) (by rfl) hsd gd kd).over g3' (by rfl) (by rfl) hse ge ke, (n2.over g2 (by rfl) (by rfl) hsd gd kd).over g3' (by rfl) (by rfl) hse ge ke⟩
  by_cases h0 : (((dig y).length : Nat) : Int) = 0
  · have hy0 : y = 0 := dig_nil.1 (List.length_eq_zero_iff.1 (by omega))
    obtain ⟨wd, we, ed, g3', ee, ge2, ge3, n1, n2⟩ := fin w0 _ _ 0 0 hx0 z2 z3 (NatV.zero _) (NatV.zero _)
    simp +decide only [go_sem, W_region, Wx_some, Nat.reduceAdd, Nat.reduceMul, Nat.reduceEqDiff, Int.reduceAdd, Int.reduceSub, Int.reduceMul, Int.reduceNeg, Int.reduceToNat, e0, z1, h0, z2, z3, j2, j3, ed, g3', ee, ge2, ge3]
    refine ⟨.agg #[.slice none 0 0], .agg #[.slice none 0 0], by simp [hy0], ?_, ?_⟩
    · simpa [hy0] using n1
    · simpa [hy0] using n2
  have hy0 : y ≠ 0 := by
    rintro rfl
    rw [dig_zero] at h0
    exact h0 rfl
  simp only [if_neg hy0]
  simp +decide only [go_sem, W_region, Wx_some, Nat.reduceAdd, Nat.reduceMul, Nat.reduceEqDiff, Int.reduceAdd, Int.reduceSub, Int.reduceMul, Int.reduceNeg, Int.reduceToNat, e0, z0, z1, h0]
  have hv0 := hv.ext hx0
  have hu0 := hu.ext hx0
  refine W_call Kok (by omega) (cmp_run x y w0 hv0 hu0 (by omega)) fun r w1 x1 hr => ?_
  subst hr
  have hx1 := hx0.trans x1
  have y0 : w1.get h.size = _ := (x1.2 _ (by omega)).trans z0
  have y1 : w1.get (h.size + 1) = _ := (x1.2 _ (by omega)).trans z1
  have y2 : w1.get (h.size + 2) = _ := (x1.2 _ (by omega)).trans z2
  have y3 : w1.get (h.size + 3) = _ := (x1.2 _ (by omega)).trans z3
  have hs1 : h.size + 4 ≤ w1.size := by have := x1.1; omega
  by_cases hlt : x < y
  · obtain ⟨wd, we, ed, g3', ee, ge2, ge3, n1, n2⟩ := fin w1 _ _ 0 x hx1 y2 y3 (NatV.zero _) (hv.ext hx1)
    have b1 : h.size < w1.size := by omega
    simp +decide only [go_sem, W_region, Wx_some, Nat.reduceAdd, Nat.reduceMul, Nat.reduceEqDiff, Int.reduceAdd, Int.reduceSub, Int.reduceMul, Int.reduceNeg, Int.reduceToNat, hlt, y0, y2, y3, j2, j3, ed, g3', ee, ge2, ge3]
    refine W_chk ?_ ?_
    · simp +decide only [go_sem, W_region, Wx_some, Nat.reduceAdd, Nat.reduceMul, Nat.reduceEqDiff, Int.reduceAdd, Int.reduceSub, Int.reduceMul, Int.reduceNeg, Int.reduceToNat, b1]
      simp
      omega
    simp +decide only [go_sem, W_region, Wx_some, Nat.reduceAdd, Nat.reduceMul, Nat.reduceEqDiff, Int.reduceAdd, Int.reduceSub, Int.reduceMul, Int.reduceNeg, Int.reduceToNat, ge2, ge3]
    refine ⟨.agg #[.slice none 0 0], .agg #[.slice a (dig x).length c], by simp [hy0], ?_, ?_⟩
    · rw [Nat.div_eq_of_lt hlt]
      exact n1
    · rw [Nat.mod_eq_of_lt hlt]
      exact n2
  have hcmp : ¬ ((if x < y then (-1 : Int) else if x = y then 0 else 1) < 0) := by
    rw [if_neg hlt]
    split <;> omega
  have hlen : (dig y).length ≤ (dig x).length := dig_le_of (by omega)
  by_cases h1 : (((dig y).length : Nat) : Int) = 1
  · obtain ⟨e, he⟩ : ∃ e, dig y = [e] := List.length_eq_one_iff.1 (by omega)
    have hye : y = e := by rw [← val_dig y, he]; simp [val_cons, val_nil]
    subst hye
    have hyB : y < 4294967296 := dig_small y y (by rw [he]; simp)
    obtain ⟨b1, o1, cs1, rfl, hb1, hg1, hc1⟩ := (sb.ext hx1).one (i := 0) (x := .int .u32 (y : Int)) (by rw [he]; rfl)
    rw [Nat.add_zero] at hc1
    simp +decide only [go_sem, W_region, Wx_some, Nat.reduceAdd, Nat.reduceMul, Nat.reduceEqDiff, Int.reduceAdd, Int.reduceSub, Int.reduceMul, Int.reduceNeg, Int.reduceToNat, hcmp, y0, y1, h1, Nat.mul_one, Nat.add_zero, hg1, hc1]
    refine W_call Kok (by omega) (small_run x y w1 (hv.ext hx1) (by omega) hyB (by omega)) fun r w2 x2 hr => ?_
    obtain ⟨q, rfl, hq⟩ := hr
    obtain ⟨aq, cq, rfl, sq⟩ := hq.open
    obtain ⟨w3, e3, x3, hs3, g3⟩ := lay1 w2 (.cells [.slice none 0 0] 1)
    have x23 := x2.trans x3
    have hx3 := hx1.trans x23
    have hm : x % y < 18446744073709551616 := by have := Nat.mod_lt x (show y > 0 by omega); omega
    obtain ⟨w4, e4, x4, hs4, g4, k4⟩ := put1 (Ext.refl h |>.trans hx3) (show h.size ≤ w2.size by have := (hx1.trans x2).1; exact this) (.cells [.slice aq (dig (x / y)).length cq] 1)
    have q4 : NatV w4 (.agg #[.slice aq (dig (x / y)).length cq]) (x / y) := (hq.ext x3).over g3 (by rfl) (by rfl) hs4 g4 k4
    have hsz2 : h.size ≤ w2.size := (hx1.trans x2).1
    simp +decide only [go_sem, W_region, Wx_some, Nat.reduceAdd, Nat.reduceMul, Nat.reduceEqDiff, Int.reduceAdd, Int.reduceSub, Int.reduceMul, Int.reduceNeg, Int.reduceToNat, e3, g3, hsz2, e4, g4, w64 hm]
    refine W_call Kok (by have := x2.1; omega) (of_run (x % y) w4 hm) fun r w5 x5 hr => ?_
    obtain ⟨a5, c5, rfl, s5⟩ := hr.open
    have hne2 : h.size + 2 ≠ w2.size := by have := x2.1; omega
    have hne3 : h.size + 3 ≠ w2.size := by have := x2.1; omega
    have hsz3 : w1.size ≤ w3.size := x23.1
    have t2 : w5.get (h.size + 2) = .cells [.slice none 0 0] 1 := (x5.2 _ (by omega)).trans ((k4 _ hne2).trans ((x23.2 _ (by omega)).trans y2))
    have t3 : w5.get (h.size + 3) = .cells [.slice none 0 0] 1 := (x5.2 _ (by omega)).trans ((k4 _ hne3).trans ((x23.2 _ (by omega)).trans y3))
    obtain ⟨wd, we, ed, g3', ee, ge2, ge3, n1, n2⟩ := fin w5 _ _ (x / y) (x % y) (x4.trans x5) t2 t3 (q4.ext x5) hr
    simp +decide only [go_sem, W_region, Wx_some, Nat.reduceAdd, Nat.reduceMul, Nat.reduceEqDiff, Int.reduceAdd, Int.reduceSub, Int.reduceMul, Int.reduceNeg, Int.reduceToNat, t2, t3, j2, j3, ed, g3', ee, ge2, ge3]
    exact ⟨_, _, by simp [hy0], n1, n2⟩
  · obtain ⟨k0, hk0⟩ : ∃ k0, (dig y).length = k0 + 2 := ⟨(dig y).length - 2, by omega⟩
    simp +decide only [go_sem, W_region, Wx_some, Nat.reduceAdd, Nat.reduceMul, Nat.reduceEqDiff, Int.reduceAdd, Int.reduceSub, Int.reduceMul, Int.reduceNeg, Int.reduceToNat, hcmp, y0, y1, h1]
    refine W_call Kok (by omega) (long_run x y k0 w1 (hv.ext hx1) (hu.ext hx1) hk0 hlen hl) fun r w2 x2 hr => ?_
    obtain ⟨q, t, rfl, hq, ht⟩ := hr
    obtain ⟨aq, cq, rfl, sq⟩ := hq.open
    obtain ⟨at', ct, rfl, st⟩ := ht.open
    obtain ⟨w3, e3, x3, hs3, g3, g3'⟩ := lay2 w2 (.cells [.slice none 0 0] 1) (.cells [.slice none 0 0] 1)
    have hx2 := hx1.trans x2
    have hsz2 : h.size ≤ w2.size := hx2.1
    have hsz2' : h.size ≤ w2.size + 1 := by omega
    obtain ⟨w4, e4, x4, hs4, g4, k4⟩ := put1 (hx2.trans x3) hsz2 (.cells [.slice aq (dig (x / y)).length cq] 1)
    have g4' : w4.get (w2.size + 1) = .cells [.slice none 0 0] 1 := (k4 _ (by omega)).trans g3'
    obtain ⟨w5, e5, x5, hs5, g5, k5⟩ := put1 x4 hsz2' (.cells [.slice at' (dig (x % y)).length ct] 1)
    have g5' : w5.get w2.size = _ := (k5 _ (by omega)).trans g4
    have q5 : NatV w5 (.agg #[.slice aq (dig (x / y)).length cq]) (x / y) := (((hq.ext x3).over g3 (by rfl) (by rfl) hs4 g4 k4)).over g4' (by rfl) (by rfl) hs5 g5 k5
    have r5 : NatV w5 (.agg #[.slice at' (dig (x % y)).length ct]) (x % y) := (((ht.ext x3).over g3 (by rfl) (by rfl) hs4 g4 k4)).over g4' (by rfl) (by rfl) hs5 g5 k5
    have hb : h.size + 4 ≤ w2.size := by have := x2.1; omega
    have t2 : w5.get (h.size + 2) = .cells [.slice none 0 0] 1 := (k5 _ (by omega)).trans ((k4 _ (by omega)).trans ((x3.2 _ (by omega)).trans ((x2.2 _ (by omega)).trans y2)))
    have t3 : w5.get (h.size + 3) = .cells [.slice none 0 0] 1 := (k5 _ (by omega)).trans ((k4 _ (by omega)).trans ((x3.2 _ (by omega)).trans ((x2.2 _ (by omega)).trans y3)))
    obtain ⟨wd, we, ed, g7, ee, ge2, ge3, n1, n2⟩ := fin w5 _ _ (x / y) (x % y) x5 t2 t3 q5 r5
    have b1 : w2.size + 1 < w5.size := by omega
    have b2 : ¬ w2.size + 1 = h.size + 2 := by omega
    simp +decide only [go_sem, W_region, Wx_some, Nat.reduceAdd, Nat.reduceMul, Nat.reduceEqDiff, Int.reduceAdd, Int.reduceSub, Int.reduceMul, Int.reduceNeg, Int.reduceToNat, e3, g3, hsz2, hsz2', e4, g4', e5, g5, g5', t2, t3, j2, j3, ed, g7, ee]
    refine W_chk ?_ ?_
    · simp +decide only [go_sem, W_region, Wx_some, Nat.reduceAdd, Nat.reduceMul, Nat.reduceEqDiff, Int.reduceAdd, Int.reduceSub, Int.reduceMul, Int.reduceNeg, Int.reduceToNat, b1]
      simp
      omega
    simp +decide only [go_sem, W_region, Wx_some, Nat.reduceAdd, Nat.reduceMul, Nat.reduceEqDiff, Int.reduceAdd, Int.reduceSub, Int.reduceMul, Int.reduceNeg, Int.reduceToNat, ge2, ge3]
    exact ⟨_, _, by simp [hy0], n1, n2⟩

set_option maxHeartbeats 4000000 in
theorem gcd_run (x y : Nat) (h : Heap) {v u : Value} (hv : NatV h v x) (hu : NatV h u y) (hl1 : (dig x).length ≤ 549755813) (hl2 : (dig y).length ≤ 549755813) :
    Runs K f_nat_Nat_Gcd #[v, u] h fun r w => NatV w r (Nat.gcd x y) := by
  obtain ⟨a, c, rfl, sa⟩ := hv.open
  obtain ⟨b, d, rfl, sb⟩ := hu.open
  refine Runs.of Kok (Does.intro rfl (by decide +kernel) F_nat_Nat_Gcd rfl ?_)
  obtain ⟨w0, e0, hx0, hs0, z0, z1, z2⟩ := lay3 h (.cells [.slice a (dig x).length c] 1) (.cells [.slice b (dig y).length d] 1) (.cells [.slice none 0 0] 1)
  have j2 : h.size ≤ h.size + 2 := by omega
  have j1 : h.size ≤ h.size + 1 := by omega
  -- a result is put down
  have fin : ∀ (w : Heap) (p : Value) (X : Nat), Ext h w → w.get (h.size + 2) = .cells [.slice none 0 0] 1 → NatV w (.agg #[p]) X → ∃ wd, w.set (h.size + 2) (.cells [p] 1) = wd ∧ wd.get (h.size + 2) = .cells [p] 1 ∧ NatV wd (.agg #[p]) X := by
    intro w p X hx g2 n1
    obtain ⟨wd, ed, xd, hsd, gd, kd⟩ := put1 hx j2 (.cells [p] 1)
    exact ⟨wd, ed, gd, n1.over g2 (by rfl) (by rfl) hsd gd kd⟩
  simp +decide only [go_sem, W_region, Wx_some, Nat.reduceAdd, Nat.reduceMul, Nat.reduceEqDiff, Int.reduceAdd, Int.reduceSub, Int.reduceMul, Int.reduceNeg, Int.reduceToNat, e0]
  refine W_loop (α := (Nat × Option Addr × Nat) × (Nat × Option Addr × Nat)) (fun k e w => e.size = 47 ∧ Ext h w ∧ h.size + 3 ≤ w.size ∧ w.get h.size = .cells [.slice k.1.2.1 (dig k.1.1).length k.1.2.2] 1 ∧ w.get (h.size + 1) = .cells [.slice k.2.2.1 (dig k.2.1).length k.2.2.2] 1 ∧ w.get (h.size + 2) = .cells [.slice none 0 0] 1 ∧
    NatV w (.agg #[.slice k.1.2.1 (dig k.1.1).length k.1.2.2]) k.1.1 ∧ NatV w (.agg #[.slice k.2.2.1 (dig k.2.1).length k.2.2.2]) k.2.1 ∧ e.get 2 = .pointer (some ⟨h.size, 0, none⟩) ∧ e.get 3 = .pointer (some ⟨h.size + 1, 0, none⟩) ∧ e.get 4 = .pointer (some ⟨h.size + 2, 0, none⟩) ∧
    (dig k.1.1).length ≤ 549755813 ∧ (dig k.2.1).length ≤ 549755813 ∧ Nat.gcd k.1.1 k.2.1 = Nat.gcd x y) (fun k => k.2.1) ((x, a, c), (y, b, d)) ?_ ?_
  · exact ⟨by simp +decide only [go_sem], hx0, by omega, z0, z1, z2, hv.ext hx0, hu.ext hx0, by simp +decide only [go_sem], by simp +decide only [go_sem], by simp +decide only [go_sem], hl1, hl2, rfl⟩
  · rintro ⟨⟨X, aX, cX⟩, ⟨Y, aY, cY⟩⟩ e w ⟨hsz, hxw, hws, g0, g1, g2, nX, nY, e2, e3, e4, lX, lY, hg⟩ next
    simp only at g0 g1 nX nY lX lY hg
    simp +decide only [go_sem, W_region, Wx_some, Nat.reduceAdd, Nat.reduceMul, Nat.reduceEqDiff, Int.reduceAdd, Int.reduceSub, Int.reduceMul, Int.reduceNeg, Int.reduceToNat, hsz, e2, e3, e4, g1]
    refine W_call Kok (by omega) (zero_run Y w nY) fun r w1 x1 hr => ?_
    subst hr
    have y0 : w1.get h.size = _ := (x1.2 _ (by omega)).trans g0
    have y1 : w1.get (h.size + 1) = _ := (x1.2 _ (by omega)).trans g1
    have y2 : w1.get (h.size + 2) = _ := (x1.2 _ (by omega)).trans g2
    have s1 : h.size + 3 ≤ w1.size := by have := x1.1; omega
    by_cases hY : Y = 0
    · obtain ⟨wd, ed, gd, nd⟩ := fin w1 _ X (hxw.trans x1) y2 (nX.ext x1)
      simp +decide only [go_sem, W_region, Wx_some, Nat.reduceAdd, Nat.reduceMul, Nat.reduceEqDiff, Int.reduceAdd, Int.reduceSub, Int.reduceMul, Int.reduceNeg, Int.reduceToNat, hsz, e2, e3, e4, hY, y0, y2, j2, ed, gd]
      rw [← hg, hY, Nat.gcd_zero_right]
      exact nd
    simp +decide only [go_sem, W_region, Wx_some, Nat.reduceAdd, Nat.reduceMul, Nat.reduceEqDiff, Int.reduceAdd, Int.reduceSub, Int.reduceMul, Int.reduceNeg, Int.reduceToNat, hsz, e2, e3, e4, hY, y0]
    refine W_call Kok (by omega) (uint_run X w1 (nX.ext x1)) fun r w2 x2 hr => ?_
    have y0 : w2.get h.size = _ := (x2.2 _ (by omega)).trans y0
    have y1 : w2.get (h.size + 1) = _ := (x2.2 _ (by omega)).trans y1
    have y2 : w2.get (h.size + 2) = _ := (x2.2 _ (by omega)).trans y2
    have s2 : h.size + 3 ≤ w2.size := by have := x2.1; omega
    have x12 := x1.trans x2
    by_cases hb : X < 18446744073709551616 ∧ Y < 18446744073709551616
    · obtain ⟨hb1, hb2⟩ := hb
      rw [if_pos hb1] at hr
      subst hr
      simp +decide only [go_sem, W_region, Wx_some, Nat.reduceAdd, Nat.reduceMul, Nat.reduceEqDiff, Int.reduceAdd, Int.reduceSub, Int.reduceMul, Int.reduceNeg, Int.reduceToNat, hsz, e2, e3, e4, y1]
      refine W_call Kok (by omega) (uint_run Y w2 (nY.ext x12)) fun r w3 x3 hr => ?_
      rw [if_pos hb2] at hr
      subst hr
      have y2 : w3.get (h.size + 2) = _ := (x3.2 _ (by omega)).trans y2
      have s3 : h.size + 3 ≤ w3.size := by have := x3.1; omega
      have x13 := x12.trans x3
      simp +decide only [go_sem, W_region, Wx_some, Nat.reduceAdd, Nat.reduceMul, Nat.reduceEqDiff, Int.reduceAdd, Int.reduceSub, Int.reduceMul, Int.reduceNeg, Int.reduceToNat, hsz, e2, e3, e4]
      refine W_loop (α := Nat × Nat) (fun k e w => e.size = 47 ∧ w = w3 ∧ e.get 4 = .pointer (some ⟨h.size + 2, 0, none⟩) ∧ e.get 5 = .int .u64 (k.1 : Int) ∧ e.get 7 = .int .u64 (k.2 : Int) ∧ k.1 < 18446744073709551616 ∧ k.2 < 18446744073709551616 ∧ Nat.gcd k.1 k.2 = Nat.gcd x y) (fun k => k.2) (X, Y) ?_ ?_
      · exact ⟨by simp +decide only [go_sem, hsz], rfl, by simp +decide only [go_sem, hsz, e4], by simp +decide only [go_sem, hsz], by simp +decide only [go_sem, hsz], hb1, hb2, hg⟩
      · rintro ⟨p, q⟩ e w' ⟨hsz, rfl, e4, e5, e7, hp, hq, hgg⟩ next2
        simp only at e5 e7 hp hq hgg
        by_cases hq0 : (q : Int) = 0
        · have hq0' : q = 0 := by omega
          subst hq0'
          simp +decide only [go_sem, W_region, Wx_some, Nat.reduceAdd, Nat.reduceMul, Nat.reduceEqDiff, Int.reduceAdd, Int.reduceSub, Int.reduceMul, Int.reduceNeg, Int.reduceToNat, hsz, e4, e5, e7]
          refine W_call Kok (by omega) (of_run p w' hp) fun r w4 x4 hr => ?_
          obtain ⟨a4, c4, rfl, s4⟩ := hr.open
          have y2 : w4.get (h.size + 2) = _ := (x4.2 _ (by omega)).trans y2
          obtain ⟨wd, ed, gd, nd⟩ := fin w4 _ p (hxw.trans (x13.trans x4)) y2 hr
          simp +decide only [go_sem, W_region, Wx_some, Nat.reduceAdd, Nat.reduceMul, Nat.reduceEqDiff, Int.reduceAdd, Int.reduceSub, Int.reduceMul, Int.reduceNeg, Int.reduceToNat, hsz, e4, y2, j2, ed, gd]
          rw [← hgg, Nat.gcd_zero_right]
          exact nd
        · have hqne : ((q : Nat) : Int) ≠ 0 := hq0
          have d2 : ((p : Nat) : Int).tmod (q : Int) = ((p % q : Nat) : Int) := (Int.ofNat_tmod _ _).symm
          have hlt := Nat.mod_lt p (show q > 0 by omega)
          simp +decide only [go_sem, W_region, Wx_some, Nat.reduceAdd, Nat.reduceMul, Nat.reduceEqDiff, Int.reduceAdd, Int.reduceSub, Int.reduceMul, Int.reduceNeg, Int.reduceToNat, hsz, e4, e5, e7, hq0, ibinop_rem hqne, d2]
          refine next2 (q, p % q) _ _ ⟨by simp +decide only [go_sem, hsz], rfl, by simp +decide only [go_sem, hsz, e4], by simp +decide only [go_sem, hsz], by simp +decide only [go_sem, hsz], hq, by simp only; omega, ?_⟩ hlt
          rw [← hgg, Nat.gcd_comm q, ← Nat.gcd_rec, Nat.gcd_comm]
    by_cases hb1 : X < 18446744073709551616
    · have hb2 : ¬ Y < 18446744073709551616 := fun hh => hb ⟨hb1, hh⟩
      rw [if_pos hb1] at hr
      subst hr
      simp +decide only [go_sem, W_region, Wx_some, Nat.reduceAdd, Nat.reduceMul, Nat.reduceEqDiff, Int.reduceAdd, Int.reduceSub, Int.reduceMul, Int.reduceNeg, Int.reduceToNat, hsz, e2, e3, e4, y1]
      refine W_call Kok (by omega) (uint_run Y w2 (nY.ext x12)) fun r w3 x3 hr => ?_
      obtain ⟨p3, rfl⟩ : ∃ p3, r = .tuple #[.int .u64 p3, .bool (decide (Y < 18446744073709551616))] := by
        by_cases hq : Y < 18446744073709551616
        · rw [if_pos hq] at hr; exact ⟨(Y : Int), by rw [hr]; simp [hq]⟩
        · rw [if_neg hq] at hr; exact ⟨0, by rw [hr]; simp [hq]⟩
      have y0 : w3.get h.size = _ := (x3.2 _ (by omega)).trans y0
      have y1 : w3.get (h.size + 1) = _ := (x3.2 _ (by omega)).trans y1
      have y2 : w3.get (h.size + 2) = _ := (x3.2 _ (by omega)).trans y2
      have s3 : h.size + 3 ≤ w3.size := by have := x3.1; omega
      have x13 := x12.trans x3
      simp +decide only [go_sem, W_region, Wx_some, Nat.reduceAdd, Nat.reduceMul, Nat.reduceEqDiff, Int.reduceAdd, Int.reduceSub, Int.reduceMul, Int.reduceNeg, Int.reduceToNat, hsz, e2, e3, e4, y0, y1, hb2]
      refine W_call Kok (by omega) (divmod_run X Y w3 (nX.ext x13) (nY.ext x13) lX) fun r w4 x4 hr => ?_
      obtain ⟨q, t, rfl, hq, ht⟩ := hr
      rw [if_neg hY] at hq ht
      obtain ⟨aq, cq, rfl, sq⟩ := hq.open
      obtain ⟨at', ct, rfl, st⟩ := ht.open
      have y0 : w4.get h.size = _ := (x4.2 _ (by omega)).trans y0
      have y1 : w4.get (h.size + 1) = _ := (x4.2 _ (by omega)).trans y1
      have y2 : w4.get (h.size + 2) = _ := (x4.2 _ (by omega)).trans y2
      have s4 : h.size + 3 ≤ w4.size := by have := x4.1; omega
      have hx4 := hxw.trans (x13.trans x4)
      obtain ⟨w5, e5, x5, hs5, g5, g5'⟩ := lay2 w4 (.cells [.slice none 0 0] 1) (.cells [.slice none 0 0] 1)
      have k1 : h.size ≤ w4.size := by omega
      have k2 : h.size ≤ w4.size + 1 := by omega
      obtain ⟨w6, e6, x6, hs6, g6, k6⟩ := put1 (hx4.trans x5) k1 (.cells [.slice aq (dig (X / Y)).length cq] 1)
      have g6' : w6.get (w4.size + 1) = .cells [.slice none 0 0] 1 := (k6 _ (by omega)).trans g5'
      obtain ⟨w7, e7, x7, hs7, g7, k7⟩ := put1 x6 k2 (.cells [.slice at' (dig (X % Y)).length ct] 1)
      have y0 : w7.get h.size = _ := (k7 _ (by omega)).trans ((k6 _ (by omega)).trans ((x5.2 _ (by omega)).trans y0))
      have y1 : w7.get (h.size + 1) = _ := (k7 _ (by omega)).trans ((k6 _ (by omega)).trans ((x5.2 _ (by omega)).trans y1))
      have y2 : w7.get (h.size + 2) = _ := (k7 _ (by omega)).trans ((k6 _ (by omega)).trans ((x5.2 _ (by omega)).trans y2))
      have nt : NatV w7 (.agg #[.slice at' (dig (X % Y)).length ct]) (X % Y) := ((ht.ext x5).over g5 (by rfl) (by rfl) hs6 g6 k6).over g6' (by rfl) (by rfl) hs7 g7 k7
      have nY7 : NatV w7 (.agg #[.slice aY (dig Y).length cY]) Y := ((nY.ext (x13.trans (x4.trans x5))).over g5 (by rfl) (by rfl) hs6 g6 k6).over g6' (by rfl) (by rfl) hs7 g7 k7
      obtain ⟨w8, e8, x8, hs8, g8, k8⟩ := put1 x7 (Nat.le_refl h.size) (.cells [.slice aY (dig Y).length cY] 1)
      have y1' : w8.get (h.size + 1) = _ := (k8 _ (by omega)).trans y1
      obtain ⟨w9, e9, x9, hs9, g9, k9⟩ := put1 x8 j1 (.cells [.slice at' (dig (X % Y)).length ct] 1)
      have g9' : w9.get h.size = _ := (k9 _ (by omega)).trans g8
      have y2' : w9.get (h.size + 2) = _ := (k9 _ (by omega)).trans ((k8 _ (by omega)).trans y2)
      have nt9 : NatV w9 (.agg #[.slice at' (dig (X % Y)).length ct]) (X % Y) := (nt.over y0 (by rfl) (by rfl) hs8 g8 k8).over y1' (by rfl) (by rfl) hs9 g9 k9
      have nY9 : NatV w9 (.agg #[.slice aY (dig Y).length cY]) Y := (nY7.over y0 (by rfl) (by rfl) hs8 g8 k8).over y1' (by rfl) (by rfl) hs9 g9 k9
      have b1 : w4.size + 1 < w7.size := by omega
      simp +decide only [go_sem, W_region, Wx_some, Nat.reduceAdd, Nat.reduceMul, Nat.reduceEqDiff, Int.reduceAdd, Int.reduceSub, Int.reduceMul, Int.reduceNeg, Int.reduceToNat, hsz, e2, e3, e4, e5, k1, k2, e6, g5, g6', e7, y1, g7, y0, Nat.le_refl, e8, j1, y1', e9]
      refine W_chk ?_ ?_
      · simp +decide only [go_sem, W_region, Wx_some, Nat.reduceAdd, Nat.reduceMul, Nat.reduceEqDiff, Int.reduceAdd, Int.reduceSub, Int.reduceMul, Int.reduceNeg, Int.reduceToNat, hsz, e2, e3, e4, b1]
        simp
        omega
      simp +decide only [go_sem, W_region, Wx_some, Nat.reduceAdd, Nat.reduceMul, Nat.reduceEqDiff, Int.reduceAdd, Int.reduceSub, Int.reduceMul, Int.reduceNeg, Int.reduceToNat, hsz]
      have hm := Nat.mod_lt X (show Y > 0 by omega)
      refine next ((Y, aY, cY), (X % Y, at', ct)) _ _ ⟨by simp +decide only [go_sem, hsz], x9, by omega, g9', g9, y2', nY9, nt9, by simp +decide only [go_sem, hsz, e2], by simp +decide only [go_sem, hsz, e3], by simp +decide only [go_sem, hsz, e4], lY, Nat.le_trans (dig_le_of (Nat.le_of_lt hm)) lY, ?_⟩ hm
      simp only
      rw [← hg, Nat.gcd_comm Y, ← Nat.gcd_rec, Nat.gcd_comm]
    · rw [if_neg hb1] at hr
      subst hr
      simp +decide only [go_sem, W_region, Wx_some, Nat.reduceAdd, Nat.reduceMul, Nat.reduceEqDiff, Int.reduceAdd, Int.reduceSub, Int.reduceMul, Int.reduceNeg, Int.reduceToNat, hsz, e2, e3, e4, y1]
      refine W_call Kok (by omega) (uint_run Y w2 (nY.ext x12)) fun r w3 x3 hr => ?_
      obtain ⟨p3, rfl⟩ : ∃ p3, r = .tuple #[.int .u64 p3, .bool (decide (Y < 18446744073709551616))] := by
        by_cases hq : Y < 18446744073709551616
        · rw [if_pos hq] at hr; exact ⟨(Y : Int), by rw [hr]; simp [hq]⟩
        · rw [if_neg hq] at hr; exact ⟨0, by rw [hr]; simp [hq]⟩
      have y0 : w3.get h.size = _ := (x3.2 _ (by omega)).trans y0
      have y1 : w3.get (h.size + 1) = _ := (x3.2 _ (by omega)).trans y1
      have y2 : w3.get (h.size + 2) = _ := (x3.2 _ (by omega)).trans y2
      have s3 : h.size + 3 ≤ w3.size := by have := x3.1; omega
      have x13 := x12.trans x3
      simp +decide only [go_sem, W_region, Wx_some, Nat.reduceAdd, Nat.reduceMul, Nat.reduceEqDiff, Int.reduceAdd, Int.reduceSub, Int.reduceMul, Int.reduceNeg, Int.reduceToNat, hsz, e2, e3, e4, y0, y1, hb1]
      refine W_call Kok (by omega) (divmod_run X Y w3 (nX.ext x13) (nY.ext x13) lX) fun r w4 x4 hr => ?_
      obtain ⟨q, t, rfl, hq, ht⟩ := hr
      rw [if_neg hY] at hq ht
      obtain ⟨aq, cq, rfl, sq⟩ := hq.open
      obtain ⟨at', ct, rfl, st⟩ := ht.open
      have y0 : w4.get h.size = _ := (x4.2 _ (by omega)).trans y0
      have y1 : w4.get (h.size + 1) = _ := (x4.2 _ (by omega)).trans y1
      have y2 : w4.get (h.size + 2) = _ := (x4.2 _ (by omega)).trans y2
      have s4 : h.size + 3 ≤ w4.size := by have := x4.1; omega
      have hx4 := hxw.trans (x13.trans x4)
      obtain ⟨w5, e5, x5, hs5, g5, g5'⟩ := lay2 w4 (.cells [.slice none 0 0] 1) (.cells [.slice none 0 0] 1)
      have k1 : h.size ≤ w4.size := by omega
      have k2 : h.size ≤ w4.size + 1 := by omega
      obtain ⟨w6, e6, x6, hs6, g6, k6⟩ := put1 (hx4.trans x5) k1 (.cells [.slice aq (dig (X / Y)).length cq] 1)
      have g6' : w6.get (w4.size + 1) = .cells [.slice none 0 0] 1 := (k6 _ (by omega)).trans g5'
      obtain ⟨w7, e7, x7, hs7, g7, k7⟩ := put1 x6 k2 (.cells [.slice at' (dig (X % Y)).length ct] 1)
      have y0 : w7.get h.size = _ := (k7 _ (by omega)).trans ((k6 _ (by omega)).trans ((x5.2 _ (by omega)).trans y0))
      have y1 : w7.get (h.size + 1) = _ := (k7 _ (by omega)).trans ((k6 _ (by omega)).trans ((x5.2 _ (by omega)).trans y1))
      have y2 : w7.get (h.size + 2) = _ := (k7 _ (by omega)).trans ((k6 _ (by omega)).trans ((x5.2 _ (by omega)).trans y2))
      have nt : NatV w7 (.agg #[.slice at' (dig (X % Y)).length ct]) (X % Y) := ((ht.ext x5).over g5 (by rfl) (by rfl) hs6 g6 k6).over g6' (by rfl) (by rfl) hs7 g7 k7
      have nY7 : NatV w7 (.agg #[.slice aY (dig Y).length cY]) Y := ((nY.ext (x13.trans (x4.trans x5))).over g5 (by rfl) (by rfl) hs6 g6 k6).over g6' (by rfl) (by rfl) hs7 g7 k7
      obtain ⟨w8, e8, x8, hs8, g8, k8⟩ := put1 x7 (Nat.le_refl h.size) (.cells [.slice aY (dig Y).length cY] 1)
      have y1' : w8.get (h.size + 1) = _ := (k8 _ (by omega)).trans y1
      obtain ⟨w9, e9, x9, hs9, g9, k9⟩ := put1 x8 j1 (.cells [.slice at' (dig (X % Y)).length ct] 1)
      have g9' : w9.get h.size = _ := (k9 _ (by omega)).trans g8
      have y2' : w9.get (h.size + 2) = _ := (k9 _ (by omega)).trans ((k8 _ (by omega)).trans y2)
      have nt9 : NatV w9 (.agg #[.slice at' (dig (X % Y)).length ct]) (X % Y) := (nt.over y0 (by rfl) (by rfl) hs8 g8 k8).over y1' (by rfl) (by rfl) hs9 g9 k9
      have nY9 : NatV w9 (.agg #[.slice aY (dig Y).length cY]) Y := (nY7.over y0 (by rfl) (by rfl) hs8 g8 k8).over y1' (by rfl) (by rfl) hs9 g9 k9
      have b1 : w4.size + 1 < w7.size := by omega
      simp +decide only [go_sem, W_region, Wx_some, Nat.reduceAdd, Nat.reduceMul, Nat.reduceEqDiff, Int.reduceAdd, Int.reduceSub, Int.reduceMul, Int.reduceNeg, Int.reduceToNat, hsz, e2, e3, e4, e5, k1, k2, e6, g5, g6', e7, y1, g7, y0, Nat.le_refl, e8, j1, y1', e9]
      refine W_chk ?_ ?_
      · simp +decide only [go_sem, W_region, Wx_some, Nat.reduceAdd, Nat.reduceMul, Nat.reduceEqDiff, Int.reduceAdd, Int.reduceSub, Int.reduceMul, Int.reduceNeg, Int.reduceToNat, hsz, e2, e3, e4, b1]
        simp
        omega
      simp +decide only [go_sem, W_region, Wx_some, Nat.reduceAdd, Nat.reduceMul, Nat.reduceEqDiff, Int.reduceAdd, Int.reduceSub, Int.reduceMul, Int.reduceNeg, Int.reduceToNat, hsz]
      have hm := Nat.mod_lt X (show Y > 0 by omega)
      refine next ((Y, aY, cY), (X % Y, at', ct)) _ _ ⟨by simp +decide only [go_sem, hsz], x9, by omega, g9', g9, y2', nY9, nt9, by simp +decide only [go_sem, hsz, e2], by simp +decide only [go_sem, hsz, e3], by simp +decide only [go_sem, hsz, e4], lY, Nat.le_trans (dig_le_of (Nat.le_of_lt hm)) lY, ?_⟩ hm
      simp only
      rw [← hg, Nat.gcd_comm Y, ← Nat.gcd_rec, Nat.gcd_comm]
end Go.Proofs.YtjlaenglmdpboaaGreat.N10
