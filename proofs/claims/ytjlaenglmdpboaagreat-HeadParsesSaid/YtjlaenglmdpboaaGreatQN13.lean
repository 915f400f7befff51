/- Proved here: whole numbers and ratios, made and multiplied, divided; of all numbers of few enough limbs. -/
import Derived.Test.YtjlaenglmdpboaaGreatQN12
namespace Go.Proofs.YtjlaenglmdpboaaGreat.N13
open Go Go.Im Go.Im.Limbs Go.Proofs Go.RowKit Go.Proofs.YtjlaenglmdpboaaGreat.Hd Go.Proofs.YtjlaenglmdpboaaGreat.N1 Go.Proofs.YtjlaenglmdpboaaGreat.N2 Go.Proofs.YtjlaenglmdpboaaGreat.N10 Go.Proofs.YtjlaenglmdpboaaGreat.N11 Go.Proofs.YtjlaenglmdpboaaGreat.N12
set_option maxRecDepth 100000
set_option linter.unusedSimpArgs false
set_option linter.unusedVariables false

/-- A whole number of the program's: its size, and whether it is below 0. -/
def IntV (h : Heap) (v : Value) (m : Nat) (s : Bool) : Prop := ∃ p, v = .agg #[p, .bool s] ∧ NatV h (.agg #[p]) m
theorem IntV.ext {h h' : Heap} (k : Ext h h') {v : Value} {m : Nat} {s : Bool} (H : IntV h v m s) : IntV h' v m s := by
  obtain ⟨p, h1, h2⟩ := H
  exact ⟨p, h1, h2.ext k⟩
theorem IntV.over {w w2 : Heap} {q : Nat} {old new : List Value} {esz : Nat} {v : Value} {m : Nat} {s : Bool} (H : IntV w v m s) (hq : w.get q = .cells old esz) (ho : old.all (fun x => !isInt x) = true)
    (hn : new.length = old.length) (hs : w2.size = w.size) (hz : w2.get q = .cells new esz) (hk : ∀ b, b ≠ q → w2.get b = w.get b) : IntV w2 v m s := by
  obtain ⟨p, h1, h2⟩ := H
  exact ⟨p, h1, h2.over hq ho hn hs hz hk⟩
/-- A ratio of the program's. -/
def RatV (h : Heap) (v : Value) (m : Nat) (s : Bool) (k : Nat) : Prop := ∃ p q, v = .agg #[p, .bool s, q] ∧ NatV h (.agg #[p]) m ∧ NatV h (.agg #[q]) k
theorem RatV.ext {h h' : Heap} (x : Ext h h') {v : Value} {m k : Nat} {s : Bool} (H : RatV h v m s k) : RatV h' v m s k := by
  obtain ⟨p, q, h1, h2, h3⟩ := H
  exact ⟨p, q, h1, h2.ext x, h3.ext x⟩
theorem RatV.over {w w2 : Heap} {b : Nat} {old new : List Value} {esz : Nat} {v : Value} {m k : Nat} {s : Bool} (H : RatV w v m s k) (hq : w.get b = .cells old esz) (ho : old.all (fun x => !isInt x) = true)
    (hn : new.length = old.length) (hs : w2.size = w.size) (hz : w2.get b = .cells new esz) (hk : ∀ c, c ≠ b → w2.get c = w.get c) : RatV w2 v m s k := by
  obtain ⟨p, q, h1, h2, h3⟩ := H
  exact ⟨p, q, h1, h2.over hq ho hn hs hz hk, h3.over hq ho hn hs hz hk⟩
theorem natv_slice {h : Heap} {p : Value} {m : Nat} (H : NatV h (.agg #[p]) m) : ∃ a n c, p = .slice a n c := by
  obtain ⟨a, n, c, h1, _⟩ := H
  have := congrArg (fun v => match v with | .agg xs => xs[0]? | _ => none) h1
  simp at this
  exact ⟨a, n, c, this⟩

theorem size_run (h : Heap) {v : Value} {m : Nat} {s : Bool} (hv : IntV h v m s) : Runs K f_whole_Int_Size #[v] h fun r w => NatV w r m := by
  obtain ⟨p, rfl, hp⟩ := hv
  obtain ⟨a, n, c, rfl⟩ := natv_slice hp
  refine Runs.of Kok (Does.intro rfl (by decide +kernel) F_whole_Int_Size rfl ?_)
  obtain ⟨w0, e0, x0, hs0, z0, z1⟩ := lay2 h (.cells [.slice a n c, .bool s] 2) (.cells [.slice none 0 0] 1)
  have j1 : h.size ≤ h.size + 1 := by omega
  obtain ⟨w1, e1, x1, hs1, g1, k1⟩ := put1 x0 j1 (.cells [.slice a n c] 1)
  simp +decide only [go_sem, W_region, Wx_some, Nat.reduceAdd, Nat.reduceMul, Nat.reduceEqDiff, Int.reduceAdd, Int.reduceSub, Int.reduceMul, Int.reduceNeg, Int.reduceToNat, e0, z0, z1, j1, e1, g1]
  exact (hp.ext x0).over z1 (by rfl) (by rfl) hs1 g1 k1
theorem neg_run (h : Heap) {v : Value} {m : Nat} {s : Bool} (hv : IntV h v m s) : Runs K f_whole_Int_Neg #[v] h fun r _ => r = .bool s := by
  obtain ⟨p, rfl, hp⟩ := hv
  obtain ⟨a, n, c, rfl⟩ := natv_slice hp
  refine Runs.of Kok (Does.intro rfl (by decide +kernel) F_whole_Int_Neg rfl ?_)
  simp +decide only [go_sem, W_region, Wx_some, Nat.reduceAdd, Nat.reduceMul, Nat.reduceEqDiff, Int.reduceAdd, Int.reduceSub, Int.reduceMul, Int.reduceNeg, Int.reduceToNat]
theorem wof_run (h : Heap) {v : Value} {m : Nat} (s : Bool) (hv : NatV h v m) : Runs K f_whole_Of #[.bool s, v] h fun r w => IntV w r m (s && decide (m ≠ 0)) := by
  obtain ⟨a, n, c, rfl, hs⟩ := hv
  have hv : NatV h (.agg #[.slice a n c]) m := ⟨a, n, c, rfl, hs⟩
  refine Runs.of Kok (Does.intro rfl (by decide +kernel) F_whole_Of rfl ?_)
  obtain ⟨w0, e0, x0, hs0, z0, z1⟩ := lay2 h (.cells [.slice a n c] 1) (.cells [.slice none 0 0, .bool false] 2)
  have j1 : h.size ≤ h.size + 1 := by omega
  cases s with
  | false =>
    obtain ⟨w1, e1, x1, hs1, g1, k1⟩ := put1 x0 j1 (.cells [.slice a n c, .bool false] 2)
    simp +decide only [go_sem, W_region, Wx_some, Nat.reduceAdd, Nat.reduceMul, Nat.reduceEqDiff, Int.reduceAdd, Int.reduceSub, Int.reduceMul, Int.reduceNeg, Int.reduceToNat, e0, z0, z1, j1, e1, g1]
    exact ⟨.slice a n c, by simp, (hv.ext x0).over z1 (by rfl) (by rfl) hs1 g1 k1⟩
  | true =>
    simp +decide only [go_sem, W_region, Wx_some, Nat.reduceAdd, Nat.reduceMul, Nat.reduceEqDiff, Int.reduceAdd, Int.reduceSub, Int.reduceMul, Int.reduceNeg, Int.reduceToNat, e0, z0]
    refine W_call Kok (by omega) (zero_run m w0 (hv.ext x0)) fun r w1 x1 hr => ?_
    subst hr
    have z1 : w1.get (h.size + 1) = _ := (x1.2 _ (by omega)).trans z1
    by_cases hm : m = 0
    · obtain ⟨w2, e2, x2, hs2, g2, k2⟩ := put1 (x0.trans x1) j1 (.cells [.slice a n c, .bool false] 2)
      simp +decide only [go_sem, W_region, Wx_some, Nat.reduceAdd, Nat.reduceMul, Nat.reduceEqDiff, Int.reduceAdd, Int.reduceSub, Int.reduceMul, Int.reduceNeg, Int.reduceToNat, hm, z1, j1, e2, g2]
      exact ⟨.slice a n c, by simp, by rw [hm] at hv; exact ((hv.ext x0).ext x1).over z1 (by rfl) (by rfl) hs2 g2 k2⟩
    · obtain ⟨w2, e2, x2, hs2, g2, k2⟩ := put1 (x0.trans x1) j1 (.cells [.slice a n c, .bool true] 2)
      simp +decide only [go_sem, W_region, Wx_some, Nat.reduceAdd, Nat.reduceMul, Nat.reduceEqDiff, Int.reduceAdd, Int.reduceSub, Int.reduceMul, Int.reduceNeg, Int.reduceToNat, hm, z1, j1, e2, g2]
      exact ⟨.slice a n c, by simp [hm], ((hv.ext x0).ext x1).over z1 (by rfl) (by rfl) hs2 g2 k2⟩
theorem whole_run (h : Heap) {v : Value} {m : Nat} {s : Bool} (hv : IntV h v m s) : Runs K f_ratio_Whole #[v] h fun r w => RatV w r m s 1 := by
  obtain ⟨p, rfl, hp⟩ := hv
  obtain ⟨a, n, c, rfl⟩ := natv_slice hp
  refine Runs.of Kok (Does.intro rfl (by decide +kernel) F_ratio_Whole rfl ?_)
  obtain ⟨w0, e0, x0, hs0, z0, z1⟩ := lay2 h (.cells [.slice a n c, .bool s] 2) (.cells [.slice none 0 0, .bool false, .slice none 0 0] 3)
  have j1 : h.size ≤ h.size + 1 := by omega
  simp +decide only [go_sem, W_region, Wx_some, Nat.reduceAdd, Nat.reduceMul, Nat.reduceEqDiff, Int.reduceAdd, Int.reduceSub, Int.reduceMul, Int.reduceNeg, Int.reduceToNat, e0, z0]
  refine W_call Kok (by omega) (of_run 1 w0 (by omega)) fun r w1 x1 hr => ?_
  obtain ⟨a1, c1, rfl, s1⟩ := hr.open
  have z1 : w1.get (h.size + 1) = _ := (x1.2 _ (by omega)).trans z1
  obtain ⟨w2, e2, x2, hs2, g2, k2⟩ := put1 (x0.trans x1) j1 (.cells [.slice a n c, .bool s, .slice a1 (dig 1).length c1] 3)
  simp +decide only [go_sem, W_region, Wx_some, Nat.reduceAdd, Nat.reduceMul, Nat.reduceEqDiff, Int.reduceAdd, Int.reduceSub, Int.reduceMul, Int.reduceNeg, Int.reduceToNat, z1, j1, e2, g2]
  exact ⟨_, _, rfl, ((hp.ext x0).ext x1).over z1 (by rfl) (by rfl) hs2 g2 k2, hr.over z1 (by rfl) (by rfl) hs2 g2 k2⟩
theorem down_run (h : Heap) {v : Value} {m k : Nat} {s : Bool} (hv : RatV h v m s k) (hk : k ≠ 0) : Runs K f_ratio_Rat_down #[v] h fun r w => NatV w r k := by
  obtain ⟨p, q, rfl, hp, hq⟩ := hv
  obtain ⟨a, n, c, rfl⟩ := natv_slice hp
  obtain ⟨a', n', c', rfl⟩ := natv_slice hq
  refine Runs.of Kok (Does.intro rfl (by decide +kernel) F_ratio_Rat_down rfl ?_)
  obtain ⟨w0, e0, x0, hs0, z0, z1⟩ := lay2 h (.cells [.slice a n c, .bool s, .slice a' n' c'] 3) (.cells [.slice none 0 0] 1)
  have j1 : h.size ≤ h.size + 1 := by omega
  simp +decide only [go_sem, W_region, Wx_some, Nat.reduceAdd, Nat.reduceMul, Nat.reduceEqDiff, Int.reduceAdd, Int.reduceSub, Int.reduceMul, Int.reduceNeg, Int.reduceToNat, e0, z0]
  refine W_call Kok (by omega) (zero_run k w0 (hq.ext x0)) fun r w1 x1 hr => ?_
  subst hr
  have z0 : w1.get h.size = _ := (x1.2 _ (by omega)).trans z0
  have z1 : w1.get (h.size + 1) = _ := (x1.2 _ (by omega)).trans z1
  obtain ⟨w2, e2, x2, hs2, g2, k2⟩ := put1 (x0.trans x1) j1 (.cells [.slice a' n' c'] 1)
  simp +decide only [go_sem, W_region, Wx_some, Nat.reduceAdd, Nat.reduceMul, Nat.reduceEqDiff, Int.reduceAdd, Int.reduceSub, Int.reduceMul, Int.reduceNeg, Int.reduceToNat, hk, z0, z1, j1, e2, g2]
  exact ((hq.ext x0).ext x1).over z1 (by rfl) (by rfl) hs2 g2 k2
theorem under_run (h : Heap) {v : Value} {m k : Nat} {s : Bool} (hv : RatV h v m s k) (hk : k ≠ 0) : Runs K f_ratio_Rat_under #[v] h fun r w => IntV w r k false := by
  obtain ⟨p, q, rfl, hp, hq⟩ := hv
  obtain ⟨a, n, c, rfl⟩ := natv_slice hp
  obtain ⟨a', n', c', rfl⟩ := natv_slice hq
  refine Runs.of Kok (Does.intro rfl (by decide +kernel) F_ratio_Rat_under rfl ?_)
  obtain ⟨w0, e0, x0, hs0, z0, z1⟩ := lay2 h (.cells [.slice a n c, .bool s, .slice a' n' c'] 3) (.cells [.slice none 0 0, .bool false] 2)
  have j1 : h.size ≤ h.size + 1 := by omega
  simp +decide only [go_sem, W_region, Wx_some, Nat.reduceAdd, Nat.reduceMul, Nat.reduceEqDiff, Int.reduceAdd, Int.reduceSub, Int.reduceMul, Int.reduceNeg, Int.reduceToNat, e0, z0]
  refine W_call Kok (by omega) (down_run w0 (m := m) (s := s) ⟨_, _, rfl, hp.ext x0, hq.ext x0⟩ hk) fun r w1 x1 hr => ?_
  simp +decide only [go_sem, W_region, Wx_some, Nat.reduceAdd, Nat.reduceMul, Nat.reduceEqDiff, Int.reduceAdd, Int.reduceSub, Int.reduceMul, Int.reduceNeg, Int.reduceToNat]
  refine W_call Kok (by have := x1.1; omega) (wof_run w1 false hr) fun r w2 x2 hr => ?_
  obtain ⟨p2, rfl, hp2⟩ := hr
  have z1 : w2.get (h.size + 1) = _ := ((x1.trans x2).2 _ (by omega)).trans z1
  obtain ⟨a2, n2, c2, rfl⟩ := natv_slice hp2
  obtain ⟨w3, e3, x3, hs3, g3, k3⟩ := put1 (x0.trans (x1.trans x2)) j1 (.cells [.slice a2 n2 c2, .bool false] 2)
  simp +decide only [go_sem, W_region, Wx_some, Nat.reduceAdd, Nat.reduceMul, Nat.reduceEqDiff, Int.reduceAdd, Int.reduceSub, Int.reduceMul, Int.reduceNeg, Int.reduceToNat, Bool.false_and, z1, j1, e3, g3]
  exact ⟨_, rfl, hp2.over z1 (by rfl) (by rfl) hs3 g3 k3⟩

set_option maxHeartbeats 4000000 in
theorem itimes_run (h : Heap) {v q : Value} {m k b : Nat} {s t : Bool} (hv : IntV h v m s) (hb : b < h.size) (hg : h.get b = .cells [q, .bool t] 2) (hq : NatV h (.agg #[q]) k) (l1 : (dig m).length ≤ 549755813) (l2 : (dig k).length ≤ 549755813) :
    Runs K f_whole_Int_Times #[v, .slice (some ⟨b, 0, none⟩) 1 1] h fun r w => IntV w r (m * k) ((s != t) && decide (m * k ≠ 0)) := by
  obtain ⟨p, rfl, hp⟩ := hv
  obtain ⟨a, n, c, rfl⟩ := natv_slice hp
  obtain ⟨a', n', c', rfl⟩ := natv_slice hq
  refine Runs.of Kok (Does.intro rfl (by decide +kernel) F_whole_Int_Times rfl ?_)
  obtain ⟨w0, e0, x0, hs0, z0, z1⟩ := lay2 h (.cells [.slice a n c, .bool s] 2) (.cells [.slice none 0 0, .bool false] 2)
  have j1 : h.size ≤ h.size + 1 := by omega
  simp +decide only [go_sem, W_region, Wx_some, Nat.reduceAdd, Nat.reduceMul, Nat.reduceEqDiff, Int.reduceAdd, Int.reduceSub, Int.reduceMul, Int.reduceNeg, Int.reduceToNat, e0]
  rw [W_round]
  have hg0 : w0.get b = _ := (x0.2 _ hb).trans hg
  obtain ⟨w1, e1, x1, hs1, g1⟩ := lay1 w0 (.cells [.slice none 0 0, .bool false] 2)
  have k1 : h.size ≤ w0.size := by omega
  have hg1 : w1.get b = _ := (x1.2 _ (by omega)).trans hg0
  obtain ⟨w2, e2, x2, hs2, g2, k2⟩ := put1 (x0.trans x1) k1 (.cells [.slice a' n' c', .bool t] 2)
  have z0 : w2.get h.size = _ := (k2 _ (by omega)).trans ((x1.2 _ (by omega)).trans z0)
  have z1 : w2.get (h.size + 1) = _ := (k2 _ (by omega)).trans ((x1.2 _ (by omega)).trans z1)
  have np : NatV w2 (.agg #[.slice a n c]) m := ((hp.ext x0).ext x1).over g1 (by rfl) (by rfl) hs2 g2 k2
  have nq : NatV w2 (.agg #[.slice a' n' c']) k := ((hq.ext x0).ext x1).over g1 (by rfl) (by rfl) hs2 g2 k2
  have hbb : ¬ b = w0.size := by omega
  simp +decide only [go_sem, W_region, Wx_some, Nat.reduceAdd, Nat.reduceMul, Nat.reduceEqDiff, Int.reduceAdd, Int.reduceSub, Int.reduceMul, Int.reduceNeg, Int.reduceToNat, e1, hg0, g1, hbb, k1, e2, z0, g2]
  refine W_call Kok (by omega) (mul_run m k w2 np nq (by omega) (by omega)) fun r w3 x3 hr => ?_
  simp +decide only [go_sem, W_region, Wx_some, Nat.reduceAdd, Nat.reduceMul, Nat.reduceEqDiff, Int.reduceAdd, Int.reduceSub, Int.reduceMul, Int.reduceNeg, Int.reduceToNat]
  refine W_call Kok (by have := x3.1; omega) (wof_run w3 _ hr) fun r w4 x4 hr => ?_
  obtain ⟨p4, rfl, hp4⟩ := hr
  obtain ⟨a4, n4, c4, rfl⟩ := natv_slice hp4
  have x34 := x3.trans x4
  have z0 : w4.get h.size = _ := (x34.2 _ (by omega)).trans z0
  have z1 : w4.get (h.size + 1) = _ := (x34.2 _ (by omega)).trans z1
  obtain ⟨bs, hbs⟩ : ∃ bs, bs = (!decide (s = t) && decide (m * k ≠ 0)) := ⟨_, rfl⟩
  obtain ⟨w5, e5, x5, hs5, g5, k5⟩ := put1 (x2.trans x34) (Nat.le_refl h.size) (.cells [.slice a4 n4 c4, .bool bs] 2)
  have z1 : w5.get (h.size + 1) = _ := (k5 _ (by omega)).trans z1
  obtain ⟨w6, e6, x6, hs6, g6, k6⟩ := put1 x5 j1 (.cells [.slice a4 n4 c4, .bool bs] 2)
  have i1 : IntKind.i64.wrap (0 + 1) = 1 := wrap_i64 (by omega) (by omega)
  have z0' : w4.get h.size = .cells [.slice a n c, .bool s] 2 := z0
  simp +decide only [go_sem, W_region, Wx_some, Nat.reduceAdd, Nat.reduceMul, Nat.reduceEqDiff, Int.reduceAdd, Int.reduceSub, Int.reduceMul, Int.reduceNeg, Int.reduceToNat, ← hbs, z0, Nat.le_refl, e5, i1]
  rw [W_round]
  simp +decide only [go_sem, W_region, Wx_some, Nat.reduceAdd, Nat.reduceMul, Nat.reduceEqDiff, Int.reduceAdd, Int.reduceSub, Int.reduceMul, Int.reduceNeg, Int.reduceToNat, g5, z1, j1, e6, g6]
  refine ⟨_, ?_, (hp4.over z0' (by rfl) (by rfl) hs5 g5 k5).over z1 (by rfl) (by rfl) hs6 g6 k6⟩
  rw [hbs]
  cases s <;> cases t <;> simp

set_option maxHeartbeats 4000000 in
theorem new_run (h : Heap) {v u : Value} {m k : Nat} {s t : Bool} (hv : IntV h v m s) (hu : IntV h u k t) (hk : k ≠ 0) (l1 : (dig m).length ≤ 549755813) (l2 : (dig k).length ≤ 549755813) :
    Runs K f_ratio_New #[v, u] h fun r w => ∃ q, r = .tuple #[q, .bool true] ∧ RatV w q (m / Nat.gcd m k) ((s != t) && decide (m / Nat.gcd m k ≠ 0)) (k / Nat.gcd m k) := by
  obtain ⟨p, rfl, hp⟩ := hv
  obtain ⟨a, n, c, rfl⟩ := natv_slice hp
  obtain ⟨q, rfl, hq⟩ := hu
  obtain ⟨a', n', c', rfl⟩ := natv_slice hq
  have hg0 : Nat.gcd m k ≠ 0 := fun h0 => hk (Nat.eq_zero_of_gcd_eq_zero_right h0)
  have lg : (dig (Nat.gcd m k)).length ≤ 549755813 := Nat.le_trans (dig_le_of (Nat.le_of_dvd (by omega) (Nat.gcd_dvd_right m k))) l2
  refine Runs.of Kok (Does.intro rfl (by decide +kernel) F_ratio_New rfl ?_)
  obtain ⟨w0, e0, x0, hs0, z0, z1, z2⟩ := lay3 h (.cells [.slice a n c, .bool s] 2) (.cells [.slice a' n' c', .bool t] 2) (.cells [.slice none 0 0, .bool false, .slice none 0 0] 3)
  have j2 : h.size ≤ h.size + 2 := by omega
  simp +decide only [go_sem, W_region, Wx_some, Nat.reduceAdd, Nat.reduceMul, Nat.reduceEqDiff, Int.reduceAdd, Int.reduceSub, Int.reduceMul, Int.reduceNeg, Int.reduceToNat, e0, z1]
  refine W_call Kok (by omega) (zero_run k w0 (hq.ext x0)) fun r w1 x1 hr => ?_
  subst hr
  have y0 : w1.get h.size = _ := (x1.2 _ (by omega)).trans z0
  have y1 : w1.get (h.size + 1) = _ := (x1.2 _ (by omega)).trans z1
  have y2 : w1.get (h.size + 2) = _ := (x1.2 _ (by omega)).trans z2
  have t1 : w0.size ≤ w1.size := x1.1
  have np1 := (hp.ext x0).ext x1
  have nq1 := (hq.ext x0).ext x1
  simp +decide only [go_sem, W_region, Wx_some, Nat.reduceAdd, Nat.reduceMul, Nat.reduceEqDiff, Int.reduceAdd, Int.reduceSub, Int.reduceMul, Int.reduceNeg, Int.reduceToNat, hk, y0, y1]
  refine W_call Kok (by omega) (size_run w1 (m := k) (s := t) ⟨_, rfl, nq1⟩) fun r w2 x2 hr => ?_
  simp +decide only [go_sem, W_region, Wx_some, Nat.reduceAdd, Nat.reduceMul, Nat.reduceEqDiff, Int.reduceAdd, Int.reduceSub, Int.reduceMul, Int.reduceNeg, Int.reduceToNat]
  refine W_call Kok (by have := x2.1; omega) (gcd_run m k w2 (np1.ext x2) hr l1 l2) fun r w3 x3 hr => ?_
  obtain ⟨ag, cg, rfl, sg⟩ := hr.open
  have x13 := x2.trans x3
  obtain ⟨w4, e4, x4, hs4, g4⟩ := lay1 w3 (.cells [.slice none 0 0] 1)
  have t3 : w1.size ≤ w3.size := x13.1
  have k3 : h.size ≤ w3.size := by omega
  have hx3 := x0.trans (x1.trans x13)
  obtain ⟨w5, e5, x5, hs5, g5, k5⟩ := put1 (hx3.trans x4) k3 (.cells [.slice ag (dig (Nat.gcd m k)).length cg] 1)
  have x14 := x13.trans x4
  have y0 : w5.get h.size = _ := (k5 _ (by omega)).trans ((x14.2 _ (by omega)).trans y0)
  have y1 : w5.get (h.size + 1) = _ := (k5 _ (by omega)).trans ((x14.2 _ (by omega)).trans y1)
  have y2 : w5.get (h.size + 2) = _ := (k5 _ (by omega)).trans ((x14.2 _ (by omega)).trans y2)
  have np5 : NatV w5 (.agg #[.slice a n c]) m := (np1.ext x14).over g4 (by rfl) (by rfl) hs5 g5 k5
  have nq5 : NatV w5 (.agg #[.slice a' n' c']) k := (nq1.ext x14).over g4 (by rfl) (by rfl) hs5 g5 k5
  have ng5 : NatV w5 (.agg #[.slice ag (dig (Nat.gcd m k)).length cg]) (Nat.gcd m k) := (hr.ext x4).over g4 (by rfl) (by rfl) hs5 g5 k5
  simp +decide only [go_sem, W_region, Wx_some, Nat.reduceAdd, Nat.reduceMul, Nat.reduceEqDiff, Int.reduceAdd, Int.reduceSub, Int.reduceMul, Int.reduceNeg, Int.reduceToNat, e4, g4, k3, e5, y0, g5]
  refine W_call Kok (by omega) (divmod_run m (Nat.gcd m k) w5 np5 ng5 l1) fun r w6 x6 hr6 => ?_
  obtain ⟨qa, ra, rfl, hqa, hra⟩ := hr6
  rw [if_neg hg0] at hqa hra
  obtain ⟨aq, cq, rfl, sq⟩ := hqa.open
  obtain ⟨ar, cr, rfl, sr⟩ := hra.open
  obtain ⟨w7, e7, x7, hs7, g7, g7'⟩ := lay2 w6 (.cells [.slice none 0 0] 1) (.cells [.slice none 0 0] 1)
  have t6 : w5.size ≤ w6.size := x6.1
  have k6 : h.size ≤ w6.size := by omega
  have k6' : h.size ≤ w6.size + 1 := by omega
  have x67 := x6.trans x7
  obtain ⟨w8, e8, x8, hs8, g8, k8⟩ := put1 (x5.trans x67) k6 (.cells [.slice aq (dig (m / Nat.gcd m k)).length cq] 1)
  have g8' : w8.get (w6.size + 1) = .cells [.slice none 0 0] 1 := (k8 _ (by omega)).trans g7'
  obtain ⟨w9, e9, x9, hs9, g9, k9⟩ := put1 x8 k6' (.cells [.slice ar (dig (m % Nat.gcd m k)).length cr] 1)
  have mv : ∀ q (hq : q < w5.size), w9.get q = w5.get q := fun q hq => (k9 _ (by omega)).trans ((k8 _ (by omega)).trans (x67.2 _ hq))
  have y0 : w9.get h.size = _ := (mv _ (by omega)).trans y0
  have y1 : w9.get (h.size + 1) = _ := (mv _ (by omega)).trans y1
  have y2 : w9.get (h.size + 2) = _ := (mv _ (by omega)).trans y2
  have gg9 : w9.get w3.size = _ := (mv _ (by omega)).trans g5
  have gq9 : w9.get w6.size = .cells [.slice aq (dig (m / Nat.gcd m k)).length cq] 1 := (k9 _ (by omega)).trans g8
  have up9 : ∀ {v : Value} {M : Nat}, NatV w7 v M → NatV w9 v M := fun H => (H.over g7 (by rfl) (by rfl) hs8 g8 k8).over g8' (by rfl) (by rfl) hs9 g9 k9
  have nq9 := up9 (nq5.ext x67)
  have ng9 := up9 (ng5.ext x67)
  have na9 := up9 (hqa.ext x7)
  simp +decide only [go_sem, W_region, Wx_some, Nat.reduceAdd, Nat.reduceMul, Nat.reduceEqDiff, Int.reduceAdd, Int.reduceSub, Int.reduceMul, Int.reduceNeg, Int.reduceToNat, e7, g7, k6, e8, g8', k6', e9, y1, gg9]
  refine W_call Kok (by omega) (divmod_run k (Nat.gcd m k) w9 nq9 ng9 l2) fun r wa xa hra => ?_
  obtain ⟨qb, rb, rfl, hqb, hrb⟩ := hra
  rw [if_neg hg0] at hqb hrb
  obtain ⟨aq', cq', rfl, sq'⟩ := hqb.open
  obtain ⟨ar', cr', rfl, sr'⟩ := hrb.open
  obtain ⟨wb, eb, xb, hsb, gb, gb'⟩ := lay2 wa (.cells [.slice none 0 0] 1) (.cells [.slice none 0 0] 1)
  have ta : w9.size ≤ wa.size := xa.1
  have ka : h.size ≤ wa.size := by omega
  have ka' : h.size ≤ wa.size + 1 := by omega
  have xab := xa.trans xb
  obtain ⟨wc, ec, xc, hsc, gc, kc⟩ := put1 (x9.trans xab) ka (.cells [.slice aq' (dig (k / Nat.gcd m k)).length cq'] 1)
  have gc' : wc.get (wa.size + 1) = .cells [.slice none 0 0] 1 := (kc _ (by omega)).trans gb'
  obtain ⟨wd, ed, xd, hsd, gd, kd⟩ := put1 xc ka' (.cells [.slice ar' (dig (k % Nat.gcd m k)).length cr'] 1)
  have mv : ∀ q (hq : q < w9.size), wd.get q = w9.get q := fun q hq => (kd _ (by omega)).trans ((kc _ (by omega)).trans (xab.2 _ hq))
  have y0 : wd.get h.size = _ := (mv _ (by omega)).trans y0
  have y1 : wd.get (h.size + 1) = _ := (mv _ (by omega)).trans y1
  have y2 : wd.get (h.size + 2) = _ := (mv _ (by omega)).trans y2
  have gqd : wd.get w6.size = _ := (mv _ (by omega)).trans gq9
  have gbd : wd.get wa.size = .cells [.slice aq' (dig (k / Nat.gcd m k)).length cq'] 1 := (kd _ (by omega)).trans gc
  have upd : ∀ {v : Value} {M : Nat}, NatV wb v M → NatV wd v M := fun H => (H.over gb (by rfl) (by rfl) hsc gc kc).over gc' (by rfl) (by rfl) hsd gd kd
  have npd := upd (up9 (np5.ext x67) |>.ext xab)
  have nqd := upd (nq9.ext xab)
  have nad := upd (na9.ext xab)
  have nbd := upd (hqb.ext xb)
  simp +decide only [go_sem, W_region, Wx_some, Nat.reduceAdd, Nat.reduceMul, Nat.reduceEqDiff, Int.reduceAdd, Int.reduceSub, Int.reduceMul, Int.reduceNeg, Int.reduceToNat, eb, gb, ka, ec, gc', ka', ed, y0]
  refine W_call Kok (by omega) (neg_run wd (m := m) (s := s) ⟨_, rfl, npd⟩) fun r we xe hre => ?_
  subst hre
  have y1 : we.get (h.size + 1) = _ := (xe.2 _ (by omega)).trans y1
  simp +decide only [go_sem, W_region, Wx_some, Nat.reduceAdd, Nat.reduceMul, Nat.reduceEqDiff, Int.reduceAdd, Int.reduceSub, Int.reduceMul, Int.reduceNeg, Int.reduceToNat, y1]
  refine W_call Kok (by have := xe.1; omega) (neg_run we (m := k) (s := t) ⟨_, rfl, nqd.ext xe⟩) fun r wf xf hrf => ?_
  subst hrf
  have xef := xe.trans xf
  have gqf : wf.get w6.size = _ := (xef.2 _ (by omega)).trans gqd
  simp +decide only [go_sem, W_region, Wx_some, Nat.reduceAdd, Nat.reduceMul, Nat.reduceEqDiff, Int.reduceAdd, Int.reduceSub, Int.reduceMul, Int.reduceNeg, Int.reduceToNat, gqf]
  refine W_call Kok (by have := xef.1; omega) (wof_run wf _ (nad.ext xef)) fun r wg xg hrg => ?_
  obtain ⟨pg, rfl, hpg⟩ := hrg
  obtain ⟨a4, n4, c4, rfl⟩ := natv_slice hpg
  have xeg := xef.trans xg
  have gbg : wg.get wa.size = _ := (xeg.2 _ (by omega)).trans gbd
  have y2 : wg.get (h.size + 2) = _ := (xeg.2 _ (by omega)).trans y2
  obtain ⟨bs, hbs⟩ : ∃ bs, bs = (!decide (s = t) && decide (m / Nat.gcd m k ≠ 0)) := ⟨_, rfl⟩
  obtain ⟨wh, eh, xh, hsh, gh, kh⟩ := put1 (xd.trans xeg) j2 (.cells [.slice a4 n4 c4, .bool bs, .slice aq' (dig (k / Nat.gcd m k)).length cq'] 3)
  simp +decide only [go_sem, W_region, Wx_some, Nat.reduceAdd, Nat.reduceMul, Nat.reduceEqDiff, Int.reduceAdd, Int.reduceSub, Int.reduceMul, Int.reduceNeg, Int.reduceToNat, ← hbs, gbg, y2, j2, eh, gh]
  refine ⟨_, rfl, _, _, ?_, hpg.over y2 (by rfl) (by rfl) hsh gh kh, (nbd.ext xeg).over y2 (by rfl) (by rfl) hsh gh kh⟩
  rw [hbs]
  cases s <;> cases t <;> simp
end Go.Proofs.YtjlaenglmdpboaaGreat.N13
