/- Proved here: parts of the way to SDefnSames (SN13 SN14 SN15); no condition beyond those that each theorem names. -/
import Derived.Test.YtachkofbmodnnaaGreatDoorQ10
set_option linter.unusedSimpArgs false
set_option linter.unusedVariables false
namespace Go.Proofs.YtachkofbmodnnaaGreatDoor.N13
open Go Go.Im Go.Im.Limbs Go.Proofs Go.RowKit Hd N1 N2 N10 N11 N12
set_option maxRecDepth 100000
def IntV (h : Heap) (v : Value) (m : Nat) (s : Bool) : Prop := ∃ p, v = .agg #[p, .bool s] ∧ NatV h (.agg #[p]) m
theorem IntV.ext {h h' : Heap} (k : Ext h h') {v : Value} {m : Nat} {s : Bool} (H : IntV h v m s) : IntV h' v m s := by
 obtain ⟨p, h1, h2⟩ := H
 exact ⟨p, h1, h2.ext k⟩
theorem IntV.over {w w2 : Heap} {q : Nat} {old new : List Value} {esz : Nat} {v : Value} {m : Nat} {s : Bool} (H : IntV w v m s) (hq : w.get q = .cells old esz) (ho : old.all (fun x => !isInt x) = true)
  (hn : new.length = old.length) (hs : w2.size = w.size) (hz : w2.get q = .cells new esz) (hk : ∀ b, b ≠ q → w2.get b = w.get b) : IntV w2 v m s := by
 obtain ⟨p, h1, h2⟩ := H
 exact ⟨p, h1, h2.over hq ho hn hs hz hk⟩
def RatV (h : Heap) (v : Value) (m : Nat) (s : Bool) (k : Nat) : Prop := ∃ p q, v = .agg #[p, .bool s, q] ∧ NatV h (.agg #[p]) m ∧ NatV h (.agg #[q]) k
theorem RatV.ext {h h' : Heap} (x : Ext h h') {v : Value} {m k : Nat} {s : Bool} (H : RatV h v m s k) : RatV h' v m s k := by
 obtain ⟨p, q, h1, h2, h3⟩ := H
 exact ⟨p, q, h1, h2.ext x, h3.ext x⟩
theorem RatV.over {w w2 : Heap} {b : Nat} {old new : List Value} {esz : Nat} {v : Value} {m k : Nat} {s : Bool} (H : RatV w v m s k) (hq : w.get b = .cells old esz) (ho : old.all (fun x => !isInt x) = true)
  (hn : new.length = old.length) (hs : w2.size = w.size) (hz : w2.get b = .cells new esz) (hk : ∀ c, c ≠ b → w2.get c = w.get c) : RatV w2 v m s k := by
 obtain ⟨p, q, h1, h2, h3⟩ := H
 exact ⟨p, q, h1, h2.over hq ho hn hs hz hk, h3.over hq ho hn hs hz hk⟩
theorem natv_slice {h : Heap} {p : Value} {m : Nat} (H : NatV h (.agg #[p]) m) : ∃ a n c, p = .slice a n c := by
 obtain ⟨a, n, c, h1, _⟩ := H
 have := congrArg (fun v => match v with | .agg xs => xs[0]? | _ => none) h1
 simp at this
 exact ⟨a, n, c, this⟩
theorem size_run (h : Heap) {v : Value} {m : Nat} {s : Bool} (hv : IntV h v m s) : Runs K f_whole_Int_Size #[v] h fun r w => NatV w r m := by
 obtain ⟨p, rfl, hp⟩ := hv
 obtain ⟨a, n, c, rfl⟩ := natv_slice hp
 refine Runs.of Kok (Does.intro rfl (by decide +kernel) F_whole_Int_Size rfl ?_)
 obtain ⟨w0, e0, x0, hs0, z0, z1⟩ := lay2 h (.cells [.slice a n c, .bool s] 2) (.cells [.slice none 0 0] 1)
 have j1 : h.size ≤ h.size + 1 := by omega
 obtain ⟨w1, e1, x1, hs1, g1, k1⟩ := put1 x0 j1 (.cells [.slice a n c] 1)
 simp +decide only [go_sem, W_region, Wx_some, e0, z0, z1, j1, e1, g1]
 exact (hp.ext x0).over z1 (by rfl) (by rfl) hs1 g1 k1
theorem neg_run (h : Heap) {v : Value} {m : Nat} {s : Bool} (hv : IntV h v m s) : Runs K f_whole_Int_Neg #[v] h fun r _ => r = .bool s := by
 obtain ⟨p, rfl, hp⟩ := hv
 obtain ⟨a, n, c, rfl⟩ := natv_slice hp
 refine Runs.of Kok (Does.intro rfl (by decide +kernel) F_whole_Int_Neg rfl ?_)
 simp +decide only [go_sem, W_region, Wx_some]
theorem wof_run (h : Heap) {v : Value} {m : Nat} (s : Bool) (hv : NatV h v m) : Runs K f_whole_Of #[.bool s, v] h fun r w => IntV w r m (s && decide (m ≠ 0)) := by
 obtain ⟨a, n, c, rfl, hs⟩ := hv
 have hv : NatV h (.agg #[.slice a n c]) m := ⟨a, n, c, rfl, hs⟩
 refine Runs.of Kok (Does.intro rfl (by decide +kernel) F_whole_Of rfl ?_)
 obtain ⟨w0, e0, x0, hs0, z0, z1⟩ := lay2 h (.cells [.slice a n c] 1) (.cells [.slice none 0 0, .bool false] 2)
 have j1 : h.size ≤ h.size + 1 := by omega
 cases s with
 | false =>
   obtain ⟨w1, e1, x1, hs1, g1, k1⟩ := put1 x0 j1 (.cells [.slice a n c, .bool false] 2)
   simp +decide only [go_sem, W_region, Wx_some, e0, z0, z1, j1, e1, g1]
   exact ⟨.slice a n c, by simp, (hv.ext x0).over z1 (by rfl) (by rfl) hs1 g1 k1⟩
 | true =>
   simp +decide only [go_sem, W_region, Wx_some, e0, z0]
   refine W_call Kok (by omega) (zero_run m w0 (hv.ext x0)) fun r w1 x1 hr => ?_
   subst hr
   have z1 : w1.get (h.size + 1) = _ := (x1.2 _ (by omega)).trans z1
   by_cases hm : m = 0
   ·obtain ⟨w2, e2, x2, hs2, g2, k2⟩ := put1 (x0.trans x1) j1 (.cells [.slice a n c, .bool false] 2)
    simp +decide only [go_sem, W_region, Wx_some, hm, z1, j1, e2, g2]
    exact ⟨.slice a n c, by simp, by rw [hm] at hv; exact ((hv.ext x0).ext x1).over z1 (by rfl) (by rfl) hs2 g2 k2⟩
   ·obtain ⟨w2, e2, x2, hs2, g2, k2⟩ := put1 (x0.trans x1) j1 (.cells [.slice a n c, .bool true] 2)
    simp +decide only [go_sem, W_region, Wx_some, hm, z1, j1, e2, g2]
    exact ⟨.slice a n c, by simp [hm], ((hv.ext x0).ext x1).over z1 (by rfl) (by rfl) hs2 g2 k2⟩
theorem whole_run (h : Heap) {v : Value} {m : Nat} {s : Bool} (hv : IntV h v m s) : Runs K f_ratio_Whole #[v] h fun r w => RatV w r m s 1 := by
 obtain ⟨p, rfl, hp⟩ := hv
 obtain ⟨a, n, c, rfl⟩ := natv_slice hp
 refine Runs.of Kok (Does.intro rfl (by decide +kernel) F_ratio_Whole rfl ?_)
 obtain ⟨w0, e0, x0, hs0, z0, z1⟩ := lay2 h (.cells [.slice a n c, .bool s] 2) (.cells [.slice none 0 0, .bool false, .slice none 0 0] 3)
 have j1 : h.size ≤ h.size + 1 := by omega
 simp +decide only [go_sem, W_region, Wx_some, e0, z0]
 refine W_call Kok (by omega) (of_run 1 w0 (by omega)) fun r w1 x1 hr => ?_
 obtain ⟨a1, c1, rfl, s1⟩ := hr.open
 have z1 : w1.get (h.size + 1) = _ := (x1.2 _ (by omega)).trans z1
 obtain ⟨w2, e2, x2, hs2, g2, k2⟩ := put1 (x0.trans x1) j1 (.cells [.slice a n c, .bool s, .slice a1 (dig 1).length c1] 3)
 simp +decide only [go_sem, W_region, Wx_some, z1, j1, e2, g2]
 exact ⟨_, _, rfl, ((hp.ext x0).ext x1).over z1 (by rfl) (by rfl) hs2 g2 k2, hr.over z1 (by rfl) (by rfl) hs2 g2 k2⟩
theorem down_run (h : Heap) {v : Value} {m k : Nat} {s : Bool} (hv : RatV h v m s k) (hk : k ≠ 0) : Runs K f_ratio_Rat_down #[v] h fun r w => NatV w r k := by
 obtain ⟨p, q, rfl, hp, hq⟩ := hv
 obtain ⟨a, n, c, rfl⟩ := natv_slice hp
 obtain ⟨a', n', c', rfl⟩ := natv_slice hq
 refine Runs.of Kok (Does.intro rfl (by decide +kernel) F_ratio_Rat_down rfl ?_)
 obtain ⟨w0, e0, x0, hs0, z0, z1⟩ := lay2 h (.cells [.slice a n c, .bool s, .slice a' n' c'] 3) (.cells [.slice none 0 0] 1)
 have j1 : h.size ≤ h.size + 1 := by omega
 simp +decide only [go_sem, W_region, Wx_some, e0, z0]
 refine W_call Kok (by omega) (zero_run k w0 (hq.ext x0)) fun r w1 x1 hr => ?_
 subst hr
 have z0 : w1.get h.size = _ := (x1.2 _ (by omega)).trans z0
 have z1 : w1.get (h.size + 1) = _ := (x1.2 _ (by omega)).trans z1
 obtain ⟨w2, e2, x2, hs2, g2, k2⟩ := put1 (x0.trans x1) j1 (.cells [.slice a' n' c'] 1)
 simp +decide only [go_sem, W_region, Wx_some, hk, z0, z1, j1, e2, g2]
 exact ((hq.ext x0).ext x1).over z1 (by rfl) (by rfl) hs2 g2 k2
theorem under_run (h : Heap) {v : Value} {m k : Nat} {s : Bool} (hv : RatV h v m s k) (hk : k ≠ 0) : Runs K f_ratio_Rat_under #[v] h fun r w => IntV w r k false := by
 obtain ⟨p, q, rfl, hp, hq⟩ := hv
 obtain ⟨a, n, c, rfl⟩ := natv_slice hp
 obtain ⟨a', n', c', rfl⟩ := natv_slice hq
 refine Runs.of Kok (Does.intro rfl (by decide +kernel) F_ratio_Rat_under rfl ?_)
 obtain ⟨w0, e0, x0, hs0, z0, z1⟩ := lay2 h (.cells [.slice a n c, .bool s, .slice a' n' c'] 3) (.cells [.slice none 0 0, .bool false] 2)
 have j1 : h.size ≤ h.size + 1 := by omega
 simp +decide only [go_sem, W_region, Wx_some, e0, z0]
 refine W_call Kok (by omega) (down_run w0 (m := m) (s := s) ⟨_, _, rfl, hp.ext x0, hq.ext x0⟩ hk) fun r w1 x1 hr => ?_
 simp +decide only [go_sem, W_region, Wx_some]
 refine W_call Kok (by have := x1.1; omega) (wof_run w1 false hr) fun r w2 x2 hr => ?_
 obtain ⟨p2, rfl, hp2⟩ := hr
 have z1 : w2.get (h.size + 1) = _ := ((x1.trans x2).2 _ (by omega)).trans z1
 obtain ⟨a2, n2, c2, rfl⟩ := natv_slice hp2
 obtain ⟨w3, e3, x3, hs3, g3, k3⟩ := put1 (x0.trans (x1.trans x2)) j1 (.cells [.slice a2 n2 c2, .bool false] 2)
 simp +decide only [go_sem, W_region, Wx_some, Bool.false_and, z1, j1, e3, g3]
 exact ⟨_, rfl, hp2.over z1 (by rfl) (by rfl) hs3 g3 k3⟩
set_option maxHeartbeats 4000000 in
theorem itimes_run (h : Heap) {v q : Value} {m k b : Nat} {s t : Bool} (hv : IntV h v m s) (hb : b < h.size) (hg : h.get b = .cells [q, .bool t] 2) (hq : NatV h (.agg #[q]) k) (l1 : (dig m).length ≤ 549755813) (l2 : (dig k).length ≤ 549755813) :
  Runs K f_whole_Int_Times #[v, .slice (some ⟨b, 0, none⟩) 1 1] h fun r w => IntV w r (m * k) ((s != t) && decide (m * k ≠ 0)) := by
 obtain ⟨p, rfl, hp⟩ := hv
 obtain ⟨a, n, c, rfl⟩ := natv_slice hp
 obtain ⟨a', n', c', rfl⟩ := natv_slice hq
 refine Runs.of Kok (Does.intro rfl (by decide +kernel) F_whole_Int_Times rfl ?_)
 obtain ⟨w0, e0, x0, hs0, z0, z1⟩ := lay2 h (.cells [.slice a n c, .bool s] 2) (.cells [.slice none 0 0, .bool false] 2)
 have j1 : h.size ≤ h.size + 1 := by omega
 simp +decide only [go_sem, W_region, Wx_some, e0]
 rw [W_round]
 have hg0 : w0.get b = _ := (x0.2 _ hb).trans hg
 obtain ⟨w1, e1, x1, hs1, g1⟩ := lay1 w0 (.cells [.slice none 0 0, .bool false] 2)
 have k1 : h.size ≤ w0.size := by omega
 have hg1 : w1.get b = _ := (x1.2 _ (by omega)).trans hg0
 obtain ⟨w2, e2, x2, hs2, g2, k2⟩ := put1 (x0.trans x1) k1 (.cells [.slice a' n' c', .bool t] 2)
 have z0 : w2.get h.size = _ := (k2 _ (by omega)).trans ((x1.2 _ (by omega)).trans z0)
 have z1 : w2.get (h.size + 1) = _ := (k2 _ (by omega)).trans ((x1.2 _ (by omega)).trans z1)
 have np : NatV w2 (.agg #[.slice a n c]) m := ((hp.ext x0).ext x1).over g1 (by rfl) (by rfl) hs2 g2 k2
 have nq : NatV w2 (.agg #[.slice a' n' c']) k := ((hq.ext x0).ext x1).over g1 (by rfl) (by rfl) hs2 g2 k2
 have hbb : ¬ b = w0.size := by omega
 simp +decide only [go_sem, W_region, Wx_some, e1, hg0, g1, hbb, k1, e2, z0, g2]
 refine W_call Kok (by omega) (mul_run m k w2 np nq (by omega) (by omega)) fun r w3 x3 hr => ?_
 simp +decide only [go_sem, W_region, Wx_some]
 refine W_call Kok (by have := x3.1; omega) (wof_run w3 _ hr) fun r w4 x4 hr => ?_
 obtain ⟨p4, rfl, hp4⟩ := hr
 obtain ⟨a4, n4, c4, rfl⟩ := natv_slice hp4
 have x34 := x3.trans x4
 have z0 : w4.get h.size = _ := (x34.2 _ (by omega)).trans z0
 have z1 : w4.get (h.size + 1) = _ := (x34.2 _ (by omega)).trans z1
 obtain ⟨bs, hbs⟩ : ∃ bs, bs = (!decide (s = t) && decide (m * k ≠ 0)) := ⟨_, rfl⟩
 obtain ⟨w5, e5, x5, hs5, g5, k5⟩ := put1 (x2.trans x34) (Nat.le_refl h.size) (.cells [.slice a4 n4 c4, .bool bs] 2)
 have z1 : w5.get (h.size + 1) = _ := (k5 _ (by omega)).trans z1
 obtain ⟨w6, e6, x6, hs6, g6, k6⟩ := put1 x5 j1 (.cells [.slice a4 n4 c4, .bool bs] 2)
 have i1 : IntKind.i64.wrap (0 + 1) = 1 := wrap_i64 (by omega) (by omega)
 have z0' : w4.get h.size = .cells [.slice a n c, .bool s] 2 := z0
 simp +decide only [go_sem, W_region, Wx_some, ← hbs, z0, Nat.le_refl, e5, i1]
 rw [W_round]
 simp +decide only [go_sem, W_region, Wx_some, g5, z1, j1, e6, g6]
 refine ⟨_, ?_, (hp4.over z0' (by rfl) (by rfl) hs5 g5 k5).over z1 (by rfl) (by rfl) hs6 g6 k6⟩
 rw [hbs]
 cases s <;> cases t <;> simp
set_option maxHeartbeats 4000000 in
theorem new_run (h : Heap) {v u : Value} {m k : Nat} {s t : Bool} (hv : IntV h v m s) (hu : IntV h u k t) (hk : k ≠ 0) (l1 : (dig m).length ≤ 549755813) (l2 : (dig k).length ≤ 549755813) :
  Runs K f_ratio_New #[v, u] h fun r w => ∃ q, r = .tuple #[q, .bool true] ∧ RatV w q (m / Nat.gcd m k) ((s != t) && decide (m / Nat.gcd m k ≠ 0)) (k / Nat.gcd m k) := by
 obtain ⟨p, rfl, hp⟩ := hv
 obtain ⟨a, n, c, rfl⟩ := natv_slice hp
 obtain ⟨q, rfl, hq⟩ := hu
 obtain ⟨a', n', c', rfl⟩ := natv_slice hq
 have hg0 : Nat.gcd m k ≠ 0 := fun h0 => hk (Nat.eq_zero_of_gcd_eq_zero_right h0)
 have lg : (dig (Nat.gcd m k)).length ≤ 549755813 := Nat.le_trans (dig_le_of (Nat.le_of_dvd (by omega) (Nat.gcd_dvd_right m k))) l2
 refine Runs.of Kok (Does.intro rfl (by decide +kernel) F_ratio_New rfl ?_)
 obtain ⟨w0, e0, x0, hs0, z0, z1, z2⟩ := lay3 h (.cells [.slice a n c, .bool s] 2) (.cells [.slice a' n' c', .bool t] 2) (.cells [.slice none 0 0, .bool false, .slice none 0 0] 3)
 have j2 : h.size ≤ h.size + 2 := by omega
 simp +decide only [go_sem, W_region, Wx_some, e0, z1]
 refine W_call Kok (by omega) (zero_run k w0 (hq.ext x0)) fun r w1 x1 hr => ?_
 subst hr
 have y0 : w1.get h.size = _ := (x1.2 _ (by omega)).trans z0
 have y1 : w1.get (h.size + 1) = _ := (x1.2 _ (by omega)).trans z1
 have y2 : w1.get (h.size + 2) = _ := (x1.2 _ (by omega)).trans z2
 have t1 : w0.size ≤ w1.size := x1.1
 have np1 := (hp.ext x0).ext x1
 have nq1 := (hq.ext x0).ext x1
 simp +decide only [go_sem, W_region, Wx_some, hk, y0, y1]
 refine W_call Kok (by omega) (size_run w1 (m := k) (s := t) ⟨_, rfl, nq1⟩) fun r w2 x2 hr => ?_
 simp +decide only [go_sem, W_region, Wx_some]
 refine W_call Kok (by have := x2.1; omega) (gcd_run m k w2 (np1.ext x2) hr l1 l2) fun r w3 x3 hr => ?_
 obtain ⟨ag, cg, rfl, sg⟩ := hr.open
 have x13 := x2.trans x3
 obtain ⟨w4, e4, x4, hs4, g4⟩ := lay1 w3 (.cells [.slice none 0 0] 1)
 have t3 : w1.size ≤ w3.size := x13.1
 have k3 : h.size ≤ w3.size := by omega
 have hx3 := x0.trans (x1.trans x13)
 obtain ⟨w5, e5, x5, hs5, g5, k5⟩ := put1 (hx3.trans x4) k3 (.cells [.slice ag (dig (Nat.gcd m k)).length cg] 1)
 have x14 := x13.trans x4
 have y0 : w5.get h.size = _ := (k5 _ (by omega)).trans ((x14.2 _ (by omega)).trans y0)
 have y1 : w5.get (h.size + 1) = _ := (k5 _ (by omega)).trans ((x14.2 _ (by omega)).trans y1)
 have y2 : w5.get (h.size + 2) = _ := (k5 _ (by omega)).trans ((x14.2 _ (by omega)).trans y2)
 have np5 : NatV w5 (.agg #[.slice a n c]) m := (np1.ext x14).over g4 (by rfl) (by rfl) hs5 g5 k5
 have nq5 : NatV w5 (.agg #[.slice a' n' c']) k := (nq1.ext x14).over g4 (by rfl) (by rfl) hs5 g5 k5
 have ng5 : NatV w5 (.agg #[.slice ag (dig (Nat.gcd m k)).length cg]) (Nat.gcd m k) := (hr.ext x4).over g4 (by rfl) (by rfl) hs5 g5 k5
 simp +decide only [go_sem, W_region, Wx_some, e4, g4, k3, e5, y0, g5]
 refine W_call Kok (by omega) (divmod_run m (Nat.gcd m k) w5 np5 ng5 l1) fun r w6 x6 hr6 => ?_
 obtain ⟨qa, ra, rfl, hqa, hra⟩ := hr6
 rw [if_neg hg0] at hqa hra
 obtain ⟨aq, cq, rfl, sq⟩ := hqa.open
 obtain ⟨ar, cr, rfl, sr⟩ := hra.open
 obtain ⟨w7, e7, x7, hs7, g7, g7'⟩ := lay2 w6 (.cells [.slice none 0 0] 1) (.cells [.slice none 0 0] 1)
 have t6 : w5.size ≤ w6.size := x6.1
 have k6 : h.size ≤ w6.size := by omega
 have k6' : h.size ≤ w6.size + 1 := by omega
 have x67 := x6.trans x7
 obtain ⟨w8, e8, x8, hs8, g8, k8⟩ := put1 (x5.trans x67) k6 (.cells [.slice aq (dig (m / Nat.gcd m k)).length cq] 1)
 have g8' : w8.get (w6.size + 1) = .cells [.slice none 0 0] 1 := (k8 _ (by omega)).trans g7'
 obtain ⟨w9, e9, x9, hs9, g9, k9⟩ := put1 x8 k6' (.cells [.slice ar (dig (m % Nat.gcd m k)).length cr] 1)
 have mv : ∀ q (hq : q < w5.size), w9.get q = w5.get q := fun q hq => (k9 _ (by omega)).trans ((k8 _ (by omega)).trans (x67.2 _ hq))
 have y0 : w9.get h.size = _ := (mv _ (by omega)).trans y0
 have y1 : w9.get (h.size + 1) = _ := (mv _ (by omega)).trans y1
 have y2 : w9.get (h.size + 2) = _ := (mv _ (by omega)).trans y2
 have gg9 : w9.get w3.size = _ := (mv _ (by omega)).trans g5
 have gq9 : w9.get w6.size = .cells [.slice aq (dig (m / Nat.gcd m k)).length cq] 1 := (k9 _ (by omega)).trans g8
 have up9 : ∀ {v : Value} {M : Nat}, NatV w7 v M → NatV w9 v M := fun H => (H.over g7 (by rfl) (by rfl) hs8 g8 k8).over g8' (by rfl) (by rfl) hs9 g9 k9
 have nq9 := up9 (nq5.ext x67)
 have ng9 := up9 (ng5.ext x67)
 have na9 := up9 (hqa.ext x7)
 simp +decide only [go_sem, W_region, Wx_some, e7, g7, k6, e8, g8', k6', e9, y1, gg9]
 refine W_call Kok (by omega) (divmod_run k (Nat.gcd m k) w9 nq9 ng9 l2) fun r wa xa hra => ?_
 obtain ⟨qb, rb, rfl, hqb, hrb⟩ := hra
 rw [if_neg hg0] at hqb hrb
 obtain ⟨aq', cq', rfl, sq'⟩ := hqb.open
 obtain ⟨ar', cr', rfl, sr'⟩ := hrb.open
 obtain ⟨wb, eb, xb, hsb, gb, gb'⟩ := lay2 wa (.cells [.slice none 0 0] 1) (.cells [.slice none 0 0] 1)
 have ta : w9.size ≤ wa.size := xa.1
 have ka : h.size ≤ wa.size := by omega
 have ka' : h.size ≤ wa.size + 1 := by omega
 have xab := xa.trans xb
 obtain ⟨wc, ec, xc, hsc, gc, kc⟩ := put1 (x9.trans xab) ka (.cells [.slice aq' (dig (k / Nat.gcd m k)).length cq'] 1)
 have gc' : wc.get (wa.size + 1) = .cells [.slice none 0 0] 1 := (kc _ (by omega)).trans gb'
 obtain ⟨wd, ed, xd, hsd, gd, kd⟩ := put1 xc ka' (.cells [.slice ar' (dig (k % Nat.gcd m k)).length cr'] 1)
 have mv : ∀ q (hq : q < w9.size), wd.get q = w9.get q := fun q hq => (kd _ (by omega)).trans ((kc _ (by omega)).trans (xab.2 _ hq))
 have y0 : wd.get h.size = _ := (mv _ (by omega)).trans y0
 have y1 : wd.get (h.size + 1) = _ := (mv _ (by omega)).trans y1
 have y2 : wd.get (h.size + 2) = _ := (mv _ (by omega)).trans y2
 have gqd : wd.get w6.size = _ := (mv _ (by omega)).trans gq9
 have gbd : wd.get wa.size = .cells [.slice aq' (dig (k / Nat.gcd m k)).length cq'] 1 := (kd _ (by omega)).trans gc
 have upd : ∀ {v : Value} {M : Nat}, NatV wb v M → NatV wd v M := fun H => (H.over gb (by rfl) (by rfl) hsc gc kc).over gc' (by rfl) (by rfl) hsd gd kd
 have npd := upd (up9 (np5.ext x67) |>.ext xab)
 have nqd := upd (nq9.ext xab)
 have nad := upd (na9.ext xab)
 have nbd := upd (hqb.ext xb)
 simp +decide only [go_sem, W_region, Wx_some, eb, gb, ka, ec, gc', ka', ed, y0]
 refine W_call Kok (by omega) (neg_run wd (m := m) (s := s) ⟨_, rfl, npd⟩) fun r we xe hre => ?_
 subst hre
 have y1 : we.get (h.size + 1) = _ := (xe.2 _ (by omega)).trans y1
 simp +decide only [go_sem, W_region, Wx_some, y1]
 refine W_call Kok (by have := xe.1; omega) (neg_run we (m := k) (s := t) ⟨_, rfl, nqd.ext xe⟩) fun r wf xf hrf => ?_
 subst hrf
 have xef := xe.trans xf
 have gqf : wf.get w6.size = _ := (xef.2 _ (by omega)).trans gqd
 simp +decide only [go_sem, W_region, Wx_some, gqf]
 refine W_call Kok (by have := xef.1; omega) (wof_run wf _ (nad.ext xef)) fun r wg xg hrg => ?_
 obtain ⟨pg, rfl, hpg⟩ := hrg
 obtain ⟨a4, n4, c4, rfl⟩ := natv_slice hpg
 have xeg := xef.trans xg
 have gbg : wg.get wa.size = _ := (xeg.2 _ (by omega)).trans gbd
 have y2 : wg.get (h.size + 2) = _ := (xeg.2 _ (by omega)).trans y2
 obtain ⟨bs, hbs⟩ : ∃ bs, bs = (!decide (s = t) && decide (m / Nat.gcd m k ≠ 0)) := ⟨_, rfl⟩
 obtain ⟨wh, eh, xh, hsh, gh, kh⟩ := put1 (xd.trans xeg) j2 (.cells [.slice a4 n4 c4, .bool bs, .slice aq' (dig (k / Nat.gcd m k)).length cq'] 3)
 simp +decide only [go_sem, W_region, Wx_some, ← hbs, gbg, y2, j2, eh, gh]
 refine ⟨_, rfl, _, _, ?_, hpg.over y2 (by rfl) (by rfl) hsh gh kh, (nbd.ext xeg).over y2 (by rfl) (by rfl) hsh gh kh⟩
 rw [hbs]
 cases s <;> cases t <;> simp
end Go.Proofs.YtachkofbmodnnaaGreatDoor.N13
namespace Go.Proofs.YtachkofbmodnnaaGreatDoor.N14
open Go Go.Im Go.Im.Limbs Go.Proofs Go.RowKit Hd N1 N2 N10 N11 N12 N13
set_option maxRecDepth 100000
theorem pow_dig {n N : Nat} (h : n < N) : (dig (10 ^ n)).length ≤ N := dig_ten (Nat.pow_lt_pow_right (by omega) h)
theorem dig_mul {m k a b : Nat} (h1 : (dig m).length ≤ a) (h2 : (dig k).length ≤ b) : (dig (m * k)).length ≤ a + b := by
 rw [dig_length] at *
 rw [Nat.pow_add]
 have h3 : m * k ≤ m * B ^ b := Nat.mul_le_mul_left _ (Nat.le_of_lt h2)
 have h4 : m * B ^ b < B ^ a * B ^ b := Nat.mul_lt_mul_of_pos_right h1 (Nat.pow_pos B_pos)
 omega
theorem gcd_quo {m k : Nat} (hk : k ≠ 0) : m / Nat.gcd m k ≠ 0 ↔ m ≠ 0 := by
 have hg : 0 < Nat.gcd m k := Nat.pos_of_ne_zero fun h0 => hk (Nat.eq_zero_of_gcd_eq_zero_right h0)
 constructor
 ·rintro h rfl
  simp at h
 ·intro h h0
  have h2 := Nat.div_mul_cancel (Nat.gcd_dvd_left m k)
  rw [h0, Nat.zero_mul] at h2
  exact h h2.symm
set_option maxHeartbeats 4000000 in
theorem rtimes_run (h : Heap) {v p2 q2 : Value} {m k m2 k2 b : Nat} {s t : Bool} (hv : RatV h v m s k) (hb : b < h.size) (hg : h.get b = .cells [p2, .bool t, q2] 3) (hp2 : NatV h (.agg #[p2]) m2) (hq2 : NatV h (.agg #[q2]) k2)
  (hk : k ≠ 0) (hk2 : k2 ≠ 0) (l1 : (dig m).length ≤ 200000000) (l2 : (dig k).length ≤ 200000000) (l3 : (dig m2).length ≤ 200000000) (l4 : (dig k2).length ≤ 200000000) :
  Runs K f_ratio_Rat_Times #[v, .slice (some ⟨b, 0, none⟩) 1 1] h fun r w => RatV w r (m * m2 / Nat.gcd (m * m2) (k * k2)) ((s != t) && decide (m * m2 ≠ 0)) (k * k2 / Nat.gcd (m * m2) (k * k2)) := by
 obtain ⟨p, q, rfl, hp, hq⟩ := hv
 obtain ⟨a, n, c, rfl⟩ := natv_slice hp
 obtain ⟨a', n', c', rfl⟩ := natv_slice hq
 obtain ⟨a2, n2, c2, rfl⟩ := natv_slice hp2
 obtain ⟨a2', n2', c2', rfl⟩ := natv_slice hq2
 refine Runs.of Kok (Does.intro rfl (by decide +kernel) F_ratio_Rat_Times rfl ?_)
 obtain ⟨w0, e0, x0, hs0, z0, z1⟩ := lay2 h (.cells [.slice a n c, .bool s, .slice a' n' c'] 3) (.cells [.slice none 0 0, .bool false, .slice none 0 0] 3)
 have j1 : h.size ≤ h.size + 1 := by omega
 simp +decide only [go_sem, W_region, Wx_some, e0]
 rw [W_round]
 have hg0 : w0.get b = _ := (x0.2 _ hb).trans hg
 obtain ⟨w1, e1, x1, hs1, g1⟩ := lay1 w0 (.cells [.slice none 0 0, .bool false, .slice none 0 0] 3)
 have k1 : h.size ≤ w0.size := by omega
 have hg1 : w1.get b = _ := (x1.2 _ (by omega)).trans hg0
 obtain ⟨w2, e2, x2, hs2, g2, k2'⟩ := put1 (x0.trans x1) k1 (.cells [.slice a2 n2 c2, .bool t, .slice a2' n2' c2'] 3)
 have z0 : w2.get h.size = _ := (k2' _ (by omega)).trans ((x1.2 _ (by omega)).trans z0)
 have z1 : w2.get (h.size + 1) = _ := (k2' _ (by omega)).trans ((x1.2 _ (by omega)).trans z1)
 have up : ∀ {v : Value} {M : Nat}, NatV h v M → NatV w2 v M := fun H => ((H.ext x0).ext x1).over g1 (by rfl) (by rfl) hs2 g2 k2'
 have np := up hp
 have nq := up hq
 have np2 := up hp2
 have nq2 := up hq2
 obtain ⟨w3, e3, x3, hs3, g3⟩ := lay1 w2 (.cells [.slice a2 n2 c2, .bool t] 2)
 simp +decide only [go_sem, W_region, Wx_some, e1, hg0, g1, k1, e2, z0, g2, e3]
 refine W_call Kok (by omega) (itimes_run w3 (m := m) (s := s) (b := w2.size) ⟨_, rfl, np.ext x3⟩ (by omega) g3 (np2.ext x3) (by omega) (by omega)) fun r w4 x4 hr4 => ?_
 obtain ⟨pt, rfl, hpt⟩ := hr4
 have z0 : w4.get h.size = _ := (x4.2 _ (by omega)).trans ((x3.2 _ (by omega)).trans z0)
 have g2' : w4.get w0.size = _ := (x4.2 _ (by omega)).trans ((x3.2 _ (by omega)).trans g2)
 have x34 := x3.trans x4
 simp +decide only [go_sem, W_region, Wx_some, z0]
 refine W_call Kok (by have := x34.1; omega) (under_run w4 (m := m) (s := s) ⟨_, _, rfl, np.ext x34, nq.ext x34⟩ hk) fun r w5 x5 hr5 => ?_
 obtain ⟨pu, rfl, hpu⟩ := hr5
 have g2' : w5.get w0.size = _ := (x5.2 _ (by have := x34.1; omega)).trans g2'
 have x35 := x34.trans x5
 simp +decide only [go_sem, W_region, Wx_some, g2']
 refine W_call Kok (by have := x35.1; omega) (under_run w5 (m := m2) (s := t) ⟨_, _, rfl, np2.ext x35, nq2.ext x35⟩ hk2) fun r w6 x6 hr6 => ?_
 obtain ⟨pv, rfl, hpv⟩ := hr6
 obtain ⟨av, nv, cv, rfl⟩ := natv_slice hpv
 obtain ⟨w7, e7, x7, hs7, g7⟩ := lay1 w6 (.cells [.slice av nv cv, .bool false] 2)
 have x36 := x35.trans x6
 have x37 := x36.trans x7
 simp +decide only [go_sem, W_region, Wx_some, e7]
 refine W_call Kok (by have := x36.1; omega) (itimes_run w7 (m := k) (s := false) (b := w6.size) ⟨_, rfl, hpu.ext (x6.trans x7)⟩ (by omega) g7 (hpv.ext x7) (by omega) (by omega)) fun r w8 x8 hr8 => ?_
 obtain ⟨pw, rfl, hpw⟩ := hr8
 have x38 := x37.trans x8
 simp +decide only [go_sem, W_region, Wx_some]
 have hkk : k * k2 ≠ 0 := Nat.mul_ne_zero hk hk2
 refine W_call Kok (by have := x38.1; omega) (new_run w8 (m := m * m2) (k := k * k2) ⟨_, rfl, hpt.ext (x5.trans (x6.trans (x7.trans x8)))⟩ ⟨_, rfl, hpw⟩ hkk (Nat.le_trans (dig_mul l1 l3) (by omega)) (Nat.le_trans (dig_mul l2 l4) (by omega))) fun r w9 x9 hr9 => ?_
 obtain ⟨qr, rfl, hqr⟩ := hr9
 have hsg : ((((s != t) && decide (m * m2 ≠ 0)) != ((false != false) && decide (k * k2 ≠ 0))) && decide (m * m2 / Nat.gcd (m * m2) (k * k2) ≠ 0)) = ((s != t) && decide (m * m2 ≠ 0)) := by
  have hx := gcd_quo (m := m * m2) hkk
  by_cases h0 : m * m2 = 0
  ·simp [h0]
  ·have h1 := hx.2 h0
   simp [h0, h1]
 rw [hsg] at hqr
 obtain ⟨pr, qq, rfl, hpr, hqq⟩ := hqr
 obtain ⟨a9, n9, c9, rfl⟩ := natv_slice hpr
 obtain ⟨a9', n9', c9', rfl⟩ := natv_slice hqq
 have x39 := x38.trans x9
 have z0 : w9.get h.size = .cells [.slice a n c, .bool s, .slice a' n' c'] 3 := (((x5.trans (x6.trans (x7.trans (x8.trans x9)))).2 _ (by have := x34.1; omega))).trans z0
 have z1 : w9.get (h.size + 1) = _ := (x39.2 _ (by omega)).trans z1
 obtain ⟨wa, ea, xa, hsa, ga, ka⟩ := put1 (x2.trans x39) (Nat.le_refl h.size) (.cells [.slice a9 n9 c9, .bool ((s != t) && decide (m * m2 ≠ 0)), .slice a9' n9' c9'] 3)
 have z1 : wa.get (h.size + 1) = _ := (ka _ (by omega)).trans z1
 obtain ⟨wb, eb, xb, hsb, gb, kb⟩ := put1 xa j1 (.cells [.slice a9 n9 c9, .bool ((s != t) && decide (m * m2 ≠ 0)), .slice a9' n9' c9'] 3)
 have i1 : IntKind.i64.wrap (0 + 1) = 1 := wrap_i64 (by omega) (by omega)
 generalize hbs : ((s != t) && decide (m * m2 ≠ 0)) = bs at *
 simp +decide only [go_sem, W_region, Wx_some, z0, Nat.le_refl, ea, i1]
 rw [W_round]
 simp +decide only [go_sem, W_region, Wx_some, ga, z1, j1, eb, gb]
 exact ⟨_, _, rfl, (hpr.over z0 (by rfl) (by rfl) hsa ga ka).over z1 (by rfl) (by rfl) hsb gb kb, (hqq.over z0 (by rfl) (by rfl) hsa ga ka).over z1 (by rfl) (by rfl) hsb gb kb⟩
set_option maxHeartbeats 4000000 in
theorem by_run (h : Heap) {v u : Value} {m k m2 k2 : Nat} {s : Bool} (hv : RatV h v m s k) (hu : RatV h u m2 false k2)
  (hk : k ≠ 0) (hk2 : k2 ≠ 0) (hm2 : m2 ≠ 0) (l1 : (dig m).length ≤ 200000000) (l2 : (dig k).length ≤ 200000000) (l3 : (dig m2).length ≤ 200000000) (l4 : (dig k2).length ≤ 200000000) :
  Runs K f_ratio_Rat_By #[v, u] h fun r w => ∃ q, r = .tuple #[q, .bool true] ∧ RatV w q (m * k2 / Nat.gcd (m * k2) (k * m2)) (s && decide (m * k2 ≠ 0)) (k * m2 / Nat.gcd (m * k2) (k * m2)) := by
 obtain ⟨p, q, rfl, hp, hq⟩ := hv
 obtain ⟨a, n, c, rfl⟩ := natv_slice hp
 obtain ⟨a', n', c', rfl⟩ := natv_slice hq
 obtain ⟨p2, q2, rfl, hp2, hq2⟩ := hu
 obtain ⟨a2, n2, c2, rfl⟩ := natv_slice hp2
 obtain ⟨a2', n2', c2', rfl⟩ := natv_slice hq2
 refine Runs.of Kok (Does.intro rfl (by decide +kernel) F_ratio_Rat_By rfl ?_)
 obtain ⟨w2, e0, x0, hs0, z0, z1, z2⟩ := lay3 h (.cells [.slice a n c, .bool s, .slice a' n' c'] 3) (.cells [.slice a2 n2 c2, .bool false, .slice a2' n2' c2'] 3) (.cells [.slice none 0 0, .bool false, .slice none 0 0] 3)
 have j2 : h.size ≤ h.size + 2 := by omega
 have np := hp.ext x0
 have nq := hq.ext x0
 have np2 := hp2.ext x0
 have nq2 := hq2.ext x0
 simp +decide only [go_sem, W_region, Wx_some, e0, z0, z1]
 refine W_call Kok (by omega) (under_run w2 (m := m2) (s := false) ⟨_, _, rfl, np2, nq2⟩ hk2) fun r w3 x3 hr3 => ?_
 obtain ⟨pv, rfl, hpv⟩ := hr3
 obtain ⟨av, nv, cv, rfl⟩ := natv_slice hpv
 obtain ⟨w4, e4, x4, hs4, g4⟩ := lay1 w3 (.cells [.slice av nv cv, .bool false] 2)
 have x34 := x3.trans x4
 simp +decide only [go_sem, W_region, Wx_some, e4]
 refine W_call Kok (by have := x3.1; omega) (itimes_run w4 (m := m) (s := s) (b := w3.size) ⟨_, rfl, np.ext x34⟩ (by omega) g4 (hpv.ext x4) (by omega) (by omega)) fun r w5 x5 hr5 => ?_
 obtain ⟨pt, rfl, hpt⟩ := hr5
 have x35 := x34.trans x5
 have z0 : w5.get h.size = _ := (x35.2 _ (by omega)).trans z0
 have z1 : w5.get (h.size + 1) = _ := (x35.2 _ (by omega)).trans z1
 simp +decide only [go_sem, W_region, Wx_some, z0]
 refine W_call Kok (by have := x35.1; omega) (under_run w5 (m := m) (s := s) ⟨_, _, rfl, np.ext x35, nq.ext x35⟩ hk) fun r w6 x6 hr6 => ?_
 obtain ⟨pu, rfl, hpu⟩ := hr6
 have x36 := x35.trans x6
 have z1 : w6.get (h.size + 1) = _ := (x6.2 _ (by have := x35.1; omega)).trans z1
 obtain ⟨w7, e7, x7, hs7, g7⟩ := lay1 w6 (.cells [.slice a2 n2 c2, .bool false] 2)
 have x37 := x36.trans x7
 simp +decide only [go_sem, W_region, Wx_some, z1, e7]
 refine W_call Kok (by have := x36.1; omega) (itimes_run w7 (m := k) (s := false) (b := w6.size) ⟨_, rfl, hpu.ext x7⟩ (by omega) g7 (np2.ext x37) (by omega) (by omega)) fun r w8 x8 hr8 => ?_
 obtain ⟨pw, rfl, hpw⟩ := hr8
 have x38 := x37.trans x8
 simp +decide only [go_sem, W_region, Wx_some]
 have hkk : k * m2 ≠ 0 := Nat.mul_ne_zero hk hm2
 refine W_call Kok (by have := x38.1; omega) (new_run w8 (m := m * k2) (k := k * m2) ⟨_, rfl, hpt.ext (x6.trans (x7.trans x8))⟩ ⟨_, rfl, hpw⟩ hkk (Nat.le_trans (dig_mul l1 l4) (by omega)) (Nat.le_trans (dig_mul l2 l3) (by omega))) fun r w9 x9 hr9 => ?_
 obtain ⟨qr, rfl, hqr⟩ := hr9
 have hsg : ((((s != false) && decide (m * k2 ≠ 0)) != ((false != false) && decide (k * m2 ≠ 0))) && decide (m * k2 / Nat.gcd (m * k2) (k * m2) ≠ 0)) = (s && decide (m * k2 ≠ 0)) := by
  have hx := gcd_quo (m := m * k2) hkk
  by_cases h0 : m * k2 = 0
  ·simp [h0]
  ·have h1 := hx.2 h0
   simp [h0, h1]
 rw [hsg] at hqr
 obtain ⟨pr, qq, rfl, hpr, hqq⟩ := hqr
 obtain ⟨a9, n9, c9, rfl⟩ := natv_slice hpr
 obtain ⟨a9', n9', c9', rfl⟩ := natv_slice hqq
 have x39 := x38.trans x9
 have z2 : w9.get (h.size + 2) = _ := (x39.2 _ (by omega)).trans z2
 generalize hbs : (s && decide (m * k2 ≠ 0)) = bs at *
 obtain ⟨wa, ea, xa, hsa, ga, ka⟩ := put1 (x0.trans x39) j2 (.cells [.slice a9 n9 c9, .bool bs, .slice a9' n9' c9'] 3)
 simp +decide only [go_sem, W_region, Wx_some, z2, j2, ea, ga]
 exact ⟨_, rfl, _, _, rfl, hpr.over z2 (by rfl) (by rfl) hsa ga ka, hqq.over z2 (by rfl) (by rfl) hsa ga ka⟩
def scM (m : Nat) (e : Int) : Nat := if 0 ≤ e then m * 10 ^ e.toNat else m / Nat.gcd m (10 ^ (-e).toNat)
def scK (m : Nat) (e : Int) : Nat := if 0 ≤ e then 1 else 10 ^ (-e).toNat / Nat.gcd m (10 ^ (-e).toNat)
set_option maxHeartbeats 4000000 in
theorem scaled_run (h : Heap) {v : Value} {m : Nat} {s : Bool} {e : Int} (hv : RatV h v m s 1) (hs : s = true → m ≠ 0) (l1 : (dig m).length ≤ 100000000) (he1 : -2000 ≤ e) (he2 : e ≤ 2000) :
  Runs K f_deci_scaled #[v, .int .i64 e] h fun r w => RatV w r (scM m e) s (scK m e) := by
 obtain ⟨p, q, rfl, hp, hq⟩ := hv
 obtain ⟨a, n, c, rfl⟩ := natv_slice hp
 obtain ⟨a', n', c', rfl⟩ := natv_slice hq
 have l10 : ∀ n, n ≤ 2000 → (dig (10 ^ n)).length ≤ 2001 := fun n hn => pow_dig (by omega)
 refine Runs.of Kok (Does.intro rfl (by decide +kernel) F_deci_scaled rfl ?_)
 obtain ⟨w0, e0, x0, hs0, z0, z1⟩ := lay2 h (.cells [.slice a n c, .bool s, .slice a' n' c'] 3) (.cells [.slice none 0 0, .bool false, .slice none 0 0] 3)
 have j1 : h.size ≤ h.size + 1 := by omega
 have i1 : IntKind.i64.wrap (0 - e) = 0 - e := wrap_i64 (by omega) (by omega)
 obtain ⟨g, hg⟩ : ∃ g : Nat, g = (max e (0 - e)).toNat := ⟨_, rfl⟩
 have i2 : max e (0 - e) = (g : Int) := by omega
 simp +decide only [go_sem, W_region, Wx_some, e0, i1, i2]
 refine W_call Kok (by omega) (ten_run g w0 (by omega)) fun r w1 x1 hr => ?_
 simp +decide only [go_sem, W_region, Wx_some]
 refine W_call Kok (by have := x1.1; omega) (wof_run w1 false hr) fun r w2 x2 hr => ?_
 simp +decide only [go_sem, W_region, Wx_some]
 refine W_call Kok (by have := x1.1; have := x2.1; omega) (whole_run w2 hr) fun r w3 x3 hr => ?_
 obtain ⟨p3, q3, rfl, hp3, hq3⟩ := hr
 obtain ⟨a3, n3, c3, rfl⟩ := natv_slice hp3
 obtain ⟨a3', n3', c3', rfl⟩ := natv_slice hq3
 have x13 := x1.trans (x2.trans x3)
 have hx3 := x0.trans x13
 obtain ⟨w4, e4, x4, hs4, g4⟩ := lay1 w3 (.cells [.slice none 0 0, .bool false, .slice none 0 0] 3)
 have t3 : w0.size ≤ w3.size := x13.1
 have k3 : h.size ≤ w3.size := by omega
 obtain ⟨w5, e5, x5, hs5, g5, k5⟩ := put1 (hx3.trans x4) k3 (.cells [.slice a3 n3 c3, .bool false, .slice a3' n3' c3'] 3)
 have up : ∀ {v : Value} {M : Nat}, NatV w3 v M → NatV w5 v M := fun H => (H.ext x4).over g4 (by rfl) (by rfl) hs5 g5 k5
 have np := up ((hp.ext x0).ext x13)
 have nq := up ((hq.ext x0).ext x13)
 have np3 := up hp3
 have nq3 := up hq3
 have z0 : w5.get h.size = _ := (k5 _ (by omega)).trans ((x4.2 _ (by omega)).trans ((x13.2 _ (by omega)).trans z0))
 have z1 : w5.get (h.size + 1) = _ := (k5 _ (by omega)).trans ((x4.2 _ (by omega)).trans ((x13.2 _ (by omega)).trans z1))
 have fin : ∀ (w : Heap) {u : Value} {M K' : Nat}, Ext w5 w → RatV w u M s K' → ∃ aa nn cc a2 n2 c2 wd, u = .agg #[.slice aa nn cc, .bool s, .slice a2 n2 c2] ∧ w.set (h.size + 1) (.cells [.slice aa nn cc, .bool s, .slice a2 n2 c2] 3) = wd ∧ w.get (h.size + 1) = .cells [.slice none 0 0, .bool false, .slice none 0 0] 3 ∧ wd.get (h.size + 1) = .cells [.slice aa nn cc, .bool s, .slice a2 n2 c2] 3 ∧ RatV wd u M s K' := by
  intro w u M K' hx hu
  obtain ⟨pp, qq, rfl, hpp, hqq⟩ := hu
  obtain ⟨aa, nn, cc, rfl⟩ := natv_slice hpp
  obtain ⟨a2, n2, c2, rfl⟩ := natv_slice hqq
  have z1 : w.get (h.size + 1) = _ := (hx.2 _ (by omega)).trans z1
  obtain ⟨wd, ed, xd, hsd, gd, kd⟩ := put1 (x5.trans hx) j1 (.cells [.slice aa nn cc, .bool s, .slice a2 n2 c2] 3)
  exact ⟨aa, nn, cc, a2, n2, c2, wd, rfl, ed, z1, gd, _, _, rfl, hpp.over z1 (by rfl) (by rfl) hsd gd kd, hqq.over z1 (by rfl) (by rfl) hsd gd kd⟩
 have hsm : ∀ M, M ≠ 0 → (s && decide (m * M ≠ 0)) = s := by
  intro M hM
  cases s with
  | false => rfl
  | true =>
    have := Nat.mul_ne_zero (hs rfl) hM
    simp [this]
 have h10 : 10 ^ g ≠ 0 := by have : 0 < 10 ^ g := Nat.pow_pos (by omega); omega
 by_cases hpos : (0 : Int) ≤ e
 ·obtain ⟨w6, e6, x6, hs6, g6⟩ := lay1 w5 (.cells [.slice a3 n3 c3, .bool false, .slice a3' n3' c3'] 3)
  simp +decide only [go_sem, W_region, Wx_some, Bool.false_and, e4, g4, k3, e5, hpos, z0, g5, e6]
  refine W_call Kok (by have := x5.1; omega) (rtimes_run w6 (m := m) (k := 1) (s := s) (b := w5.size) ⟨_, _, rfl, np.ext x6, nq.ext x6⟩ (by omega) g6 (np3.ext x6) (nq3.ext x6) (by omega) (by omega) (by omega) (Nat.le_trans (dig_length.2 (show 1 < B ^ 1 by rw [B_eq]; omega)) (by omega)) (Nat.le_trans (l10 g (by omega)) (by omega)) (Nat.le_trans (dig_length.2 (show 1 < B ^ 1 by rw [B_eq]; omega)) (by omega))) fun r w7 x7 hr => ?_
  have eg : e.toNat = g := by omega
  have hM : m * 10 ^ g / Nat.gcd (m * 10 ^ g) (1 * 1) = scM m e := by
   rw [scM, if_pos hpos, eg, Nat.mul_one, Nat.gcd_one_right, Nat.div_one]
  have hK : 1 * 1 / Nat.gcd (m * 10 ^ g) (1 * 1) = scK m e := by
   rw [scK, if_pos hpos, Nat.mul_one, Nat.gcd_one_right]
  rw [hM, hK, Bool.bne_false, hsm _ h10] at hr
  obtain ⟨aa, nn, cc, a2, n2, c2, wd, rfl, ed, zz1, gd, hfin⟩ := fin w7 (x6.trans x7) hr
  simp +decide only [go_sem, W_region, Wx_some, zz1, j1, ed, gd]
  exact hfin
 ·simp +decide only [go_sem, W_region, Wx_some, Bool.false_and, e4, g4, k3, e5, hpos, z0, g5]
  refine W_call Kok (by have := x5.1; omega) (by_run w5 (m := m) (k := 1) (s := s) ⟨_, _, rfl, np, nq⟩ ⟨_, _, rfl, np3, nq3⟩ (by omega) (by omega) h10 (by omega) (Nat.le_trans (dig_length.2 (show 1 < B ^ 1 by rw [B_eq]; omega)) (by omega)) (Nat.le_trans (l10 g (by omega)) (by omega)) (Nat.le_trans (dig_length.2 (show 1 < B ^ 1 by rw [B_eq]; omega)) (by omega))) fun r w7 x7 hr => ?_
  obtain ⟨qv, rfl, hqv⟩ := hr
  have eg : (-e).toNat = g := by omega
  have hM : m * 1 / Nat.gcd (m * 1) (1 * 10 ^ g) = scM m e := by
   rw [scM, if_neg hpos, eg, Nat.mul_one, Nat.one_mul]
  have hK : 1 * 10 ^ g / Nat.gcd (m * 1) (1 * 10 ^ g) = scK m e := by
   rw [scK, if_neg hpos, eg, Nat.mul_one, Nat.one_mul]
  rw [hM, hK, hsm 1 (by omega)] at hqv
  obtain ⟨pp, qq, rfl, hpp, hqq⟩ := hqv
  obtain ⟨aa, nn, cc, rfl⟩ := natv_slice hpp
  obtain ⟨a2, n2, c2, rfl⟩ := natv_slice hqq
  obtain ⟨w8, e8, x8, hs8, g8⟩ := lay1 w7 (.cells [.slice none 0 0, .bool false, .slice none 0 0] 3)
  have k7 : h.size ≤ w7.size := by have := x7.1; have := x5.1; omega
  obtain ⟨w9, e9, x9, hs9, g9, k9⟩ := put1 (x5.trans (x7.trans x8)) k7 (.cells [.slice aa nn cc, .bool s, .slice a2 n2 c2] 3)
  have zz1 : w9.get (h.size + 1) = .cells [.slice none 0 0, .bool false, .slice none 0 0] 3 := (k9 _ (by have := x7.1; omega)).trans ((x8.2 _ (by have := x7.1; omega)).trans ((x7.2 _ (by omega)).trans z1))
  obtain ⟨wd, ed, xd, hsd, gd, kd⟩ := put1 x9 j1 (.cells [.slice aa nn cc, .bool s, .slice a2 n2 c2] 3)
  simp +decide only [go_sem, W_region, Wx_some, e8, g8, k7, e9, g9, zz1, j1, ed, gd]
  exact ⟨_, _, rfl, ((hpp.ext x8).over g8 (by rfl) (by rfl) hs9 g9 k9).over zz1 (by rfl) (by rfl) hsd gd kd, ((hqq.ext x8).over g8 (by rfl) (by rfl) hs9 g9 k9).over zz1 (by rfl) (by rfl) hsd gd kd⟩
end Go.Proofs.YtachkofbmodnnaaGreatDoor.N14
namespace Go.Proofs.YtachkofbmodnnaaGreatDoor.N15
open Go Go.Im Go.Im.Limbs Go.Im.Lexing Go.Proofs Go.RowKit Hd N1 N11 N12 N13 N14
set_option maxRecDepth 100000
theorem in_run (s : ByteArray) (l : List Int) (c : Int) (h : Heap) (hd : decB s 0 l = true) : Runs K f_glyph_in #[.string s, .int .i32 c] h fun r _ => r = .bool (l.elem c) := by
 refine Runs.of Kok (Does.intro rfl (by decide +kernel) F_glyph_in rfl ?_)
 obtain ⟨w0, e0, x0, hs0, z0⟩ := lay1 h (.siter s 0)
 simp +decide only [go_sem, W_region, Wx_some, e0]
 refine W_loop (α := Nat × List Int) (fun k e w => e.size = 15 ∧ Ext h w ∧ h.size < w.size ∧ w.get h.size = .siter s k.1 ∧ e.get 1 = .int .i32 c ∧ e.get 8 = .pointer (some ⟨h.size, 0, none⟩) ∧ decB s k.1 k.2 = true ∧ l.elem c = k.2.elem c) (fun k => k.2.length) (0, l) ?_ ?_
 ·exact ⟨by simp +decide only [go_sem], x0, by omega, z0, by simp +decide only [go_sem], by simp +decide only [go_sem], hd, rfl⟩
 ·rintro ⟨pos, l'⟩ e w ⟨hsz, hxw, hws, g0, e1, e8, hdec, hl⟩ next
  simp only at g0 hdec hl
  cases l' with
  | nil =>
    simp only [decB, decide_eq_true_eq] at hdec
    simp +decide only [go_sem, W_region, Wx_some, hsz, e1, e8, g0, inxt_end (Nat.le_refl _) hdec, hl]
    rfl
  | cons x l' =>
    simp only [decB, Bool.and_eq_true, decide_eq_true_eq] at hdec
    obtain ⟨⟨d1, d2⟩, d3⟩ := hdec
    obtain ⟨w1, e1', x1, hs1, g1, k1⟩ := put1 hxw (Nat.le_refl _) (.siter s (pos + (Utf8.decode s pos).2))
    by_cases hx : x = c
    ·simp +decide only [go_sem, W_region, Wx_some, hsz, e1, e8, g0, inxt_more (Nat.le_refl _) d1, d2, e1', hx, hl]
     simp
    ·simp +decide only [go_sem, W_region, Wx_some, hsz, e1, e8, g0, inxt_more (Nat.le_refl _) d1, d2, e1', hx]
     refine next (pos + (Utf8.decode s pos).2, l') _ _ ⟨by simp +decide only [go_sem, hsz], x1, by omega, g1, by simp +decide only [go_sem, hsz, e1], by simp +decide only [go_sem, hsz, e8], d3, ?_⟩ (by simp)
     simp only [hl, List.elem_cons]
     have : (c == x) = false := by simp; exact fun hh => hx hh.symm
     rw [this]
theorem kind_run (c : Int) (h : Heap) : Runs K f_glyph_Kind #[.int .i32 c] h fun r _ => r = .int .i64 (kindOf c) := by
 refine Runs.of Kok (Does.intro rfl (by decide +kernel) F_glyph_Kind rfl ?_)
 by_cases h32 : c = 32
 ·subst h32
  simp +decide only [go_sem, W_region, Wx_some]
  rfl
 simp +decide only [go_sem, W_region, Wx_some]
 rw [decide_eq_false h32, Wc_false, W_seq]
 refine W_cut (J := fun e w => e.size = 55 ∧ e.get 0 = .int .i32 c ∧ e.get 6 = .bool (isL c) ∧ w = h) (by simp only [straight, KD]; rfl) ?_ ?_
 ·by_cases a1 : 97 ≤ c
  ·by_cases a2 : c ≤ 122
   ·have il : isL c = true := by simp [isL]; omega
    simp +decide only [go_sem, W_region, Wx_some, a1, a2, il]
   ·have a3 : 65 ≤ c := by omega
    have a4 : ¬ c ≤ 90 := by omega
    have a5 : ¬ c = 95 := by omega
    have il : isL c = decide (c = 8710) := by simp [isL, a2, a4, a5]
    by_cases a6 : c = 8710
    ·simp +decide only [go_sem, W_region, Wx_some, a1, a2, a3, a4, a5, a6, il]
     rfl
    ·simp +decide only [go_sem, W_region, Wx_some, a1, a2, a3, a4, a5, a6, il]
  ·by_cases a3 : 65 ≤ c
   ·by_cases a4 : c ≤ 90
    ·have il : isL c = true := by simp [isL]; omega
     simp +decide only [go_sem, W_region, Wx_some, a1, a3, a4, il]
    ·have a6 : ¬ c = 8710 := by omega
     have il : isL c = decide (c = 95) := by simp [isL, a1, a4, a6]
     by_cases a5 : c = 95
     ·simp +decide only [go_sem, W_region, Wx_some, a1, a3, a4, a5, il]
      rfl
     ·simp +decide only [go_sem, W_region, Wx_some, a1, a3, a4, a5, a6, il]
   ·have a5 : ¬ c = 95 := by omega
    have a6 : ¬ c = 8710 := by omega
    have il : isL c = false := by simp [isL, a1, a3, a5, a6]
    simp +decide only [go_sem, W_region, Wx_some, a1, a3, a5, a6, il]
 rintro e w ⟨hsz, e0, e6, rfl⟩
 cases hl : isL c with
 | true =>
   rw [hl] at e6
   simp +decide only [go_sem, W_region, Wx_some, hsz, e0, e6]
   simp only [kindOf, h32, hl, if_true, if_false]
   rfl
 | false =>
 rw [hl] at e6
 rw [W_cond, Env.eval_tmp, e6, Wc_false, W_seq]
 refine W_cut (J := fun e w' => e.size = 55 ∧ e.get 0 = .int .i32 c ∧ e.get 29 = .bool (isD c || decide (c = 175)) ∧ w' = w) (by simp only [straight, KD]; rfl) ?_ ?_
 ·by_cases a1 : 48 ≤ c
  ·by_cases a2 : c ≤ 57
   ·have il : isD c = true := by simp [isD, a1, a2]
    simp +decide only [go_sem, W_region, Wx_some, hsz, e0, a1, a2, il]
   ·have il : isD c = false := by simp [isD, a2]
    by_cases a3 : c = 175
    ·simp +decide only [go_sem, W_region, Wx_some, hsz, e0, a1, a2, il, a3]
    ·simp +decide only [go_sem, W_region, Wx_some, hsz, e0, a1, a2, il, a3]
  ·have il : isD c = false := by simp [isD, a1]
   have a3 : ¬ c = 175 := by omega
   simp +decide only [go_sem, W_region, Wx_some, hsz, e0, a1, il, a3]
 rintro e w' ⟨hsz, e0, e29, rfl⟩
 cases hd : (isD c || decide (c = 175)) with
 | true =>
   rw [hd] at e29
   simp +decide only [go_sem, W_region, Wx_some, hsz, e0, e29]
   simp only [kindOf, h32, hl, hd, if_true, if_false, Bool.false_eq_true]
   rfl
 | false =>
 rw [hd] at e29
 simp +decide only [go_sem, W_region, Wx_some, hsz, e0, e29]
 refine W_call Kok (Nat.le_refl _) (in_run _ t4 c _ (by decide +kernel)) fun r w1 x1 hr => ?_
 subst hr
 cases h4 : t4.elem c with
 | true =>
   simp +decide only [go_sem, W_region, Wx_some, hsz, e0]
   simp only [kindOf, h32, hl, hd, h4, if_true, if_false, Bool.false_eq_true]
   rfl
 | false =>
 simp +decide only [go_sem, W_region, Wx_some, hsz, e0]
 refine W_call Kok (by have := x1.1; omega) (in_run _ t5 c _ (by decide +kernel)) fun r w2 x2 hr => ?_
 subst hr
 cases h5 : t5.elem c with
 | true =>
   simp +decide only [go_sem, W_region, Wx_some, hsz, e0]
   simp only [kindOf, h32, hl, hd, h4, h5, if_true, if_false, Bool.false_eq_true]
   rfl
 | false =>
 simp +decide only [go_sem, W_region, Wx_some, hsz, e0]
 refine W_call Kok (by have := x1.1; have := x2.1; omega) (in_run _ t6 c _ (by decide +kernel)) fun r w3 x3 hr => ?_
 subst hr
 cases h6 : t6.elem c with
 | true =>
   simp +decide only [go_sem, W_region, Wx_some, hsz, e0]
   simp only [kindOf, h32, hl, hd, h4, h5, h6, if_true, if_false, Bool.false_eq_true]
   rfl
 | false =>
 simp +decide only [go_sem, W_region, Wx_some, hsz, e0]
 refine W_call Kok (by have := x1.1; have := x2.1; have := x3.1; omega) (in_run _ t7 c _ (by decide +kernel)) fun r w4 x4 hr => ?_
 subst hr
 cases h7 : t7.elem c with
 | true =>
   simp +decide only [go_sem, W_region, Wx_some, hsz, e0]
   simp only [kindOf, h32, hl, hd, h4, h5, h6, h7, if_true, if_false, Bool.false_eq_true]
   rfl
 | false =>
 simp +decide only [go_sem, W_region, Wx_some, hsz, e0]
 refine W_call Kok (by have := x1.1; have := x2.1; have := x3.1; have := x4.1; omega) (in_run _ t8 c _ (by decide +kernel)) fun r w5 x5 hr => ?_
 subst hr
 cases h8 : t8.elem c with
 | true =>
   simp +decide only [go_sem, W_region, Wx_some, hsz, e0]
   simp only [kindOf, h32, hl, hd, h4, h5, h6, h7, h8, if_true, if_false, Bool.false_eq_true]
   rfl
 | false =>
   simp +decide only [go_sem, W_region, Wx_some, hsz, e0]
   simp only [kindOf, h32, hl, hd, h4, h5, h6, h7, h8, if_true, if_false, Bool.false_eq_true]
   rfl
theorem word_run (c : Int) (h : Heap) : Runs K f_glyph_Word #[.int .i32 c] h fun r _ => r = .bool (isW c) := by
 refine Runs.of Kok (Does.intro rfl (by decide +kernel) F_glyph_Word rfl ?_)
 simp +decide only [go_sem, W_region, Wx_some]
 refine W_call Kok (Nat.le_refl _) (kind_run c h) fun r w1 x1 hr => ?_
 subst hr
 by_cases h2 : kindOf c = 2
 ·have h2' : ((kindOf c : Nat) : Int) = 2 := by omega
  simp +decide only [go_sem, W_region, Wx_some, h2']
  simp [isW, h2]
 ·have h2' : ¬ ((kindOf c : Nat) : Int) = 2 := by omega
  by_cases a1 : 48 ≤ c
  ·simp +decide only [go_sem, W_region, Wx_some, h2', a1]
   simp [isW, h2, isD, a1]
  ·simp +decide only [go_sem, W_region, Wx_some, h2', a1]
   simp [isW, h2, isD, a1]
theorem name_run (l : List Int) {v : Value} (h : Heap) (t : Tx h v l) (hm : l.length ≤ 1099511627776) : Runs K f_glyph_Name #[v] h fun r _ => r = .bool (nameOK l) := by
 obtain ⟨a, c, rfl⟩ := t.open
 refine Runs.of Kok (Does.intro rfl (by decide +kernel) F_glyph_Name rfl ?_)
 by_cases h0 : ((l.length : Nat) : Int) = 0
 ·have : ¬ 1 ≤ l.length := by omega
  simp +decide only [go_sem, W_region, Wx_some, h0]
  simp [nameOK, this]
 by_cases h24 : (24 : Int) < ((l.length : Nat) : Int)
 ·have : ¬ l.length ≤ 24 := by omega
  simp +decide only [go_sem, W_region, Wx_some, h0, h24]
  simp [nameOK, this]
 obtain ⟨x, hx⟩ : ∃ x, l[0]? = some x := ⟨_, List.getElem?_eq_getElem (by omega)⟩
 obtain ⟨b, o, cs, e1, e2, e3, e4⟩ := t.one hx
 cases e1
 have p0 : (0 : Int) < ((l.length : Nat) : Int) := by omega
 have e4' : cs[o]? = some (.int .i32 x) := e4
 simp +decide only [go_sem, W_region, Wx_some, h0, h24, e3, e4', p0]
 refine W_call Kok (Nat.le_refl _) (kind_run x h) fun r w1 x1 hr => ?_
 subst hr
 by_cases h2 : kindOf x = 2
 case neg =>
  have h2' : ¬ ((kindOf x : Nat) : Int) = 2 := by omega
  simp +decide only [go_sem, W_region, Wx_some, h2']
  simp [nameOK, hx, h2]
 have h2' : ((kindOf x : Nat) : Int) = 2 := by omega
 have hbase : nameOK l = l.all isW := by
  have q1 : 1 ≤ l.length := by omega
  have q2 : l.length ≤ 24 := by omega
  simp only [nameOK, hx, q1, q2, h2, decide_true, Bool.true_and]
 rw [hbase]
 simp +decide only [go_sem, W_region, Wx_some, h2']
 refine W_loop (α := Nat) (fun i e w => i ≤ l.length ∧ e.size = 30 ∧ Ext h w ∧ e.get 20 = .slice (some ⟨b, o, none⟩) l.length big ∧ e.get 21 = .int .i64 ((l.length : Nat) : Int) ∧ e.get 22 = .int .i64 (i : Int) ∧ (l.take i).all isW = true) (fun i => l.length - i) 0 ?_ ?_
 ·exact ⟨Nat.zero_le _, by simp +decide only [go_sem], x1, by simp +decide only [go_sem], by simp +decide only [go_sem], by simp +decide only [go_sem]; rfl, by simp⟩
 ·rintro i e w ⟨hi, hsz, hxw, e20, e21, e22, hall⟩ next
  by_cases hil : (i : Int) < ((l.length : Nat) : Int)
  case neg =>
   have : l.all isW = true := by rw [List.take_of_length_le (by omega)] at hall; exact hall
   simp +decide only [go_sem, W_region, Wx_some, hsz, e20, e21, e22, hil, this]
  obtain ⟨y, hy⟩ : ∃ y, l[i]? = some y := ⟨_, List.getElem?_eq_getElem (by omega)⟩
  obtain ⟨b', o', cs', q1, q2, q3, q4⟩ := (t.ext hxw).one hy
  cases q1
  have i0 : (0 : Int) ≤ (i : Int) := by omega
  have i1 : IntKind.i64.wrap ((i : Int) + 1) = ((i + 1 : Nat) : Int) := by rw [wrap_i64 (by omega) (by omega)]; omega
  simp +decide only [go_sem, W_region, Wx_some, hsz, e20, e21, e22, hil, i0, Int.toNat_natCast, Nat.mul_one, q3, q4]
  refine W_call Kok hxw.1 (word_run y w) fun r w2 x2 hr => ?_
  subst hr
  cases hw : isW y with
  | false =>
    have : l.all isW = false := by
     rw [List.all_eq_false]
     exact ⟨y, List.mem_of_getElem? hy, by simp [hw]⟩
    simp +decide only [go_sem, W_region, Wx_some, hsz, e20, e21, e22, this]
  | true =>
    simp +decide only [go_sem, W_region, Wx_some, hsz, e20, e21, e22, i1]
    refine next (i + 1) _ _ ⟨by omega, by simp +decide only [go_sem, hsz], hxw.trans x2, by simp +decide only [go_sem, hsz, e20], by simp +decide only [go_sem, hsz, e21], by simp +decide only [go_sem, hsz], ?_⟩ (by omega)
    rw [List.take_add_one, List.all_append, hall, hy]
    simp [hw]
end Go.Proofs.YtachkofbmodnnaaGreatDoor.N15
