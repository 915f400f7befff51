/- Proved here: parts of the way to SDefnSames (SR2 SR3 SR4); no condition beyond those that each theorem names. -/
import Derived.Test.YtachkofbmodnnaaGreatDoorQ10
import Derived.Test.YtachkofbmodnnaaGreatDoorQ12
set_option linter.unusedSimpArgs false
set_option linter.unusedVariables false
namespace Go.Proofs.YtachkofbmodnnaaGreatDoor.R2
open Go Go.Im Go.Im.Limbs Go.Im.Dec Go.Proofs Go.RowKit Hd N12 N18 N19 R1
set_option maxRecDepth 100000
theorem sub_step {a b i d bw bw' V : Nat} (hv : V + b % 10 ^ i = a % 10 ^ i + bw * 10 ^ i) (hd : d + b / 10 ^ i % 10 + bw = a / 10 ^ i % 10 + 10 * bw') :
  V + d * 10 ^ i + b % 10 ^ (i + 1) = a % 10 ^ (i + 1) + bw' * 10 ^ (i + 1) := by
 rw [mod_step, mod_step, Nat.pow_succ]
 generalize a / 10 ^ i % 10 = x at *
 generalize b / 10 ^ i % 10 = y at *
 generalize a % 10 ^ i = u at *
 generalize b % 10 ^ i = v at *
 generalize 10 ^ i = P at *
 grind
theorem app_one {low : Nat} {h w : Heap} (hlow : low ≤ h.size) (x : Ext h w) {n d : Nat} {v : Value} {l : List Nat} (H : Own h.size w 1 v n (iv l)) (hn : n ≤ 1000000) :
  ∃ w', iapp low w 1 8 v 1 (some [.int .i64 (d : Int)]) = some (.slice (some ⟨w.size, 0, none⟩) (n + 1) big, w') ∧ Own h.size w' 1 (.slice (some ⟨w.size, 0, none⟩) (n + 1) big) (n + 1) (iv (l ++ [d])) ∧ w'.size = w.size + 1 ∧ Ext h w' := by
 have := own_app2 (low := low) (bytes := 8) (k := 1) (new := [.int .i64 (d : Int)]) hlow x H (by omega) (by omega) (by rfl) (by omega) (by omega)
 rw [iv_append]
 exact this
theorem sub_run (a b : Nat) (h : Heap) (hba : b ≤ a) (hl : (ds a).length ≤ 900000) : Runs K f_ref01_Sub #[.string (text (ds a)), .string (text (ds b))] h fun r _ => r = .string (text (ds (a - b))) := by
 refine Runs.of Kok (Does.intro rfl (by decide +kernel) F_ref01_Sub rfl ?_)
 have hlb := ds_mono hba
 simp +decide only [go_sem, W_region, Wx_some]
 refine W_loop (α := Nat × List Nat × Nat × Value) (fun k e w => k.1 ≤ (ds a).length ∧ e.size = 34 ∧ Ext h w ∧ e.get 0 = .string (text (ds a)) ∧ e.get 1 = .string (text (ds b)) ∧ e.get 5 = k.2.2.2 ∧ Own h.size w 1 k.2.2.2 k.1 (iv k.2.1) ∧
  e.get 6 = .int .i64 (k.2.2.1 : Int) ∧ e.get 7 = .int .i64 (k.1 : Int) ∧ k.2.1.length = k.1 ∧ (∀ d ∈ k.2.1, d ≤ 9) ∧ k.2.2.1 ≤ 1 ∧ v10 k.2.1 + b % 10 ^ k.1 = a % 10 ^ k.1 + k.2.2.1 * 10 ^ k.1) (fun k => (ds a).length - k.1) (0, [], 0, .slice none 0 0) ?_ ?_
 ·exact ⟨Nat.zero_le _, by simp +decide only [go_sem], Ext.refl h, by simp +decide only [go_sem], by simp +decide only [go_sem], by simp +decide only [go_sem], Own.nil _ _ _, by simp +decide only [go_sem]; rfl, by simp +decide only [go_sem]; rfl, rfl, by simp, by simp, by simp [v10, Nat.mod_one]⟩
 ·rintro ⟨i, l, bw, v⟩ e w ⟨hi, hsz, hxw, e0, e1, e5, own, e6, e7, hll, hl9, hbw, hval⟩ next
  simp only at hi e5 own e6 e7 hll hl9 hbw hval
  by_cases hc : (i : Int) < (((ds a).length : Nat) : Int)
  ·simp +decide only [go_sem, W_region, Wx_some, hsz, e0, e1, e5, e6, e7, hc]
   refine W_call Kok hxw.1 (digit_run (ds a) i w (ds_digs a) (by omega)) fun r w1 x1 hr => ?_
   subst hr
   simp +decide only [go_sem, W_region, Wx_some, hsz, e0, e1, e5, e6, e7]
   refine W_call Kok (hxw.trans x1).1 (digit_run (ds b) i w1 (ds_digs b) (by omega)) fun r w2 x2 hr => ?_
   subst hr
   rw [dgt_ds, dgt_ds]
   have p1 : a / 10 ^ i % 10 ≤ 9 := by omega
   have p2 : b / 10 ^ i % 10 ≤ 9 := by omega
   have own2 := (own.ext x1).ext x2
   have x02 := hxw.trans (x1.trans x2)
   have i1 : IntKind.i64.wrap ((i : Int) + 1) = ((i + 1 : Nat) : Int) := by rw [wrap_i64 (by omega) (by omega)]; omega
   by_cases hneg : a / 10 ^ i % 10 < b / 10 ^ i % 10 + bw
   ·obtain ⟨d, hd⟩ : ∃ d, d = a / 10 ^ i % 10 + 10 - (b / 10 ^ i % 10 + bw) := ⟨_, rfl⟩
    have j1 : IntKind.i64.wrap (IntKind.i64.wrap (((a / 10 ^ i % 10 : Nat) : Int) - ((b / 10 ^ i % 10 : Nat) : Int)) - (bw : Int)) = (d : Int) - 10 := by rw [wrap_i64 (x := _ - ((b / 10 ^ i % 10 : Nat) : Int)) (by omega) (by omega), wrap_i64 (by omega) (by omega)]; omega
    have j2 : (d : Int) - 10 < 0 := by omega
    have j3 : IntKind.i64.wrap ((d : Int) - 10 + 10) = (d : Int) := by rw [wrap_i64 (by omega) (by omega)]; omega
    obtain ⟨w3, e3, x3, hs3, g3⟩ := lay1 w2 (.cells [.int .i64 (d : Int)] 1)
    obtain ⟨w4, e4, own4, hs4, x4⟩ := app_one (low := h.size) (d := d) (Nat.le_refl _) (x02.trans x3) (own2.ext x3) (by omega)
    simp +decide only [go_sem, W_region, Wx_some, hsz, e0, e1, e5, e6, e7, j1, j2, j3, e3, g3, e4, i1]
    refine next (i + 1, l ++ [d], 1, _) _ _ ⟨by simp only; omega, by simp +decide only [go_sem, hsz], x4, by simp +decide only [go_sem, hsz, e0], by simp +decide only [go_sem, hsz, e1], by simp +decide only [go_sem, hsz], own4, by simp +decide only [go_sem, hsz]; rfl, by simp +decide only [go_sem, hsz], by simp [hll], ?_, Nat.le_refl _, ?_⟩ (by simp only; omega)
    ·intro x hx
     rcases List.mem_append.1 hx with hx | hx
     ·exact hl9 x hx
     ·rw [List.mem_singleton] at hx; omega
    ·simp only
     rw [v10_snoc, hll]
     exact sub_step hval (by omega)
   ·obtain ⟨d, hd⟩ : ∃ d, d = a / 10 ^ i % 10 - (b / 10 ^ i % 10 + bw) := ⟨_, rfl⟩
    have j1 : IntKind.i64.wrap (IntKind.i64.wrap (((a / 10 ^ i % 10 : Nat) : Int) - ((b / 10 ^ i % 10 : Nat) : Int)) - (bw : Int)) = (d : Int) := by rw [wrap_i64 (x := _ - ((b / 10 ^ i % 10 : Nat) : Int)) (by omega) (by omega), wrap_i64 (by omega) (by omega)]; omega
    have j2 : ¬ (d : Int) < 0 := by omega
    obtain ⟨w3, e3, x3, hs3, g3⟩ := lay1 w2 (.cells [.int .i64 (d : Int)] 1)
    obtain ⟨w4, e4, own4, hs4, x4⟩ := app_one (low := h.size) (d := d) (Nat.le_refl _) (x02.trans x3) (own2.ext x3) (by omega)
    simp +decide only [go_sem, W_region, Wx_some, hsz, e0, e1, e5, e6, e7, j1, j2, e3, g3, e4, i1]
    refine next (i + 1, l ++ [d], 0, _) _ _ ⟨by simp only; omega, by simp +decide only [go_sem, hsz], x4, by simp +decide only [go_sem, hsz, e0], by simp +decide only [go_sem, hsz, e1], by simp +decide only [go_sem, hsz], own4, by simp +decide only [go_sem, hsz]; rfl, by simp +decide only [go_sem, hsz], by simp [hll], ?_, Nat.zero_le _, ?_⟩ (by simp only; omega)
    ·intro x hx
     rcases List.mem_append.1 hx with hx | hx
     ·exact hl9 x hx
     ·rw [List.mem_singleton] at hx; omega
    ·simp only
     rw [v10_snoc, hll]
     exact sub_step hval (by omega)
  ·have hii : i = (ds a).length := by omega
   obtain ⟨ad, c, rfl⟩ := own.shape
   simp +decide only [go_sem, W_region, Wx_some, hsz, e0, e1, e5, e6, e7, hc]
   refine W_call Kok hxw.1 (written_ds l w own.sl hl9 (by omega)) fun r w1 x1 hr => ?_
   subst hr
   have m1 : a % 10 ^ i = a := mod_full (by omega)
   have m2 : b % 10 ^ i = b := mod_full (by omega)
   have m3 := v10_lt hl9
   rw [hll] at m3
   rw [m1, m2] at hval
   have hb0 : bw = 0 := by
    rcases Nat.eq_zero_or_pos bw with h0 | h0
    ·exact h0
    ·have : bw = 1 := by omega
     subst this
     omega
   subst hb0
   have hfin : v10 l = a - b := by omega
   simp +decide only [go_sem, W_region, Wx_some, hsz, hfin]
theorem mul_step {os : List Nat} {b i j p o cy V : Nat} (ho : os[i + j]? = some o) (hv : v10 os + cy * 10 ^ (i + j) = V + p * (b % 10 ^ j) * 10 ^ i) :
  v10 (os.set (i + j) ((o + p * (b / 10 ^ j % 10) + cy) % 10)) + (o + p * (b / 10 ^ j % 10) + cy) / 10 * 10 ^ (i + (j + 1)) = V + p * (b % 10 ^ (j + 1)) * 10 ^ i := by
 have h1 := v10_set ((o + p * (b / 10 ^ j % 10) + cy) % 10) ho
 rw [mod_step]
 generalize b / 10 ^ j % 10 = q at *
 generalize hS : v10 (os.set (i + j) ((o + p * q + cy) % 10)) = S at *
 generalize b % 10 ^ j = r at *
 have h2 : (o + p * q + cy) % 10 + 10 * ((o + p * q + cy) / 10) = o + p * q + cy := Nat.mod_add_div _ _
 rw [show i + (j + 1) = (i + j) + 1 by omega, Nat.pow_succ]
 rw [Nat.pow_add] at *
 generalize (o + p * q + cy) % 10 = d at *
 generalize (o + p * q + cy) / 10 = c at *
 generalize 10 ^ i = P at *
 generalize 10 ^ j = Q at *
 generalize v10 os = T at *
 have h3 := congrArg (· * (P * Q)) h2
 simp only [Nat.add_mul] at h3
 have e1 : c * (P * Q * 10) = 10 * c * (P * Q) := by rw [Nat.mul_comm (P * Q) 10, ← Nat.mul_assoc, Nat.mul_comm c 10]
 have e2 : p * (r + q * Q) * P = p * r * P + p * q * (P * Q) := by
  rw [Nat.mul_add, Nat.add_mul, ← Nat.mul_assoc, Nat.mul_comm P Q, Nat.mul_assoc (p * q) Q P]
 rw [e1, e2]
 omega
theorem mk_zero64 {sz N : Nat} (h : N ≤ 1099511627776) : imk sz 1 8 [.int .i64 0] (N : Int) (N : Int) = some (.slice (some ⟨sz, 0, none⟩) N N, some (.cells (iv (List.replicate N 0)) 1)) := by
 rw [imk_ok (by omega) (by omega) (by omega) (by omega)]
 simp [iv, List.flatten_replicate_singleton]
theorem iv_put {l : List Nat} {k : Nat} (h : k < l.length) (d : Nat) : (iv l).take k ++ [.int .i64 (d : Int)] ++ (iv l).drop (k + 1) = iv (l.set k d) := by
 rw [put_one (by rw [iv_length]; exact h), iv_set]
theorem mul_run (a b : Nat) (h : Heap) (hla : (ds a).length ≤ 200000) (hlb : (ds b).length ≤ 200000) : Runs K f_ref01_Mul #[.string (text (ds a)), .string (text (ds b))] h fun r _ => r = .string (text (ds (a * b))) := by
 refine Runs.of Kok (Does.intro rfl (by decide +kernel) F_ref01_Mul rfl ?_)
 obtain ⟨la, hla'⟩ : ∃ la, la = (ds a).length := ⟨_, rfl⟩
 obtain ⟨lb, hlb'⟩ : ∃ lb, lb = (ds b).length := ⟨_, rfl⟩
 have i1 : IntKind.i64.wrap (IntKind.i64.wrap ((la : Int) + (lb : Int)) + 1) = ((la + lb + 1 : Nat) : Int) := by rw [wrap_i64 (x := (la : Int) + (lb : Int)) (by omega) (by omega), wrap_i64 (by omega) (by omega)]; omega
 have m1 := mk_zero64 (sz := h.size) (N := la + lb + 1) (by omega)
 obtain ⟨w1, e1', x1, hs1, g1⟩ := lay1 h (.cells (iv (List.replicate (la + lb + 1) 0)) 1)
 have halt : a < 10 ^ la := by rw [hla']; exact ds_lt_pow a
 have hblt : b < 10 ^ lb := by rw [hlb']; exact ds_lt_pow b
 simp +decide only [go_sem, W_region, Wx_some, ← hla', ← hlb', i1, m1, e1']
 refine W_loop (α := Nat × List Nat) (fun k e w => k.1 ≤ la ∧ e.size = 60 ∧ Ext h w ∧ h.size < w.size ∧ e.get 0 = .string (text (ds a)) ∧ e.get 1 = .string (text (ds b)) ∧ e.get 5 = .slice (some ⟨h.size, 0, none⟩) (la + lb + 1) (la + lb + 1) ∧
  e.get 6 = .int .i64 (k.1 : Int) ∧ w.get h.size = .cells (iv k.2) 1 ∧ k.2.length = la + lb + 1 ∧ (∀ d ∈ k.2, d ≤ 9) ∧ v10 k.2 = a % 10 ^ k.1 * b) (fun k => la - k.1) (0, List.replicate (la + lb + 1) 0) ?_ ?_
 ·refine ⟨Nat.zero_le _, by simp +decide only [go_sem], x1, by omega, by simp +decide only [go_sem], by simp +decide only [go_sem], by simp +decide only [go_sem], by simp +decide only [go_sem]; rfl, g1, by simp, ?_, by simp [v10_zero, Nat.mod_one]⟩
  intro d hd
  have := List.eq_of_mem_replicate hd
  omega
 ·rintro ⟨i, os⟩ e w ⟨hi, hsz, hxw, hws, e0, e1, e5, e6, gw, hol, ho9, hval⟩ next
  simp only at hi e6 gw hol ho9 hval
  by_cases hc : (i : Int) < (la : Int)
  ·obtain ⟨p, hp⟩ : ∃ p, p = a / 10 ^ i % 10 := ⟨_, rfl⟩
   have hp9 : p ≤ 9 := by omega
   simp +decide only [go_sem, W_region, Wx_some, ← hla', ← hlb', hsz, e0, e1, e5, e6, hc]
   refine W_loop (α := Nat × List Nat × Nat) (fun k e w => e.size = 60 ∧ Ext h w ∧ h.size < w.size ∧ e.get 0 = .string (text (ds a)) ∧ e.get 1 = .string (text (ds b)) ∧ e.get 5 = .slice (some ⟨h.size, 0, none⟩) (la + lb + 1) (la + lb + 1) ∧
    e.get 6 = .int .i64 (i : Int) ∧ e.get 7 = .int .i64 (k.2.2 : Int) ∧ e.get 8 = .int .i64 (k.1 : Int) ∧ w.get h.size = .cells (iv k.2.1) 1 ∧ k.2.1.length = la + lb + 1 ∧ (∀ d ∈ k.2.1, d ≤ 9) ∧ k.2.2 ≤ 9 ∧ k.1 ≤ la + lb + 1 ∧
    v10 k.2.1 + k.2.2 * 10 ^ (i + k.1) = a % 10 ^ i * b + p * (b % 10 ^ k.1) * 10 ^ i) (fun k => la + lb + 1 - k.1) (0, os, 0) ?_ ?_
   ·exact ⟨by simp +decide only [go_sem, hsz], hxw, hws, by simp +decide only [go_sem, hsz, e0], by simp +decide only [go_sem, hsz, e1], by simp +decide only [go_sem, hsz, e5], by simp +decide only [go_sem, hsz, e6], by simp +decide only [go_sem, hsz]; rfl, by simp +decide only [go_sem, hsz]; rfl, gw, hol, ho9, by simp, by simp, by simp [hval, Nat.mod_one]⟩
   ·rintro ⟨j, os2, cy⟩ e2 w2 ⟨hsz, hxw, hws, e0, e1, e5, e6, e7, e8, gw, hol, ho9, hcy, hjl, hval⟩ next2
    simp only at e7 e8 gw hol ho9 hcy hjl hval
    by_cases hfin : lb ≤ j ∧ cy = 0
    ·obtain ⟨hlbj, rfl⟩ := hfin
     have q1 : ¬ (j : Int) < (lb : Int) := by omega
     have q2 : ¬ (0 : Int) < ((0 : Nat) : Int) := by omega
     have i2 : IntKind.i64.wrap ((i : Int) + 1) = ((i + 1 : Nat) : Int) := by rw [wrap_i64 (by omega) (by omega)]; omega
     simp +decide only [go_sem, W_region, Wx_some, ← hla', ← hlb', hsz, e0, e1, e5, e6, e7, e8, q1, q2, i2]
     refine next (i + 1, os2) _ _ ⟨by simp only; omega, by simp +decide only [go_sem, hsz], hxw, hws, by simp +decide only [go_sem, hsz, e0], by simp +decide only [go_sem, hsz, e1], by simp +decide only [go_sem, hsz, e5], by simp +decide only [go_sem, hsz], gw, hol, ho9, ?_⟩ (by simp only; omega)
     simp only
     have hbm : b % 10 ^ j = b := mod_full (by omega)
     rw [hbm, Nat.zero_mul, Nat.add_zero] at hval
     rw [hval, mod_step, ← hp, Nat.add_mul, Nat.mul_assoc, Nat.mul_assoc, Nat.mul_comm b]
    ·obtain ⟨q, hq⟩ : ∃ q, q = b / 10 ^ j % 10 := ⟨_, rfl⟩
     have hq9 : q ≤ 9 := by omega
     have hij : i + j < la + lb := by
      by_cases hjb : j < lb
      ·omega
      ·have hcy1 : 1 ≤ cy := by omega
       have hbm : b % 10 ^ j = b := mod_full (by omega)
       rw [hbm] at hval
       have t1 : a % 10 ^ i * b + p * b * 10 ^ i = a % 10 ^ (i + 1) * b := by rw [mod_step, ← hp, Nat.add_mul, Nat.mul_assoc, Nat.mul_assoc, Nat.mul_comm b]
       have t2 : a % 10 ^ (i + 1) * b ≤ a * b := Nat.mul_le_mul_right _ (Nat.mod_le _ _)
       have t3 : a * b < 10 ^ (la + lb) := by rw [Nat.pow_add]; exact Nat.mul_lt_mul_of_lt_of_lt halt hblt
       have t4 : 1 * 10 ^ (i + j) ≤ cy * 10 ^ (i + j) := Nat.mul_le_mul_right _ hcy1
       exact (Nat.pow_lt_pow_iff_right (a := 10) (by omega)).1 (by omega)
     obtain ⟨o, ho⟩ : ∃ o, os2[i + j]? = some o := ⟨_, List.getElem?_eq_getElem (by omega)⟩
     have ho' := ho9 o (List.mem_of_getElem? ho)
     have hpq : p * q ≤ 81 := Nat.mul_le_mul hp9 hq9
     have j1 : IntKind.i64.wrap ((i : Int) + (j : Int)) = ((i + j : Nat) : Int) := by rw [wrap_i64 (by omega) (by omega)]; omega
     have j2 : (0 : Int) ≤ ((i + j : Nat) : Int) := by omega
     have j3 : ((i + j : Nat) : Int) < ((la + lb + 1 : Nat) : Int) := by omega
     have j4 : IntKind.i64.wrap ((p : Int) * (q : Int)) = ((p * q : Nat) : Int) := by rw [← Int.natCast_mul, wrap_i64 (by omega) (by omega)]
     have j5 : IntKind.i64.wrap (IntKind.i64.wrap ((o : Int) + ((p * q : Nat) : Int)) + (cy : Int)) = ((o + p * q + cy : Nat) : Int) := by
      rw [wrap_i64 (x := (o : Int) + ((p * q : Nat) : Int)) (by omega) (by omega), wrap_i64 (by omega) (by omega)]
      omega
     obtain ⟨t, ht⟩ : ∃ t, t = o + p * q + cy := ⟨_, rfl⟩
     have j6 : ((t : Nat) : Int).tmod 10 = ((t % 10 : Nat) : Int) := by rw [Int.tmod_eq_emod_of_nonneg (by omega)]; omega
     have j7 : IntKind.i64.wrap (((t : Nat) : Int).tdiv 10) = ((t / 10 : Nat) : Int) := by rw [Int.tdiv_eq_ediv_of_nonneg (by omega), wrap_i64 (by omega) (by omega)]; omega
     have j8 : IntKind.i64.wrap ((j : Int) + 1) = ((j + 1 : Nat) : Int) := by rw [wrap_i64 (by omega) (by omega)]; omega
     have j9 : ¬ (10 : Int) = 0 := by omega
     have j10 : h.size ≤ h.size := Nat.le_refl _
     have k1 : i + j + 1 ≤ (iv os2).length := by rw [iv_length]; omega
     have hput := iv_put (l := os2) (k := i + j) (by omega) (t % 10)
     have hcond : ∀ (X : Prop), (((j : Int) < (lb : Int)) → X) → (¬ ((j : Int) < (lb : Int)) → (0 : Int) < (cy : Int) → X) → X := by
      intro X a1 a2
      by_cases hh : (j : Int) < (lb : Int)
      ·exact a1 hh
      ·exact a2 hh (by omega)
     have hset : ∀ d ∈ os2.set (i + j) (t % 10), d ≤ 9 := by
      intro d hd
      rcases List.mem_or_eq_of_mem_set hd with hd | hd
      ·exact ho9 d hd
      ·omega
     have hstep := mul_step (p := p) ho hval
     rw [← hq, ← ht] at hstep
     refine hcond _ (fun c1 => ?_) (fun c1 c2 => ?_)
     ·simp +decide only [go_sem, W_region, Wx_some, ← hla', ← hlb', hsz, e0, e1, e5, e6, e7, e8, c1, j1, j2, j3, gw, iv_get ho, Nat.mul_one, Nat.zero_add, Int.toNat_natCast]
      refine W_call Kok hxw.1 (digit_run (ds a) i w2 (ds_digs a) (by omega)) fun r w3 x3 hr => ?_
      subst hr
      rw [dgt_ds, ← hp]
      simp +decide only [go_sem, W_region, Wx_some, hsz, e0, e1, e5, e6, e7, e8]
      refine W_call Kok (hxw.trans x3).1 (digit_run (ds b) j w3 (ds_digs b) (by omega)) fun r w4 x4 hr => ?_
      subst hr
      rw [dgt_ds, ← hq]
      have gw4 : w4.get h.size = .cells (iv os2) 1 := ((x3.trans x4).2 _ hws).trans gw
      obtain ⟨w5, e5', x5, hs5, g5, k5⟩ := put1 (hxw.trans (x3.trans x4)) (Nat.le_refl _) (.cells (iv (os2.set (i + j) (t % 10))) 1)
      simp +decide only [go_sem, W_region, Wx_some, hsz, e0, e1, e5, e6, e7, e8, j1, j2, j3, j4, j5, ← ht, j6, j7, j8, j9, j10, gw4, k1, Nat.mul_one, Nat.zero_add, Int.toNat_natCast, hput, e5']
      have := (x3.trans x4).1
      exact next2 (j + 1, os2.set (i + j) (t % 10), t / 10) _ _ ⟨by simp +decide only [go_sem, hsz], x5, by omega, by simp +decide only [go_sem, hsz, e0], by simp +decide only [go_sem, hsz, e1], by simp +decide only [go_sem, hsz, e5], by simp +decide only [go_sem, hsz, e6], by simp +decide only [go_sem, hsz], by simp +decide only [go_sem, hsz], g5, by simp [hol], hset, by simp only; omega, by simp only; omega, hstep⟩ (by simp only; omega)
     ·simp +decide only [go_sem, W_region, Wx_some, ← hla', ← hlb', hsz, e0, e1, e5, e6, e7, e8, c1, c2, j1, j2, j3, gw, iv_get ho, Nat.mul_one, Nat.zero_add, Int.toNat_natCast]
      refine W_call Kok hxw.1 (digit_run (ds a) i w2 (ds_digs a) (by omega)) fun r w3 x3 hr => ?_
      subst hr
      rw [dgt_ds, ← hp]
      simp +decide only [go_sem, W_region, Wx_some, hsz, e0, e1, e5, e6, e7, e8]
      refine W_call Kok (hxw.trans x3).1 (digit_run (ds b) j w3 (ds_digs b) (by omega)) fun r w4 x4 hr => ?_
      subst hr
      rw [dgt_ds, ← hq]
      have gw4 : w4.get h.size = .cells (iv os2) 1 := ((x3.trans x4).2 _ hws).trans gw
      obtain ⟨w5, e5', x5, hs5, g5, k5⟩ := put1 (hxw.trans (x3.trans x4)) (Nat.le_refl _) (.cells (iv (os2.set (i + j) (t % 10))) 1)
      simp +decide only [go_sem, W_region, Wx_some, hsz, e0, e1, e5, e6, e7, e8, j1, j2, j3, j4, j5, ← ht, j6, j7, j8, j9, j10, gw4, k1, Nat.mul_one, Nat.zero_add, Int.toNat_natCast, hput, e5']
      have := (x3.trans x4).1
      exact next2 (j + 1, os2.set (i + j) (t % 10), t / 10) _ _ ⟨by simp +decide only [go_sem, hsz], x5, by omega, by simp +decide only [go_sem, hsz, e0], by simp +decide only [go_sem, hsz, e1], by simp +decide only [go_sem, hsz, e5], by simp +decide only [go_sem, hsz, e6], by simp +decide only [go_sem, hsz], by simp +decide only [go_sem, hsz], g5, by simp [hol], hset, by simp only; omega, by simp only; omega, hstep⟩ (by simp only; omega)
  ·have hii : i = la := by omega
   simp +decide only [go_sem, W_region, Wx_some, ← hla', ← hlb', hsz, e0, e1, e5, e6, hc]
   refine W_call Kok hxw.1 (written_ds os w (a := some ⟨h.size, 0, none⟩) (n := la + lb + 1) (c := la + lb + 1) (Sl.made hws gw (by rw [iv_length]; omega) (by simp only [big]; omega)) ho9 (by omega)) fun r w1 x1 hr => ?_
   subst hr
   have m1 : a % 10 ^ i = a := mod_full (by omega)
   rw [m1] at hval
   simp +decide only [go_sem, W_region, Wx_some, hsz, hval]
end Go.Proofs.YtachkofbmodnnaaGreatDoor.R2
namespace Go.Proofs.YtachkofbmodnnaaGreatDoor.R3
open Go Go.Im Go.Im.Limbs Go.Im.Dec Go.Proofs Go.RowKit Hd N12 R1 R2
set_option maxRecDepth 100000
theorem quo_step {p B d n : Nat} (hB : 0 < B) (h1 : n * B ≤ p % B * 10 + d) (h2 : p % B * 10 + d - n * B < B) : (p * 10 + d) / B = p / B * 10 + n ∧ (p * 10 + d) % B = p % B * 10 + d - n * B := by
 have e1 : p * 10 + d = (p % B * 10 + d - n * B) + B * (p / B * 10 + n) := by
  have e2 := Nat.mod_add_div p B
  have e3 : B * (p / B * 10 + n) = 10 * (B * (p / B)) + n * B := by rw [Nat.mul_add, Nat.mul_comm n B, ← Nat.mul_assoc, Nat.mul_comm _ 10]
  rw [e3]
  omega
 rw [e1]
 constructor
 ·rw [Nat.add_mul_div_left _ _ hB, Nat.div_eq_of_lt h2, Nat.zero_add]
 ·rw [Nat.add_mul_mod_self_left, Nat.mod_eq_of_lt h2]
theorem divmod_run (A B : Nat) (h : Heap) (hB : B ≠ 0) (hla : (ds A).length ≤ 200000) (hlb : (ds B).length ≤ 200000) :
  Runs K f_ref01_DivMod #[.string (text (ds A)), .string (text (ds B))] h fun r _ => r = .tuple #[.string (text (ds (A / B))), .string (text (ds (A % B)))] := by
 refine Runs.of Kok (Does.intro rfl (by decide +kernel) F_ref01_DivMod rfl ?_)
 obtain ⟨la, hla'⟩ : ∃ la, la = (ds A).length := ⟨_, rfl⟩
 have hB0 : 0 < B := Nat.pos_of_ne_zero hB
 have hBlt := ds_lt_pow B
 have hlb1 := ds_pos B
 have m1 : imk h.size 1 1 [.int .u8 0] 0 (la : Int) = some (.slice (some ⟨h.size, 0, none⟩) 0 la, some (.cells (List.replicate la (.int .u8 0)) 1)) := by
  rw [imk_ok (by omega) (by omega) (by omega) (by omega)]
  simp [List.flatten_replicate_singleton]
 obtain ⟨w1, e1', x1, hs1, g1⟩ := lay1 h (.cells (List.replicate la (.int .u8 0)) 1)
 simp +decide only [go_sem, W_region, Wx_some, ← hla', m1, e1']
 refine W_loop (α := Nat × List UInt8) (fun k e w => k.1 ≤ la ∧ e.size = 50 ∧ Ext h w ∧ h.size < w.size ∧ e.get 0 = .string (text (ds A)) ∧ e.get 1 = .string (text (ds B)) ∧ e.get 6 = .slice (some ⟨h.size, 0, none⟩) k.1 la ∧
  e.get 7 = .string (text (ds (dec ((ds A).take k.1) % B))) ∧ e.get 8 = .int .i64 (k.1 : Int) ∧ w.get h.size = .cells (byteCells k.2 ++ List.replicate (la - k.1) (.int .u8 0)) 1 ∧ k.2.length = k.1 ∧ Digs k.2 ∧ dec k.2 = dec ((ds A).take k.1) / B) (fun k => la - k.1) (0, []) ?_ ?_
 ·refine ⟨Nat.zero_le _, by simp +decide only [go_sem], x1, by omega, by simp +decide only [go_sem], by simp +decide only [go_sem], by simp +decide only [go_sem], ?_, by simp +decide only [go_sem]; rfl, by simp [g1, byteCells], rfl, fun b hb => by simp at hb, by simp [dec_nil]⟩
  simp +decide only [go_sem, W_region, Wx_some, List.take_zero, dec_nil, Nat.zero_mod, ds_zero]
  rfl
 ·rintro ⟨i, q⟩ e w ⟨hi, hsz, hxw, hws, e0, e1, e6, e7, e8, gw, hql, hqd, hqv⟩ next
  simp only at hi e6 e7 e8 gw hql hqd hqv
  obtain ⟨p, hp⟩ : ∃ p, p = dec ((ds A).take i) := ⟨_, rfl⟩
  rw [← hp] at e7 hqv
  by_cases hc : (i : Int) < (la : Int)
  ·obtain ⟨c, hcd⟩ : ∃ c, (ds A)[i]? = some c := ⟨_, List.getElem?_eq_getElem (by omega)⟩
   have hcr := ds_digs A c (List.mem_of_getElem? hcd)
   obtain ⟨hil, hcg⟩ := List.getElem?_eq_some_iff.1 hcd
   have htk : (ds A).take (i + 1) = (ds A).take i ++ [c] := by rw [List.take_succ_eq_append_getElem hil, hcg]
   have hp' : dec ((ds A).take (i + 1)) = p * 10 + (c.toNat - 48) := by rw [htk, dec_snoc, ← hp]
   obtain ⟨d, hd⟩ : ∃ d, d = c.toNat - 48 := ⟨_, rfl⟩
   have hd9 : d ≤ 9 := by omega
   rw [← hd] at hp'
   have hpm := Nat.mod_lt p hB0
   have hdl : (ds (p % B)).length ≤ (ds B).length := ds_mono (by omega)
   have hcat : ∀ t, ibinop Tryz.prog .add t (.string (text (ds (p % B)))) (.string (text [c])) = some (.string (text (ds (p % B) ++ [c]))) := fun t => cat_ok (by simp; omega)
   have f1 : (0 : Int) ≤ (i : Int) := by omega
   have f2 : (0 : Int) ≤ ((i + 1 : Nat) : Int) := by omega
   have f3 : i ≤ i + 1 := by omega
   have f4 : i + 1 ≤ la := by omega
   have f5 : ((ds A).drop i).take (i + 1 - i) = [c] := by
    rw [List.drop_eq_getElem_cons hil, hcg, show i + 1 - i = 1 by omega]
    rfl
   have i1 : IntKind.i64.wrap ((i : Int) + 1) = ((i + 1 : Nat) : Int) := by rw [wrap_i64 (by omega) (by omega)]; omega
   simp +decide only [go_sem, W_region, Wx_some, ← hla', hsz, e0, e1, e6, e7, e8, hc, i1, f1, f2, f3, f4, f5, Int.toNat_natCast, hcat]
   have hdg : Digs (ds (p % B) ++ [c]) := by
    intro b hb
    rcases List.mem_append.1 hb with hb | hb
    ·exact ds_digs _ b hb
    ·rw [List.mem_singleton] at hb
     subst hb
     exact hcr
   refine W_call Kok hxw.1 (trim_ds_run hdg (by simp) w (by simp; omega)) fun r w2 x2 hr => ?_
   subst hr
   rw [dec_snoc, dec_ds, ← hd]
   obtain ⟨R, hR⟩ : ∃ R, R = p % B * 10 + d := ⟨_, rfl⟩
   rw [← hR]
   have hRB : R < 10 * B := by omega
   have hRl : (ds R).length ≤ (ds B).length + 1 := by
    refine ds_len ?_ (by omega)
    rw [Nat.pow_succ]
    omega
   simp +decide only [go_sem, W_region, Wx_some, hsz, e0, e1, e6, e7, e8]
   refine W_loop (α := Nat) (fun n e' w' => n * B ≤ R ∧ e'.size = 50 ∧ Ext w2 w' ∧ e'.get 0 = .string (text (ds A)) ∧ e'.get 1 = .string (text (ds B)) ∧ e'.get 6 = .slice (some ⟨h.size, 0, none⟩) i la ∧
    e'.get 7 = .string (text (ds (R - n * B))) ∧ e'.get 8 = .int .i64 (i : Int) ∧ e'.get 9 = .int .i64 (n : Int)) (fun n => R - n * B) 0 ?_ ?_
   ·exact ⟨by simp, by simp +decide only [go_sem, hsz], Ext.refl _, by simp +decide only [go_sem, hsz, e0], by simp +decide only [go_sem, hsz, e1], by simp +decide only [go_sem, hsz, e6], by simp +decide only [go_sem, hsz, Nat.zero_mul, Nat.sub_zero], by simp +decide only [go_sem, hsz, e8], by simp +decide only [go_sem, hsz]; rfl⟩
   ·rintro n e' w' ⟨hn, hsz, hx2, e0, e1, e6, e7, e8, e9⟩ next2
    have hx0 := hxw.trans (x2.trans hx2)
    have hn10 : n < 10 := by
     refine Nat.lt_of_not_le fun hh => ?_
     have : 10 * B ≤ n * B := Nat.mul_le_mul_right _ hh
     omega
    have hn10' : (n : Int) < 10 := by omega
    simp +decide only [go_sem, W_region, Wx_some, hsz, e0, e1, e6, e7, e8, e9]
    refine W_call Kok hx0.1 (cmp_run (R - n * B) B w') fun r w3 x3 hr => ?_
    by_cases hlt : R - n * B < B
    ·rw [if_pos hlt] at hr
     subst hr
     obtain ⟨m, hm⟩ : ∃ m, la - i = m + 1 := ⟨la - i - 1, by omega⟩
     have hm2 : la - (i + 1) = m := by omega
     have gw3 : w3.get h.size = .cells (byteCells q ++ List.replicate (m + 1) (.int .u8 0)) 1 := by
      rw [← hm]
      exact ((x2.trans (hx2.trans x3)).2 _ hws).trans gw
     obtain ⟨w4, e4', x4, hs4, g4⟩ := lay1 w3 (.cells [.int .u8 ((48 + n : Nat) : Int)] 1)
     have hx3 := hx0.trans x3
     have hws3 : h.size < w3.size := by have := (x2.trans (hx2.trans x3)).1; omega
     have gw4 : w4.get h.size = _ := (x4.2 _ hws3).trans gw3
     have hroom := iapp_room (low := h.size) (bytes := 1) (o := 0) (n := i) (k := 1) (cap := la) (new := [.int .u8 ((48 + n : Nat) : Int)]) gw4 (Nat.le_refl _) (by omega) (by omega) (by omega) (by simp only [big]; omega) (by simp [byteCells]; omega)
     have hsp : splice (byteCells q ++ List.replicate (m + 1) (.int .u8 0)) (0 + i * 1) [.int .u8 ((48 + n : Nat) : Int)] = byteCells (q ++ [UInt8.ofNat (48 + n)]) ++ List.replicate m (.int .u8 0) := by
      have e1 := splice_room (xs := q) (z := .int .u8 0) (k := m) (x := UInt8.ofNat (48 + n))
      rw [of48 (by omega), hql] at e1
      rw [Nat.zero_add, Nat.mul_one]
      exact e1
     rw [hsp] at hroom
     obtain ⟨w5, e5', x5, hs5, g5, k5⟩ := put1 (hx3.trans x4) (Nat.le_refl _) (.cells (byteCells (q ++ [UInt8.ofNat (48 + n)]) ++ List.replicate m (.int .u8 0)) 1)
     have j1 : IntKind.i64.wrap (48 + (n : Int)) = ((48 + n : Nat) : Int) := by rw [wrap_i64 (by omega) (by omega)]; omega
     have j2 : IntKind.u8.wrap ((48 + n : Nat) : Int) = ((48 + n : Nat) : Int) := wrap_u8 (by omega) (by omega)
     have j3 : ¬ ((0 : Int) ≤ -1) := by omega
     simp +decide only [go_sem, W_region, Wx_some, hsz, e0, e1, e6, e7, e8, e9, hn10', j1, j2, j3, e4', g4, hroom, e5', i1]
     have hqs := quo_step (p := p) (d := d) (n := n) hB0 (by omega) (by omega)
     rw [← hR] at hqs
     refine next (i + 1, q ++ [UInt8.ofNat (48 + n)]) _ _ ⟨f4, by simp +decide only [go_sem, hsz], x5, by omega, by simp +decide only [go_sem, hsz, e0], by simp +decide only [go_sem, hsz, e1], by simp +decide only [go_sem, hsz], ?_, by simp +decide only [go_sem, hsz], by rw [hm2]; exact g5, by simp [hql], ?_, ?_⟩ (by simp only; omega)
     ·rw [hp', hqs.2]
      simp +decide only [go_sem, W_region, Wx_some, hsz, e7]
     ·intro b hb
      rcases List.mem_append.1 hb with hb | hb
      ·exact hqd b hb
      ·rw [List.mem_singleton] at hb
       subst hb
       rw [of48 (by omega)]
       omega
     ·simp only
      rw [hp', hqs.1, dec_snoc, of48 (by omega), hqv]
      omega
    ·have hz : ∃ z : Int, (if R - n * B < B then (-1 : Int) else if R - n * B = B then 0 else 1) = z ∧ 0 ≤ z := by
      rw [if_neg hlt]
      split
      ·exact ⟨0, rfl, by omega⟩
      ·exact ⟨1, rfl, by omega⟩
     obtain ⟨z, hz1, hz2⟩ := hz
     rw [hz1] at hr
     subst hr
     have i2 : IntKind.i64.wrap ((n : Int) + 1) = ((n + 1 : Nat) : Int) := by rw [wrap_i64 (by omega) (by omega)]; omega
     simp +decide only [go_sem, W_region, Wx_some, hsz, e0, e1, e6, e7, e8, e9, hz2, hn10']
     have hl3 : (ds (R - n * B)).length ≤ 900000 := by
      have := ds_mono (show R - n * B ≤ R by omega)
      omega
     refine W_call Kok (hx0.trans x3).1 (sub_run (R - n * B) B w3 (by omega) hl3) fun r w4 x4 hr => ?_
     subst hr
     have hs' : R - n * B - B = R - (n + 1) * B := by rw [Nat.add_mul, Nat.one_mul]; omega
     simp +decide only [go_sem, W_region, Wx_some, hsz, e0, e1, e6, e7, e8, e9, i2, hs']
     have hnn : (n + 1) * B ≤ R := by rw [Nat.add_mul, Nat.one_mul]; omega
     refine next2 (n + 1) _ _ ⟨hnn, by simp +decide only [go_sem, hsz], hx2.trans (x3.trans x4), by simp +decide only [go_sem, hsz, e0], by simp +decide only [go_sem, hsz, e1], by simp +decide only [go_sem, hsz, e6], by simp +decide only [go_sem, hsz], by simp +decide only [go_sem, hsz, e8], by simp +decide only [go_sem, hsz]⟩ ?_
     have : (n + 1) * B = n * B + B := by rw [Nat.add_mul, Nat.one_mul]
     omega
  ·have hii : i = la := by omega
   subst hii
   have hla1 := ds_pos A
   have hfull : p = A := by rw [hp, hla', List.take_length, dec_ds]
   rw [hfull] at e7 hqv
   have hisl : isl (.cells (byteCells q ++ List.replicate (i - i) (.int .u8 0)) 1) 1 0 i = some (byteCells q) := by
    rw [isl_cells, if_pos ⟨rfl, by simp [byteCells]; omega⟩]
    simp only [List.drop_zero, Nat.mul_one]
    rw [Nat.sub_self, List.replicate_zero, List.append_nil, List.take_of_length_le (by simp [byteCells]; omega)]
   have hrd : (w.get h.size).read = .cells (byteCells q ++ List.replicate (i - i) (.int .u8 0)) 1 := by rw [gw]; rfl
   generalize Blk.cells (byteCells q ++ List.replicate (i - i) (.int .u8 0)) 1 = blk at hisl hrd
   simp +decide only [go_sem, W_region, Wx_some, ← hla', hsz, e0, e1, e6, e7, e8, hc, hrd, hisl, icvs_bytes]
   refine W_call Kok hxw.1 (trim_ds_run hqd (fun hh => by rw [hh] at hql; simp at hql; omega) w (by omega)) fun r w2 x2 hr => ?_
   subst hr
   simp +decide only [go_sem, W_region, Wx_some, hsz, e7, hqv]
theorem big_pow : (10 : Nat) ^ (2900 + 2900) ≤ 2 ^ 19999 := by decide +kernel
theorem sq_lt {y r n : Nat} (h : y < 10 ^ n) (hr : r < y) : y * r < 10 ^ (n + n) := by
 rw [Nat.pow_add]
 exact Nat.mul_lt_mul_of_lt_of_lt h (Nat.lt_trans hr h)
theorem gcd_run (a b : Nat) (h : Heap) (hla : (ds a).length ≤ 2900) (hlb : (ds b).length ≤ 2900) :
  Runs K f_ref01_Gcd #[.string (text (ds a)), .string (text (ds b))] h fun r _ => r = .string (text (ds (Nat.gcd a b))) := by
 refine Runs.of Kok (Does.intro rfl (by decide +kernel) F_ref01_Gcd rfl ?_)
 simp +decide only [go_sem, W_region, Wx_some]
 refine W_loop (α := Nat × Nat × Nat × Nat) (fun k e w => e.size = 25 ∧ Ext h w ∧ e.get 0 = .string (text (ds k.2.1)) ∧ e.get 1 = .string (text (ds k.2.2.1)) ∧ e.get 5 = .int .i64 (k.1 : Int) ∧ Nat.gcd k.2.1 k.2.2.1 = Nat.gcd a b ∧ (ds k.2.1).length ≤ 2900 ∧ (ds k.2.2.1).length ≤ 2900 ∧
  k.1 ≤ 20000 ∧ (k.1 = 0 ∨ (k.2.2.1 < k.2.1 ∧ k.2.1 * k.2.2.1 < 2 ^ k.2.2.2 ∧ k.1 + k.2.2.2 ≤ 20000))) (fun k => 20000 - k.1) (0, a, b, 0) ?_ ?_
 ·exact ⟨by simp +decide only [go_sem], Ext.refl h, by simp +decide only [go_sem], by simp +decide only [go_sem], by simp +decide only [go_sem]; rfl, rfl, hla, hlb, by simp, .inl rfl⟩
 ·rintro ⟨i, x, y, m⟩ e w ⟨hsz, hxw, e0, e1, e5, hg, hlx, hly, hi, hm⟩ next
  simp only at e0 e1 e5 hg hlx hly hi hm
  by_cases hy : y = 0
  ·subst hy
   rw [Nat.gcd_zero_right] at hg
   rw [ds_zero] at e1
   by_cases hi2 : (i : Int) < 20000
   ·simp +decide only [go_sem, W_region, Wx_some, hsz, e0, e1, e5, hi2, hg]
   ·simp +decide only [go_sem, W_region, Wx_some, hsz, e0, e1, e5, hi2, hg]
  ·have hi2 : i < 20000 := by
    rcases hm with h0 | ⟨h1, h2, h3⟩
    ·omega
    ·have : 1 ≤ x * y := Nat.mul_pos (by omega) (by omega)
     have hm0 : m ≠ 0 := by
      rintro rfl
      simp at h2
      omega
     omega
   have hi3 : (i : Int) < 20000 := by omega
   have hyne : ¬ text (ds y) = (⟨#[48]⟩ : ByteArray) := fun hh => hy (ds_inj.1 ((text_inj.1 hh).trans ds_zero.symm))
   have i1 : IntKind.i64.wrap ((i : Int) + 1) = ((i + 1 : Nat) : Int) := by rw [wrap_i64 (by omega) (by omega)]; omega
   simp +decide only [go_sem, W_region, Wx_some, hsz, e0, e1, e5, hi3, hyne]
   refine W_call Kok hxw.1 (divmod_run x y w hy (by omega) (by omega)) fun r w2 x2 hr => ?_
   subst hr
   have hxy : (ds (x % y)).length ≤ 2900 := by
    have := ds_mono (Nat.le_of_lt (Nat.mod_lt x (Nat.pos_of_ne_zero hy)))
    omega
   simp +decide only [go_sem, W_region, Wx_some, hsz, e0, e1, e5, i1]
   refine next (i + 1, y, x % y, if i = 0 then 19999 else m - 1) _ _ ⟨by simp +decide only [go_sem, hsz], hxw.trans x2, by simp +decide only [go_sem, hsz], by simp +decide only [go_sem, hsz], by simp +decide only [go_sem, hsz], ?_, hly, hxy, by simp only; omega, .inr ?_⟩ (by simp only; omega)
   ·simp only
    rw [← hg, Nat.gcd_comm x y]
    exact (Nat.gcd_rec y x).symm ▸ Nat.gcd_comm _ _
   ·simp only
    have hml := Nat.mod_lt x (Nat.pos_of_ne_zero hy)
    refine ⟨hml, ?_⟩
    by_cases h0 : i = 0
    ·rw [if_pos h0]
     exact ⟨Nat.lt_of_lt_of_le (sq_lt (Nat.lt_of_lt_of_le (ds_lt_pow y) (Nat.pow_le_pow_right (by omega) hly)) hml) big_pow, by omega⟩
    ·rw [if_neg h0]
     obtain ⟨h1, h2, h3⟩ := hm.resolve_left h0
     have hm0 : m ≠ 0 := by
      rintro rfl
      have : 1 ≤ x * y := Nat.mul_pos (by omega) (by omega)
      simp at h2
      omega
     obtain ⟨m', rfl⟩ : ∃ m', m = m' + 1 := ⟨m - 1, by omega⟩
     refine ⟨?_, by omega⟩
     have e2 : x % y + y * (x / y) = x := Nat.mod_add_div x y
     have e3 : 1 ≤ x / y := Nat.div_pos (Nat.le_of_lt h1) (Nat.pos_of_ne_zero hy)
     have e4 : y * 1 ≤ y * (x / y) := Nat.mul_le_mul_left _ e3
     have e5 : 2 * (x % y) ≤ x := by omega
     have e6 : y * (2 * (x % y)) ≤ y * x := Nat.mul_le_mul_left _ e5
     rw [Nat.pow_succ] at h2
     rw [Nat.mul_comm x y] at h2
     have e7 : y * (2 * (x % y)) = 2 * (y * (x % y)) := by rw [← Nat.mul_assoc, Nat.mul_comm y 2, Nat.mul_assoc]
     simp only [Nat.add_sub_cancel]
     omega
end Go.Proofs.YtachkofbmodnnaaGreatDoor.R3
namespace Go.Im.Dec
open Go Go.Im Go.Im.Limbs Go.Proofs.YtachkofbmodnnaaGreatDoor.N12
def intA (s : Bool) (n : Nat) : Value := .agg #[.bool s, .string (text (ds n))]
def numA (s : Bool) (m k : Nat) : Value := .agg #[.bool s, .string (text (ds m)), .string (text (ds k))]
theorem zt {n : Nat} : (text (ds n) = (⟨#[48]⟩ : ByteArray)) = (n = 0) := propext ⟨fun h => ds_inj.1 ((text_inj.1 (h.trans (show (⟨#[48]⟩ : ByteArray) = text [48] from rfl))).trans ds_zero.symm), fun h => by subst h; rw [ds_zero]; rfl⟩
theorem ds_pow (n : Nat) : ds (10 ^ n) = 49 :: List.replicate n 48 := by
 induction n with
 | zero => exact ds_one
 | succ n ih =>
   have : 1 ≤ 10 ^ n := Nat.pow_pos (by omega)
   rw [ds_ge (by rw [Nat.pow_succ]; omega), Nat.pow_succ, Nat.mul_div_cancel _ (by omega), Nat.mul_mod_left, ih, List.replicate_succ']
   rfl
theorem ds_mul {m k a b : Nat} (h1 : (ds m).length ≤ a) (h2 : (ds k).length ≤ b) : (ds (m * k)).length ≤ a + b := by
 have l1 := Nat.lt_of_lt_of_le (ds_lt_pow m) (Nat.pow_le_pow_right (by omega) h1)
 have l2 := Nat.lt_of_lt_of_le (ds_lt_pow k) (Nat.pow_le_pow_right (by omega) h2)
 have := ds_pos m
 refine ds_len ?_ (by omega)
 rw [Nat.pow_add]
 exact Nat.mul_lt_mul_of_lt_of_lt l1 l2
theorem ds_div {m g a : Nat} (h : (ds m).length ≤ a) : (ds (m / g)).length ≤ a := Nat.le_trans (ds_mono (Nat.div_le_self m g)) h
end Go.Im.Dec
namespace Go.Proofs.YtachkofbmodnnaaGreatDoor.R4
open Go Go.Im Go.Im.Limbs Go.Im.Dec Go.Proofs Go.RowKit Hd N12 R1 R2 R3
set_option maxRecDepth 100000
theorem of_run (s : Bool) {t : List UInt8} (hd : Digs t) (hne : t ≠ []) (hl : t.length ≤ 1000000) (h : Heap) : Runs K f_ref02_Of #[.bool s, .string (text t)] h fun r _ => r = intA (s && decide (dec t ≠ 0)) (dec t) := by
 refine Runs.of Kok (Does.intro rfl (by decide +kernel) F_ref02_Of rfl ?_)
 obtain ⟨w0, e0, x0, hs0, z0⟩ := lay1 h (.cells [.bool false, .string ByteArray.empty] 2)
 simp +decide only [go_sem, W_region, Wx_some, e0]
 refine W_call Kok x0.1 (trim_ds_run hd hne w0 (by omega)) fun r w1 x1 hr => ?_
 subst hr
 have z1 : w1.get h.size = _ := (x1.2 _ (by omega)).trans z0
 cases s
 ·obtain ⟨w2, e2, x2, hs2, z2, _⟩ := put1 (x0.trans x1) (Nat.le_refl _) (.cells [.bool false, .string (text (ds (dec t)))] 2)
  simp +decide only [go_sem, W_region, Wx_some, z1, e2, z2, Nat.le_refl]
  rfl
 ·obtain ⟨w2, e2, x2, hs2, z2, _⟩ := put1 (x0.trans x1) (Nat.le_refl _) (.cells [.bool (!decide (dec t = 0)), .string (text (ds (dec t)))] 2)
  simp +decide only [go_sem, W_region, Wx_some, z1, zt, e2, z2, Nat.le_refl]
  simp [intA]
theorem of_ds (s : Bool) (n : Nat) (hl : (ds n).length ≤ 1000000) (h : Heap) : Runs K f_ref02_Of #[.bool s, .string (text (ds n))] h fun r _ => r = intA (s && decide (n ≠ 0)) n := by
 have := of_run s (ds_digs n) (ds_ne n) hl h
 rwa [dec_ds] at this
theorem mul2_run (s u : Bool) (m k : Nat) (h : Heap) (h1 : (ds m).length ≤ 200000) (h2 : (ds k).length ≤ 200000) : Runs K f_ref02_Mul #[intA s m, intA u k] h fun r _ => r = intA (!decide (s = u) && decide (m * k ≠ 0)) (m * k) := by
 refine Runs.of Kok (Does.intro rfl (by decide +kernel) F_ref02_Mul rfl ?_)
 obtain ⟨w0, e0, x0, hs0, z0, z1, z2⟩ := lay3 h (.cells [.bool s, .string (text (ds m))] 2) (.cells [.bool u, .string (text (ds k))] 2) (.cells [.bool false, .string ByteArray.empty] 2)
 simp +decide only [go_sem, W_region, Wx_some, intA, e0, z0, z1]
 refine W_call Kok x0.1 (mul_run m k w0 h1 h2) fun r w1 x1 hr => ?_
 subst hr
 have hl := ds_mul h1 h2
 simp +decide only [go_sem, W_region, Wx_some]
 refine W_call Kok (x0.trans x1).1 (of_ds (!decide (s = u)) (m * k) (by omega) w1) fun r w2 x2 hr => ?_
 subst hr
 have z2' : w2.get (h.size + 2) = _ := (x2.2 _ (by have := x1.1; omega)).trans ((x1.2 _ (by omega)).trans z2)
 have j1 : h.size ≤ h.size + 2 := by omega
 obtain ⟨w3, e3, x3, hs3, z3, _⟩ := put1 (x0.trans (x1.trans x2)) j1 (.cells [.bool (!decide (s = u) && decide (m * k ≠ 0)), .string (text (ds (m * k)))] 2)
 simp +decide only [go_sem, W_region, Wx_some, intA, z2', j1, e3, z3]
theorem top_run (s : Bool) (m k : Nat) (h : Heap) (hl : (ds m).length ≤ 1000000) : Runs K f_ref03_Top #[numA s m k] h fun r _ => r = intA (s && decide (m ≠ 0)) m := by
 refine Runs.of Kok (Does.intro rfl (by decide +kernel) F_ref03_Top rfl ?_)
 obtain ⟨w0, e0, x0, hs0, z0, z1⟩ := lay2 h (.cells [.bool s, .string (text (ds m)), .string (text (ds k))] 3) (.cells [.bool false, .string ByteArray.empty] 2)
 simp +decide only [go_sem, W_region, Wx_some, numA, e0, z0]
 refine W_call Kok x0.1 (of_ds s m hl w0) fun r w2 x2 hr => ?_
 subst hr
 have z1' : w2.get (h.size + 1) = _ := (x2.2 _ (by omega)).trans z1
 have j1 : h.size ≤ h.size + 1 := by omega
 obtain ⟨w3, e3, x3, hs3, z3, _⟩ := put1 (x0.trans x2) j1 (.cells [.bool (s && decide (m ≠ 0)), .string (text (ds m))] 2)
 simp +decide only [go_sem, W_region, Wx_some, intA, z1', j1, e3, z3]
theorem bot_run (s : Bool) (m k : Nat) (h : Heap) (hl : (ds k).length ≤ 1000000) : Runs K f_ref03_Bot #[numA s m k] h fun r _ => r = intA false k := by
 refine Runs.of Kok (Does.intro rfl (by decide +kernel) F_ref03_Bot rfl ?_)
 obtain ⟨w0, e0, x0, hs0, z0, z1⟩ := lay2 h (.cells [.bool s, .string (text (ds m)), .string (text (ds k))] 3) (.cells [.bool false, .string ByteArray.empty] 2)
 simp +decide only [go_sem, W_region, Wx_some, numA, e0, z0]
 refine W_call Kok x0.1 (of_ds false k hl w0) fun r w2 x2 hr => ?_
 subst hr
 have z1' : w2.get (h.size + 1) = _ := (x2.2 _ (by omega)).trans z1
 have j1 : h.size ≤ h.size + 1 := by omega
 obtain ⟨w3, e3, x3, hs3, z3, _⟩ := put1 (x0.trans x2) j1 (.cells [.bool false, .string (text (ds k))] 2)
 simp +decide only [go_sem, W_region, Wx_some, intA, z1', j1, e3, z3]
theorem zero_run (h : Heap) : Runs K f_ref03_Zero #[] h fun r _ => r = numA false 0 1 := by
 refine Runs.of Kok (Does.intro rfl (by decide +kernel) F_ref03_Zero rfl ?_)
 obtain ⟨w0, e0, x0, hs0, z0⟩ := lay1 h (.cells [.bool false, .string ByteArray.empty, .string ByteArray.empty] 3)
 obtain ⟨w1, e1, x1, hs1, z1, _⟩ := put1 x0 (Nat.le_refl _) (.cells [.bool false, .string ⟨#[48]⟩, .string ⟨#[49]⟩] 3)
 have sz : (Env.start 2 []).size = 2 := rfl
 simp +decide only [go_sem, W_region, Wx_some, e0, z0, Nat.le_refl, e1, z1, sz]
 rw [numA, ds_zero, ds_one]
 rfl
theorem whole_run (s : Bool) (m : Nat) (h : Heap) : Runs K f_ref03_Whole #[intA s m] h fun r _ => r = numA s m 1 := by
 refine Runs.of Kok (Does.intro rfl (by decide +kernel) F_ref03_Whole rfl ?_)
 have j1 : h.size ≤ h.size + 1 := by omega
 obtain ⟨w0, e0, x0, hs0, z0, z1⟩ := lay2 h (.cells [.bool s, .string (text (ds m))] 2) (.cells [.bool false, .string ByteArray.empty, .string ByteArray.empty] 3)
 obtain ⟨w1, e1, x1, hs1, z1', _⟩ := put1 x0 j1 (.cells [.bool s, .string (text (ds m)), .string ⟨#[49]⟩] 3)
 simp +decide only [go_sem, W_region, Wx_some, intA, e0, z0, z1, j1, e1, z1']
 rw [numA, ds_one]
 rfl
theorem new_run (s u : Bool) (m k : Nat) (h : Heap) (hk : k ≠ 0) (h1 : (ds m).length ≤ 2900) (h2 : (ds k).length ≤ 2900) :
  Runs K f_ref03_New #[intA s m, intA u k] h fun r _ => r = .tuple #[numA (!decide (s = u) && decide (m / Nat.gcd m k ≠ 0)) (m / Nat.gcd m k) (k / Nat.gcd m k), .bool true] := by
 refine Runs.of Kok (Does.intro rfl (by decide +kernel) F_ref03_New rfl ?_)
 obtain ⟨w0, e0, x0, hs0, z0, z1, z2⟩ := lay3 h (.cells [.bool s, .string (text (ds m))] 2) (.cells [.bool u, .string (text (ds k))] 2) (.cells [.bool false, .string ByteArray.empty, .string ByteArray.empty] 3)
 have hg : Nat.gcd m k ≠ 0 := fun hh => hk (Nat.gcd_eq_zero_iff.1 hh).2
 have hgl : (ds (Nat.gcd m k)).length ≤ 2900 := Nat.le_trans (ds_mono (Nat.gcd_le_right m (Nat.pos_of_ne_zero hk))) h2
 simp +decide only [go_sem, W_region, Wx_some, intA, e0, z0, z1, zt, hk]
 refine W_call Kok x0.1 (gcd_run m k w0 h1 h2) fun r w1 x1 hr => ?_
 subst hr
 have z1' : w1.get (h.size + 1) = _ := (x1.2 _ (by omega)).trans z1
 have z0' : w1.get h.size = _ := (x1.2 _ (by omega)).trans z0
 simp +decide only [go_sem, W_region, Wx_some, z0']
 refine W_call Kok (x0.trans x1).1 (divmod_run m (Nat.gcd m k) w1 hg (by omega) (by omega)) fun r w2 x2 hr => ?_
 subst hr
 have z1'' : w2.get (h.size + 1) = _ := (x2.2 _ (by have := x1.1; omega)).trans z1'
 simp +decide only [go_sem, W_region, Wx_some, z1'']
 refine W_call Kok (x0.trans (x1.trans x2)).1 (divmod_run k (Nat.gcd m k) w2 hg (by omega) (by omega)) fun r w3 x3 hr => ?_
 subst hr
 have x13 := x1.trans (x2.trans x3)
 have y0 : w3.get h.size = _ := (x13.2 _ (by omega)).trans z0
 have y1 : w3.get (h.size + 1) = _ := (x13.2 _ (by omega)).trans z1
 have y2 : w3.get (h.size + 2) = _ := (x13.2 _ (by omega)).trans z2
 have j1 : h.size ≤ h.size + 2 := by omega
 obtain ⟨w4, e4, x4, hs4, z4, _⟩ := put1 (x0.trans x13) j1 (.cells [.bool (!decide (s = u) && decide (m / Nat.gcd m k ≠ 0)), .string (text (ds (m / Nat.gcd m k))), .string (text (ds (k / Nat.gcd m k)))] 3)
 by_cases hsu : s = u
 ·have d1 : decide (s = u) = true := by simpa using hsu
  rw [d1] at e4 z4
  simp only [Bool.not_true, Bool.false_and] at e4 z4
  simp +decide only [go_sem, W_region, Wx_some, y0, y1, y2, d1, j1, e4, z4]
  simp [numA, hsu]
 ·have d1 : decide (s = u) = false := by simpa using hsu
  rw [d1] at e4 z4
  simp only [Bool.not_false, Bool.true_and, ne_eq, decide_not] at e4 z4
  simp +decide only [go_sem, W_region, Wx_some, y0, y1, y2, d1, zt, j1, e4, z4]
  simp only [numA, d1, Bool.not_false, Bool.true_and, ne_eq, decide_not]
theorem new_zero (s u : Bool) (m : Nat) (h : Heap) : Runs K f_ref03_New #[intA s m, intA u 0] h fun r _ => r = .tuple #[numA false 0 1, .bool false] := by
 refine Runs.of Kok (Does.intro rfl (by decide +kernel) F_ref03_New rfl ?_)
 obtain ⟨w0, e0, x0, hs0, z0, z1, z2⟩ := lay3 h (.cells [.bool s, .string (text (ds m))] 2) (.cells [.bool u, .string (text (ds 0))] 2) (.cells [.bool false, .string ByteArray.empty, .string ByteArray.empty] 3)
 simp +decide only [go_sem, W_region, Wx_some, intA, e0, z0, z1, zt]
 refine W_call Kok x0.1 (zero_run w0) fun r w1 x1 hr => ?_
 subst hr
 have z2' : w1.get (h.size + 2) = _ := (x1.2 _ (by omega)).trans z2
 have j1 : h.size ≤ h.size + 2 := by omega
 obtain ⟨w4, e4, x4, hs4, z4, _⟩ := put1 (x0.trans x1) j1 (.cells [.bool false, .string (text (ds 0)), .string (text (ds 1))] 3)
 simp +decide only [go_sem, W_region, Wx_some, numA, z2', j1, e4, z4]
theorem mul3_run (s u : Bool) (m k m2 k2 : Nat) (h : Heap) (hk : k ≠ 0) (hk2 : k2 ≠ 0) (h1 : (ds m).length ≤ 1400) (h2 : (ds k).length ≤ 1400) (h3 : (ds m2).length ≤ 1400) (h4 : (ds k2).length ≤ 1400) :
  Runs K f_ref03_Mul #[numA s m k, numA u m2 k2] h fun r _ => r = numA (!decide ((s && decide (m ≠ 0)) = (u && decide (m2 ≠ 0))) && decide (m * m2 ≠ 0)) (m * m2 / Nat.gcd (m * m2) (k * k2)) (k * k2 / Nat.gcd (m * m2) (k * k2)) := by
 refine Runs.of Kok (Does.intro rfl (by decide +kernel) F_ref03_Mul rfl ?_)
 obtain ⟨w0, e0, x0, hs0, z0, z1, z2⟩ := lay3 h (.cells [.bool s, .string (text (ds m)), .string (text (ds k))] 3) (.cells [.bool u, .string (text (ds m2)), .string (text (ds k2))] 3) (.cells [.bool false, .string ByteArray.empty, .string ByteArray.empty] 3)
 simp +decide only [go_sem, W_region, Wx_some, numA, e0, z0]
 refine W_call Kok x0.1 (top_run s m k w0 (by omega)) fun r w1 x1 hr => ?_
 subst hr
 have a1 : w1.get (h.size + 1) = _ := (x1.2 _ (by omega)).trans z1
 simp +decide only [go_sem, W_region, Wx_some, a1]
 have y1 := x0.trans x1
 refine W_call Kok y1.1 (top_run u m2 k2 w1 (by omega)) fun r w2 x2 hr => ?_
 subst hr
 have y2 := y1.trans x2
 simp +decide only [go_sem, W_region, Wx_some]
 refine W_call Kok y2.1 (mul2_run (s && decide (m ≠ 0)) (u && decide (m2 ≠ 0)) m m2 w2 (by omega) (by omega)) fun r w3 x3 hr => ?_
 subst hr
 generalize hS1 : (!decide ((s && decide (m ≠ 0)) = (u && decide (m2 ≠ 0))) && decide (m * m2 ≠ 0)) = S1
 have y3 := y2.trans x3
 have x13 := x1.trans (x2.trans x3)
 have a0 : w3.get h.size = _ := (x13.2 _ (by omega)).trans z0
 simp +decide only [go_sem, W_region, Wx_some, a0]
 refine W_call Kok y3.1 (bot_run s m k w3 (by omega)) fun r w4 x4 hr => ?_
 subst hr
 have y4 := y3.trans x4
 have x14 := x13.trans x4
 have a1 : w4.get (h.size + 1) = _ := (x14.2 _ (by omega)).trans z1
 simp +decide only [go_sem, W_region, Wx_some, a1]
 refine W_call Kok y4.1 (bot_run u m2 k2 w4 (by omega)) fun r w5 x5 hr => ?_
 subst hr
 have y5 := y4.trans x5
 simp +decide only [go_sem, W_region, Wx_some]
 refine W_call Kok y5.1 (mul2_run false false k k2 w5 (by omega) (by omega)) fun r w6 x6 hr => ?_
 subst hr
 generalize hS2 : (!decide (false = false) && decide (k * k2 ≠ 0)) = S2
 have y6 := y5.trans x6
 have l1 := ds_mul h1 h3
 have l2 := ds_mul h2 h4
 have hkk : k * k2 ≠ 0 := Nat.mul_ne_zero hk hk2
 simp +decide only [go_sem, W_region, Wx_some]
 refine W_call Kok y6.1 (new_run _ _ (m * m2) (k * k2) w6 hkk (by omega) (by omega)) fun r w7 x7 hr => ?_
 subst hr
 have x17 := x14.trans (x5.trans (x6.trans x7))
 have y7 := y6.trans x7
 have a2 : w7.get (h.size + 2) = _ := (x17.2 _ (by omega)).trans z2
 have hsg : (!decide ((!decide ((s && decide (m ≠ 0)) = (u && decide (m2 ≠ 0))) && decide (m * m2 ≠ 0)) = (!decide (false = false) && decide (k * k2 ≠ 0))) && decide (m * m2 / Nat.gcd (m * m2) (k * k2) ≠ 0)) =
   (!decide ((s && decide (m ≠ 0)) = (u && decide (m2 ≠ 0))) && decide (m * m2 ≠ 0)) := by
  have e1 : decide (m * m2 / Nat.gcd (m * m2) (k * k2) ≠ 0) = decide (m * m2 ≠ 0) := decide_eq_decide.2 (Go.Proofs.YtachkofbmodnnaaGreatDoor.N14.gcd_quo hkk)
  rw [e1]
  cases (!decide ((s && decide (m ≠ 0)) = (u && decide (m2 ≠ 0)))) <;> cases decide (m * m2 ≠ 0) <;> rfl
 subst hS1
 subst hS2
 rw [hsg]
 generalize (!decide ((s && decide (m ≠ 0)) = (u && decide (m2 ≠ 0))) && decide (m * m2 ≠ 0)) = sg
 generalize m * m2 / Nat.gcd (m * m2) (k * k2) = M
 generalize k * k2 / Nat.gcd (m * m2) (k * k2) = D
 obtain ⟨w8, e8, x8, hs8, z8⟩ := lay1 w7 (.cells [.bool false, .string ByteArray.empty, .string ByteArray.empty] 3)
 have j1 : h.size ≤ h.size + 2 := by omega
 have j2 : h.size ≤ w7.size := y7.1
 obtain ⟨w9, e9, x9, hs9, z9, k9⟩ := put1 (y7.trans x8) j2 (.cells [.bool sg, .string (text (ds M)), .string (text (ds D))] 3)
 have lt7 : h.size + 2 < w7.size := by have := x17.1; omega
 have a3 : w9.get (h.size + 2) = _ := (k9 _ (by omega)).trans ((x8.2 _ lt7).trans a2)
 obtain ⟨w10, e10, x10, hs10, z10, _⟩ := put1 x9 j1 (.cells [.bool sg, .string (text (ds M)), .string (text (ds D))] 3)
 simp +decide only [go_sem, W_region, Wx_some, numA, e8, z8, j1, j2, e9, z9, a3, e10, z10]
theorem div3_run (s u : Bool) (m k m2 k2 : Nat) (h : Heap) (hk : k ≠ 0) (hm2 : m2 ≠ 0) (h1 : (ds m).length ≤ 1400) (h2 : (ds k).length ≤ 1400) (h3 : (ds m2).length ≤ 1400) (h4 : (ds k2).length ≤ 1400) (hk2 : k2 ≠ 0) :
  Runs K f_ref03_Div #[numA s m k, numA u m2 k2] h fun r _ => r = .tuple #[numA (!decide ((s && decide (m ≠ 0)) = u) && decide (m ≠ 0)) (m * k2 / Nat.gcd (m * k2) (k * m2)) (k * m2 / Nat.gcd (m * k2) (k * m2)), .bool true] := by
 refine Runs.of Kok (Does.intro rfl (by decide +kernel) F_ref03_Div rfl ?_)
 obtain ⟨w0, e0, x0, hs0, z0, z1, z2⟩ := lay3 h (.cells [.bool s, .string (text (ds m)), .string (text (ds k))] 3) (.cells [.bool u, .string (text (ds m2)), .string (text (ds k2))] 3) (.cells [.bool false, .string ByteArray.empty, .string ByteArray.empty] 3)
 simp +decide only [go_sem, W_region, Wx_some, numA, e0, z0]
 refine W_call Kok x0.1 (top_run s m k w0 (by omega)) fun r w1 x1 hr => ?_
 subst hr
 have a1 : w1.get (h.size + 1) = _ := (x1.2 _ (by omega)).trans z1
 simp +decide only [go_sem, W_region, Wx_some, a1]
 have y1 := x0.trans x1
 refine W_call Kok y1.1 (bot_run u m2 k2 w1 (by omega)) fun r w2 x2 hr => ?_
 subst hr
 have y2 := y1.trans x2
 simp +decide only [go_sem, W_region, Wx_some]
 refine W_call Kok y2.1 (mul2_run (s && decide (m ≠ 0)) false m k2 w2 (by omega) (by omega)) fun r w3 x3 hr => ?_
 subst hr
 generalize hS1 : (!decide ((s && decide (m ≠ 0)) = false) && decide (m * k2 ≠ 0)) = S1
 have y3 := y2.trans x3
 have x13 := x1.trans (x2.trans x3)
 have a0 : w3.get h.size = _ := (x13.2 _ (by omega)).trans z0
 simp +decide only [go_sem, W_region, Wx_some, a0]
 refine W_call Kok y3.1 (bot_run s m k w3 (by omega)) fun r w4 x4 hr => ?_
 subst hr
 have y4 := y3.trans x4
 have x14 := x13.trans x4
 have a1 : w4.get (h.size + 1) = _ := (x14.2 _ (by omega)).trans z1
 simp +decide only [go_sem, W_region, Wx_some, a1]
 refine W_call Kok y4.1 (top_run u m2 k2 w4 (by omega)) fun r w5 x5 hr => ?_
 subst hr
 have y5 := y4.trans x5
 simp +decide only [go_sem, W_region, Wx_some]
 refine W_call Kok y5.1 (mul2_run false (u && decide (m2 ≠ 0)) k m2 w5 (by omega) (by omega)) fun r w6 x6 hr => ?_
 subst hr
 generalize hS2 : (!decide (false = (u && decide (m2 ≠ 0))) && decide (k * m2 ≠ 0)) = S2
 have y6 := y5.trans x6
 have l1 := ds_mul h1 h4
 have l2 := ds_mul h2 h3
 have hkk : k * m2 ≠ 0 := Nat.mul_ne_zero hk hm2
 simp +decide only [go_sem, W_region, Wx_some]
 refine W_call Kok y6.1 (new_run _ _ (m * k2) (k * m2) w6 hkk (by omega) (by omega)) fun r w7 x7 hr => ?_
 subst hr
 have x17 := x14.trans (x5.trans (x6.trans x7))
 have y7 := y6.trans x7
 have a2 : w7.get (h.size + 2) = _ := (x17.2 _ (by omega)).trans z2
 have hmk : (m * k2 ≠ 0) = (m ≠ 0) := propext ⟨fun hh h0 => hh (by rw [h0, Nat.zero_mul]), fun hh => Nat.mul_ne_zero hh hk2⟩
 have hsg : (!decide ((!decide ((s && decide (m ≠ 0)) = false) && decide (m * k2 ≠ 0)) = (!decide (false = (u && decide (m2 ≠ 0))) && decide (k * m2 ≠ 0))) && decide (m * k2 / Nat.gcd (m * k2) (k * m2) ≠ 0)) =
   (!decide ((s && decide (m ≠ 0)) = u) && decide (m ≠ 0)) := by
  have e1 : decide (m * k2 / Nat.gcd (m * k2) (k * m2) ≠ 0) = decide (m ≠ 0) := decide_eq_decide.2 ((Go.Proofs.YtachkofbmodnnaaGreatDoor.N14.gcd_quo hkk).trans (by rw [hmk]))
  rw [e1]
  simp only [hmk, decide_eq_true hm2, decide_eq_true hkk, Bool.and_true]
  cases decide (m ≠ 0) <;> cases s <;> cases u <;> rfl
 subst hS1
 subst hS2
 rw [hsg]
 generalize (!decide ((s && decide (m ≠ 0)) = u) && decide (m ≠ 0)) = sg
 generalize m * k2 / Nat.gcd (m * k2) (k * m2) = M
 generalize k * m2 / Nat.gcd (m * k2) (k * m2) = D
 have j1 : h.size ≤ h.size + 2 := by omega
 obtain ⟨w10, e10, x10, hs10, z10, _⟩ := put1 y7 j1 (.cells [.bool sg, .string (text (ds M)), .string (text (ds D))] 3)
 simp +decide only [go_sem, W_region, Wx_some, numA, a2, j1, e10, z10]
theorem zeros_run (n : Nat) (h : Heap) (hn : n ≤ 1000000) : Runs K f_ref04_zeros #[.int .i64 (n : Int)] h fun r _ => r = .string (text (List.replicate n 48)) := by
 refine Runs.of Kok (Does.intro rfl (by decide +kernel) F_ref04_zeros rfl ?_)
 simp +decide only [go_sem, W_region, Wx_some]
 refine W_loop (α := Nat) (fun i e w => i ≤ n ∧ e.size = 13 ∧ Ext h w ∧ e.get 0 = .int .i64 (n : Int) ∧ e.get 3 = .string (text (List.replicate i 48)) ∧ e.get 4 = .int .i64 (i : Int)) (fun i => n - i) 0 ?_ ?_
 ·exact ⟨Nat.zero_le _, by simp +decide only [go_sem], Ext.refl h, by simp +decide only [go_sem], by simp +decide only [go_sem]; rfl, by simp +decide only [go_sem]; rfl⟩
 ·rintro i e w ⟨hi, hsz, hxw, e0, e3, e4⟩ next
  by_cases hc : (i : Int) < (n : Int)
  ·have hcat : ∀ t, ibinop Tryz.prog .add t (.string (text (List.replicate i 48))) (.string (⟨#[48]⟩ : ByteArray)) = some (.string (text (List.replicate (i + 1) 48))) := fun t => by
    rw [List.replicate_succ']
    exact cat_ok (b := [48]) (by simp; omega)
   have i1 : IntKind.i64.wrap ((i : Int) + 1) = ((i + 1 : Nat) : Int) := by rw [wrap_i64 (by omega) (by omega)]; omega
   simp +decide only [go_sem, W_region, Wx_some, hsz, e0, e3, e4, hc, hcat, i1]
   exact next (i + 1) _ _ ⟨by omega, by simp +decide only [go_sem, hsz], hxw, by simp +decide only [go_sem, hsz, e0], by simp +decide only [go_sem, hsz], by simp +decide only [go_sem, hsz]⟩ (by omega)
  ·have : i = n := by omega
   subst this
   simp +decide only [go_sem, W_region, Wx_some, hsz, e0, e3, e4, hc]
theorem times10_run (s : Bool) (m k : Nat) (n : Int) (h : Heap) (hk : k ≠ 0) (h1 : (ds m).length ≤ 1400) (h2 : (ds k).length ≤ 1400) (hn1 : -1300 ≤ n) (hn2 : n ≤ 1300) :
  Runs K f_ref04_Times10 #[numA s m k, .int .i64 n] h fun r _ => if 0 ≤ n then r = numA (s && decide (m ≠ 0)) (m * 10 ^ n.toNat / Nat.gcd (m * 10 ^ n.toNat) k) (k / Nat.gcd (m * 10 ^ n.toNat) k)
   else r = numA (s && decide (m ≠ 0)) (m / Nat.gcd m (k * 10 ^ (-n).toNat)) (k * 10 ^ (-n).toNat / Nat.gcd m (k * 10 ^ (-n).toNat)) := by
 refine Runs.of Kok (Does.intro rfl (by decide +kernel) F_ref04_Times10 rfl ?_)
 obtain ⟨w0, e0, x0, hs0, z0, z1⟩ := lay2 h (.cells [.bool s, .string (text (ds m)), .string (text (ds k))] 3) (.cells [.bool false, .string ByteArray.empty, .string ByteArray.empty] 3)
 have j1 : h.size ≤ h.size + 1 := by omega
 by_cases hn : 0 ≤ n
 ·obtain ⟨N, rfl⟩ := Int.eq_ofNat_of_zero_le hn
  simp +decide only [go_sem, W_region, Wx_some, numA, e0, z0, hn]
  refine W_call Kok x0.1 (zeros_run N w0 (by omega)) fun r w1 x1 hr => ?_
  subst hr
  have hcat : ∀ t, ibinop Tryz.prog .add t (.string (⟨#[49]⟩ : ByteArray)) (.string (text (List.replicate N 48))) = some (.string (text (ds (10 ^ N)))) := fun t => by
   rw [ds_pow]
   exact cat_ok (a := [49]) (by simp; omega)
  simp +decide only [go_sem, W_region, Wx_some, hcat]
  have hp : (ds (10 ^ N)).length ≤ 1400 := by rw [ds_pow]; simp; omega
  have hp0 : 10 ^ N ≠ 0 := Nat.ne_of_gt (Nat.pow_pos (by omega))
  have e1 : (⟨#[49]⟩ : ByteArray) = text (ds 1) := by rw [ds_one]; rfl
  have l1 : (ds 1).length ≤ 1400 := by rw [ds_one]; simp
  rw [e1]
  refine W_call Kok (x0.trans x1).1 (mul3_run s false m k (10 ^ N) 1 w1 hk (by omega) h1 h2 hp l1) fun r w2 x2 hr => ?_
  subst hr
  have z1' : w2.get (h.size + 1) = _ := ((x1.trans x2).2 _ (by omega)).trans z1
  have hsg : (!decide ((s && decide (m ≠ 0)) = (false && decide (10 ^ N ≠ 0))) && decide (m * 10 ^ N ≠ 0)) = (s && decide (m ≠ 0)) := by
   have : (m * 10 ^ N ≠ 0) = (m ≠ 0) := propext ⟨fun hh h0 => hh (by rw [h0, Nat.zero_mul]), fun hh => Nat.mul_ne_zero hh hp0⟩
   simp only [this, Bool.false_and]
   cases decide (m ≠ 0) <;> cases s <;> rfl
  rw [hsg, Nat.mul_one]
  obtain ⟨w3, e3, x3, hs3, z3, _⟩ := put1 (x0.trans (x1.trans x2)) j1 (.cells [.bool (s && decide (m ≠ 0)), .string (text (ds (m * 10 ^ N / Nat.gcd (m * 10 ^ N) k))), .string (text (ds (k / Nat.gcd (m * 10 ^ N) k)))] 3)
  simp +decide only [go_sem, W_region, Wx_some, numA, z1', j1, e3, z3, Int.toNat_natCast]
 ·obtain ⟨N, hN⟩ : ∃ N : Nat, -n = (N : Int) := ⟨(-n).toNat, by omega⟩
  have hn' : n = -(N : Int) := by omega
  subst hn'
  have i1 : IntKind.i64.wrap (0 - -(N : Int)) = (N : Int) := by rw [wrap_i64 (by omega) (by omega)]; omega
  simp +decide only [go_sem, W_region, Wx_some, numA, e0, z0, hn, i1]
  refine W_call Kok x0.1 (zeros_run N w0 (by omega)) fun r w1 x1 hr => ?_
  subst hr
  have hcat : ∀ t, ibinop Tryz.prog .add t (.string (⟨#[49]⟩ : ByteArray)) (.string (text (List.replicate N 48))) = some (.string (text (ds (10 ^ N)))) := fun t => by
   rw [ds_pow]
   exact cat_ok (a := [49]) (by simp; omega)
  simp +decide only [go_sem, W_region, Wx_some, hcat]
  have hp : (ds (10 ^ N)).length ≤ 1400 := by rw [ds_pow]; simp; omega
  have hp0 : 10 ^ N ≠ 0 := Nat.ne_of_gt (Nat.pow_pos (by omega))
  have e1 : (⟨#[49]⟩ : ByteArray) = text (ds 1) := by rw [ds_one]; rfl
  have l1 : (ds 1).length ≤ 1400 := by rw [ds_one]; simp
  rw [e1]
  refine W_call Kok (x0.trans x1).1 (div3_run s false m k (10 ^ N) 1 w1 hk hp0 h1 h2 hp l1 (by omega)) fun r w2 x2 hr => ?_
  subst hr
  have z1' : w2.get (h.size + 1) = _ := ((x1.trans x2).2 _ (by omega)).trans z1
  have hsg : (!decide ((s && decide (m ≠ 0)) = false) && decide (m ≠ 0)) = (s && decide (m ≠ 0)) := by
   cases decide (m ≠ 0) <;> cases s <;> rfl
  rw [hsg, Nat.mul_one]
  obtain ⟨w3, e3, x3, hs3, z3⟩ := lay1 w2 (.cells [.bool false, .string ByteArray.empty, .string ByteArray.empty] 3)
  have y2 := x0.trans (x1.trans x2)
  have j2 := y2.1
  obtain ⟨w4, e4, x4, hs4, z4, k4⟩ := put1 (y2.trans x3) j2 (.cells [.bool (s && decide (m ≠ 0)), .string (text (ds (m / Nat.gcd m (k * 10 ^ N)))), .string (text (ds (k * 10 ^ N / Nat.gcd m (k * 10 ^ N))))] 3)
  have lt2 : h.size + 1 < w2.size := by have := (x1.trans x2).1; omega
  have z1'' : w4.get (h.size + 1) = _ := (k4 _ (by omega)).trans ((x3.2 _ lt2).trans z1')
  obtain ⟨w5, e5, x5, hs5, z5, _⟩ := put1 x4 j1 (.cells [.bool (s && decide (m ≠ 0)), .string (text (ds (m / Nat.gcd m (k * 10 ^ N)))), .string (text (ds (k * 10 ^ N / Nat.gcd m (k * 10 ^ N))))] 3)
  have i2 : (- -(N : Int)).toNat = N := by omega
  simp +decide only [go_sem, W_region, Wx_some, numA, e3, z3, j1, j2, e4, z4, z1'', e5, z5, hn, i2]
end Go.Proofs.YtachkofbmodnnaaGreatDoor.R4
