/- Proved here: the document's difference and product of rows of digits, of every two numbers of up to a million digits. -/
import Derived.Test.YtjlaenglmdpboaaGreatQR1
import Derived.Test.YtjlaenglmdpboaaGreatQN19
namespace Go.Proofs.YtjlaenglmdpboaaGreat.R2
open Go Go.Im Go.Im.Limbs Go.Im.Dec Go.Proofs Go.RowKit Go.Proofs.YtjlaenglmdpboaaGreat.Hd Go.Proofs.YtjlaenglmdpboaaGreat.N12 Go.Proofs.YtjlaenglmdpboaaGreat.N18 Go.Proofs.YtjlaenglmdpboaaGreat.N19 Go.Proofs.YtjlaenglmdpboaaGreat.R1
set_option maxRecDepth 100000
set_option linter.unusedSimpArgs false
set_option linter.unusedVariables false

theorem sub_step {a b i d bw bw' V : Nat} (hv : V + b % 10 ^ i = a % 10 ^ i + bw * 10 ^ i) (hd : d + b / 10 ^ i % 10 + bw = a / 10 ^ i % 10 + 10 * bw') :
    V + d * 10 ^ i + b % 10 ^ (i + 1) = a % 10 ^ (i + 1) + bw' * 10 ^ (i + 1) := by
  rw [mod_step, mod_step, Nat.pow_succ]
  generalize a / 10 ^ i % 10 = x at *
  generalize b / 10 ^ i % 10 = y at *
  generalize a % 10 ^ i = u at *
  generalize b % 10 ^ i = v at *
  generalize 10 ^ i = P at *
  grind
theorem app_one {low : Nat} {h w : Heap} (hlow : low ≤ h.size) (x : Ext h w) {n d : Nat} {v : Value} {l : List Nat} (H : Own h.size w 1 v n (iv l)) (hn : n ≤ 1000000) :
    ∃ w', iapp low w 1 8 v 1 (some [.int .i64 (d : Int)]) = some (.slice (some ⟨w.size, 0, none⟩) (n + 1) big, w') ∧ Own h.size w' 1 (.slice (some ⟨w.size, 0, none⟩) (n + 1) big) (n + 1) (iv (l ++ [d])) ∧ w'.size = w.size + 1 ∧ Ext h w' := by
  have := own_app2 (low := low) (bytes := 8) (k := 1) (new := [.int .i64 (d : Int)]) hlow x H (by omega) (by omega) (by rfl) (by omega) (by omega)
  rw [iv_append]
  exact this

theorem sub_run (a b : Nat) (h : Heap) (hba : b ≤ a) (hl : (ds a).length ≤ 900000) : Runs K f_ref01_Sub #[.string (text (ds a)), .string (text (ds b))] h fun r _ => r = .string (text (ds (a - b))) := by
  refine Runs.of Kok (Does.intro rfl (by decide +kernel) F_ref01_Sub rfl ?_)
  have hlb := ds_mono hba
  simp +decide only [go_sem, W_region, Wx_some, Nat.reduceAdd, Nat.reduceMul, Nat.reduceEqDiff, Int.reduceAdd, Int.reduceSub, Int.reduceMul, Int.reduceNeg, Int.reduceToNat]
  refine W_loop (α := Nat × List Nat × Nat × Value) (fun k e w => k.1 ≤ (ds a).length ∧ e.size = 34 ∧ Ext h w ∧ e.get 0 = .string (text (ds a)) ∧ e.get 1 = .string (text (ds b)) ∧ e.get 5 = k.2.2.2 ∧ Own h.size w 1 k.2.2.2 k.1 (iv k.2.1) ∧
    e.get 6 = .int .i64 (k.2.2.1 : Int) ∧ e.get 7 = .int .i64 (k.1 : Int) ∧ k.2.1.length = k.1 ∧ (∀ d ∈ k.2.1, d ≤ 9) ∧ k.2.2.1 ≤ 1 ∧ v10 k.2.1 + b % 10 ^ k.1 = a % 10 ^ k.1 + k.2.2.1 * 10 ^ k.1) (fun k => (ds a).length - k.1) (0, [], 0, .slice none 0 0) ?_ ?_
  · exact ⟨Nat.zero_le _, by simp +decide only [go_sem], Ext.refl h, by simp +decide only [go_sem], by simp +decide only [go_sem], by simp +decide only [go_sem], Own.nil _ _ _, by simp +decide only [go_sem]; rfl, by simp +decide only [go_sem]; rfl, rfl, by simp, by simp, by simp [v10, Nat.mod_one]⟩
  · rintro ⟨i, l, bw, v⟩ e w ⟨hi, hsz, hxw, e0, e1, e5, own, e6, e7, hll, hl9, hbw, hval⟩ next
    simp only at hi e5 own e6 e7 hll hl9 hbw hval
    by_cases hc : (i : Int) < (((ds a).length : Nat) : Int)
    · simp +decide only [go_sem, W_region, Wx_some, Nat.reduceAdd, Nat.reduceMul, Nat.reduceEqDiff, Int.reduceAdd, Int.reduceSub, Int.reduceMul, Int.reduceNeg, Int.reduceToNat, hsz, e0, e1, e5, e6, e7, hc]
      refine W_call Kok hxw.1 (digit_run (ds a) i w (ds_digs a) (by omega)) fun r w1 x1 hr => ?_
      subst hr
      simp +decide only [go_sem, W_region, Wx_some, Nat.reduceAdd, Nat.reduceMul, Nat.reduceEqDiff, Int.reduceAdd, Int.reduceSub, Int.reduceMul, Int.reduceNeg, Int.reduceToNat, hsz, e0, e1, e5, e6, e7]
      refine W_call Kok (hxw.trans x1).1 (digit_run (ds b) i w1 (ds_digs b) (by omega)) fun r w2 x2 hr => ?_
      subst hr
      rw [dgt_ds, dgt_ds]
      have p1 : a / 10 ^ i % 10 ≤ 9 := by omega
      have p2 : b / 10 ^ i % 10 ≤ 9 := by omega
      have own2 := (own.ext x1).ext x2
      have x02 := hxw.trans (x1.trans x2)
      have i1 : IntKind.i64.wrap ((i : Int) + 1) = ((i + 1 : Nat) : Int) := by rw [wrap_i64 (by omega) (by omega)]; omega
      by_cases hneg : a / 10 ^ i % 10 < b / 10 ^ i % 10 + bw
      · obtain ⟨d, hd⟩ : ∃ d, d = a / 10 ^ i % 10 + 10 - (b / 10 ^ i % 10 + bw) := ⟨_, rfl⟩
        have j1 : IntKind.i64.wrap (IntKind.i64.wrap (((a / 10 ^ i % 10 : Nat) : Int) - ((b / 10 ^ i % 10 : Nat) : Int)) - (bw : Int)) = (d : Int) - 10 := by rw [wrap_i64 (x := _ - ((b / 10 ^ i % 10 : Nat) : Int)) (by omega) (by omega), wrap_i64 (by omega) (by omega)]; omega
        have j2 : (d : Int) - 10 < 0 := by omega
        have j3 : IntKind.i64.wrap ((d : Int) - 10 + 10) = (d : Int) := by rw [wrap_i64 (by omega) (by omega)]; omega
        obtain ⟨w3, e3, x3, hs3, g3⟩ := lay1 w2 (.cells [.int .i64 (d : Int)] 1)
        obtain ⟨w4, e4, own4, hs4, x4⟩ := app_one (low := h.size) (d := d) (Nat.le_refl _) (x02.trans x3) (own2.ext x3) (by omega)
        simp +decide only [go_sem, W_region, Wx_some, Nat.reduceAdd, Nat.reduceMul, Nat.reduceEqDiff, Int.reduceAdd, Int.reduceSub, Int.reduceMul, Int.reduceNeg, Int.reduceToNat, hsz, e0, e1, e5, e6, e7, j1, j2, j3, e3, g3, e4, i1]
        refine next (i + 1, l ++ [d], 1, _) _ _ ⟨by simp only; omega, by simp +decide only [go_sem, hsz], x4, by simp +decide only [go_sem, hsz, e0], by simp +decide only [go_sem, hsz, e1], by simp +decide only [go_sem, hsz], own4, by simp +decide only [go_sem, hsz]; rfl, by simp +decide only [go_sem, hsz], by simp [hll], ?_, Nat.le_refl _, ?_⟩ (by simp only; omega)
        · intro x hx
          rcases List.mem_append.1 hx with hx | hx
          · exact hl9 x hx
          · rw [List.mem_singleton] at hx; omega
        · simp only
          rw [v10_snoc, hll]
          exact sub_step hval (by omega)
      · obtain ⟨d, hd⟩ : ∃ d, d = a / 10 ^ i % 10 - (b / 10 ^ i % 10 + bw) := ⟨_, rfl⟩
        have j1 : IntKind.i64.wrap (IntKind.i64.wrap (((a / 10 ^ i % 10 : Nat) : Int) - ((b / 10 ^ i % 10 : Nat) : Int)) - (bw : Int)) = (d : Int) := by rw [wrap_i64 (x := _ - ((b / 10 ^ i % 10 : Nat) : Int)) (by omega) (by omega), wrap_i64 (by omega) (by omega)]; omega
        have j2 : ¬ (d : Int) < 0 := by omega
        obtain ⟨w3, e3, x3, hs3, g3⟩ := lay1 w2 (.cells [.int .i64 (d : Int)] 1)
        obtain ⟨w4, e4, own4, hs4, x4⟩ := app_one (low := h.size) (d := d) (Nat.le_refl _) (x02.trans x3) (own2.ext x3) (by omega)
        simp +decide only [go_sem, W_region, Wx_some, Nat.reduceAdd, Nat.reduceMul, Nat.reduceEqDiff, Int.reduceAdd, Int.reduceSub, Int.reduceMul, Int.reduceNeg, Int.reduceToNat, hsz, e0, e1, e5, e6, e7, j1, j2, e3, g3, e4, i1]
        refine next (i + 1, l ++ [d], 0, _) _ _ ⟨by simp only; omega, by simp +decide only [go_sem, hsz], x4, by simp +decide only [go_sem, hsz, e0], by simp +decide only [go_sem, hsz, e1], by simp +decide only [go_sem, hsz], own4, by simp +decide only [go_sem, hsz]; rfl, by simp +decide only [go_sem, hsz], by simp [hll], ?_, Nat.zero_le _, ?_⟩ (by simp only; omega)
        · intro x hx
          rcases List.mem_append.1 hx with hx | hx
          · exact hl9 x hx
          · rw [List.mem_singleton] at hx; omega
        · simp only
          rw [v10_snoc, hll]
          exact sub_step hval (by omega)
    · have hii : i = (ds a).length := by omega
      obtain ⟨ad, c, rfl⟩ := own.shape
      simp +decide only [go_sem, W_region, Wx_some, Nat.reduceAdd, Nat.reduceMul, Nat.reduceEqDiff, Int.reduceAdd, Int.reduceSub, Int.reduceMul, Int.reduceNeg, Int.reduceToNat, hsz, e0, e1, e5, e6, e7, hc]
      refine W_call Kok hxw.1 (written_ds l w own.sl hl9 (by omega)) fun r w1 x1 hr => ?_
      subst hr
      have m1 : a % 10 ^ i = a := mod_full (by omega)
      have m2 : b % 10 ^ i = b := mod_full (by omega)
      have m3 := v10_lt hl9
      rw [hll] at m3
      rw [m1, m2] at hval
      have hb0 : bw = 0 := by
        rcases Nat.eq_zero_or_pos bw with h0 | h0
        · exact h0
        · have : bw = 1 := by omega
          subst this
          omega
      subst hb0
      have hfin : v10 l = a - b := by omega
      simp +decide only [go_sem, W_region, Wx_some, Nat.reduceAdd, Nat.reduceMul, Nat.reduceEqDiff, Int.reduceAdd, Int.reduceSub, Int.reduceMul, Int.reduceNeg, Int.reduceToNat, hsz, hfin]

theorem mul_step {os : List Nat} {b i j p o cy V : Nat} (ho : os[i + j]? = some o) (hv : v10 os + cy * 10 ^ (i + j) = V + p * (b % 10 ^ j) * 10 ^ i) :
    v10 (os.set (i + j) ((o + p * (b / 10 ^ j % 10) + cy) % 10)) + (o + p * (b / 10 ^ j % 10) + cy) / 10 * 10 ^ (i + (j + 1)) = V + p * (b % 10 ^ (j + 1)) * 10 ^ i := by
  have h1 := v10_set ((o + p * (b / 10 ^ j % 10) + cy) % 10) ho
  rw [mod_step]
  generalize b / 10 ^ j % 10 = q at *
  generalize hS : v10 (os.set (i + j) ((o + p * q + cy) % 10)) = S at *
  generalize b % 10 ^ j = r at *
  have h2 : (o + p * q + cy) % 10 + 10 * ((o + p * q + cy) / 10) = o + p * q + cy := Nat.mod_add_div _ _
  rw [show i + (j + 1) = (i + j) + 1 by omega, Nat.pow_succ]
  rw [Nat.pow_add] at *
  generalize (o + p * q + cy) % 10 = d at *
  generalize (o + p * q + cy) / 10 = c at *
  generalize 10 ^ i = P at *
  generalize 10 ^ j = Q at *
  generalize v10 os = T at *
  have h3 := congrArg (· * (P * Q)) h2
  simp only [Nat.add_mul] at h3
  have e1 : c * (P * Q * 10) = 10 * c * (P * Q) := by rw [Nat.mul_comm (P * Q) 10, ← Nat.mul_assoc, Nat.mul_comm c 10]
  have e2 : p * (r + q * Q) * P = p * r * P + p * q * (P * Q) := by
    rw [Nat.mul_add, Nat.add_mul, ← Nat.mul_assoc, Nat.mul_comm P Q, Nat.mul_assoc (p * q) Q P]
  rw [e1, e2]
  omega
theorem mk_zero64 {sz N : Nat} (h : N ≤ 1099511627776) : imk sz 1 8 [.int .i64 0] (N : Int) (N : Int) = some (.slice (some ⟨sz, 0, none⟩) N N, some (.cells (iv (List.replicate N 0)) 1)) := by
  rw [imk_ok (by omega) (by omega) (by omega) (by omega)]
  simp [iv, List.flatten_replicate_singleton]
theorem iv_put {l : List Nat} {k : Nat} (h : k < l.length) (d : Nat) : (iv l).take k ++ [.int .i64 (d : Int)] ++ (iv l).drop (k + 1) = iv (l.set k d) := by
  rw [put_one (by rw [iv_length]; exact h), iv_set]

theorem mul_run (a b : Nat) (h : Heap) (hla : (ds a).length ≤ 200000) (hlb : (ds b).length ≤ 200000) : Runs K f_ref01_Mul #[.string (text (ds a)), .string (text (ds b))] h fun r _ => r = .string (text (ds (a * b))) := by
  refine Runs.of Kok (Does.intro rfl (by decide +kernel) F_ref01_Mul rfl ?_)
  obtain ⟨la, hla'⟩ : ∃ la, la = (ds a).length := ⟨_, rfl⟩
  obtain ⟨lb, hlb'⟩ : ∃ lb, lb = (ds b).length := ⟨_, rfl⟩
  have i1 : IntKind.i64.wrap (IntKind.i64.wrap ((la : Int) + (lb : Int)) + 1) = ((la + lb + 1 : Nat) : Int) := by rw [wrap_i64 (x := (la : Int) + (lb : Int)) (by omega) (by omega), wrap_i64 (by omega) (by omega)]; omega
  have m1 := mk_zero64 (sz := h.size) (N := la + lb + 1) (by omega)
  obtain ⟨w1, e1', x1, hs1, g1⟩ := lay1 h (.cells (iv (List.replicate (la + lb + 1) 0)) 1)
  have halt : a < 10 ^ la := by rw [hla']; exact ds_lt_pow a
  have hblt : b < 10 ^ lb := by rw [hlb']; exact ds_lt_pow b
  simp +decide only [go_sem, W_region, Wx_some, Nat.reduceAdd, Nat.reduceMul, Nat.reduceEqDiff, Int.reduceAdd, Int.reduceSub, Int.reduceMul, Int.reduceNeg, Int.reduceToNat, ← hla', ← hlb', i1, m1, e1']
  refine W_loop (α := Nat × List Nat) (fun k e w => k.1 ≤ la ∧ e.size = 60 ∧ Ext h w ∧ h.size < w.size ∧ e.get 0 = .string (text (ds a)) ∧ e.get 1 = .string (text (ds b)) ∧ e.get 5 = .slice (some ⟨h.size, 0, none⟩) (la + lb + 1) (la + lb + 1) ∧
    e.get 6 = .int .i64 (k.1 : Int) ∧ w.get h.size = .cells (iv k.2) 1 ∧ k.2.length = la + lb + 1 ∧ (∀ d ∈ k.2, d ≤ 9) ∧ v10 k.2 = a % 10 ^ k.1 * b) (fun k => la - k.1) (0, List.replicate (la + lb + 1) 0) ?_ ?_
  · refine ⟨Nat.zero_le _, by simp +decide only [go_sem], x1, by omega, by simp +decide only [go_sem], by simp +decide only [go_sem], by simp +decide only [go_sem], by simp +decide only [go_sem]; rfl, g1, by simp, ?_, by simp [v10_zero, Nat.mod_one]⟩
    intro d hd
    have := List.eq_of_mem_replicate hd
    omega
  · rintro ⟨i, os⟩ e w ⟨hi, hsz, hxw, hws, e0, e1, e5, e6, gw, hol, ho9, hval⟩ next
    simp only at hi e6 gw hol ho9 hval
    by_cases hc : (i : Int) < (la : Int)
    · obtain ⟨p, hp⟩ : ∃ p, p = a / 10 ^ i % 10 := ⟨_, rfl⟩
      have hp9 : p ≤ 9 := by omega
      simp +decide only [go_sem, W_region, Wx_some, Nat.reduceAdd, Nat.reduceMul, Nat.reduceEqDiff, Int.reduceAdd, Int.reduceSub, Int.reduceMul, Int.reduceNeg, Int.reduceToNat, ← hla', ← hlb', hsz, e0, e1, e5, e6, hc]
      refine W_loop (α := Nat × List Nat × Nat) (fun k e w => e.size = 60 ∧ Ext h w ∧ h.size < w.size ∧ e.get 0 = .string (text (ds a)) ∧ e.get 1 = .string (text (ds b)) ∧ e.get 5 = .slice (some ⟨h.size, 0, none⟩) (la + lb + 1) (la + lb + 1) ∧
        e.get 6 = .int .i64 (i : Int) ∧ e.get 7 = .int .i64 (k.2.2 : Int) ∧ e.get 8 = .int .i64 (k.1 : Int) ∧ w.get h.size = .cells (iv k.2.1) 1 ∧ k.2.1.length = la + lb + 1 ∧ (∀ d ∈ k.2.1, d ≤ 9) ∧ k.2.2 ≤ 9 ∧ k.1 ≤ la + lb + 1 ∧
        v10 k.2.1 + k.2.2 * 10 ^ (i + k.1) = a % 10 ^ i * b + p * (b % 10 ^ k.1) * 10 ^ i) (fun k => la + lb + 1 - k.1) (0, os, 0) ?_ ?_
      · exact ⟨by simp +decide only [go_sem, hsz], hxw, hws, by simp +decide only [go_sem, hsz, e0], by simp +decide only [go_sem, hsz, e1], by simp +decide only [go_sem, hsz, e5], by simp +decide only [go_sem, hsz, e6], by simp +decide only [go_sem, hsz]; rfl, by simp +decide only [go_sem, hsz]; rfl, gw, hol, ho9, by simp, by simp, by simp [hval, Nat.mod_one]⟩
      · rintro ⟨j, os2, cy⟩ e2 w2 ⟨hsz, hxw, hws, e0, e1, e5, e6, e7, e8, gw, hol, ho9, hcy, hjl, hval⟩ next2
        simp only at e7 e8 gw hol ho9 hcy hjl hval
        by_cases hfin : lb ≤ j ∧ cy = 0
        · obtain ⟨hlbj, rfl⟩ := hfin
          have q1 : ¬ (j : Int) < (lb : Int) := by omega
          have q2 : ¬ (0 : Int) < ((0 : Nat) : Int) := by omega
          have i2 : IntKind.i64.wrap ((i : Int) + 1) = ((i + 1 : Nat) : Int) := by rw [wrap_i64 (by omega) (by omega)]; omega
          simp +decide only [go_sem, W_region, Wx_some, Nat.reduceAdd, Nat.reduceMul, Nat.reduceEqDiff, Int.reduceAdd, Int.reduceSub, Int.reduceMul, Int.reduceNeg, Int.reduceToNat, ← hla', ← hlb', hsz, e0, e1, e5, e6, e7, e8, q1, q2, i2]
          refine next (i + 1, os2) _ _ ⟨by simp only; omega, by simp +decide only [go_sem, hsz], hxw, hws, by simp +decide only [go_sem, hsz, e0], by simp +decide only [go_sem, hsz, e1], by simp +decide only [go_sem, hsz, e5], by simp +decide only [go_sem, hsz], gw, hol, ho9, ?_⟩ (by simp only; omega)
          simp only
          have hbm : b % 10 ^ j = b := mod_full (by omega)
          rw [hbm, Nat.zero_mul, Nat.add_zero] at hval
          rw [hval, mod_step, ← hp, Nat.add_mul, Nat.mul_assoc, Nat.mul_assoc, Nat.mul_comm b]
        · obtain ⟨q, hq⟩ : ∃ q, q = b / 10 ^ j % 10 := ⟨_, rfl⟩
          have hq9 : q ≤ 9 := by omega
          have hij : i + j < la + lb := by
            by_cases hjb : j < lb
            · omega
            · have hcy1 : 1 ≤ cy := by omega
              have hbm : b % 10 ^ j = b := mod_full (by omega)
              rw [hbm] at hval
              have t1 : a % 10 ^ i * b + p * b * 10 ^ i = a % 10 ^ (i + 1) * b := by rw [mod_step, ← hp, Nat.add_mul, Nat.mul_assoc, Nat.mul_assoc, Nat.mul_comm b]
              have t2 : a % 10 ^ (i + 1) * b ≤ a * b := Nat.mul_le_mul_right _ (Nat.mod_le _ _)
              have t3 : a * b < 10 ^ (la + lb) := by rw [Nat.pow_add]; exact Nat.mul_lt_mul_of_lt_of_lt halt hblt
              have t4 : 1 * 10 ^ (i + j) ≤ cy * 10 ^ (i + j) := Nat.mul_le_mul_right _ hcy1
              exact (Nat.pow_lt_pow_iff_right (a := 10) (by omega)).1 (by omega)
          obtain ⟨o, ho⟩ : ∃ o, os2[i + j]? = some o := ⟨_, List.getElem?_eq_getElem (by omega)⟩
          have ho' := ho9 o (List.mem_of_getElem? ho)
          have hpq : p * q ≤ 81 := Nat.mul_le_mul hp9 hq9
          have j1 : IntKind.i64.wrap ((i : Int) + (j : Int)) = ((i + j : Nat) : Int) := by rw [wrap_i64 (by omega) (by omega)]; omega
          have j2 : (0 : Int) ≤ ((i + j : Nat) : Int) := by omega
          have j3 : ((i + j : Nat) : Int) < ((la + lb + 1 : Nat) : Int) := by omega
          have j4 : IntKind.i64.wrap ((p : Int) * (q : Int)) = ((p * q : Nat) : Int) := by rw [← Int.natCast_mul, wrap_i64 (by omega) (by omega)]
          have j5 : IntKind.i64.wrap (IntKind.i64.wrap ((o : Int) + ((p * q : Nat) : Int)) + (cy : Int)) = ((o + p * q + cy : Nat) : Int) := by
            rw [wrap_i64 (x := (o : Int) + ((p * q : Nat) : Int)) (by omega) (by omega), wrap_i64 (by omega) (by omega)]
            omega
          obtain ⟨t, ht⟩ : ∃ t, t = o + p * q + cy := ⟨_, rfl⟩
          have j6 : ((t : Nat) : Int).tmod 10 = ((t % 10 : Nat) : Int) := by rw [Int.tmod_eq_emod_of_nonneg (by omega)]; omega
          have j7 : IntKind.i64.wrap (((t : Nat) : Int).tdiv 10) = ((t / 10 : Nat) : Int) := by rw [Int.tdiv_eq_ediv_of_nonneg (by omega), wrap_i64 (by omega) (by omega)]; omega
          have j8 : IntKind.i64.wrap ((j : Int) + 1) = ((j + 1 : Nat) : Int) := by rw [wrap_i64 (by omega) (by omega)]; omega
          have j9 : ¬ (10 : Int) = 0 := by omega
          have j10 : h.size ≤ h.size := Nat.le_refl _
          have k1 : i + j + 1 ≤ (iv os2).length := by rw [iv_length]; omega
          have hput := iv_put (l := os2) (k := i + j) (by omega) (t % 10)
          have hcond : ∀ (X : Prop), (((j : Int) < (lb : Int)) → X) → (¬ ((j : Int) < (lb : Int)) → (0 : Int) < (cy : Int) → X) → X := by
            intro X a1 a2
            by_cases hh : (j : Int) < (lb : Int)
            · exact a1 hh
            · exact a2 hh (by omega)
          have hset : ∀ d ∈ os2.set (i + j) (t % 10), d ≤ 9 := by
            intro d hd
            rcases List.mem_or_eq_of_mem_set hd with hd | hd
            · exact ho9 d hd
            · omega
          have hstep := mul_step (p := p) ho hval
          rw [← hq, ← ht] at hstep
          refine hcond _ (fun c1 => ?_) (fun c1 c2 => ?_)
          · simp +decide only [go_sem, W_region, Wx_some, Nat.reduceAdd, Nat.reduceMul, Nat.reduceEqDiff, Int.reduceAdd, Int.reduceSub, Int.reduceMul, Int.reduceNeg, Int.reduceToNat, ← hla', ← hlb', hsz, e0, e1, e5, e6, e7, e8, c1, j1, j2, j3, gw, iv_get ho, Nat.mul_one, Nat.zero_add, Int.toNat_natCast]
            refine W_call Kok hxw.1 (digit_run (ds a) i w2 (ds_digs a) (by omega)) fun r w3 x3 hr => ?_
            subst hr
            rw [dgt_ds, ← hp]
            simp +decide only [go_sem, W_region, Wx_some, Nat.reduceAdd, Nat.reduceMul, Nat.reduceEqDiff, Int.reduceAdd, Int.reduceSub, Int.reduceMul, Int.reduceNeg, Int.reduceToNat, hsz, e0, e1, e5, e6, e7, e8]
            refine W_call Kok (hxw.trans x3).1 (digit_run (ds b) j w3 (ds_digs b) (by omega)) fun r w4 x4 hr => ?_
            subst hr
            rw [dgt_ds, ← hq]
            have gw4 : w4.get h.size = .cells (iv os2) 1 := ((x3.trans x4).2 _ hws).trans gw
            obtain ⟨w5, e5', x5, hs5, g5, k5⟩ := put1 (hxw.trans (x3.trans x4)) (Nat.le_refl _) (.cells (iv (os2.set (i + j) (t % 10))) 1)
            simp +decide only [go_sem, W_region, Wx_some, Nat.reduceAdd, Nat.reduceMul, Nat.reduceEqDiff, Int.reduceAdd, Int.reduceSub, Int.reduceMul, Int.reduceNeg, Int.reduceToNat, hsz, e0, e1, e5, e6, e7, e8, j1, j2, j3, j4, j5, ← ht, j6, j7, j8, j9, j10, gw4, k1, Nat.mul_one, Nat.zero_add, Int.toNat_natCast, hput, e5']
            have := (x3.trans x4).1
            exact next2 (j + 1, os2.set (i + j) (t % 10), t / 10) _ _ ⟨by simp +decide only [go_sem, hsz], x5, by omega, by simp +decide only [go_sem, hsz, e0], by simp +decide only [go_sem, hsz, e1], by simp +decide only [go_sem, hsz, e5], by simp +decide only [go_sem, hsz, e6], by simp +decide only [go_sem, hsz], by simp +decide only [go_sem, hsz], g5, by simp [hol], hset, by simp only; omega, by simp only; omega, hstep⟩ (by simp only; omega)
          · simp +decide only [go_sem, W_region, Wx_some, Nat.reduceAdd, Nat.reduceMul, Nat.reduceEqDiff, Int.reduceAdd, Int.reduceSub, Int.reduceMul, Int.reduceNeg, Int.reduceToNat, ← hla', ← hlb', hsz, e0, e1, e5, e6, e7, e8, c1, c2, j1, j2, j3, gw, iv_get ho, Nat.mul_one, Nat.zero_add, Int.toNat_natCast]
            refine W_call Kok hxw.1 (digit_run (ds a) i w2 (ds_digs a) (by omega)) fun r w3 x3 hr => ?_
            subst hr
            rw [dgt_ds, ← hp]
            simp +decide only [go_sem, W_region, Wx_some, Nat.reduceAdd, Nat.reduceMul, Nat.reduceEqDiff, Int.reduceAdd, Int.reduceSub, Int.reduceMul, Int.reduceNeg, Int.reduceToNat, hsz, e0, e1, e5, e6, e7, e8]
            refine W_call Kok (hxw.trans x3).1 (digit_run (ds b) j w3 (ds_digs b) (by omega)) fun r w4 x4 hr => ?_
            subst hr
            rw [dgt_ds, ← hq]
            have gw4 : w4.get h.size = .cells (iv os2) 1 := ((x3.trans x4).2 _ hws).trans gw
            obtain ⟨w5, e5', x5, hs5, g5, k5⟩ := put1 (hxw.trans (x3.trans x4)) (Nat.le_refl _) (.cells (iv (os2.set (i + j) (t % 10))) 1)
            simp +decide only [go_sem, W_region, Wx_some, Nat.reduceAdd, Nat.reduceMul, Nat.reduceEqDiff, Int.reduceAdd, Int.reduceSub, Int.reduceMul, Int.reduceNeg, Int.reduceToNat, hsz, e0, e1, e5, e6, e7, e8, j1, j2, j3, j4, j5, ← ht, j6, j7, j8, j9, j10, gw4, k1, Nat.mul_one, Nat.zero_add, Int.toNat_natCast, hput, e5']
            have := (x3.trans x4).1
            exact next2 (j + 1, os2.set (i + j) (t % 10), t / 10) _ _ ⟨by simp +decide only [go_sem, hsz], x5, by omega, by simp +decide only [go_sem, hsz, e0], by simp +decide only [go_sem, hsz, e1], by simp +decide only [go_sem, hsz, e5], by simp +decide only [go_sem, hsz, e6], by simp +decide only [go_sem, hsz], by simp +decide only [go_sem, hsz], g5, by simp [hol], hset, by simp only; omega, by simp only; omega, hstep⟩ (by simp only; omega)
    · have hii : i = la := by omega
      simp +decide only [go_sem, W_region, Wx_some, Nat.reduceAdd, Nat.reduceMul, Nat.reduceEqDiff, Int.reduceAdd, Int.reduceSub, Int.reduceMul, Int.reduceNeg, Int.reduceToNat, ← hla', ← hlb', hsz, e0, e1, e5, e6, hc]
      refine W_call Kok hxw.1 (written_ds os w (a := some ⟨h.size, 0, none⟩) (n := la + lb + 1) (c := la + lb + 1) (Sl.made hws gw (by rw [iv_length]; omega) (by simp only [big]; omega)) ho9 (by omega)) fun r w1 x1 hr => ?_
      subst hr
      have m1 : a % 10 ^ i = a := mod_full (by omega)
      rw [m1] at hval
      simp +decide only [go_sem, W_region, Wx_some, Nat.reduceAdd, Nat.reduceMul, Nat.reduceEqDiff, Int.reduceAdd, Int.reduceSub, Int.reduceMul, Int.reduceNeg, Int.reduceToNat, hsz, hval]
end Go.Proofs.YtjlaenglmdpboaaGreat.R2
