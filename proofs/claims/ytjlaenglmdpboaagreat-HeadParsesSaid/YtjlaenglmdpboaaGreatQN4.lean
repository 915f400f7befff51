/- Proved here: numbers of limbs: divided by a limb, shifted by less than a limb; of every number of few enough limbs. -/
import Derived.Test.YtjlaenglmdpboaaGreatQN3
namespace Go.Proofs.YtjlaenglmdpboaaGreat.N4
open Go Go.Im Go.Im.Limbs Go.Proofs Go.RowKit Go.Proofs.YtjlaenglmdpboaaGreat.Hd Go.Proofs.YtjlaenglmdpboaaGreat.N1 Go.Proofs.YtjlaenglmdpboaaGreat.N2 Go.Proofs.YtjlaenglmdpboaaGreat.N3
set_option maxRecDepth 100000
set_option linter.unusedSimpArgs false
set_option linter.unusedVariables false

theorem set_drop {l : List Nat} {i : Nat} (h : i < l.length) (v : Nat) : (l.set i v).drop i = v :: l.drop (i + 1) := by
  have : l.set i v = l.take i ++ v :: l.drop (i + 1) := by rw [List.set_eq_take_append_cons_drop, if_pos h]
  rw [this, List.drop_left' (by simp; omega)]
theorem small_step {X os : List Nat} {k p d rest : Nat} (hX : X[k]? = some p) (hp : p < B) (ho : k < os.length) (hd : 0 < d) (hv : val (X.drop (k + 1)) = val (os.drop (k + 1)) * d + rest) :
    val (X.drop k) = val ((os.set k ((rest * B + p) / d)).drop k) * d + (rest * B + p) % d := by
  have hk := (List.getElem?_eq_some_iff.1 hX).1
  rw [set_drop ho, List.drop_eq_getElem_cons hk, val_cons, val_cons, (List.getElem?_eq_some_iff.1 hX).2, hv]
  have := Nat.div_add_mod (rest * B + p) d
  generalize (rest * B + p) / d = q at *
  generalize (rest * B + p) % d = r at *
  generalize val (os.drop (k + 1)) = Q at *
  grind

theorem small_run (x d : Nat) (h : Heap) {v : Value} (hv : NatV h v x) (hd0 : 0 < d) (hd : d < 4294967296) (hl : (dig x).length ≤ 549755813887) : Runs K f_nat_Nat_small #[v, .int .u32 (d : Int)] h fun r w => ∃ q, r = .tuple #[q, .int .u32 ((x % d : Nat) : Int)] ∧ NatV w q (x / d) := by
  obtain ⟨a, c, rfl, s⟩ := hv.open
  refine Runs.of Kok (Does.intro rfl (by decide +kernel) F_nat_Nat_small rfl ?_)
  obtain ⟨w0, e0, hx, hs, z0, z1⟩ := lay2 h (.cells [.slice a (dig x).length c] 1) (.cells [.slice none 0 0] 1)
  have m1 := mk_zero (sz := w0.size) (N := (dig x).length) (by omega)
  obtain ⟨w1, e1, hx1, hs1, z3⟩ := lay1 w0 (.cells (lv (List.replicate (dig x).length 0)) 1)
  have zz0 : w1.get h.size = _ := (hx1.2 _ (by omega)).trans z0
  have zz1 : w1.get (h.size + 1) = _ := (hx1.2 _ (by omega)).trans z1
  have zz3 : w1.get (h.size + 2) = _ := (show w1.get (h.size + 2) = w1.get w0.size by rw [hs]).trans z3
  have i2 : IntKind.i64.wrap ((((dig x).length : Nat) : Int) - 1) = (((dig x).length : Nat) : Int) - 1 := wrap_i64 (by omega) (by omega)
  simp +decide only [go_sem, W_region, Wx_some, Nat.reduceAdd, Nat.reduceMul, Nat.reduceEqDiff, Int.reduceAdd, Int.reduceSub, Int.reduceMul, Int.reduceNeg, Int.reduceToNat, e0, z0, z1, m1, e1, zz0, i2]
  have j3 : h.size ≤ h.size + 2 := by omega
  refine W_loop (α := Nat × List Nat × Nat) (fun k e w => k.1 ≤ (dig x).length ∧ e.size = 47 ∧ Ext h w ∧ w.size = h.size + 3 ∧ w.get h.size = .cells [.slice a (dig x).length c] 1 ∧ w.get (h.size + 1) = .cells [.slice none 0 0] 1 ∧ w.get (h.size + 2) = .cells (lv k.2.1) 1 ∧
    e.get 1 = .int .u32 (d : Int) ∧ e.get 2 = .pointer (some ⟨h.size, 0, none⟩) ∧ e.get 4 = .pointer (some ⟨h.size + 1, 0, none⟩) ∧ e.get 6 = .slice (some ⟨h.size + 2, 0, none⟩) (dig x).length (dig x).length ∧ e.get 7 = .int .u64 (k.2.2 : Int) ∧ e.get 8 = .int .i64 ((k.1 : Int) - 1) ∧
    k.2.1.length = (dig x).length ∧ Small k.2.1 ∧ k.2.2 < d ∧ val ((dig x).drop k.1) = val (k.2.1.drop k.1) * d + k.2.2) (fun k => k.1) ((dig x).length, List.replicate (dig x).length 0, 0) ?_ ?_
  · refine ⟨Nat.le_refl _, by simp +decide only [go_sem], hx.trans hx1, by omega, zz0, zz1, zz3, by simp +decide only [go_sem], by simp +decide only [go_sem], by simp +decide only [go_sem], by simp +decide only [go_sem, hs], by simp +decide only [go_sem]; rfl, by simp +decide only [go_sem], by simp, Small.replicate _, hd0, ?_⟩
    simp only
    rw [List.drop_of_length_le (Nat.le_refl _), List.drop_of_length_le (by simp)]
    simp [val_nil]
  · rintro ⟨k, os, rest⟩ e w ⟨hk, hsz, hxw, hws, g0, g1, gb, e1, e2, e4, e6, e7, e8, hol, hos, hr, hval⟩ next
    simp only at hk gb e7 e8 hol hos hr hval
    by_cases hk0 : (0 : Int) ≤ (k : Int) - 1
    case neg =>
      have : k = 0 := by omega
      subst this
      rw [List.drop_zero, List.drop_zero, val_dig] at hval
      simp +decide only [go_sem, W_region, Wx_some, Nat.reduceAdd, Nat.reduceMul, Nat.reduceEqDiff, Int.reduceAdd, Int.reduceSub, Int.reduceMul, Int.reduceNeg, Int.reduceToNat, hsz, e1, e2, e4, e6, e7, e8, hk0]
      refine W_call Kok (by omega) (trim_run os w (Sl.made (by omega) gb (by rw [lv_length]; omega) (by simp only [big]; omega)) hos (by omega)) fun v w3 hx3 hv => ?_
      have hq : val os = x / d := by
        rw [hval, Nat.add_comm, Nat.add_mul_div_right _ _ hd0, Nat.div_eq_of_lt hr, Nat.zero_add]
      have hrr : rest = x % d := by
        rw [hval, Nat.add_comm, Nat.add_mul_mod_self_right, Nat.mod_eq_of_lt hr]
      rw [hq] at hv
      obtain ⟨a3, c3, rfl, s3⟩ := hv.open
      have z7 : w3.get (h.size + 1) = .cells [.slice none 0 0] 1 := (hx3.2 _ (by omega)).trans g1
      have hz1 := hx3.1
      obtain ⟨w4, e9, hx4, hs4, z8, z9⟩ := put1 (hxw.trans hx3) (show h.size ≤ h.size + 1 by omega) (.cells [.slice a3 (dig (x / d)).length c3] 1)
      have j4 : h.size ≤ h.size + 1 := by omega
      have hm : rest % 4294967296 = x % d := by omega
      simp +decide only [go_sem, W_region, Wx_some, Nat.reduceAdd, Nat.reduceMul, Nat.reduceEqDiff, Int.reduceAdd, Int.reduceSub, Int.reduceMul, Int.reduceNeg, Int.reduceToNat, hsz, e4, e7, z7, j4, e9, z8, w32, hm]
      exact ⟨_, rfl, hv.over z7 (by rfl) (by rfl) hs4 z8 z9⟩
    obtain ⟨j, rfl⟩ : ∃ j, k = j + 1 := ⟨k - 1, by omega⟩
    have hjn : j < (dig x).length := by omega
    obtain ⟨p, hp⟩ : ∃ p, (dig x)[j]? = some p := ⟨_, List.getElem?_eq_getElem hjn⟩
    obtain ⟨b1, o1, cs1, rfl, hb1, hg1, hc1⟩ := (s.ext hxw).one (lv_get hp)
    have hpB : p < 4294967296 := dig_small x p (List.mem_of_getElem? hp)
    have i3 : ((j + 1 : Nat) : Int) - 1 = (j : Int) := by omega
    have i4 : (0 : Int) ≤ (j : Int) := by omega
    have i5 : (j : Int) < (((dig x).length : Nat) : Int) := by omega
    have i6 : IntKind.i64.wrap ((j : Int) - 1) = (j : Int) - 1 := wrap_i64 (by omega) (by omega)
    have hrB : rest * 4294967296 % 18446744073709551616 = rest * 4294967296 := Nat.mod_eq_of_lt (by omega)
    have hor : (rest * 4294967296 ||| p) = rest * B + p := by rw [or_add hpB, B_eq]
    have ht : rest * B + p < 18446744073709551616 := by rw [B_eq]; omega
    have hdne : ((d : Nat) : Int) ≠ 0 := by omega
    have q1 : ((rest * B + p : Nat) : Int).tdiv (d : Int) = (((rest * B + p) / d : Nat) : Int) := (Int.ofNat_tdiv _ _).symm
    have q2 : ((rest * B + p : Nat) : Int).tmod (d : Int) = (((rest * B + p) % d : Nat) : Int) := (Int.ofNat_tmod _ _).symm
    have hqB : (rest * B + p) / d < 4294967296 := by
      rw [Nat.div_lt_iff_lt_mul hd0]
      have h1 : (rest + 1) * B ≤ d * B := Nat.mul_le_mul_right _ hr
      rw [Nat.add_mul, Nat.mul_comm d, B_eq] at h1
      rw [B_eq]
      omega
    have q3 : (rest * B + p) / d % 4294967296 = (rest * B + p) / d := Nat.mod_eq_of_lt hqB
    have q4 : IntKind.u64.wrap (((rest * B + p) / d : Nat) : Int) = (((rest * B + p) / d : Nat) : Int) := w64 (by omega)
    have hk1 : j + 1 ≤ (lv os).length := by rw [lv_length]; omega
    have hput := lv_put (l := os) (k := j) (by omega) ((rest * B + p) / d)
    obtain ⟨w2, e9, hx2, hs2, z5, z6⟩ := put1 hxw j3 (.cells (lv (os.set j ((rest * B + p) / d))) 1)
    simp +decide only [go_sem, W_region, Wx_some, Nat.reduceAdd, Nat.reduceMul, Nat.reduceEqDiff, Int.reduceAdd, Int.reduceSub, Int.reduceMul, Int.reduceNeg, Int.reduceToNat, hsz, e1, e2, e4, e6, e7, e8, i3, i4, i5, g0, ishl32, hrB, Nat.mul_one, Nat.zero_add, Int.toNat_natCast, hg1, hc1, w64 (show p < 18446744073709551616 by omega), ior64 (show rest * 4294967296 < 18446744073709551616 by omega) (show p < 18446744073709551616 by omega), hor, w64 (show d < 18446744073709551616 by omega), ibinop_quo hdne, ibinop_rem hdne, q1, q2, q4, w32, q3, gb, List.length_cons, List.length_nil, j3, hk1, hput, e9]
    refine W_chk ?_ ?_
    · simp +decide only [go_sem, W_region, Wx_some, Nat.reduceAdd, Nat.reduceMul, Nat.reduceEqDiff, Int.reduceAdd, Int.reduceSub, Int.reduceMul, Int.reduceNeg, Int.reduceToNat, hsz]
    simp +decide only [go_sem, W_region, Wx_some, Nat.reduceAdd, Nat.reduceMul, Nat.reduceEqDiff, Int.reduceAdd, Int.reduceSub, Int.reduceMul, Int.reduceNeg, Int.reduceToNat, hsz, e8, i3, i6]
    refine next (j, os.set j ((rest * B + p) / d), (rest * B + p) % d) _ _ ⟨by simp only; omega, by simp +decide only [go_sem, hsz], hx2, by omega, (z6 _ (by omega)).trans g0, (z6 _ (by omega)).trans g1, z5, by simp +decide only [go_sem, hsz, e1], by simp +decide only [go_sem, hsz, e2], by simp +decide only [go_sem, hsz, e4], by simp +decide only [go_sem, hsz, e6], by simp +decide only [go_sem, hsz], by simp +decide only [go_sem, hsz], by simp [hol], hos.set (by rw [B_eq]; exact hqB) _, Nat.mod_lt _ hd0, small_step hp (by rw [B_eq]; exact hpB) (by omega) hd0 hval⟩ (by simp only; omega)

theorem or_low {m s lo : Nat} (h : lo < 2 ^ s) : (lo ||| m * 2 ^ s) = lo + m * 2 ^ s := by
  have := Nat.two_pow_add_eq_or_of_lt (i := s) (b := lo) h m
  rw [Nat.or_comm, Nat.mul_comm m, ← this, Nat.add_comm]
/-- One limb more of a shift. -/
theorem shl_step {X os : List Nat} {k p lo s : Nat} (hX : X[k]? = some p) (hlo : os[k]? = some lo) (h1 : os[k + 1]? = some 0) (hls : lo < 2 ^ s) (hs : s < 32) (hp : p < 4294967296) (hv : val os = val (X.take k) * 2 ^ s) :
    (lo ||| (p * 2 ^ s) % 4294967296) < 4294967296 ∧ (p * 2 ^ s) / 4294967296 < 2 ^ s ∧
    val ((os.set k (lo ||| (p * 2 ^ s) % 4294967296)).set (k + 1) (p * 2 ^ s / 4294967296)) = val (X.take (k + 1)) * 2 ^ s := by
  have e32 : (4294967296 : Nat) = 2 ^ s * 2 ^ (32 - s) := by rw [← Nat.pow_add, show s + (32 - s) = 32 by omega]
  have hmod : (p * 2 ^ s) % 4294967296 = p % 2 ^ (32 - s) * 2 ^ s := by
    rw [e32, Nat.mul_comm p, Nat.mul_mod_mul_left, Nat.mul_comm]
  have hor : (lo ||| (p * 2 ^ s) % 4294967296) = lo + (p * 2 ^ s) % 4294967296 := by
    rw [hmod]
    exact or_low hls
  have hlt : lo + (p * 2 ^ s) % 4294967296 < 4294967296 := by
    rw [hmod]
    have h2 : p % 2 ^ (32 - s) < 2 ^ (32 - s) := Nat.mod_lt _ (Nat.two_pow_pos _)
    have h3 : (p % 2 ^ (32 - s) + 1) * 2 ^ s ≤ 2 ^ (32 - s) * 2 ^ s := Nat.mul_le_mul_right _ h2
    rw [Nat.add_mul, Nat.one_mul, ← Nat.pow_add, show 32 - s + s = 32 by omega] at h3
    omega
  refine ⟨by rw [hor]; exact hlt, ?_, ?_⟩
  · rw [Nat.div_lt_iff_lt_mul (by omega), Nat.mul_comm (2 ^ s)]
    exact Nat.mul_lt_mul_of_pos_right hp (Nat.two_pow_pos _)
  · rw [hor]
    have q1 := val_set hlo (lo + (p * 2 ^ s) % 4294967296)
    have q2 := val_set (l := os.set k (lo + (p * 2 ^ s) % 4294967296)) (k := k + 1) (d := 0) (by rw [List.getElem?_set_ne (by omega)]; exact h1) (p * 2 ^ s / 4294967296)
    rw [val_take_succ hX]
    have h4 : (p * 2 ^ s) % 4294967296 + B * (p * 2 ^ s / 4294967296) = p * 2 ^ s := by
      rw [B_eq]
      exact Nat.mod_add_div _ _
    rw [Nat.pow_succ] at q2
    generalize (p * 2 ^ s) % 4294967296 = r at *
    generalize p * 2 ^ s / 4294967296 = t at *
    grind

theorem shl_run (x sh : Nat) (h : Heap) {v : Value} (hv : NatV h v x) (hsh : sh < 32) (hl : (dig x).length ≤ 549755813887) : Runs K f_nat_Nat_Shl #[v, .int .i64 (sh : Int)] h fun r w => NatV w r (x * 2 ^ sh) := by
  obtain ⟨a, c, rfl, s⟩ := hv.open
  refine Runs.of Kok (Does.intro rfl (by decide +kernel) F_nat_Nat_Shl rfl ?_)
  obtain ⟨w0, e0, hx, hs, z0, z1⟩ := lay2 h (.cells [.slice a (dig x).length c] 1) (.cells [.slice none 0 0] 1)
  have keep : ∃ w4, w0.set (h.size + 1) (.cells [.slice a (dig x).length c] 1) = w4 ∧ w4.get (h.size + 1) = .cells [.slice a (dig x).length c] 1 ∧ NatV w4 (.agg #[.slice a (dig x).length c]) x := by
    obtain ⟨w4, e9, hx4, hs4, z8, z9⟩ := put1 hx (show h.size ≤ h.size + 1 by omega) (.cells [.slice a (dig x).length c] 1)
    exact ⟨w4, e9, z8, hv.ext hx4⟩
  obtain ⟨w4, e9, z8, hv4⟩ := keep
  have j4 : h.size ≤ h.size + 1 := by omega
  by_cases h0 : (sh : Int) ≤ 0
  · have : sh = 0 := by omega
    subst this
    simp +decide only [go_sem, W_region, Wx_some, Nat.reduceAdd, Nat.reduceMul, Nat.reduceEqDiff, Int.reduceAdd, Int.reduceSub, Int.reduceMul, Int.reduceNeg, Int.reduceToNat, e0, z0, z1, h0, j4, e9, z8]
    simpa using hv4
  by_cases h1 : (((dig x).length : Nat) : Int) = 0
  · have hx0 : x = 0 := dig_nil.1 (List.length_eq_zero_iff.1 (by omega))
    simp +decide only [go_sem, W_region, Wx_some, Nat.reduceAdd, Nat.reduceMul, Nat.reduceEqDiff, Int.reduceAdd, Int.reduceSub, Int.reduceMul, Int.reduceNeg, Int.reduceToNat, e0, z0, z1, h0, h1, j4, e9, z8]
    rw [hx0] at hv4 ⊢
    simpa using hv4
  have d1 : ((sh : Int)).tdiv 32 = 0 := by
    rw [Int.tdiv_eq_ediv_of_nonneg (by omega)]
    omega
  have d2 : ((sh : Int)).tmod 32 = (sh : Int) := by
    rw [Int.tmod_eq_emod_of_nonneg (by omega)]
    omega
  have d3 : IntKind.i64.wrap 0 = 0 := wrap_i64 (by omega) (by omega)
  have d4 : IntKind.u64.wrap (sh : Int) = (sh : Int) := w64 (by omega)
  have d5 : IntKind.i64.wrap ((((dig x).length : Nat) : Int) + 0) = (((dig x).length : Nat) : Int) := by rw [Int.add_zero]; exact wrap_i64 (by omega) (by omega)
  have i1 : IntKind.i64.wrap ((((dig x).length : Nat) : Int) + 1) = (((dig x).length + 1 : Nat) : Int) := by rw [wrap_i64 (by omega) (by omega)]; omega
  have m1 := mk_zero (sz := w0.size) (N := (dig x).length + 1) (by omega)
  obtain ⟨w1, e1, hx1, hs1, z3⟩ := lay1 w0 (.cells (lv (List.replicate ((dig x).length + 1) 0)) 1)
  have zz0 : w1.get h.size = _ := (hx1.2 _ (by omega)).trans z0
  have zz1 : w1.get (h.size + 1) = _ := (hx1.2 _ (by omega)).trans z1
  have zz3 : w1.get (h.size + 2) = _ := (show w1.get (h.size + 2) = w1.get w0.size by rw [hs]).trans z3
  simp +decide only [go_sem, W_region, Wx_some, Nat.reduceAdd, Nat.reduceMul, Nat.reduceEqDiff, Int.reduceAdd, Int.reduceSub, Int.reduceMul, Int.reduceNeg, Int.reduceToNat, e0, z0, z1, h0, h1, d1, d2, d3, d4, d5, i1, m1, e1, zz0]
  have j3 : h.size ≤ h.size + 2 := by omega
  refine W_loop (α := Nat × List Nat × Nat) (fun k e w => k.1 ≤ (dig x).length ∧ e.size = 66 ∧ Ext h w ∧ w.size = h.size + 3 ∧ w.get (h.size + 1) = .cells [.slice none 0 0] 1 ∧ w.get (h.size + 2) = .cells (lv k.2.1) 1 ∧
    e.get 4 = .pointer (some ⟨h.size + 1, 0, none⟩) ∧ e.get 5 = .int .i64 0 ∧ e.get 6 = .int .u64 (sh : Int) ∧ e.get 7 = .slice (some ⟨h.size + 2, 0, none⟩) ((dig x).length + 1) ((dig x).length + 1) ∧ e.get 33 = .slice a (dig x).length c ∧ e.get 34 = .int .i64 (((dig x).length : Nat) : Int) ∧ e.get 35 = .int .i64 (k.1 : Int) ∧
    k.2.1.length = (dig x).length + 1 ∧ Small k.2.1 ∧ k.2.1[k.1]? = some k.2.2 ∧ k.2.2 < 2 ^ sh ∧ (∀ j, k.1 + 1 ≤ j → j ≤ (dig x).length → k.2.1[j]? = some 0) ∧ val k.2.1 = val ((dig x).take k.1) * 2 ^ sh) (fun k => (dig x).length - k.1) (0, List.replicate ((dig x).length + 1) 0, 0) ?_ ?_
  · refine ⟨Nat.zero_le _, by simp +decide only [go_sem], hx.trans hx1, by omega, zz1, zz3, by simp +decide only [go_sem], by simp +decide only [go_sem], by simp +decide only [go_sem], by simp +decide only [go_sem, hs], by simp +decide only [go_sem], by simp +decide only [go_sem], by simp +decide only [go_sem]; rfl, by simp, Small.replicate _, ?_, Nat.two_pow_pos _, ?_, by simp [val_replicate, val_nil]⟩
    · simp only
      rw [List.getElem?_replicate, if_pos (by omega)]
    · intro j hj1 hj2
      simp only
      rw [List.getElem?_replicate, if_pos (by omega)]
  · rintro ⟨k, os, lo⟩ e w ⟨hk, hsz, hxw, hws, g1, gb, e4, e5, e6, e7, e33, e34, e35, hol, hos, hlo, hls, hz, hval⟩ next
    simp only at hk gb e35 hol hos hlo hls hz hval
    by_cases hkn : (k : Int) < (((dig x).length : Nat) : Int)
    case neg =>
      have hkk : k = (dig x).length := by omega
      subst hkk
      rw [List.take_of_length_le (Nat.le_refl _), val_dig] at hval
      simp +decide only [go_sem, W_region, Wx_some, Nat.reduceAdd, Nat.reduceMul, Nat.reduceEqDiff, Int.reduceAdd, Int.reduceSub, Int.reduceMul, Int.reduceNeg, Int.reduceToNat, hsz, e4, e5, e6, e7, e33, e34, e35, hkn]
      refine W_call Kok (by omega) (trim_run os w (Sl.made (by omega) gb (by rw [lv_length]; omega) (by simp only [big]; omega)) hos (by omega)) fun v w3 hx3 hv => ?_
      rw [hval] at hv
      obtain ⟨a3, c3, rfl, s3⟩ := hv.open
      have z7 : w3.get (h.size + 1) = .cells [.slice none 0 0] 1 := (hx3.2 _ (by omega)).trans g1
      have hz1 := hx3.1
      obtain ⟨w4, e9, hx4, hs4, z8, z9⟩ := put1 (hxw.trans hx3) (show h.size ≤ h.size + 1 by omega) (.cells [.slice a3 (dig (x * 2 ^ sh)).length c3] 1)
      simp +decide only [go_sem, W_region, Wx_some, Nat.reduceAdd, Nat.reduceMul, Nat.reduceEqDiff, Int.reduceAdd, Int.reduceSub, Int.reduceMul, Int.reduceNeg, Int.reduceToNat, hsz, e4, z7, j4, e9, z8]
      exact hv.over z7 (by rfl) (by rfl) hs4 z8 z9
    have hkn' : k < (dig x).length := by omega
    obtain ⟨p, hp⟩ : ∃ p, (dig x)[k]? = some p := ⟨_, List.getElem?_eq_getElem hkn'⟩
    obtain ⟨b1, o1, cs1, rfl, hb1, hg1, hc1⟩ := (s.ext hxw).one (lv_get hp)
    have hpB : p < 4294967296 := dig_small x p (List.mem_of_getElem? hp)
    obtain ⟨t1, t2, t3⟩ := shl_step hp hlo (hz (k + 1) (by omega) (by omega)) hls hsh hpB hval
    have hloB : lo < 4294967296 := hos.get hlo
    have i3 : (0 : Int) ≤ (k : Int) := by omega
    have i5 : (k : Int) < (((dig x).length + 1 : Nat) : Int) := by omega
    have i6 : IntKind.i64.wrap ((k : Int) + 0) = (k : Int) := by rw [Int.add_zero]; exact wrap_i64 (by omega) (by omega)
    have i7 : IntKind.i64.wrap ((k : Int) + 1) = ((k + 1 : Nat) : Int) := by rw [wrap_i64 (by omega) (by omega)]; omega
    have i8 : (0 : Int) ≤ ((k + 1 : Nat) : Int) := by omega
    have i9 : ((k + 1 : Nat) : Int) < (((dig x).length + 1 : Nat) : Int) := by omega
    have hps : p * 2 ^ sh < 18446744073709551616 := by
      have h1 : p * 2 ^ sh ≤ 4294967295 * 2 ^ sh := Nat.mul_le_mul_right _ (by omega)
      have h2 : 2 ^ sh ≤ 2 ^ 31 := Nat.pow_le_pow_right (by omega) (by omega)
      omega
    have q1 : p * 2 ^ sh % 18446744073709551616 = p * 2 ^ sh := Nat.mod_eq_of_lt hps
    have q2 : p * 2 ^ sh / 4294967296 % 4294967296 = p * 2 ^ sh / 4294967296 := Nat.mod_eq_of_lt (by omega)
    have hk1 : k + 1 ≤ (lv os).length := by rw [lv_length]; omega
    have hget : (lv os)[k]? = some (.int .u32 (lo : Int)) := lv_get hlo
    have hput := lv_put (l := os) (k := k) (by omega) (lo ||| (p * 2 ^ sh) % 4294967296)
    obtain ⟨w2, e9, hx2, hs2, z5, z6⟩ := put1 hxw j3 (.cells (lv (os.set k (lo ||| (p * 2 ^ sh) % 4294967296))) 1)
    have hk2 : k + 1 + 1 ≤ (lv (os.set k (lo ||| (p * 2 ^ sh) % 4294967296))).length := by rw [lv_length, List.length_set]; omega
    have hput2 := lv_put (l := os.set k (lo ||| (p * 2 ^ sh) % 4294967296)) (k := k + 1) (by rw [List.length_set]; omega) (p * 2 ^ sh / 4294967296)
    obtain ⟨w3, e10, hx3, hs3, z7, z8⟩ := put1 hx2 j3 (.cells (lv ((os.set k (lo ||| (p * 2 ^ sh) % 4294967296)).set (k + 1) (p * 2 ^ sh / 4294967296))) 1)
    simp +decide only [go_sem, W_region, Wx_some, Nat.reduceAdd, Nat.reduceMul, Nat.reduceEqDiff, Int.reduceAdd, Int.reduceSub, Int.reduceMul, Int.reduceNeg, Int.reduceToNat, hsz, e4, e5, e6, e7, e33, e34, e35, hkn, i3, i5, i6, Nat.mul_one, Nat.zero_add, Int.toNat_natCast, hg1, hc1, w64 (show p < 18446744073709551616 by omega), ishl (show sh ≤ 64 by omega), q1, w32, gb, hget, ior32 hloB (Nat.mod_lt (p * 2 ^ sh) (show 0 < 4294967296 by omega)), List.length_cons, List.length_nil, j3, hk1, hput, e9, i7, i8, i9, ishr32, q2, z5, hk2, hput2, e10]
    refine next (k + 1, (os.set k (lo ||| (p * 2 ^ sh) % 4294967296)).set (k + 1) (p * 2 ^ sh / 4294967296), p * 2 ^ sh / 4294967296) _ _ ⟨by simp only; omega, by simp +decide only [go_sem, hsz], hx3, by omega, (z8 _ (by omega)).trans ((z6 _ (by omega)).trans g1), z7, by simp +decide only [go_sem, hsz, e4], by simp +decide only [go_sem, hsz, e5], by simp +decide only [go_sem, hsz, e6], by simp +decide only [go_sem, hsz, e7], by simp +decide only [go_sem, hsz, e33], by simp +decide only [go_sem, hsz, e34], by simp +decide only [go_sem, hsz], by simp [hol], (hos.set t1 _).set (by rw [B_eq]; omega) _, ?_, t2, ?_, t3⟩ (by simp only; omega)
    · simp only
      rw [List.getElem?_set_self (by rw [List.length_set]; omega)]
    · intro j hj1 hj2
      simp only at hj1 ⊢
      rw [List.getElem?_set_ne (by omega), List.getElem?_set_ne (by omega)]
      exact hz j (by omega) hj2
end Go.Proofs.YtjlaenglmdpboaaGreat.N4
