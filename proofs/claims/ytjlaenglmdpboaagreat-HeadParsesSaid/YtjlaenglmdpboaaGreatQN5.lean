/- Proved here: numbers of limbs: shifted down by less than a limb; of every number of few enough limbs. -/
import Derived.Test.YtjlaenglmdpboaaGreatQN4
namespace Go.Proofs.YtjlaenglmdpboaaGreat.N5
open Go Go.Im Go.Im.Limbs Go.Proofs Go.RowKit Go.Proofs.YtjlaenglmdpboaaGreat.Hd Go.Proofs.YtjlaenglmdpboaaGreat.N1 Go.Proofs.YtjlaenglmdpboaaGreat.N2 Go.Proofs.YtjlaenglmdpboaaGreat.N3 Go.Proofs.YtjlaenglmdpboaaGreat.N4
set_option maxRecDepth 100000
set_option linter.unusedSimpArgs false
set_option linter.unusedVariables false

/-- One limb more of a shift. -/
theorem shr_step {X os : List Nat} {k p q o s r : Nat} (hX : X[k]? = some p) (ho : os[k]? = some o) (hs : s < 32) (hp : p < 4294967296) (hv : val (os.take k) * 2 ^ s + r = val (X.take k) + p % 2 ^ s * B ^ k) :
    val ((os.set k ((p + q * 4294967296) / 2 ^ s % 4294967296)).take (k + 1)) * 2 ^ s + r = val (X.take (k + 1)) + q % 2 ^ s * B ^ (k + 1) := by
  have hk := (List.getElem?_eq_some_iff.1 ho).1
  have e32 : (4294967296 : Nat) = 2 ^ s * 2 ^ (32 - s) := by rw [← Nat.pow_add, show s + (32 - s) = 32 by omega]
  have hs0 : 0 < 2 ^ s := Nat.two_pow_pos _
  have hd : (p + q * 4294967296) / 2 ^ s = p / 2 ^ s + q * 2 ^ (32 - s) := by
    rw [show q * 4294967296 = 2 ^ s * (q * 2 ^ (32 - s)) by rw [e32, Nat.mul_left_comm], Nat.add_mul_div_left _ _ hs0]
  have hps : p / 2 ^ s < 2 ^ (32 - s) := by
    rw [Nat.div_lt_iff_lt_mul hs0, Nat.mul_comm, ← e32]
    exact hp
  have hm : (p / 2 ^ s + q * 2 ^ (32 - s)) % 4294967296 = p / 2 ^ s + q % 2 ^ s * 2 ^ (32 - s) := by
    have h1 : p / 2 ^ s + q * 2 ^ (32 - s) = p / 2 ^ s + q % 2 ^ s * 2 ^ (32 - s) + 4294967296 * (q / 2 ^ s) := by
      have h2 := Nat.div_add_mod q (2 ^ s)
      rw [e32]
      generalize q / 2 ^ s = u at *
      generalize q % 2 ^ s = t at *
      generalize 2 ^ (32 - s) = g at *
      grind
    rw [h1, Nat.add_mul_mod_self_left]
    apply Nat.mod_eq_of_lt
    have h3 : (q % 2 ^ s + 1) * 2 ^ (32 - s) ≤ 2 ^ s * 2 ^ (32 - s) := Nat.mul_le_mul_right _ (Nat.mod_lt _ hs0)
    rw [← e32, Nat.add_mul, Nat.one_mul] at h3
    omega
  rw [hd, hm, List.take_add_one, List.getElem?_set_self hk, Option.toList_some, List.take_set_of_le (Nat.le_refl _), val_append, val_take_succ hX]
  have hl : (os.take k).length = k := by rw [List.length_take]; omega
  rw [hl]
  simp only [val_cons, val_nil, Nat.mul_zero, Nat.add_zero, Nat.pow_succ]
  have h5 := Nat.div_add_mod p (2 ^ s)
  have e32' : 2 ^ s * 2 ^ (32 - s) = B := by rw [B_eq, ← e32]
  generalize p / 2 ^ s = u at *
  generalize p % 2 ^ s = t at *
  generalize q % 2 ^ s = y at *
  generalize 2 ^ (32 - s) = g at *
  generalize 2 ^ s = f at *
  generalize B ^ k = b at *
  grind

theorem shr_run (x sh : Nat) (h : Heap) {v : Value} (hv : NatV h v x) (hsh : sh < 32) (hl : (dig x).length ≤ 549755813887) : Runs K f_nat_Nat_Shr #[v, .int .i64 (sh : Int)] h fun r w => NatV w r (x / 2 ^ sh) := by
  obtain ⟨a, c, rfl, s⟩ := hv.open
  refine Runs.of Kok (Does.intro rfl (by decide +kernel) F_nat_Nat_Shr rfl ?_)
  obtain ⟨w0, e0, hx, hs, z0, z1⟩ := lay2 h (.cells [.slice a (dig x).length c] 1) (.cells [.slice none 0 0] 1)
  have j4 : h.size ≤ h.size + 1 := by omega
  by_cases h0 : (sh : Int) ≤ 0
  · have : sh = 0 := by omega
    subst this
    obtain ⟨w4, e9, hx4, hs4, z8, z9⟩ := put1 hx (show h.size ≤ h.size + 1 by omega) (.cells [.slice a (dig x).length c] 1)
    simp +decide only [go_sem, W_region, Wx_some, Nat.reduceAdd, Nat.reduceMul, Nat.reduceEqDiff, Int.reduceAdd, Int.reduceSub, Int.reduceMul, Int.reduceNeg, Int.reduceToNat, e0, z0, z1, h0, j4, e9, z8]
    simpa using hv.ext hx4
  have d1 : ((sh : Int)).tdiv 32 = 0 := by
    rw [Int.tdiv_eq_ediv_of_nonneg (by omega)]
    omega
  have d2 : ((sh : Int)).tmod 32 = (sh : Int) := by
    rw [Int.tmod_eq_emod_of_nonneg (by omega)]
    omega
  have d3 : IntKind.i64.wrap 0 = 0 := wrap_i64 (by omega) (by omega)
  have d4 : IntKind.u64.wrap (sh : Int) = (sh : Int) := w64 (by omega)
  by_cases h1 : (((dig x).length : Nat) : Int) ≤ 0
  · have hx0 : x = 0 := dig_nil.1 (List.length_eq_zero_iff.1 (by omega))
    obtain ⟨w4, e9, hx4, hs4, z8, z9⟩ := put1 hx (show h.size ≤ h.size + 1 by omega) (.cells [.slice none 0 0] 1)
    simp +decide only [go_sem, W_region, Wx_some, Nat.reduceAdd, Nat.reduceMul, Nat.reduceEqDiff, Int.reduceAdd, Int.reduceSub, Int.reduceMul, Int.reduceNeg, Int.reduceToNat, e0, z0, z1, h0, h1, d1, d2, d3, d4, j4, e9, z8]
    rw [hx0, Nat.zero_div]
    exact ⟨none, 0, 0, rfl, by rw [dig_zero]; exact Sl.nil _ _⟩
  have d5 : IntKind.i64.wrap ((((dig x).length : Nat) : Int) - 0) = (((dig x).length : Nat) : Int) := by rw [Int.sub_zero]; exact wrap_i64 (by omega) (by omega)
  have m1 := mk_zero (sz := w0.size) (N := (dig x).length) (by omega)
  obtain ⟨w1, e1, hx1, hs1, z3⟩ := lay1 w0 (.cells (lv (List.replicate (dig x).length 0)) 1)
  have zz0 : w1.get h.size = _ := (hx1.2 _ (by omega)).trans z0
  have zz1 : w1.get (h.size + 1) = _ := (hx1.2 _ (by omega)).trans z1
  have zz3 : w1.get (h.size + 2) = _ := (show w1.get (h.size + 2) = w1.get w0.size by rw [hs]).trans z3
  simp +decide only [go_sem, W_region, Wx_some, Nat.reduceAdd, Nat.reduceMul, Nat.reduceEqDiff, Int.reduceAdd, Int.reduceSub, Int.reduceMul, Int.reduceNeg, Int.reduceToNat, e0, z0, z1, h0, h1, d1, d2, d3, d4, d5, m1, e1, zz0]
  have j3 : h.size ≤ h.size + 2 := by omega
  obtain ⟨X0, hX0⟩ : ∃ X0, (dig x)[0]? = some X0 := ⟨_, List.getElem?_eq_getElem (by omega)⟩
  refine W_loop (α := Nat × List Nat) (fun k e w => k.1 ≤ (dig x).length ∧ e.size = 73 ∧ Ext h w ∧ w.size = h.size + 3 ∧ w.get h.size = .cells [.slice a (dig x).length c] 1 ∧ w.get (h.size + 1) = .cells [.slice none 0 0] 1 ∧ w.get (h.size + 2) = .cells (lv k.2) 1 ∧
    e.get 2 = .pointer (some ⟨h.size, 0, none⟩) ∧ e.get 4 = .pointer (some ⟨h.size + 1, 0, none⟩) ∧ e.get 5 = .int .i64 0 ∧ e.get 6 = .int .u64 (sh : Int) ∧ e.get 7 = .slice (some ⟨h.size + 2, 0, none⟩) (dig x).length (dig x).length ∧ e.get 31 = .int .i64 (((dig x).length : Nat) : Int) ∧ e.get 32 = .int .i64 (k.1 : Int) ∧
    k.2.length = (dig x).length ∧ Small k.2 ∧ val (k.2.take k.1) * 2 ^ sh + X0 % 2 ^ sh = val ((dig x).take k.1) + ((dig x)[k.1]?).getD 0 % 2 ^ sh * B ^ k.1) (fun k => (dig x).length - k.1) (0, List.replicate (dig x).length 0) ?_ ?_
  · refine ⟨Nat.zero_le _, by simp +decide only [go_sem], hx.trans hx1, by omega, zz0, zz1, zz3, by simp +decide only [go_sem], by simp +decide only [go_sem], by simp +decide only [go_sem], by simp +decide only [go_sem], by simp +decide only [go_sem, hs], by simp +decide only [go_sem], by simp +decide only [go_sem]; rfl, by simp, Small.replicate _, ?_⟩
    simp only
    rw [hX0]
    simp [val_nil]
  · rintro ⟨k, os⟩ e w ⟨hk, hsz, hxw, hws, g0, g1, gb, e2, e4, e5, e6, e7, e31, e32, hol, hos, hval⟩ next
    simp only at hk gb e32 hol hos hval
    by_cases hkn : (k : Int) < (((dig x).length : Nat) : Int)
    case neg =>
      have hkk : k = (dig x).length := by omega
      subst hkk
      rw [List.take_of_length_le (Nat.le_refl _), List.take_of_length_le (by omega), val_dig, List.getElem?_eq_none (Nat.le_refl _)] at hval
      simp +decide only [go_sem, W_region, Wx_some, Nat.reduceAdd, Nat.reduceMul, Nat.reduceEqDiff, Int.reduceAdd, Int.reduceSub, Int.reduceMul, Int.reduceNeg, Int.reduceToNat, hsz, e2, e4, e5, e6, e7, e31, e32, hkn]
      refine W_call Kok (by omega) (trim_run os w (Sl.made (by omega) gb (by rw [lv_length]; omega) (by simp only [big]; omega)) hos (by omega)) fun v w3 hx3 hv => ?_
      have hq : val os = x / 2 ^ sh := by
        have hlt : X0 % 2 ^ sh < 2 ^ sh := Nat.mod_lt _ (Nat.two_pow_pos _)
        simp only [Option.getD_none, Nat.zero_mod, Nat.zero_mul, Nat.add_zero] at hval
        rw [← hval, Nat.add_comm, Nat.add_mul_div_right _ _ (Nat.two_pow_pos _), Nat.div_eq_of_lt hlt, Nat.zero_add]
      rw [hq] at hv
      obtain ⟨a3, c3, rfl, s3⟩ := hv.open
      have z7 : w3.get (h.size + 1) = .cells [.slice none 0 0] 1 := (hx3.2 _ (by omega)).trans g1
      have hz1 := hx3.1
      obtain ⟨w4, e9, hx4, hs4, z8, z9⟩ := put1 (hxw.trans hx3) (show h.size ≤ h.size + 1 by omega) (.cells [.slice a3 (dig (x / 2 ^ sh)).length c3] 1)
      simp +decide only [go_sem, W_region, Wx_some, Nat.reduceAdd, Nat.reduceMul, Nat.reduceEqDiff, Int.reduceAdd, Int.reduceSub, Int.reduceMul, Int.reduceNeg, Int.reduceToNat, hsz, e4, z7, j4, e9, z8]
      exact hv.over z7 (by rfl) (by rfl) hs4 z8 z9
    have hkn' : k < (dig x).length := by omega
    obtain ⟨p, hp⟩ : ∃ p, (dig x)[k]? = some p := ⟨_, List.getElem?_eq_getElem hkn'⟩
    obtain ⟨o, ho⟩ : ∃ o, os[k]? = some o := ⟨_, List.getElem?_eq_getElem (by omega)⟩
    obtain ⟨b1, o1, cs1, rfl, hb1, hg1, hc1⟩ := (s.ext hxw).one (lv_get hp)
    have hpB : p < 4294967296 := dig_small x p (List.mem_of_getElem? hp)
    rw [hp, Option.getD_some] at hval
    have i3 : (0 : Int) ≤ (k : Int) := by omega
    have i6 : IntKind.i64.wrap ((k : Int) + 0) = (k : Int) := by rw [Int.add_zero]; exact wrap_i64 (by omega) (by omega)
    have i7 : IntKind.i64.wrap ((k : Int) + 1) = ((k + 1 : Nat) : Int) := by rw [wrap_i64 (by omega) (by omega)]; omega
    have i8 : (0 : Int) ≤ ((k + 1 : Nat) : Int) := by omega
    have hk1 : k + 1 ≤ (lv os).length := by rw [lv_length]; omega
    by_cases hn : ((k + 1 : Nat) : Int) < (((dig x).length : Nat) : Int)
    · obtain ⟨q, hq⟩ : ∃ q, (dig x)[k + 1]? = some q := ⟨_, List.getElem?_eq_getElem (by omega)⟩
      have hqB : q < 4294967296 := dig_small x q (List.mem_of_getElem? hq)
      obtain ⟨b2, o2, cs2, hbb, hb2, hg2, hc2⟩ := (s.ext hxw).one (lv_get hq)
      cases hbb
      rw [hg1] at hg2
      cases hg2
      have hst := shr_step (q := q) hp ho hsh hpB hval
      have q0 : q * 4294967296 % 18446744073709551616 = q * 4294967296 := Nat.mod_eq_of_lt (by omega)
      have q1 : (p ||| q * 4294967296) = p + q * 4294967296 := by rw [Nat.or_comm, or_add hpB, Nat.add_comm]
      have q3 : (p + q * 4294967296) / 2 ^ sh % 4294967296 < B := by rw [B_eq]; exact Nat.mod_lt _ (by omega)
      have hput := lv_put (l := os) (k := k) (by omega) ((p + q * 4294967296) / 2 ^ sh % 4294967296)
      obtain ⟨w2, e9, hx2, hs2, z5, z6⟩ := put1 hxw j3 (.cells (lv (os.set k ((p + q * 4294967296) / 2 ^ sh % 4294967296))) 1)
      simp +decide only [go_sem, W_region, Wx_some, Nat.reduceAdd, Nat.reduceMul, Nat.reduceEqDiff, Int.reduceAdd, Int.reduceSub, Int.reduceMul, Int.reduceNeg, Int.reduceToNat, hsz, e2, e4, e5, e6, e7, e31, e32, hkn, g0, i3, i6, i7, i8, hn, Nat.mul_one, Nat.zero_add, Int.toNat_natCast, hg1, hc1, hc2, w64 (show p < 18446744073709551616 by omega), w64 (show q < 18446744073709551616 by omega), ishl32, q0, ior64 (show p < 18446744073709551616 by omega) (show q * 4294967296 < 18446744073709551616 by omega), q1, ishr (show sh ≤ 64 by omega), w32, gb, List.length_cons, List.length_nil, j3, hk1, hput, e9]
      refine next (k + 1, os.set k ((p + q * 4294967296) / 2 ^ sh % 4294967296)) _ _ ⟨by simp only; omega, by simp +decide only [go_sem, hsz], hx2, by omega, (z6 _ (by omega)).trans g0, (z6 _ (by omega)).trans g1, z5, by simp +decide only [go_sem, hsz, e2], by simp +decide only [go_sem, hsz, e4], by simp +decide only [go_sem, hsz, e5], by simp +decide only [go_sem, hsz, e6], by simp +decide only [go_sem, hsz, e7], by simp +decide only [go_sem, hsz, e31], by simp +decide only [go_sem, hsz], by simp [hol], hos.set q3 _, ?_⟩ (by simp only; omega)
      simp only
      rw [hq, Option.getD_some]
      exact hst
    · have hst := shr_step (q := 0) hp ho hsh hpB hval
      rw [Nat.zero_mul, Nat.add_zero] at hst
      have q3 : p / 2 ^ sh % 4294967296 < B := by rw [B_eq]; exact Nat.mod_lt _ (by omega)
      have hput := lv_put (l := os) (k := k) (by omega) (p / 2 ^ sh % 4294967296)
      obtain ⟨w2, e9, hx2, hs2, z5, z6⟩ := put1 hxw j3 (.cells (lv (os.set k (p / 2 ^ sh % 4294967296))) 1)
      simp +decide only [go_sem, W_region, Wx_some, Nat.reduceAdd, Nat.reduceMul, Nat.reduceEqDiff, Int.reduceAdd, Int.reduceSub, Int.reduceMul, Int.reduceNeg, Int.reduceToNat, hsz, e2, e4, e5, e6, e7, e31, e32, hkn, g0, i3, i6, i7, i8, hn, Nat.mul_one, Nat.zero_add, Int.toNat_natCast, hg1, hc1, w64 (show p < 18446744073709551616 by omega), ishr (show sh ≤ 64 by omega), w32, gb, List.length_cons, List.length_nil, j3, hk1, hput, e9]
      refine next (k + 1, os.set k (p / 2 ^ sh % 4294967296)) _ _ ⟨by simp only; omega, by simp +decide only [go_sem, hsz], hx2, by omega, (z6 _ (by omega)).trans g0, (z6 _ (by omega)).trans g1, z5, by simp +decide only [go_sem, hsz, e2], by simp +decide only [go_sem, hsz, e4], by simp +decide only [go_sem, hsz, e5], by simp +decide only [go_sem, hsz, e6], by simp +decide only [go_sem, hsz, e7], by simp +decide only [go_sem, hsz, e31], by simp +decide only [go_sem, hsz], by simp [hol], hos.set q3 _, ?_⟩ (by simp only; omega)
      simp only
      rw [List.getElem?_eq_none (by omega)]
      exact hst
end Go.Proofs.YtjlaenglmdpboaaGreat.N5
