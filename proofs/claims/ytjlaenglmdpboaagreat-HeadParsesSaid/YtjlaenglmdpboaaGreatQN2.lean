/- Proved here: numbers of limbs: the sum; of every two numbers of few enough limbs. -/
import Derived.Test.YtjlaenglmdpboaaGreatQN1
namespace Go.Proofs.YtjlaenglmdpboaaGreat.N2
open Go Go.Im Go.Im.Limbs Go.Proofs Go.RowKit Go.Proofs.YtjlaenglmdpboaaGreat.Hd Go.Proofs.YtjlaenglmdpboaaGreat.N1
set_option maxRecDepth 100000
set_option linter.unusedSimpArgs false
set_option linter.unusedVariables false

/-- One limb more of a sum. -/
theorem add_step {X Y os : List Nat} {k p q c : Nat} (hX : X[k]? = some p) (hY : q = (Y[k]?).getD 0) (hos : os[k]? = some 0) (hv : val os + c * B ^ k = val (X.take k) + val (Y.take k)) :
    val (os.set k ((p + q + c) % 4294967296)) + (p + q + c) / 4294967296 * B ^ (k + 1) = val (X.take (k + 1)) + val (Y.take (k + 1)) := by
  have h1 := val_set hos ((p + q + c) % 4294967296)
  have h2 := val_take_succ hX
  have h3 : val (Y.take (k + 1)) = val (Y.take k) + q * B ^ k := by
    cases hy : Y[k]? with
    | some y =>
      rw [hy] at hY
      simp at hY
      subst hY
      exact val_take_succ hy
    | none =>
      rw [hy] at hY
      simp at hY
      subst hY
      have := List.getElem?_eq_none_iff.1 hy
      rw [List.take_of_length_le (by omega), List.take_of_length_le (by omega)]
      omega
  rw [h2, h3]
  have h4 : (p + q + c) % 4294967296 + B * ((p + q + c) / 4294967296) = p + q + c := by
    rw [B_eq]
    exact Nat.mod_add_div _ _
  rw [Nat.pow_succ]
  generalize (p + q + c) % 4294967296 = r at *
  generalize (p + q + c) / 4294967296 = t at *
  grind

theorem add_run (x y : Nat) (h : Heap) {v u : Value} (hv : NatV h v x) (hu : NatV h u y) (hl1 : (dig x).length ≤ 549755813887) (hl2 : (dig y).length ≤ 549755813887) : Runs K f_nat_Nat_Add #[v, u] h fun r w => NatV w r (x + y) := by
  obtain ⟨a, c, rfl, s⟩ := hv.open
  obtain ⟨b, d, rfl, t⟩ := hu.open
  refine Runs.of Kok (Does.intro rfl (by decide +kernel) F_nat_Nat_Add rfl ?_)
  obtain ⟨w0, e0, hx, hs, z0, z1, z2⟩ := lay3 h (.cells [.slice a (dig x).length c] 1) (.cells [.slice b (dig y).length d] 1) (.cells [.slice none 0 0] 1)
  by_cases h1 : (((dig x).length : Nat) : Int) < (((dig y).length : Nat) : Int)
  · have hle : (dig x).length ≤ (dig y).length := by omega
    have i1 : IntKind.i64.wrap ((((dig y).length : Nat) : Int) + 1) = (((dig y).length + 1 : Nat) : Int) := by rw [wrap_i64 (by omega) (by omega)]; omega
    have m1 := mk_zero (sz := w0.size) (N := (dig y).length + 1) (by omega)
    obtain ⟨w1, e1, hx1, hs1, z3⟩ := lay1 w0 (.cells (lv (List.replicate ((dig y).length + 1) 0)) 1)
    simp +decide only [go_sem, W_region, Wx_some, Nat.reduceAdd, Nat.reduceMul, Nat.reduceEqDiff, Int.reduceAdd, Int.reduceSub, Int.reduceMul, Int.reduceNeg, Int.reduceToNat, e0, z0, z1, h1, i1, m1, e1]
    have zz2 : w1.get (h.size + 2) = _ := (hx1.2 _ (by omega)).trans z2
    refine W_loop (α := Nat × List Nat × Nat) (fun k e w => k.1 ≤ (dig y).length ∧ e.size = 60 ∧ Ext h w ∧ h.size + 4 ≤ w.size ∧ w.get (h.size + 2) = .cells [.slice none 0 0] 1 ∧ w.get (h.size + 3) = .cells (lv k.2.1) 1 ∧
      e.get 4 = .pointer (some ⟨h.size + 2, 0, none⟩) ∧ e.get 5 = .slice b (dig y).length d ∧ e.get 6 = .slice a (dig x).length c ∧ e.get 7 = .slice (some ⟨h.size + 3, 0, none⟩) ((dig y).length + 1) ((dig y).length + 1) ∧ e.get 8 = .int .u32 (k.2.2 : Int) ∧
      e.get 27 = .int .i64 (((dig y).length : Nat) : Int) ∧ e.get 28 = .int .i64 (k.1 : Int) ∧
      k.2.1.length = (dig y).length + 1 ∧ Small k.2.1 ∧ k.2.2 ≤ 1 ∧ (∀ j, k.1 ≤ j → j ≤ (dig y).length → k.2.1[j]? = some 0) ∧ val k.2.1 + k.2.2 * B ^ k.1 = val ((dig y).take k.1) + val ((dig x).take k.1)) (fun k => (dig y).length - k.1) (0, List.replicate ((dig y).length + 1) 0, 0) ?_ ?_
    · refine ⟨Nat.zero_le _, by simp +decide only [go_sem], hx.trans hx1, by omega, zz2, by rw [show h.size + 3 = w0.size by omega]; exact z3, by simp +decide only [go_sem], by simp +decide only [go_sem], by simp +decide only [go_sem], by simp +decide only [go_sem, hs], by simp +decide only [go_sem]; rfl, by simp +decide only [go_sem], by simp +decide only [go_sem]; rfl, by simp, Small.replicate _, by simp, ?_, ?_⟩
      · intro j hj1 hj2
        simp only
        rw [List.getElem?_replicate, if_pos (by omega)]
      · simp [val_replicate, val_nil]
    · rintro ⟨k, os, cy⟩ e w ⟨hk, hsz, hxw, hws, g2, gb, e4, e5, e6, e7, e8, e27, e28, hol, hos, hcy, hz, hval⟩ next
      simp only at hk g2 gb e8 e28 hol hos hcy hz hval
      by_cases hkn : (k : Int) < (((dig y).length : Nat) : Int)
      case neg =>
        have hkk : k = (dig y).length := by omega
        subst hkk
        have hk1 : (dig y).length + 1 ≤ (lv os).length := by rw [lv_length]; omega
        have hput := lv_put (l := os) (k := (dig y).length) (by omega) cy
        obtain ⟨w2, e2, hx2, hs2, z5, z6⟩ := put1 hxw (show h.size ≤ h.size + 3 by omega) (.cells (lv (os.set (dig y).length cy)) 1)
        have j1 : (0 : Int) ≤ (((dig y).length : Nat) : Int) := by omega
        have j2 : (((dig y).length : Nat) : Int) < (((dig y).length + 1 : Nat) : Int) := by omega
        have j3 : h.size ≤ h.size + 3 := by omega
        simp +decide only [go_sem, W_region, Wx_some, Nat.reduceAdd, Nat.reduceMul, Nat.reduceEqDiff, Int.reduceAdd, Int.reduceSub, Int.reduceMul, Int.reduceNeg, Int.reduceToNat, hsz, e4, e5, e6, e7, e8, e27, e28, hkn, j1, j2, j3, gb, Nat.mul_one, Nat.zero_add, Int.toNat_natCast, List.length_cons, List.length_nil, hk1, hput, e2]
        have hcB : cy < B := by rw [B_eq]; omega
        refine W_call Kok (by omega) (trim_run (os.set (dig y).length cy) w2 (a := some ⟨h.size + 3, 0, none⟩) (n := (dig y).length + 1) (c := (dig y).length + 1) (.inr (.inr ⟨h.size + 3, 0, _, rfl, by omega, by omega, by rw [z5]; rfl, by rw [lv_length, List.length_set]; omega, by rw [List.drop_zero, List.take_of_length_le (by rw [lv_length, List.length_set]; omega)], .inl ⟨by omega, by simp only [big]; omega⟩⟩)) (hos.set hcB _) (by omega)) fun v w3 hx3 hv => ?_
        have hfin : val (os.set (dig y).length cy) = x + y := by
          have q1 := val_set (hz _ (Nat.le_refl _) (Nat.le_refl _)) cy
          rw [List.take_of_length_le (Nat.le_refl _), List.take_of_length_le hle, val_dig, val_dig] at hval
          omega
        rw [hfin] at hv
        obtain ⟨a3, c3, rfl, s3⟩ := hv.open
        have z7 : w3.get (h.size + 2) = .cells [.slice none 0 0] 1 := (hx3.2 _ (by omega)).trans ((z6 _ (by omega)).trans g2)
        have hz1 := hx3.1
        obtain ⟨w4, e9, hx4, hs4, z8, z9⟩ := put1 (hx2.trans hx3) (show h.size ≤ h.size + 2 by omega) (.cells [.slice a3 (dig (x + y)).length c3] 1)
        have j4 : h.size ≤ h.size + 2 := by omega
        simp +decide only [go_sem, W_region, Wx_some, Nat.reduceAdd, Nat.reduceMul, Nat.reduceEqDiff, Int.reduceAdd, Int.reduceSub, Int.reduceMul, Int.reduceNeg, Int.reduceToNat, hsz, e4, z7, j4, e9, z8]
        exact hv.over z7 (by rfl) (by rfl) hs4 z8 z9
      have hkn' : k < (dig y).length := by omega
      obtain ⟨p, hp⟩ : ∃ p, (dig y)[k]? = some p := ⟨_, List.getElem?_eq_getElem hkn'⟩
      obtain ⟨b1, o1, cs1, rfl, hb1, hg1, hc1⟩ := (t.ext hxw).one (lv_get hp)
      have hpB : p < 4294967296 := dig_small y p (List.mem_of_getElem? hp)
      have j1 : (0 : Int) ≤ (k : Int) := by omega
      have j2 : (k : Int) < (((dig y).length + 1 : Nat) : Int) := by omega
      have j3 : h.size ≤ h.size + 3 := by omega
      have j5 : IntKind.i64.wrap ((k : Int) + 1) = ((k + 1 : Nat) : Int) := by rw [wrap_i64 (by omega) (by omega)]; omega
      have hk1 : k + 1 ≤ (lv os).length := by rw [lv_length]; omega
      obtain ⟨q, hq, hqB⟩ : ∃ q, q = ((dig x)[k]?).getD 0 ∧ q < 4294967296 := by
        refine ⟨_, rfl, ?_⟩
        cases hy : (dig x)[k]? with
        | none => simp
        | some q => exact dig_small x q (List.mem_of_getElem? hy)
      have hput := lv_put (l := os) (k := k) (by omega) ((p + q + cy) % 4294967296)
      have fin : ∀ w2 : Heap, Ext w w2 → ∃ w3, w2.set (h.size + 3) (.cells (lv (os.set k ((p + q + cy) % 4294967296))) 1) = w3 ∧ Ext h w3 ∧ h.size + 4 ≤ w3.size ∧ w3.get (h.size + 2) = .cells [.slice none 0 0] 1 ∧ w3.get (h.size + 3) = .cells (lv (os.set k ((p + q + cy) % 4294967296))) 1 := by
        intro w2 hx2
        obtain ⟨w3, e2, hx3, hs3, z5, z6⟩ := put1 (hxw.trans hx2) (show h.size ≤ h.size + 3 by omega) (.cells (lv (os.set k ((p + q + cy) % 4294967296))) 1)
        exact ⟨w3, e2, hx3, by have := hx2.1; omega, (z6 _ (by omega)).trans ((hx2.2 _ (by omega)).trans g2), z5⟩
      by_cases hkm : (k : Int) < (((dig x).length : Nat) : Int)
      · obtain ⟨b2, o2, cs2, rfl, hb2, hg2, hc2⟩ := (s.ext hxw).one (lv_get (i := k) (d := q) (by rw [hq, List.getElem?_eq_getElem (show k < (dig x).length by omega)]; rfl))
        simp +decide only [go_sem, W_region, Wx_some, Nat.reduceAdd, Nat.reduceMul, Nat.reduceEqDiff, Int.reduceAdd, Int.reduceSub, Int.reduceMul, Int.reduceNeg, Int.reduceToNat, hsz, e4, e5, e6, e7, e8, e27, e28, hkn, hkm, j1, j2, j3, Nat.mul_one, Nat.zero_add, Int.toNat_natCast, hg1, hc1, hg2, hc2]
        refine W_call Kok (by omega) (add32_run p q cy w hpB hqB hcy) fun v w2 hx2 hv => ?_
        subst hv
        obtain ⟨w3, e2, hx3, hs3, z5, z6⟩ := fin w2 hx2
        have gb2 : w2.get (h.size + 3) = .cells (lv os) 1 := (hx2.2 _ (by omega)).trans gb
        simp +decide only [go_sem, W_region, Wx_some, Nat.reduceAdd, Nat.reduceMul, Nat.reduceEqDiff, Int.reduceAdd, Int.reduceSub, Int.reduceMul, Int.reduceNeg, Int.reduceToNat, hsz, e4, e5, e6, e7, e8, e27, e28, j1, j2, j3, gb2, Nat.mul_one, Nat.zero_add, Int.toNat_natCast, List.length_cons, List.length_nil, hk1, hput, e2, j5]
        refine next (k + 1, os.set k ((p + q + cy) % 4294967296), (p + q + cy) / 4294967296) _ _ ⟨by simp only; omega, by simp +decide only [go_sem, hsz], hx3, hs3, z5, z6, by simp +decide only [go_sem, hsz, e4], by simp +decide only [go_sem, hsz, e5], by simp +decide only [go_sem, hsz, e6], by simp +decide only [go_sem, hsz, e7], by simp +decide only [go_sem, hsz], by simp +decide only [go_sem, hsz, e27], by simp +decide only [go_sem, hsz], by simp [hol], hos.set (by rw [B_eq]; exact Nat.mod_lt _ (by omega)) _, by simp only; omega, ?_, add_step hp hq (hz k (by omega) (by omega)) hval⟩ (by simp only; omega)
        intro j hj1 hj2
        simp only at hj1 ⊢
        rw [List.getElem?_set_ne (by omega)]
        exact hz j (by omega) hj2
      · have hq0 : q = 0 := by rw [hq, List.getElem?_eq_none (by omega)]; rfl
        have hs' : p + q + cy = p + cy := by omega
        have hst := add_step hp hq (hz k (by omega) (by omega)) hval
        simp only [hs'] at hput fin hst
        simp +decide only [go_sem, W_region, Wx_some, Nat.reduceAdd, Nat.reduceMul, Nat.reduceEqDiff, Int.reduceAdd, Int.reduceSub, Int.reduceMul, Int.reduceNeg, Int.reduceToNat, hsz, e4, e5, e6, e7, e8, e27, e28, hkn, hkm, j1, j2, j3, Nat.mul_one, Nat.zero_add, Int.toNat_natCast, hg1, hc1]
        refine W_call Kok (by omega) (add32_run p 0 cy w hpB (by omega) hcy) fun v w2 hx2 hv => ?_
        rw [Nat.add_zero] at hv
        subst hv
        obtain ⟨w3, e2, hx3, hs3, z5, z6⟩ := fin w2 hx2
        have gb2 : w2.get (h.size + 3) = .cells (lv os) 1 := (hx2.2 _ (by omega)).trans gb
        simp +decide only [go_sem, W_region, Wx_some, Nat.reduceAdd, Nat.reduceMul, Nat.reduceEqDiff, Int.reduceAdd, Int.reduceSub, Int.reduceMul, Int.reduceNeg, Int.reduceToNat, hsz, e4, e5, e6, e7, e8, e27, e28, j1, j2, j3, gb2, Nat.mul_one, Nat.zero_add, Int.toNat_natCast, List.length_cons, List.length_nil, hk1, hput, e2, j5]
        refine next (k + 1, os.set k ((p + cy) % 4294967296), (p + cy) / 4294967296) _ _ ⟨by simp only; omega, by simp +decide only [go_sem, hsz], hx3, hs3, z5, z6, by simp +decide only [go_sem, hsz, e4], by simp +decide only [go_sem, hsz, e5], by simp +decide only [go_sem, hsz, e6], by simp +decide only [go_sem, hsz, e7], by simp +decide only [go_sem, hsz], by simp +decide only [go_sem, hsz, e27], by simp +decide only [go_sem, hsz], by simp [hol], hos.set (by rw [B_eq]; exact Nat.mod_lt _ (by omega)) _, by simp only; omega, ?_, hst⟩ (by simp only; omega)
        intro j hj1 hj2
        simp only at hj1 ⊢
        rw [List.getElem?_set_ne (by omega)]
        exact hz j (by omega) hj2
  · have hle : (dig y).length ≤ (dig x).length := by omega
    have i1 : IntKind.i64.wrap ((((dig x).length : Nat) : Int) + 1) = (((dig x).length + 1 : Nat) : Int) := by rw [wrap_i64 (by omega) (by omega)]; omega
    have m1 := mk_zero (sz := w0.size) (N := (dig x).length + 1) (by omega)
    obtain ⟨w1, e1, hx1, hs1, z3⟩ := lay1 w0 (.cells (lv (List.replicate ((dig x).length + 1) 0)) 1)
    simp +decide only [go_sem, W_region, Wx_some, Nat.reduceAdd, Nat.reduceMul, Nat.reduceEqDiff, Int.reduceAdd, Int.reduceSub, Int.reduceMul, Int.reduceNeg, Int.reduceToNat, e0, z0, z1, h1, i1, m1, e1]
    have zz2 : w1.get (h.size + 2) = _ := (hx1.2 _ (by omega)).trans z2
    refine W_loop (α := Nat × List Nat × Nat) (fun k e w => k.1 ≤ (dig x).length ∧ e.size = 60 ∧ Ext h w ∧ h.size + 4 ≤ w.size ∧ w.get (h.size + 2) = .cells [.slice none 0 0] 1 ∧ w.get (h.size + 3) = .cells (lv k.2.1) 1 ∧
      e.get 4 = .pointer (some ⟨h.size + 2, 0, none⟩) ∧ e.get 5 = .slice a (dig x).length c ∧ e.get 6 = .slice b (dig y).length d ∧ e.get 7 = .slice (some ⟨h.size + 3, 0, none⟩) ((dig x).length + 1) ((dig x).length + 1) ∧ e.get 8 = .int .u32 (k.2.2 : Int) ∧
      e.get 27 = .int .i64 (((dig x).length : Nat) : Int) ∧ e.get 28 = .int .i64 (k.1 : Int) ∧
      k.2.1.length = (dig x).length + 1 ∧ Small k.2.1 ∧ k.2.2 ≤ 1 ∧ (∀ j, k.1 ≤ j → j ≤ (dig x).length → k.2.1[j]? = some 0) ∧ val k.2.1 + k.2.2 * B ^ k.1 = val ((dig x).take k.1) + val ((dig y).take k.1)) (fun k => (dig x).length - k.1) (0, List.replicate ((dig x).length + 1) 0, 0) ?_ ?_
    · refine ⟨Nat.zero_le _, by simp +decide only [go_sem], hx.trans hx1, by omega, zz2, by rw [show h.size + 3 = w0.size by omega]; exact z3, by simp +decide only [go_sem], by simp +decide only [go_sem], by simp +decide only [go_sem], by simp +decide only [go_sem, hs], by simp +decide only [go_sem]; rfl, by simp +decide only [go_sem], by simp +decide only [go_sem]; rfl, by simp, Small.replicate _, by simp, ?_, ?_⟩
      · intro j hj1 hj2
        simp only
        rw [List.getElem?_replicate, if_pos (by omega)]
      · simp [val_replicate, val_nil]
    · rintro ⟨k, os, cy⟩ e w ⟨hk, hsz, hxw, hws, g2, gb, e4, e5, e6, e7, e8, e27, e28, hol, hos, hcy, hz, hval⟩ next
      simp only at hk g2 gb e8 e28 hol hos hcy hz hval
      by_cases hkn : (k : Int) < (((dig x).length : Nat) : Int)
      case neg =>
        have hkk : k = (dig x).length := by omega
        subst hkk
        have hk1 : (dig x).length + 1 ≤ (lv os).length := by rw [lv_length]; omega
        have hput := lv_put (l := os) (k := (dig x).length) (by omega) cy
        obtain ⟨w2, e2, hx2, hs2, z5, z6⟩ := put1 hxw (show h.size ≤ h.size + 3 by omega) (.cells (lv (os.set (dig x).length cy)) 1)
        have j1 : (0 : Int) ≤ (((dig x).length : Nat) : Int) := by omega
        have j2 : (((dig x).length : Nat) : Int) < (((dig x).length + 1 : Nat) : Int) := by omega
        have j3 : h.size ≤ h.size + 3 := by omega
        simp +decide only [go_sem, W_region, Wx_some, Nat.reduceAdd, Nat.reduceMul, Nat.reduceEqDiff, Int.reduceAdd, Int.reduceSub, Int.reduceMul, Int.reduceNeg, Int.reduceToNat, hsz, e4, e5, e6, e7, e8, e27, e28, hkn, j1, j2, j3, gb, Nat.mul_one, Nat.zero_add, Int.toNat_natCast, List.length_cons, List.length_nil, hk1, hput, e2]
        have hcB : cy < B := by rw [B_eq]; omega
        refine W_call Kok (by omega) (trim_run (os.set (dig x).length cy) w2 (a := some ⟨h.size + 3, 0, none⟩) (n := (dig x).length + 1) (c := (dig x).length + 1) (.inr (.inr ⟨h.size + 3, 0, _, rfl, by omega, by omega, by rw [z5]; rfl, by rw [lv_length, List.length_set]; omega, by rw [List.drop_zero, List.take_of_length_le (by rw [lv_length, List.length_set]; omega)], .inl ⟨by omega, by simp only [big]; omega⟩⟩)) (hos.set hcB _) (by omega)) fun v w3 hx3 hv => ?_
        have hfin : val (os.set (dig x).length cy) = x + y := by
          have q1 := val_set (hz _ (Nat.le_refl _) (Nat.le_refl _)) cy
          rw [List.take_of_length_le (Nat.le_refl _), List.take_of_length_le hle, val_dig, val_dig] at hval
          omega
        rw [hfin] at hv
        obtain ⟨a3, c3, rfl, s3⟩ := hv.open
        have z7 : w3.get (h.size + 2) = .cells [.slice none 0 0] 1 := (hx3.2 _ (by omega)).trans ((z6 _ (by omega)).trans g2)
        have hz1 := hx3.1
        obtain ⟨w4, e9, hx4, hs4, z8, z9⟩ := put1 (hx2.trans hx3) (show h.size ≤ h.size + 2 by omega) (.cells [.slice a3 (dig (x + y)).length c3] 1)
        have j4 : h.size ≤ h.size + 2 := by omega
        simp +decide only [go_sem, W_region, Wx_some, Nat.reduceAdd, Nat.reduceMul, Nat.reduceEqDiff, Int.reduceAdd, Int.reduceSub, Int.reduceMul, Int.reduceNeg, Int.reduceToNat, hsz, e4, z7, j4, e9, z8]
        exact hv.over z7 (by rfl) (by rfl) hs4 z8 z9
      have hkn' : k < (dig x).length := by omega
      obtain ⟨p, hp⟩ : ∃ p, (dig x)[k]? = some p := ⟨_, List.getElem?_eq_getElem hkn'⟩
      obtain ⟨b1, o1, cs1, rfl, hb1, hg1, hc1⟩ := (s.ext hxw).one (lv_get hp)
      have hpB : p < 4294967296 := dig_small x p (List.mem_of_getElem? hp)
      have j1 : (0 : Int) ≤ (k : Int) := by omega
      have j2 : (k : Int) < (((dig x).length + 1 : Nat) : Int) := by omega
      have j3 : h.size ≤ h.size + 3 := by omega
      have j5 : IntKind.i64.wrap ((k : Int) + 1) = ((k + 1 : Nat) : Int) := by rw [wrap_i64 (by omega) (by omega)]; omega
      have hk1 : k + 1 ≤ (lv os).length := by rw [lv_length]; omega
      obtain ⟨q, hq, hqB⟩ : ∃ q, q = ((dig y)[k]?).getD 0 ∧ q < 4294967296 := by
        refine ⟨_, rfl, ?_⟩
        cases hy : (dig y)[k]? with
        | none => simp
        | some q => exact dig_small y q (List.mem_of_getElem? hy)
      have hput := lv_put (l := os) (k := k) (by omega) ((p + q + cy) % 4294967296)
      have fin : ∀ w2 : Heap, Ext w w2 → ∃ w3, w2.set (h.size + 3) (.cells (lv (os.set k ((p + q + cy) % 4294967296))) 1) = w3 ∧ Ext h w3 ∧ h.size + 4 ≤ w3.size ∧ w3.get (h.size + 2) = .cells [.slice none 0 0] 1 ∧ w3.get (h.size + 3) = .cells (lv (os.set k ((p + q + cy) % 4294967296))) 1 := by
        intro w2 hx2
        obtain ⟨w3, e2, hx3, hs3, z5, z6⟩ := put1 (hxw.trans hx2) (show h.size ≤ h.size + 3 by omega) (.cells (lv (os.set k ((p + q + cy) % 4294967296))) 1)
        exact ⟨w3, e2, hx3, by have := hx2.1; omega, (z6 _ (by omega)).trans ((hx2.2 _ (by omega)).trans g2), z5⟩
      by_cases hkm : (k : Int) < (((dig y).length : Nat) : Int)
      · obtain ⟨b2, o2, cs2, rfl, hb2, hg2, hc2⟩ := (t.ext hxw).one (lv_get (i := k) (d := q) (by rw [hq, List.getElem?_eq_getElem (show k < (dig y).length by omega)]; rfl))
        simp +decide only [go_sem, W_region, Wx_some, Nat.reduceAdd, Nat.reduceMul, Nat.reduceEqDiff, Int.reduceAdd, Int.reduceSub, Int.reduceMul, Int.reduceNeg, Int.reduceToNat, hsz, e4, e5, e6, e7, e8, e27, e28, hkn, hkm, j1, j2, j3, Nat.mul_one, Nat.zero_add, Int.toNat_natCast, hg1, hc1, hg2, hc2]
        refine W_call Kok (by omega) (add32_run p q cy w hpB hqB hcy) fun v w2 hx2 hv => ?_
        subst hv
        obtain ⟨w3, e2, hx3, hs3, z5, z6⟩ := fin w2 hx2
        have gb2 : w2.get (h.size + 3) = .cells (lv os) 1 := (hx2.2 _ (by omega)).trans gb
        simp +decide only [go_sem, W_region, Wx_some, Nat.reduceAdd, Nat.reduceMul, Nat.reduceEqDiff, Int.reduceAdd, Int.reduceSub, Int.reduceMul, Int.reduceNeg, Int.reduceToNat, hsz, e4, e5, e6, e7, e8, e27, e28, j1, j2, j3, gb2, Nat.mul_one, Nat.zero_add, Int.toNat_natCast, List.length_cons, List.length_nil, hk1, hput, e2, j5]
        refine next (k + 1, os.set k ((p + q + cy) % 4294967296), (p + q + cy) / 4294967296) _ _ ⟨by simp only; omega, by simp +decide only [go_sem, hsz], hx3, hs3, z5, z6, by simp +decide only [go_sem, hsz, e4], by simp +decide only [go_sem, hsz, e5], by simp +decide only [go_sem, hsz, e6], by simp +decide only [go_sem, hsz, e7], by simp +decide only [go_sem, hsz], by simp +decide only [go_sem, hsz, e27], by simp +decide only [go_sem, hsz], by simp [hol], hos.set (by rw [B_eq]; exact Nat.mod_lt _ (by omega)) _, by simp only; omega, ?_, add_step hp hq (hz k (by omega) (by omega)) hval⟩ (by simp only; omega)
        intro j hj1 hj2
        simp only at hj1 ⊢
        rw [List.getElem?_set_ne (by omega)]
        exact hz j (by omega) hj2
      · have hq0 : q = 0 := by rw [hq, List.getElem?_eq_none (by omega)]; rfl
        have hs' : p + q + cy = p + cy := by omega
        have hst := add_step hp hq (hz k (by omega) (by omega)) hval
        simp only [hs'] at hput fin hst
        simp +decide only [go_sem, W_region, Wx_some, Nat.reduceAdd, Nat.reduceMul, Nat.reduceEqDiff, Int.reduceAdd, Int.reduceSub, Int.reduceMul, Int.reduceNeg, Int.reduceToNat, hsz, e4, e5, e6, e7, e8, e27, e28, hkn, hkm, j1, j2, j3, Nat.mul_one, Nat.zero_add, Int.toNat_natCast, hg1, hc1]
        refine W_call Kok (by omega) (add32_run p 0 cy w hpB (by omega) hcy) fun v w2 hx2 hv => ?_
        rw [Nat.add_zero] at hv
        subst hv
        obtain ⟨w3, e2, hx3, hs3, z5, z6⟩ := fin w2 hx2
        have gb2 : w2.get (h.size + 3) = .cells (lv os) 1 := (hx2.2 _ (by omega)).trans gb
        simp +decide only [go_sem, W_region, Wx_some, Nat.reduceAdd, Nat.reduceMul, Nat.reduceEqDiff, Int.reduceAdd, Int.reduceSub, Int.reduceMul, Int.reduceNeg, Int.reduceToNat, hsz, e4, e5, e6, e7, e8, e27, e28, j1, j2, j3, gb2, Nat.mul_one, Nat.zero_add, Int.toNat_natCast, List.length_cons, List.length_nil, hk1, hput, e2, j5]
        refine next (k + 1, os.set k ((p + cy) % 4294967296), (p + cy) / 4294967296) _ _ ⟨by simp only; omega, by simp +decide only [go_sem, hsz], hx3, hs3, z5, z6, by simp +decide only [go_sem, hsz, e4], by simp +decide only [go_sem, hsz, e5], by simp +decide only [go_sem, hsz, e6], by simp +decide only [go_sem, hsz, e7], by simp +decide only [go_sem, hsz], by simp +decide only [go_sem, hsz, e27], by simp +decide only [go_sem, hsz], by simp [hol], hos.set (by rw [B_eq]; exact Nat.mod_lt _ (by omega)) _, by simp only; omega, ?_, hst⟩ (by simp only; omega)
        intro j hj1 hj2
        simp only at hj1 ⊢
        rw [List.getElem?_set_ne (by omega)]
        exact hz j (by omega) hj2

/-- One limb more of a product. -/
theorem mul_step {Y os : List Nat} {i j p q o cy V : Nat} (hY : Y[j]? = some q) (ho : os[i + j]? = some o) (hv : val os + cy * B ^ (i + j) = V + p * val (Y.take j) * B ^ i) :
    val (os.set (i + j) ((p * q + o + cy) % 4294967296)) + (p * q + o + cy) / 4294967296 * B ^ (i + (j + 1)) = V + p * val (Y.take (j + 1)) * B ^ i := by
  have h1 := val_set ho ((p * q + o + cy) % 4294967296)
  have h2 := val_take_succ hY
  rw [h2]
  have h4 : (p * q + o + cy) % 4294967296 + B * ((p * q + o + cy) / 4294967296) = p * q + o + cy := by
    rw [B_eq]
    exact Nat.mod_add_div _ _
  rw [show i + (j + 1) = i + j + 1 by omega, Nat.pow_succ]
  rw [Nat.pow_add] at *
  generalize (p * q + o + cy) % 4294967296 = r at *
  generalize (p * q + o + cy) / 4294967296 = t at *
  grind

theorem mul_run (x y : Nat) (h : Heap) {v u : Value} (hv : NatV h v x) (hu : NatV h u y) (hl1 : (dig x).length ≤ 549755813887) (hl2 : (dig y).length ≤ 549755813887) : Runs K f_nat_Nat_Mul #[v, u] h fun r w => NatV w r (x * y) := by
  obtain ⟨a, c, rfl, s⟩ := hv.open
  obtain ⟨b, d, rfl, t⟩ := hu.open
  refine Runs.of Kok (Does.intro rfl (by decide +kernel) F_nat_Nat_Mul rfl ?_)
  obtain ⟨w0, e0, hx, hs, z0, z1, z2⟩ := lay3 h (.cells [.slice a (dig x).length c] 1) (.cells [.slice b (dig y).length d] 1) (.cells [.slice none 0 0] 1)
  have i1 : IntKind.i64.wrap ((((dig x).length : Nat) : Int) + (((dig y).length : Nat) : Int)) = (((dig x).length + (dig y).length : Nat) : Int) := iadd (by omega)
  have m1 := mk_zero (sz := w0.size) (N := (dig x).length + (dig y).length) (by omega)
  obtain ⟨w1, e1, hx1, hs1, z3⟩ := lay1 w0 (.cells (lv (List.replicate ((dig x).length + (dig y).length) 0)) 1)
  have zz0 : w1.get h.size = _ := (hx1.2 _ (by omega)).trans z0
  have zz1 : w1.get (h.size + 1) = _ := (hx1.2 _ (by omega)).trans z1
  have zz2 : w1.get (h.size + 2) = _ := (hx1.2 _ (by omega)).trans z2
  have zz3 : w1.get (h.size + 3) = _ := (show w1.get (h.size + 3) = w1.get w0.size by rw [hs]).trans z3
  simp +decide only [go_sem, W_region, Wx_some, Nat.reduceAdd, Nat.reduceMul, Nat.reduceEqDiff, Int.reduceAdd, Int.reduceSub, Int.reduceMul, Int.reduceNeg, Int.reduceToNat, e0, z0, z1, i1, m1, e1, zz0]
  have j3 : h.size ≤ h.size + 3 := by omega
  refine W_loop (α := Nat × List Nat) (fun k e w => k.1 ≤ (dig x).length ∧ e.size = 73 ∧ Ext h w ∧ w.size = h.size + 4 ∧ w.get h.size = .cells [.slice a (dig x).length c] 1 ∧ w.get (h.size + 1) = .cells [.slice b (dig y).length d] 1 ∧ w.get (h.size + 2) = .cells [.slice none 0 0] 1 ∧ w.get (h.size + 3) = .cells (lv k.2) 1 ∧
    e.get 3 = .pointer (some ⟨h.size + 1, 0, none⟩) ∧ e.get 4 = .pointer (some ⟨h.size + 2, 0, none⟩) ∧ e.get 5 = .slice (some ⟨h.size + 3, 0, none⟩) ((dig x).length + (dig y).length) ((dig x).length + (dig y).length) ∧
    e.get 21 = .slice a (dig x).length c ∧ e.get 22 = .int .i64 (((dig x).length : Nat) : Int) ∧ e.get 23 = .int .i64 (k.1 : Int) ∧
    k.2.length = (dig x).length + (dig y).length ∧ Small k.2 ∧ (∀ j, k.1 + (dig y).length ≤ j → j < (dig x).length + (dig y).length → k.2[j]? = some 0) ∧ val k.2 = val ((dig x).take k.1) * y) (fun k => (dig x).length - k.1) (0, List.replicate ((dig x).length + (dig y).length) 0) ?_ ?_
  · refine ⟨Nat.zero_le _, by simp +decide only [go_sem], hx.trans hx1, by omega, zz0, zz1, zz2, zz3, by simp +decide only [go_sem], by simp +decide only [go_sem], by simp +decide only [go_sem, hs], by simp +decide only [go_sem], by simp +decide only [go_sem], by simp +decide only [go_sem]; rfl, by simp, Small.replicate _, ?_, ?_⟩
    · intro j hj1 hj2
      simp only
      rw [List.getElem?_replicate, if_pos (by omega)]
    · simp [val_replicate, val_nil]
  · rintro ⟨i, os⟩ e w ⟨hi, hsz, hxw, hws, g0, g1, g2, gb, e3, e4, e5, e21, e22, e23, hol, hos, hz, hval⟩ next
    simp only at hi g2 gb e23 hol hos hz hval
    by_cases hin : (i : Int) < (((dig x).length : Nat) : Int)
    case neg =>
      have hii : i = (dig x).length := by omega
      subst hii
      simp +decide only [go_sem, W_region, Wx_some, Nat.reduceAdd, Nat.reduceMul, Nat.reduceEqDiff, Int.reduceAdd, Int.reduceSub, Int.reduceMul, Int.reduceNeg, Int.reduceToNat, hsz, e4, e5, e22, e23, hin]
      refine W_call Kok (by omega) (trim_run os w (Sl.made (by omega) gb (by rw [lv_length]; omega) (by simp only [big]; omega)) hos (by omega)) fun v w3 hx3 hv => ?_
      rw [hval, List.take_of_length_le (Nat.le_refl _), val_dig] at hv
      obtain ⟨a3, c3, rfl, s3⟩ := hv.open
      have z7 : w3.get (h.size + 2) = .cells [.slice none 0 0] 1 := (hx3.2 _ (by omega)).trans g2
      have hz1 := hx3.1
      obtain ⟨w4, e9, hx4, hs4, z8, z9⟩ := put1 (hxw.trans hx3) (show h.size ≤ h.size + 2 by omega) (.cells [.slice a3 (dig (x * y)).length c3] 1)
      have j4 : h.size ≤ h.size + 2 := by omega
      simp +decide only [go_sem, W_region, Wx_some, Nat.reduceAdd, Nat.reduceMul, Nat.reduceEqDiff, Int.reduceAdd, Int.reduceSub, Int.reduceMul, Int.reduceNeg, Int.reduceToNat, hsz, e4, z7, j4, e9, z8]
      exact hv.over z7 (by rfl) (by rfl) hs4 z8 z9
    have hin' : i < (dig x).length := by omega
    obtain ⟨p, hp⟩ : ∃ p, (dig x)[i]? = some p := ⟨_, List.getElem?_eq_getElem hin'⟩
    obtain ⟨b1, o1, cs1, rfl, hb1, hg1, hc1⟩ := (s.ext hxw).one (lv_get hp)
    have hpB : p < 4294967296 := dig_small x p (List.mem_of_getElem? hp)
    have k1 : (0 : Int) ≤ (i : Int) := by omega
    have k5 : IntKind.i64.wrap ((i : Int) + 1) = ((i + 1 : Nat) : Int) := by rw [wrap_i64 (by omega) (by omega)]; omega
    simp +decide only [go_sem, W_region, Wx_some, Nat.reduceAdd, Nat.reduceMul, Nat.reduceEqDiff, Int.reduceAdd, Int.reduceSub, Int.reduceMul, Int.reduceNeg, Int.reduceToNat, hsz, e3, e4, e5, e21, e22, e23, hin, k1, Nat.mul_one, Nat.zero_add, Int.toNat_natCast, hg1, hc1, g1]
    refine W_loop (α := Nat × List Nat × Nat) (fun k e w => k.1 ≤ (dig y).length ∧ e.size = 73 ∧ Ext h w ∧ w.size = h.size + 4 ∧ w.get h.size = .cells [.slice (some ⟨b1, o1, none⟩) (dig x).length c] 1 ∧ w.get (h.size + 1) = .cells [.slice b (dig y).length d] 1 ∧ w.get (h.size + 2) = .cells [.slice none 0 0] 1 ∧ w.get (h.size + 3) = .cells (lv k.2.1) 1 ∧
      e.get 3 = .pointer (some ⟨h.size + 1, 0, none⟩) ∧ e.get 4 = .pointer (some ⟨h.size + 2, 0, none⟩) ∧ e.get 5 = .slice (some ⟨h.size + 3, 0, none⟩) ((dig x).length + (dig y).length) ((dig x).length + (dig y).length) ∧
      e.get 6 = .int .i64 (i : Int) ∧ e.get 7 = .int .u32 (p : Int) ∧ e.get 8 = .int .u64 (k.2.2 : Int) ∧
      e.get 21 = .slice (some ⟨b1, o1, none⟩) (dig x).length c ∧ e.get 22 = .int .i64 (((dig x).length : Nat) : Int) ∧ e.get 23 = .int .i64 (i : Int) ∧ e.get 29 = .slice b (dig y).length d ∧ e.get 30 = .int .i64 (((dig y).length : Nat) : Int) ∧ e.get 31 = .int .i64 (k.1 : Int) ∧
      k.2.1.length = (dig x).length + (dig y).length ∧ Small k.2.1 ∧ k.2.2 < 4294967296 ∧ (∀ j, i + (dig y).length ≤ j → j < (dig x).length + (dig y).length → k.2.1[j]? = some 0) ∧
      val k.2.1 + k.2.2 * B ^ (i + k.1) = val os + p * val ((dig y).take k.1) * B ^ i) (fun k => (dig y).length - k.1) (0, os, 0) ?_ ?_
    · refine ⟨Nat.zero_le _, by simp +decide only [go_sem, hsz], hxw, hws, g0, g1, g2, gb, by simp +decide only [go_sem, hsz, e3], by simp +decide only [go_sem, hsz, e4], by simp +decide only [go_sem, hsz, e5], by simp +decide only [go_sem, hsz], by simp +decide only [go_sem, hsz], by simp +decide only [go_sem, hsz]; rfl, by simp +decide only [go_sem, hsz, e21], by simp +decide only [go_sem, hsz, e22], by simp +decide only [go_sem, hsz, e23], by simp +decide only [go_sem, hsz], by simp +decide only [go_sem, hsz], by simp +decide only [go_sem, hsz]; rfl, hol, hos, by simp only; omega, hz, by simp [val_nil]⟩
    · rintro ⟨j, os', cy⟩ e w ⟨hj, hsz, hxw, hws, g0, g1, g2, gb, e3, e4, e5, e6, e7, e8, e21, e22, e23, e29, e30, e31, hol, hos, hcy, hz, hval2⟩ next2
      simp only at hj gb e8 e31 hol hos hcy hz hval2
      by_cases hjm : (j : Int) < (((dig y).length : Nat) : Int)
      case neg =>
        have hjj : j = (dig y).length := by omega
        subst hjj
        have k2 : IntKind.i64.wrap ((i : Int) + (((dig y).length : Nat) : Int)) = ((i + (dig y).length : Nat) : Int) := iadd (by omega)
        have k3 : (0 : Int) ≤ ((i + (dig y).length : Nat) : Int) := by omega
        have k4 : ((i + (dig y).length : Nat) : Int) < (((dig x).length + (dig y).length : Nat) : Int) := by omega
        have k6 : cy % 4294967296 = cy := by omega
        have hk1 : i + (dig y).length + 1 ≤ (lv os').length := by rw [lv_length]; omega
        have hput := lv_put (l := os') (k := i + (dig y).length) (by omega) cy
        obtain ⟨w2, e2, hx2, hs2, z5, z6⟩ := put1 hxw (show h.size ≤ h.size + 3 by omega) (.cells (lv (os'.set (i + (dig y).length) cy)) 1)
        simp +decide only [go_sem, W_region, Wx_some, Nat.reduceAdd, Nat.reduceMul, Nat.reduceEqDiff, Int.reduceAdd, Int.reduceSub, Int.reduceMul, Int.reduceNeg, Int.reduceToNat, hsz, e3, e4, e5, e6, e7, e8, e21, e22, e23, e29, e30, e31, hjm, g1, k2, k3, k4, j3, w32, k6, Nat.mul_one, Nat.zero_add, Int.toNat_natCast, gb, List.length_cons, List.length_nil, hk1, hput, e2, k5]
        have hcB : cy < B := by rw [B_eq]; omega
        refine next (i + 1, os'.set (i + (dig y).length) cy) _ _ ⟨by simp only; omega, by simp +decide only [go_sem, hsz], hx2, by omega, (z6 _ (by omega)).trans g0, (z6 _ (by omega)).trans g1, (z6 _ (by omega)).trans g2, z5, by simp +decide only [go_sem, hsz, e3], by simp +decide only [go_sem, hsz, e4], by simp +decide only [go_sem, hsz, e5], by simp +decide only [go_sem, hsz, e21], by simp +decide only [go_sem, hsz, e22], by simp +decide only [go_sem, hsz], by simp [hol], hos.set hcB _, ?_, ?_⟩ (by simp only; omega)
        · intro j hj1 hj2
          simp only at hj1 ⊢
          rw [List.getElem?_set_ne (by omega)]
          exact hz j (by omega) hj2
        · simp only
          have q1 := val_set (hz _ (Nat.le_refl _) (by omega)) cy
          rw [List.take_of_length_le (Nat.le_refl _), val_dig] at hval2
          rw [val_take_succ hp]
          have q2 : val ((dig x).take i) * y + p * y * B ^ i = (val ((dig x).take i) + p * B ^ i) * y := by grind
          omega
      have hjm' : j < (dig y).length := by omega
      obtain ⟨q, hq⟩ : ∃ q, (dig y)[j]? = some q := ⟨_, List.getElem?_eq_getElem hjm'⟩
      obtain ⟨b2, o2, cs2, rfl, hb2, hg2, hc2⟩ := (t.ext hxw).one (lv_get hq)
      have hqB : q < 4294967296 := dig_small y q (List.mem_of_getElem? hq)
      obtain ⟨o, ho⟩ : ∃ o, os'[i + j]? = some o := ⟨_, List.getElem?_eq_getElem (by omega)⟩
      have hoB : o < 4294967296 := hos.get ho
      have hpq : p * q ≤ 4294967295 * 4294967295 := Nat.mul_le_mul (by omega) (by omega)
      have l1 : (0 : Int) ≤ (j : Int) := by omega
      have k2 : IntKind.i64.wrap ((i : Int) + (j : Int)) = ((i + j : Nat) : Int) := iadd (by omega)
      have k3 : (0 : Int) ≤ ((i + j : Nat) : Int) := by omega
      have k4 : ((i + j : Nat) : Int) < (((dig x).length + (dig y).length : Nat) : Int) := by omega
      have k7 : IntKind.i64.wrap ((j : Int) + 1) = ((j + 1 : Nat) : Int) := by rw [wrap_i64 (by omega) (by omega)]; omega
      have hk1 : i + j + 1 ≤ (lv os').length := by rw [lv_length]; omega
      have hget : (lv os')[i + j]? = some (.int .u32 (o : Int)) := lv_get ho
      have hput := lv_put (l := os') (k := i + j) (by omega) ((p * q + o + cy) % 4294967296)
      obtain ⟨w2, e2, hx2, hs2, z5, z6⟩ := put1 hxw (show h.size ≤ h.size + 3 by omega) (.cells (lv (os'.set (i + j) ((p * q + o + cy) % 4294967296))) 1)
      simp +decide only [go_sem, W_region, Wx_some, Nat.reduceAdd, Nat.reduceMul, Nat.reduceEqDiff, Int.reduceAdd, Int.reduceSub, Int.reduceMul, Int.reduceNeg, Int.reduceToNat, hsz, e3, e4, e5, e6, e7, e8, e21, e22, e23, e29, e30, e31, hjm, g1, k2, k3, k4, l1, j3, hg2, hc2, w64 (show p < 18446744073709551616 by omega), w64 (show q < 18446744073709551616 by omega), w64 (show o < 18446744073709551616 by omega), wmul (show p * q < 18446744073709551616 by omega), wadd (show p * q + o < 18446744073709551616 by omega), wadd (show p * q + o + cy < 18446744073709551616 by omega), w32, ishr32, Nat.mul_one, Nat.zero_add, Int.toNat_natCast, gb, hget, List.length_cons, List.length_nil, hk1, hput, e2, k7]
      refine next2 (j + 1, os'.set (i + j) ((p * q + o + cy) % 4294967296), (p * q + o + cy) / 4294967296) _ _ ⟨by simp only; omega, by simp +decide only [go_sem, hsz], hx2, by omega, (z6 _ (by omega)).trans g0, (z6 _ (by omega)).trans g1, (z6 _ (by omega)).trans g2, z5, by simp +decide only [go_sem, hsz, e3], by simp +decide only [go_sem, hsz, e4], by simp +decide only [go_sem, hsz, e5], by simp +decide only [go_sem, hsz, e6], by simp +decide only [go_sem, hsz, e7], by simp +decide only [go_sem, hsz], by simp +decide only [go_sem, hsz, e21], by simp +decide only [go_sem, hsz, e22], by simp +decide only [go_sem, hsz, e23], by simp +decide only [go_sem, hsz, e29], by simp +decide only [go_sem, hsz, e30], by simp +decide only [go_sem, hsz], by simp [hol], hos.set (by rw [B_eq]; exact Nat.mod_lt _ (by omega)) _, by simp only; omega, ?_, mul_step hq ho hval2⟩ (by simp only; omega)
      intro j' hj1 hj2
      simp only at hj1 ⊢
      rw [List.getElem?_set_ne (by omega)]
      exact hz j' (by omega) hj2
end Go.Proofs.YtjlaenglmdpboaaGreat.N2
