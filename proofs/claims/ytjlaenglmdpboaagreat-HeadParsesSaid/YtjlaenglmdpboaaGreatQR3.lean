/- Proved here: the document's quotient, rest and greatest common divisor of rows of digits. -/
import Derived.Test.YtjlaenglmdpboaaGreatQR2
namespace Go.Proofs.YtjlaenglmdpboaaGreat.R3
open Go Go.Im Go.Im.Limbs Go.Im.Dec Go.Proofs Go.RowKit Go.Proofs.YtjlaenglmdpboaaGreat.Hd Go.Proofs.YtjlaenglmdpboaaGreat.N12 Go.Proofs.YtjlaenglmdpboaaGreat.R1 Go.Proofs.YtjlaenglmdpboaaGreat.R2
set_option maxRecDepth 100000
set_option linter.unusedSimpArgs false
set_option linter.unusedVariables false

theorem quo_step {p B d n : Nat} (hB : 0 < B) (h1 : n * B ≤ p % B * 10 + d) (h2 : p % B * 10 + d - n * B < B) : (p * 10 + d) / B = p / B * 10 + n ∧ (p * 10 + d) % B = p % B * 10 + d - n * B := by
  have e1 : p * 10 + d = (p % B * 10 + d - n * B) + B * (p / B * 10 + n) := by
    have e2 := Nat.mod_add_div p B
    have e3 : B * (p / B * 10 + n) = 10 * (B * (p / B)) + n * B := by rw [Nat.mul_add, Nat.mul_comm n B, ← Nat.mul_assoc, Nat.mul_comm _ 10]
    rw [e3]
    omega
  rw [e1]
  constructor
  · rw [Nat.add_mul_div_left _ _ hB, Nat.div_eq_of_lt h2, Nat.zero_add]
  · rw [Nat.add_mul_mod_self_left, Nat.mod_eq_of_lt h2]

theorem divmod_run (A B : Nat) (h : Heap) (hB : B ≠ 0) (hla : (ds A).length ≤ 200000) (hlb : (ds B).length ≤ 200000) :
    Runs K f_ref01_DivMod #[.string (text (ds A)), .string (text (ds B))] h fun r _ => r = .tuple #[.string (text (ds (A / B))), .string (text (ds (A % B)))] := by
  refine Runs.of Kok (Does.intro rfl (by decide +kernel) F_ref01_DivMod rfl ?_)
  obtain ⟨la, hla'⟩ : ∃ la, la = (ds A).length := ⟨_, rfl⟩
  have hB0 : 0 < B := Nat.pos_of_ne_zero hB
  have hBlt := ds_lt_pow B
  have hlb1 := ds_pos B
  have m1 : imk h.size 1 1 [.int .u8 0] 0 (la : Int) = some (.slice (some ⟨h.size, 0, none⟩) 0 la, some (.cells (List.replicate la (.int .u8 0)) 1)) := by
    rw [imk_ok (by omega) (by omega) (by omega) (by omega)]
    simp [List.flatten_replicate_singleton]
  obtain ⟨w1, e1', x1, hs1, g1⟩ := lay1 h (.cells (List.replicate la (.int .u8 0)) 1)
  simp +decide only [go_sem, W_region, Wx_some, Nat.reduceAdd, Nat.reduceMul, Nat.reduceEqDiff, Int.reduceAdd, Int.reduceSub, Int.reduceMul, Int.reduceNeg, Int.reduceToNat, ← hla', m1, e1']
  refine W_loop (α := Nat × List UInt8) (fun k e w => k.1 ≤ la ∧ e.size = 50 ∧ Ext h w ∧ h.size < w.size ∧ e.get 0 = .string (text (ds A)) ∧ e.get 1 = .string (text (ds B)) ∧ e.get 6 = .slice (some ⟨h.size, 0, none⟩) k.1 la ∧
    e.get 7 = .string (text (ds (dec ((ds A).take k.1) % B))) ∧ e.get 8 = .int .i64 (k.1 : Int) ∧ w.get h.size = .cells (byteCells k.2 ++ List.replicate (la - k.1) (.int .u8 0)) 1 ∧ k.2.length = k.1 ∧ Digs k.2 ∧ dec k.2 = dec ((ds A).take k.1) / B) (fun k => la - k.1) (0, []) ?_ ?_
  · refine ⟨Nat.zero_le _, by simp +decide only [go_sem], x1, by omega, by simp +decide only [go_sem], by simp +decide only [go_sem], by simp +decide only [go_sem], ?_, by simp +decide only [go_sem]; rfl, by simp [g1, byteCells], rfl, fun b hb => by simp at hb, by simp [dec_nil]⟩
    simp +decide only [go_sem, W_region, Wx_some, Nat.reduceAdd, Nat.reduceMul, Nat.reduceEqDiff, Int.reduceAdd, Int.reduceSub, Int.reduceMul, Int.reduceNeg, Int.reduceToNat, List.take_zero, dec_nil, Nat.zero_mod, ds_zero]
    rfl
  · rintro ⟨i, q⟩ e w ⟨hi, hsz, hxw, hws, e0, e1, e6, e7, e8, gw, hql, hqd, hqv⟩ next
    simp only at hi e6 e7 e8 gw hql hqd hqv
    obtain ⟨p, hp⟩ : ∃ p, p = dec ((ds A).take i) := ⟨_, rfl⟩
    rw [← hp] at e7 hqv
    by_cases hc : (i : Int) < (la : Int)
    · obtain ⟨c, hcd⟩ : ∃ c, (ds A)[i]? = some c := ⟨_, List.getElem?_eq_getElem (by omega)⟩
      have hcr := ds_digs A c (List.mem_of_getElem? hcd)
      obtain ⟨hil, hcg⟩ := List.getElem?_eq_some_iff.1 hcd
      have htk : (ds A).take (i + 1) = (ds A).take i ++ [c] := by rw [List.take_succ_eq_append_getElem hil, hcg]
      have hp' : dec ((ds A).take (i + 1)) = p * 10 + (c.toNat - 48) := by rw [htk, dec_snoc, ← hp]
      obtain ⟨d, hd⟩ : ∃ d, d = c.toNat - 48 := ⟨_, rfl⟩
      have hd9 : d ≤ 9 := by omega
      rw [← hd] at hp'
      have hpm := Nat.mod_lt p hB0
      have hdl : (ds (p % B)).length ≤ (ds B).length := ds_mono (by omega)
      have hcat : ∀ t, ibinop Tryz.prog .add t (.string (text (ds (p % B)))) (.string (text [c])) = some (.string (text (ds (p % B) ++ [c]))) := fun t => cat_ok (by simp; omega)
      have f1 : (0 : Int) ≤ (i : Int) := by omega
      have f2 : (0 : Int) ≤ ((i + 1 : Nat) : Int) := by omega
      have f3 : i ≤ i + 1 := by omega
      have f4 : i + 1 ≤ la := by omega
      have f5 : ((ds A).drop i).take (i + 1 - i) = [c] := by
        rw [List.drop_eq_getElem_cons hil, hcg, show i + 1 - i = 1 by omega]
        rfl
      have i1 : IntKind.i64.wrap ((i : Int) + 1) = ((i + 1 : Nat) : Int) := by rw [wrap_i64 (by omega) (by omega)]; omega
      simp +decide only [go_sem, W_region, Wx_some, Nat.reduceAdd, Nat.reduceMul, Nat.reduceEqDiff, Int.reduceAdd, Int.reduceSub, Int.reduceMul, Int.reduceNeg, Int.reduceToNat, ← hla', hsz, e0, e1, e6, e7, e8, hc, i1, f1, f2, f3, f4, f5, Int.toNat_natCast, hcat]
      have hdg : Digs (ds (p % B) ++ [c]) := by
        intro b hb
        rcases List.mem_append.1 hb with hb | hb
        · exact ds_digs _ b hb
        · rw [List.mem_singleton] at hb
          subst hb
          exact hcr
      refine W_call Kok hxw.1 (trim_ds_run hdg (by simp) w (by simp; omega)) fun r w2 x2 hr => ?_
      subst hr
      rw [dec_snoc, dec_ds, ← hd]
      obtain ⟨R, hR⟩ : ∃ R, R = p % B * 10 + d := ⟨_, rfl⟩
      rw [← hR]
      have hRB : R < 10 * B := by omega
      have hRl : (ds R).length ≤ (ds B).length + 1 := by
        refine ds_len ?_ (by omega)
        rw [Nat.pow_succ]
        omega
      simp +decide only [go_sem, W_region, Wx_some, Nat.reduceAdd, Nat.reduceMul, Nat.reduceEqDiff, Int.reduceAdd, Int.reduceSub, Int.reduceMul, Int.reduceNeg, Int.reduceToNat, hsz, e0, e1, e6, e7, e8]
      refine W_loop (α := Nat) (fun n e' w' => n * B ≤ R ∧ e'.size = 50 ∧ Ext w2 w' ∧ e'.get 0 = .string (text (ds A)) ∧ e'.get 1 = .string (text (ds B)) ∧ e'.get 6 = .slice (some ⟨h.size, 0, none⟩) i la ∧
        e'.get 7 = .string (text (ds (R - n * B))) ∧ e'.get 8 = .int .i64 (i : Int) ∧ e'.get 9 = .int .i64 (n : Int)) (fun n => R - n * B) 0 ?_ ?_
      · exact ⟨by simp, by simp +decide only [go_sem, hsz], Ext.refl _, by simp +decide only [go_sem, hsz, e0], by simp +decide only [go_sem, hsz, e1], by simp +decide only [go_sem, hsz, e6], by simp +decide only [go_sem, hsz, Nat.zero_mul, Nat.sub_zero], by simp +decide only [go_sem, hsz, e8], by simp +decide only [go_sem, hsz]; rfl⟩
      · rintro n e' w' ⟨hn, hsz, hx2, e0, e1, e6, e7, e8, e9⟩ next2
        have hx0 := hxw.trans (x2.trans hx2)
        have hn10 : n < 10 := by
          refine Nat.lt_of_not_le fun hh => ?_
          have : 10 * B ≤ n * B := Nat.mul_le_mul_right _ hh
          omega
        have hn10' : (n : Int) < 10 := by omega
        simp +decide only [go_sem, W_region, Wx_some, Nat.reduceAdd, Nat.reduceMul, Nat.reduceEqDiff, Int.reduceAdd, Int.reduceSub, Int.reduceMul, Int.reduceNeg, Int.reduceToNat, hsz, e0, e1, e6, e7, e8, e9]
        refine W_call Kok hx0.1 (cmp_run (R - n * B) B w') fun r w3 x3 hr => ?_
        by_cases hlt : R - n * B < B
        · rw [if_pos hlt] at hr
          subst hr
          obtain ⟨m, hm⟩ : ∃ m, la - i = m + 1 := ⟨la - i - 1, by omega⟩
          have hm2 : la - (i + 1) = m := by omega
          have gw3 : w3.get h.size = .cells (byteCells q ++ List.replicate (m + 1) (.int .u8 0)) 1 := by
            rw [← hm]
            exact ((x2.trans (hx2.trans x3)).2 _ hws).trans gw
          obtain ⟨w4, e4', x4, hs4, g4⟩ := lay1 w3 (.cells [.int .u8 ((48 + n : Nat) : Int)] 1)
          have hx3 := hx0.trans x3
          have hws3 : h.size < w3.size := by have := (x2.trans (hx2.trans x3)).1; omega
          have gw4 : w4.get h.size = _ := (x4.2 _ hws3).trans gw3
          have hroom := iapp_room (low := h.size) (bytes := 1) (o := 0) (n := i) (k := 1) (cap := la) (new := [.int .u8 ((48 + n : Nat) : Int)]) gw4 (Nat.le_refl _) (by omega) (by omega) (by omega) (by simp only [big]; omega) (by simp [byteCells]; omega)
          have hsp : splice (byteCells q ++ List.replicate (m + 1) (.int .u8 0)) (0 + i * 1) [.int .u8 ((48 + n : Nat) : Int)] = byteCells (q ++ [UInt8.ofNat (48 + n)]) ++ List.replicate m (.int .u8 0) := by
            have e1 := splice_room (xs := q) (z := .int .u8 0) (k := m) (x := UInt8.ofNat (48 + n))
            rw [of48 (by omega), hql] at e1
            rw [Nat.zero_add, Nat.mul_one]
            exact e1
          rw [hsp] at hroom
          obtain ⟨w5, e5', x5, hs5, g5, k5⟩ := put1 (hx3.trans x4) (Nat.le_refl _) (.cells (byteCells (q ++ [UInt8.ofNat (48 + n)]) ++ List.replicate m (.int .u8 0)) 1)
          have j1 : IntKind.i64.wrap (48 + (n : Int)) = ((48 + n : Nat) : Int) := by rw [wrap_i64 (by omega) (by omega)]; omega
          have j2 : IntKind.u8.wrap ((48 + n : Nat) : Int) = ((48 + n : Nat) : Int) := wrap_u8 (by omega) (by omega)
          have j3 : ¬ ((0 : Int) ≤ -1) := by omega
          simp +decide only [go_sem, W_region, Wx_some, Nat.reduceAdd, Nat.reduceMul, Nat.reduceEqDiff, Int.reduceAdd, Int.reduceSub, Int.reduceMul, Int.reduceNeg, Int.reduceToNat, hsz, e0, e1, e6, e7, e8, e9, hn10', j1, j2, j3, e4', g4, hroom, e5', i1]
          have hqs := quo_step (p := p) (d := d) (n := n) hB0 (by omega) (by omega)
          rw [← hR] at hqs
          refine next (i + 1, q ++ [UInt8.ofNat (48 + n)]) _ _ ⟨f4, by simp +decide only [go_sem, hsz], x5, by omega, by simp +decide only [go_sem, hsz, e0], by simp +decide only [go_sem, hsz, e1], by simp +decide only [go_sem, hsz], ?_, by simp +decide only [go_sem, hsz], by rw [hm2]; exact g5, by simp [hql], ?_, ?_⟩ (by simp only; omega)
          · rw [hp', hqs.2]
            simp +decide only [go_sem, W_region, Wx_some, Nat.reduceAdd, Nat.reduceMul, Nat.reduceEqDiff, Int.reduceAdd, Int.reduceSub, Int.reduceMul, Int.reduceNeg, Int.reduceToNat, hsz, e7]
          · intro b hb
            rcases List.mem_append.1 hb with hb | hb
            · exact hqd b hb
            · rw [List.mem_singleton] at hb
              subst hb
              rw [of48 (by omega)]
              omega
          · simp only
            rw [hp', hqs.1, dec_snoc, of48 (by omega), hqv]
            omega
        · have hz : ∃ z : Int, (if R - n * B < B then (-1 : Int) else if R - n * B = B then 0 else 1) = z ∧ 0 ≤ z := by
            rw [if_neg hlt]
            split
            · exact ⟨0, rfl, by omega⟩
            · exact ⟨1, rfl, by omega⟩
          obtain ⟨z, hz1, hz2⟩ := hz
          rw [hz1] at hr
          subst hr
          have i2 : IntKind.i64.wrap ((n : Int) + 1) = ((n + 1 : Nat) : Int) := by rw [wrap_i64 (by omega) (by omega)]; omega
          simp +decide only [go_sem, W_region, Wx_some, Nat.reduceAdd, Nat.reduceMul, Nat.reduceEqDiff, Int.reduceAdd, Int.reduceSub, Int.reduceMul, Int.reduceNeg, Int.reduceToNat, hsz, e0, e1, e6, e7, e8, e9, hz2, hn10']
          have hl3 : (ds (R - n * B)).length ≤ 900000 := by
            have := ds_mono (show R - n * B ≤ R by omega)
            omega
          refine W_call Kok (hx0.trans x3).1 (sub_run (R - n * B) B w3 (by omega) hl3) fun r w4 x4 hr => ?_
          subst hr
          have hs' : R - n * B - B = R - (n + 1) * B := by rw [Nat.add_mul, Nat.one_mul]; omega
          simp +decide only [go_sem, W_region, Wx_some, Nat.reduceAdd, Nat.reduceMul, Nat.reduceEqDiff, Int.reduceAdd, Int.reduceSub, Int.reduceMul, Int.reduceNeg, Int.reduceToNat, hsz, e0, e1, e6, e7, e8, e9, i2, hs']
          have hnn : (n + 1) * B ≤ R := by rw [Nat.add_mul, Nat.one_mul]; omega
          refine next2 (n + 1) _ _ ⟨hnn, by simp +decide only [go_sem, hsz], hx2.trans (x3.trans x4), by simp +decide only [go_sem, hsz, e0], by simp +decide only [go_sem, hsz, e1], by simp +decide only [go_sem, hsz, e6], by simp +decide only [go_sem, hsz], by simp +decide only [go_sem, hsz, e8], by simp +decide only [go_sem, hsz]⟩ ?_
          have : (n + 1) * B = n * B + B := by rw [Nat.add_mul, Nat.one_mul]
          omega
    · have hii : i = la := by omega
      subst hii
      have hla1 := ds_pos A
      have hfull : p = A := by rw [hp, hla', List.take_length, dec_ds]
      rw [hfull] at e7 hqv
      have hisl : isl (.cells (byteCells q ++ List.replicate (i - i) (.int .u8 0)) 1) 1 0 i = some (byteCells q) := by
        rw [isl_cells, if_pos ⟨rfl, by simp [byteCells]; omega⟩]
        simp only [List.drop_zero, Nat.mul_one]
        rw [Nat.sub_self, List.replicate_zero, List.append_nil, List.take_of_length_le (by simp [byteCells]; omega)]
      have hrd : (w.get h.size).read = .cells (byteCells q ++ List.replicate (i - i) (.int .u8 0)) 1 := by rw [gw]; rfl
      generalize Blk.cells (byteCells q ++ List.replicate (i - i) (.int .u8 0)) 1 = blk at hisl hrd
      simp +decide only [go_sem, W_region, Wx_some, Nat.reduceAdd, Nat.reduceMul, Nat.reduceEqDiff, Int.reduceAdd, Int.reduceSub, Int.reduceMul, Int.reduceNeg, Int.reduceToNat, ← hla', hsz, e0, e1, e6, e7, e8, hc, hrd, hisl, icvs_bytes]
      refine W_call Kok hxw.1 (trim_ds_run hqd (fun hh => by rw [hh] at hql; simp at hql; omega) w (by omega)) fun r w2 x2 hr => ?_
      subst hr
      simp +decide only [go_sem, W_region, Wx_some, Nat.reduceAdd, Nat.reduceMul, Nat.reduceEqDiff, Int.reduceAdd, Int.reduceSub, Int.reduceMul, Int.reduceNeg, Int.reduceToNat, hsz, e7, hqv]

theorem big_pow : (10 : Nat) ^ (2900 + 2900) ≤ 2 ^ 19999 := by decide +kernel
theorem sq_lt {y r n : Nat} (h : y < 10 ^ n) (hr : r < y) : y * r < 10 ^ (n + n) := by
  rw [Nat.pow_add]
  exact Nat.mul_lt_mul_of_lt_of_lt h (Nat.lt_trans hr h)
theorem gcd_run (a b : Nat) (h : Heap) (hla : (ds a).length ≤ 2900) (hlb : (ds b).length ≤ 2900) :
    Runs K f_ref01_Gcd #[.string (text (ds a)), .string (text (ds b))] h fun r _ => r = .string (text (ds (Nat.gcd a b))) := by
  refine Runs.of Kok (Does.intro rfl (by decide +kernel) F_ref01_Gcd rfl ?_)
  simp +decide only [go_sem, W_region, Wx_some, Nat.reduceAdd, Nat.reduceMul, Nat.reduceEqDiff, Int.reduceAdd, Int.reduceSub, Int.reduceMul, Int.reduceNeg, Int.reduceToNat]
  refine W_loop (α := Nat × Nat × Nat × Nat) (fun k e w => e.size = 25 ∧ Ext h w ∧ e.get 0 = .string (text (ds k.2.1)) ∧ e.get 1 = .string (text (ds k.2.2.1)) ∧ e.get 5 = .int .i64 (k.1 : Int) ∧ Nat.gcd k.2.1 k.2.2.1 = Nat.gcd a b ∧ (ds k.2.1).length ≤ 2900 ∧ (ds k.2.2.1).length ≤ 2900 ∧
    k.1 ≤ 20000 ∧ (k.1 = 0 ∨ (k.2.2.1 < k.2.1 ∧ k.2.1 * k.2.2.1 < 2 ^ k.2.2.2 ∧ k.1 + k.2.2.2 ≤ 20000))) (fun k => 20000 - k.1) (0, a, b, 0) ?_ ?_
  · exact ⟨by simp +decide only [go_sem], Ext.refl h, by simp +decide only [go_sem], by simp +decide only [go_sem], by simp +decide only [go_sem]; rfl, rfl, hla, hlb, by simp, .inl rfl⟩
  · rintro ⟨i, x, y, m⟩ e w ⟨hsz, hxw, e0, e1, e5, hg, hlx, hly, hi, hm⟩ next
    simp only at e0 e1 e5 hg hlx hly hi hm
    by_cases hy : y = 0
    · subst hy
      rw [Nat.gcd_zero_right] at hg
      rw [ds_zero] at e1
      by_cases hi2 : (i : Int) < 20000
      · simp +decide only [go_sem, W_region, Wx_some, Nat.reduceAdd, Nat.reduceMul, Nat.reduceEqDiff, Int.reduceAdd, Int.reduceSub, Int.reduceMul, Int.reduceNeg, Int.reduceToNat, hsz, e0, e1, e5, hi2, hg]
      · simp +decide only [go_sem, W_region, Wx_some, Nat.reduceAdd, Nat.reduceMul, Nat.reduceEqDiff, Int.reduceAdd, Int.reduceSub, Int.reduceMul, Int.reduceNeg, Int.reduceToNat, hsz, e0, e1, e5, hi2, hg]
    · have hi2 : i < 20000 := by
        rcases hm with h0 | ⟨h1, h2, h3⟩
        · omega
        · have : 1 ≤ x * y := Nat.mul_pos (by omega) (by omega)
          have hm0 : m ≠ 0 := by
            rintro rfl
            simp at h2
            omega
          omega
      have hi3 : (i : Int) < 20000 := by omega
      have hyne : ¬ text (ds y) = (⟨#[48]⟩ : ByteArray) := fun hh => hy (ds_inj.1 ((text_inj.1 hh).trans ds_zero.symm))
      have i1 : IntKind.i64.wrap ((i : Int) + 1) = ((i + 1 : Nat) : Int) := by rw [wrap_i64 (by omega) (by omega)]; omega
      simp +decide only [go_sem, W_region, Wx_some, Nat.reduceAdd, Nat.reduceMul, Nat.reduceEqDiff, Int.reduceAdd, Int.reduceSub, Int.reduceMul, Int.reduceNeg, Int.reduceToNat, hsz, e0, e1, e5, hi3, hyne]
      refine W_call Kok hxw.1 (divmod_run x y w hy (by omega) (by omega)) fun r w2 x2 hr => ?_
      subst hr
      have hxy : (ds (x % y)).length ≤ 2900 := by
        have := ds_mono (Nat.le_of_lt (Nat.mod_lt x (Nat.pos_of_ne_zero hy)))
        omega
      simp +decide only [go_sem, W_region, Wx_some, Nat.reduceAdd, Nat.reduceMul, Nat.reduceEqDiff, Int.reduceAdd, Int.reduceSub, Int.reduceMul, Int.reduceNeg, Int.reduceToNat, hsz, e0, e1, e5, i1]
      refine next (i + 1, y, x % y, if i = 0 then 19999 else m - 1) _ _ ⟨by simp +decide only [go_sem, hsz], hxw.trans x2, by simp +decide only [go_sem, hsz], by simp +decide only [go_sem, hsz], by simp +decide only [go_sem, hsz], ?_, hly, hxy, by simp only; omega, .inr ?_⟩ (by simp only; omega)
      · simp only
        rw [← hg, Nat.gcd_comm x y]
        exact (Nat.gcd_rec y x).symm ▸ Nat.gcd_comm _ _
      · simp only
        have hml := Nat.mod_lt x (Nat.pos_of_ne_zero hy)
        refine ⟨hml, ?_⟩
        by_cases h0 : i = 0
        · rw [if_pos h0]
          exact ⟨Nat.lt_of_lt_of_le (sq_lt (Nat.lt_of_lt_of_le (ds_lt_pow y) (Nat.pow_le_pow_right (by omega) hly)) hml) big_pow, by omega⟩
        · rw [if_neg h0]
          obtain ⟨h1, h2, h3⟩ := hm.resolve_left h0
          have hm0 : m ≠ 0 := by
            rintro rfl
            have : 1 ≤ x * y := Nat.mul_pos (by omega) (by omega)
            simp at h2
            omega
          obtain ⟨m', rfl⟩ : ∃ m', m = m' + 1 := ⟨m - 1, by omega⟩
          refine ⟨?_, by omega⟩
          have e2 : x % y + y * (x / y) = x := Nat.mod_add_div x y
          have e3 : 1 ≤ x / y := Nat.div_pos (Nat.le_of_lt h1) (Nat.pos_of_ne_zero hy)
          have e4 : y * 1 ≤ y * (x / y) := Nat.mul_le_mul_left _ e3
          have e5 : 2 * (x % y) ≤ x := by omega
          have e6 : y * (2 * (x % y)) ≤ y * x := Nat.mul_le_mul_left _ e5
          rw [Nat.pow_succ] at h2
          rw [Nat.mul_comm x y] at h2
          have e7 : y * (2 * (x % y)) = 2 * (y * (x % y)) := by rw [← Nat.mul_assoc, Nat.mul_comm y 2, Nat.mul_assoc]
          simp only [Nat.add_sub_cancel]
          omega
end Go.Proofs.YtjlaenglmdpboaaGreat.R3
