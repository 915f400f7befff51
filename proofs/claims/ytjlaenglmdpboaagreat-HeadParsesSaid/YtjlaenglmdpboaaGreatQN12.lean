/- Proved here: numbers of limbs read from digits; of every row of 1 to 2000 digits. -/
import Derived.Test.YtjlaenglmdpboaaGreatQN11
namespace Go.Proofs.YtjlaenglmdpboaaGreat.N12
open Go Go.Im Go.Im.Limbs Go.Proofs Go.RowKit Go.Proofs.YtjlaenglmdpboaaGreat.Hd Go.Proofs.YtjlaenglmdpboaaGreat.N1 Go.Proofs.YtjlaenglmdpboaaGreat.N2 Go.Proofs.YtjlaenglmdpboaaGreat.N10 Go.Proofs.YtjlaenglmdpboaaGreat.N11
set_option maxRecDepth 100000
set_option linter.unusedSimpArgs false
set_option linter.unusedVariables false

/-- The number that digits write. -/
def dec (l : List UInt8) : Nat := l.foldl (fun a b => a * 10 + (b.toNat - 48)) 0
theorem dec_fold : ∀ (l : List UInt8) (a : Nat), l.foldl (fun a b => a * 10 + (b.toNat - 48)) a = a * 10 ^ l.length + dec l
  | [], a => by simp [dec]
  | b :: l, a => by
    unfold dec
    rw [List.foldl_cons, List.foldl_cons, dec_fold l, dec_fold l (0 * 10 + (b.toNat - 48)), List.length_cons, Nat.pow_succ]
    grind
theorem dec_append (l m : List UInt8) : dec (l ++ m) = dec l * 10 ^ m.length + dec m := by
  unfold dec
  rw [List.foldl_append, dec_fold m]
  rfl
theorem dec_nil : dec [] = 0 := rfl
theorem dec_snoc (l : List UInt8) (b : UInt8) : dec (l ++ [b]) = dec l * 10 + (b.toNat - 48) := by
  rw [dec_append]
  simp [dec]
def Digs (l : List UInt8) : Prop := ∀ b ∈ l, 48 ≤ b.toNat ∧ b.toNat ≤ 57
theorem dec_cons (b : UInt8) (l : List UInt8) : dec (b :: l) = (b.toNat - 48) * 10 ^ l.length + dec l := by
  have := dec_fold l (0 * 10 + (b.toNat - 48))
  unfold dec at *
  rw [List.foldl_cons, this]
  simp
theorem dec_lt : ∀ {l : List UInt8}, Digs l → dec l < 10 ^ l.length
  | [], _ => by simp [dec]
  | b :: l, h => by
    have h1 := dec_lt (l := l) fun c hc => h c (by simp [hc])
    have h2 := h b (by simp)
    rw [dec_cons, List.length_cons, Nat.pow_succ]
    have h3 : (b.toNat - 48) * 10 ^ l.length ≤ 9 * 10 ^ l.length := Nat.mul_le_mul_right _ (by omega)
    omega
theorem text_eq {l m : List UInt8} : (text l = text m) = (l = m) := by
  apply propext
  exact ⟨fun h => by have := congrArg (fun b : ByteArray => b.data.toList) h; simpa [text_data] using this, fun h => by rw [h]⟩
theorem dig_ten {m k : Nat} (h : m < 10 ^ k) : (dig m).length ≤ k := by
  rw [dig_length]
  exact Nat.lt_of_lt_of_le h (Nat.pow_le_pow_left (by rw [B_eq]; omega) k)

set_option maxHeartbeats 4000000 in
theorem parse_run (t : List UInt8) (h : Heap) (ht : Digs t) (h0 : t ≠ []) (hl : t.length ≤ 2000) : Runs K f_nat_Parse #[.string (text t)] h fun r w => ∃ q, r = .tuple #[q, .bool true] ∧ NatV w q (dec t) := by
  obtain ⟨N, hN⟩ : ∃ N, N = 2000 := ⟨_, rfl⟩
  have hl : t.length ≤ N := by omega
  refine Runs.of Kok (Does.intro rfl (by decide +kernel) F_nat_Parse rfl ?_)
  obtain ⟨w0, e0, x0, hs0, z0⟩ := lay1 h (.cells [.slice none 0 0] 1)
  have c1 : ¬ (2000 : Int) < ((t.length : Nat) : Int) := by omega
  have c0 : ¬ text t = text [] := by rw [text_eq]; exact h0
  have c0' : ¬ text t = ⟨#[]⟩ := c0
  obtain ⟨w1, e1, x1, hs1, z1⟩ := lay1 w0 (.cells [.slice none 0 0] 1)
  have hx1 := x0.trans x1
  have y0 : w1.get h.size = .cells [.slice none 0 0] 1 := (x1.2 _ (by omega)).trans z0
  have y1 : w1.get (h.size + 1) = .cells [.slice none 0 0] 1 := by rw [← hs0]; exact z1
  simp +decide only [go_sem, W_region, Wx_some, Nat.reduceAdd, Nat.reduceMul, Nat.reduceEqDiff, Int.reduceAdd, Int.reduceSub, Int.reduceMul, Int.reduceNeg, Int.reduceToNat, e0, c0', c1, e1]
  clear e0 e1 z1
  have j1 : h.size ≤ h.size + 1 := by omega
  refine W_loop (α := List UInt8 × Nat × Option Addr × Nat) (fun k e w => e.size = 60 ∧ Ext h w ∧ h.size + 2 ≤ w.size ∧ w.get h.size = .cells [.slice none 0 0] 1 ∧ w.get (h.size + 1) = .cells [.slice k.2.2.1 (dig k.2.1).length k.2.2.2] 1 ∧ NatV w (.agg #[.slice k.2.2.1 (dig k.2.1).length k.2.2.2]) k.2.1 ∧
    e.get 0 = .string (text k.1) ∧ e.get 2 = .pointer (some ⟨h.size, 0, none⟩) ∧ e.get 4 = .pointer (some ⟨h.size + 1, 0, none⟩) ∧ Digs k.1 ∧ k.1.length ≤ t.length ∧ dec t = k.2.1 * 10 ^ k.1.length + dec k.1) (fun k => k.1.length) (t, 0, none, 0) ?_ ?_
  · refine ⟨by simp +decide only [go_sem], hx1, by omega, y0, ?_, ?_, by simp +decide only [go_sem], by simp +decide only [go_sem], by simp +decide only [go_sem, hs0], ht, Nat.le_refl _, by simp⟩
    · simpa [dig_zero] using y1
    · have := NatV.zero w1
      simpa [dig_zero] using this
  · rintro ⟨t', V, aO, cO⟩ e w ⟨hsz, hxw, hws, g0, g1, nV, e0, e2, e4, hd', hl', hval⟩ next
    simp only at g1 nV e0 hd' hl' hval
    have hV : V < 10 ^ N := by
      have h1 := dec_lt ht
      have h2 : 10 ^ t.length ≤ 10 ^ N := Nat.pow_le_pow_right (by omega) hl
      have h3 : V * 1 ≤ V * 10 ^ t'.length := Nat.mul_le_mul_left _ (Nat.pow_pos (by omega))
      omega
    by_cases hpos : (0 : Int) < ((t'.length : Nat) : Int)
    case neg =>
      have ht' : t' = [] := List.eq_nil_of_length_eq_zero (by omega)
      subst ht'
      obtain ⟨wd, ed, xd, hsd, gd, kd⟩ := put1 hxw (Nat.le_refl h.size) (.cells [.slice aO (dig V).length cO] 1)
      simp +decide only [go_sem, W_region, Wx_some, Nat.reduceAdd, Nat.reduceMul, Nat.reduceEqDiff, Int.reduceAdd, Int.reduceSub, Int.reduceMul, Int.reduceNeg, Int.reduceToNat, hsz, e0, e2, e4, List.length_nil, g1, g0, Nat.le_refl, ed, gd]
      refine ⟨_, rfl, ?_⟩
      rw [hval]
      simp only [List.length_nil, Nat.pow_zero, Nat.mul_one, dec_nil, Nat.add_zero]
      exact nV.over g0 (by rfl) (by rfl) hsd gd kd
    obtain ⟨n, hn⟩ : ∃ n, n = min 9 t'.length := ⟨_, rfl⟩
    have q1 : min (9 : Int) ((t'.length : Nat) : Int) = (n : Int) := by omega
    have q2 : (0 : Int) ≤ (n : Int) := by omega
    have q3 : n ≤ t'.length := by omega
    have q4 : n ≤ 9 := by omega
    obtain ⟨ch, hch⟩ : ∃ ch, ch = t'.take n := ⟨_, rfl⟩
    have hchl : ch.length = n := by rw [hch, List.length_take]; omega
    have hchd : Digs ch := fun b hb => hd' b (by rw [hch] at hb; exact List.mem_of_mem_take hb)
    obtain ⟨w2, e2', x2, hs2, z2⟩ := lay1 w (.cells (byteCells ch) 1)
    have hx2 := hxw.trans x2
    have g0 : w2.get h.size = _ := (x2.2 _ (by omega)).trans g0
    have g1 : w2.get (h.size + 1) = _ := (x2.2 _ (by omega)).trans g1
    simp +decide only [go_sem, W_region, Wx_some, Nat.reduceAdd, Nat.reduceMul, Nat.reduceEqDiff, Int.reduceAdd, Int.reduceSub, Int.reduceMul, Int.reduceNeg, Int.reduceToNat, hsz, e0, e2, e4, hpos, q1, q2, Int.toNat_natCast, Nat.zero_le, q3, Nat.sub_zero, List.drop_zero, ← hch, e2', hchl]
    refine W_loop (α := Nat) (fun k e w' => k ≤ n ∧ e.size = 60 ∧ w' = w2 ∧ e.get 0 = .string (text t') ∧ e.get 2 = .pointer (some ⟨h.size, 0, none⟩) ∧ e.get 4 = .pointer (some ⟨h.size + 1, 0, none⟩) ∧ e.get 5 = .int .i64 (n : Int) ∧ e.get 6 = .int .u64 ((dec (ch.take k) : Nat) : Int) ∧ e.get 7 = .int .u64 ((10 ^ k : Nat) : Int) ∧
      e.get 27 = .slice (some ⟨w.size, 0, none⟩) n big ∧ e.get 28 = .int .i64 (n : Int) ∧ e.get 29 = .int .i64 (k : Int)) (fun k => n - k) 0 ?_ ?_
    · exact ⟨Nat.zero_le _, by simp +decide only [go_sem, hsz], rfl, by simp +decide only [go_sem, hsz, e0], by simp +decide only [go_sem, hsz, e2], by simp +decide only [go_sem, hsz, e4], by simp +decide only [go_sem, hsz], by simp +decide only [go_sem, hsz]; rfl, by simp +decide only [go_sem, hsz]; rfl, by simp +decide only [go_sem, hsz], by simp +decide only [go_sem, hsz], by simp +decide only [go_sem, hsz]; rfl⟩
    · rintro k e w' ⟨hk, hsz, rfl, e0, e2, e4, e5, e6, e7, e27, e28, e29⟩ next2
      by_cases hkn : (k : Int) < (n : Int)
      case neg =>
        have hkk : k = n := by omega
        subst hkk
        have hx : dec ch < 18446744073709551616 := by
          have h1 := dec_lt hchd
          have h2 : 10 ^ ch.length ≤ 10 ^ 9 := Nat.pow_le_pow_right (by omega) (by omega)
          omega
        have hp : 10 ^ k < 18446744073709551616 := by
          have h2 : 10 ^ k ≤ 10 ^ 9 := Nat.pow_le_pow_right (by omega) (by omega)
          omega
        rw [List.take_of_length_le (by omega)] at e6
        simp +decide only [go_sem, W_region, Wx_some, Nat.reduceAdd, Nat.reduceMul, Nat.reduceEqDiff, Int.reduceAdd, Int.reduceSub, Int.reduceMul, Int.reduceNeg, Int.reduceToNat, hsz, e0, e2, e4, e5, e6, e7, e27, e28, e29, hkn, g1]
        refine W_call Kok (by omega) (of_run (10 ^ k) w' hp) fun r w3 x3 hr => ?_
        simp +decide only [go_sem, W_region, Wx_some, Nat.reduceAdd, Nat.reduceMul, Nat.reduceEqDiff, Int.reduceAdd, Int.reduceSub, Int.reduceMul, Int.reduceNeg, Int.reduceToNat, hsz, e0, e2, e4, e5, e6, e7]
        have hl10 : (dig (10 ^ k)).length ≤ 549755813887 := by
          have := dig_length.2 (show 10 ^ k < B ^ 2 by rw [B_eq]; omega)
          omega
        have hlV : (dig V).length ≤ 2000 := by have := dig_ten hV; omega
        refine W_call Kok (by have := x3.1; omega) (mul_run V (10 ^ k) w3 (nV.ext (x2.trans x3)) hr (by omega) hl10) fun r w4 x4 hr4 => ?_
        simp +decide only [go_sem, W_region, Wx_some, Nat.reduceAdd, Nat.reduceMul, Nat.reduceEqDiff, Int.reduceAdd, Int.reduceSub, Int.reduceMul, Int.reduceNeg, Int.reduceToNat, hsz, e0, e2, e4, e5, e6, e7]
        refine W_call Kok (by have := x3.1; have := x4.1; omega) (of_run (dec ch) w4 hx) fun r w5 x5 hr5 => ?_
        simp +decide only [go_sem, W_region, Wx_some, Nat.reduceAdd, Nat.reduceMul, Nat.reduceEqDiff, Int.reduceAdd, Int.reduceSub, Int.reduceMul, Int.reduceNeg, Int.reduceToNat, hsz, e0, e2, e4, e5, e6, e7]
        have hlx : (dig (dec ch)).length ≤ 549755813887 := by
          have := dig_length.2 (show dec ch < B ^ 2 by rw [B_eq]; omega)
          omega
        have hlm : (dig (V * 10 ^ k)).length ≤ 549755813887 := by
          have h1 : V * 10 ^ k < 10 ^ (N + 9) := by
            rw [Nat.pow_add]
            have h2 : 10 ^ k ≤ 10 ^ 9 := Nat.pow_le_pow_right (by omega) (by omega)
            have h3 : V * 10 ^ k ≤ V * 10 ^ 9 := Nat.mul_le_mul_left _ h2
            have h4 : V * 10 ^ 9 < 10 ^ N * 10 ^ 9 := Nat.mul_lt_mul_of_pos_right hV (by omega)
            omega
          have := dig_ten h1
          omega
        refine W_call Kok (by have := x3.1; have := x4.1; have := x5.1; omega) (add_run (V * 10 ^ k) (dec ch) w5 (hr4.ext x5) hr5 hlm hlx) fun r w6 x6 hr6 => ?_
        obtain ⟨a6, c6, rfl, s6⟩ := hr6.open
        have x26 := x3.trans (x4.trans (x5.trans x6))
        have g0 : w6.get h.size = _ := (x26.2 _ (by omega)).trans g0
        have g1 : w6.get (h.size + 1) = _ := (x26.2 _ (by omega)).trans g1
        obtain ⟨w7, e7', x7, hs7, g7, k7⟩ := put1 (hx2.trans x26) j1 (.cells [.slice a6 (dig (V * 10 ^ k + dec ch)).length c6] 1)
        have hd : (t'.drop k).take (t'.length - k) = t'.drop k := List.take_of_length_le (by simp)
        simp +decide only [go_sem, W_region, Wx_some, Nat.reduceAdd, Nat.reduceMul, Nat.reduceEqDiff, Int.reduceAdd, Int.reduceSub, Int.reduceMul, Int.reduceNeg, Int.reduceToNat, hsz, e0, e2, e4, e5, e6, e7, g1, j1, e7', q2, Int.toNat_natCast, q3, Nat.le_refl, hd]
        refine next (t'.drop k, V * 10 ^ k + dec ch, a6, c6) _ _ ⟨by simp +decide only [go_sem, hsz], x7, by have := x26.1; omega, (k7 _ (by omega)).trans g0, g7, hr6.over g1 (by rfl) (by rfl) hs7 g7 k7, by simp +decide only [go_sem, hsz], by simp +decide only [go_sem, hsz, e2], by simp +decide only [go_sem, hsz, e4], fun b hb => hd' b (List.mem_of_mem_drop hb), by simp only [List.length_drop]; omega, ?_⟩ (by simp only [List.length_drop]; omega)
        simp only
        rw [hval]
        have h1 := dec_append ch (t'.drop k)
        rw [hch, List.take_append_drop, ← hch] at h1
        rw [h1]
        have h2 : 10 ^ t'.length = 10 ^ k * 10 ^ (t'.drop k).length := by
          rw [← Nat.pow_add]
          congr 1
          simp
          omega
        rw [h2]
        generalize 10 ^ (t'.drop k).length = g at *
        generalize 10 ^ k = f at *
        grind
      have hkn' : k < n := by omega
      obtain ⟨b, hb⟩ : ∃ b, ch[k]? = some b := ⟨_, List.getElem?_eq_getElem (by omega)⟩
      have hbd := hchd b (List.mem_of_getElem? hb)
      have hbc : (byteCells ch)[k]? = some (.int .u8 b.toNat) := by simp [byteCells, hb]
      have l1 : ¬ ((b.toNat : Nat) : Int) < 48 := by omega
      have l2 : ¬ (57 : Int) < ((b.toNat : Nat) : Int) := by omega
      have l3 : (0 : Int) ≤ (k : Int) := by omega
      have hdk : dec (ch.take k) < 10 ^ 9 := by
        have h1 := dec_lt (l := ch.take k) fun b hb => hchd b (List.mem_of_mem_take hb)
        have h2 : 10 ^ (ch.take k).length ≤ 10 ^ 9 := Nat.pow_le_pow_right (by omega) (by simp; omega)
        omega
      have hpk : 10 ^ k ≤ 10 ^ 9 := Nat.pow_le_pow_right (by omega) (by omega)
      have m1 : IntKind.u64.wrap (10 * ((dec (ch.take k) : Nat) : Int)) = ((10 * dec (ch.take k) : Nat) : Int) := wmul (x := 10) (by omega)
      have m2 : IntKind.u64.wrap (10 * ((10 ^ k : Nat) : Int)) = ((10 ^ (k + 1) : Nat) : Int) := by
        rw [Nat.pow_succ, Nat.mul_comm]
        exact wmul (x := 10) (by omega)
      have m3 : IntKind.u8.wrap (((b.toNat : Nat) : Int) - 48) = ((b.toNat - 48 : Nat) : Int) := by rw [wrap_u8 (by omega) (by omega)]; omega
      have m4 : IntKind.u64.wrap (((10 * dec (ch.take k) : Nat) : Int) + ((b.toNat - 48 : Nat) : Int)) = ((dec (ch.take (k + 1)) : Nat) : Int) := by
        rw [wadd (by omega), List.take_add_one, hb]
        simp only [Option.toList_some]
        rw [dec_snoc, Nat.mul_comm]
      have i5 : IntKind.i64.wrap ((k : Int) + 1) = ((k + 1 : Nat) : Int) := by rw [wrap_i64 (by omega) (by omega)]; omega
      simp +decide only [go_sem, W_region, Wx_some, Nat.reduceAdd, Nat.reduceMul, Nat.reduceEqDiff, Int.reduceAdd, Int.reduceSub, Int.reduceMul, Int.reduceNeg, Int.reduceToNat, hsz, e0, e2, e4, e5, e6, e7, e27, e28, e29, hkn, l3, Nat.mul_one, Nat.zero_add, Int.toNat_natCast, z2, hbc, l1, l2, m1, m2, m3, w64 (show b.toNat - 48 < 18446744073709551616 by omega), m4, i5]
      exact next2 (k + 1) _ _ ⟨by omega, by simp +decide only [go_sem, hsz], rfl, by simp +decide only [go_sem, hsz, e0], by simp +decide only [go_sem, hsz, e2], by simp +decide only [go_sem, hsz, e4], by simp +decide only [go_sem, hsz, e5], by simp +decide only [go_sem, hsz], by simp +decide only [go_sem, hsz], by simp +decide only [go_sem, hsz, e27], by simp +decide only [go_sem, hsz, e28], by simp +decide only [go_sem, hsz]⟩ (by omega)
theorem parse_none (h : Heap) : Runs K f_nat_Parse #[.string (text [])] h fun r w => ∃ q, r = .tuple #[q, .bool false] ∧ NatV w q 0 := by
  refine Runs.of Kok (Does.intro rfl (by decide +kernel) F_nat_Parse rfl ?_)
  have c0' : text [] = ⟨#[]⟩ := rfl
  simp +decide only [go_sem, W_region, Wx_some, Nat.reduceAdd, Nat.reduceMul, Nat.reduceEqDiff, Int.reduceAdd, Int.reduceSub, Int.reduceMul, Int.reduceNeg, Int.reduceToNat, c0', Nat.le_refl]
  exact ⟨_, rfl, NatV.zero _⟩
end Go.Proofs.YtjlaenglmdpboaaGreat.N12
