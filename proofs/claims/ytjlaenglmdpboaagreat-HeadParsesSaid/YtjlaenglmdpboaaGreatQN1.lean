/- Proved here: numbers of limbs: trimmed, made, looked at, compared; of every number of few enough limbs. -/
import Derived.Test.YtjlaenglmdpboaaGreatQHd
import Derived.Test.YtjlaenglmdpboaaGreatIm4
namespace Go.Proofs.YtjlaenglmdpboaaGreat.N1
open Go Go.Im Go.Im.Limbs Go.Proofs Go.RowKit Go.Proofs.YtjlaenglmdpboaaGreat.Hd
set_option maxRecDepth 100000
set_option linter.unusedSimpArgs false
set_option linter.unusedVariables false

theorem trim_run (ds : List Nat) (h : Heap) {a : Option Addr} {n c : Nat} (s : Sl h 1 a n c (lv ds)) (hd : Small ds) (hn : n ≤ 1099511627776) : Runs K f_nat_trim #[.slice a n c] h fun v w => NatV w v (val ds) := by
  have hlen : ds.length = n := by have := s.length; rw [lv_length] at this; omega
  refine Runs.of Kok (Does.intro rfl (by decide +kernel) F_nat_trim rfl ?_)
  simp +decide only [go_sem, W_region, Wx_some, Nat.reduceAdd, Nat.reduceMul, Nat.reduceEqDiff, Int.reduceAdd, Int.reduceSub, Int.reduceMul, Int.reduceNeg, Int.reduceToNat]
  have hx : Ext h (h.push (.cells [.slice none 0 0] 1)) := (Ext.refl h).push _
  have hz : (h.push (.cells [.slice none 0 0] 1)).get h.size = .cells [.slice none 0 0] 1 := by rw [Heap.get_push, if_pos rfl]
  have hs1 : (h.push (.cells [.slice none 0 0] 1)).size = h.size + 1 := rfl
  generalize h.push (.cells [.slice none 0 0] 1) = w0 at hx hz hs1
  refine W_loop (α := Nat × Option Addr × Nat) (fun k e w => k.1 ≤ n ∧ e.size = 22 ∧ w = w0 ∧ e.get 2 = .pointer (some ⟨h.size, 0, none⟩) ∧ val (ds.take k.1) = val ds ∧ e.get 0 = .slice k.2.1 k.1 k.2.2 ∧ Sl h 1 k.2.1 k.1 k.2.2 (lv (ds.take k.1))) (fun k => k.1) (n, a, c) ?_ ?_
  · refine ⟨Nat.le_refl _, by simp +decide only [go_sem], rfl, by simp +decide only [go_sem], ?_, by simp +decide only [go_sem], ?_⟩
    · rw [List.take_of_length_le (by omega)]
    · rw [List.take_of_length_le (by omega)]; exact s
  · rintro ⟨k, a', c'⟩ e w ⟨hk, hsz, rfl, g2, hv, g0, s'⟩ next
    simp only at hk hv g0 s'
    have fin : Top (ds.take k) → ∀ x, NatV (w.set h.size x) (.agg #[.slice a' k c']) (val ds) := fun ht x => by
      rw [← hv]
      exact NatV.mk (s'.ext (hx.set (Nat.le_refl _) x)) (hd.take k) ht
    by_cases h0 : k = 0
    · subst h0
      have f1 := fin (by simp [Top])
      simp +decide only [go_sem, W_region, Wx_some, Nat.reduceAdd, Nat.reduceMul, Nat.reduceEqDiff, Int.reduceAdd, Int.reduceSub, Int.reduceMul, Int.reduceNeg, Int.reduceToNat, hsz, g0, g2, hz]
      exact f1 _
    · have i1 : (0 : Int) < (k : Int) := by omega
      have i2 : IntKind.i64.wrap ((k : Int) - 1) = (k : Int) - 1 := wrap_i64 (by omega) (by omega)
      have i3 : (0 : Int) ≤ (k : Int) - 1 := by omega
      have i4 : (k : Int) - 1 < (k : Int) := by omega
      have i5 : ((k : Int) - 1).toNat = k - 1 := by omega
      obtain ⟨d, hd1⟩ : ∃ d, (ds.take k)[k - 1]? = some d := ⟨_, List.getElem?_eq_getElem (by simp; omega)⟩
      obtain ⟨b, o, cs, rfl, hb, hg, hc⟩ := (s'.ext hx).one (lv_get hd1)
      have hd2 : ds[k - 1]? = some d := by
        rw [List.getElem?_take] at hd1
        split at hd1
        · exact hd1
        · cases hd1
      have hk1 : k - 1 + 1 = k := by omega
      by_cases hd0 : (d : Int) = 0
      · obtain ⟨a2, c2, hr, s2⟩ := s'.cut hx (by omega) (lo := none) (hi := some (.int .i64 ((k : Int) - 1))) (l := 0) (u := k - 1) rfl (by simp only [boundOf, i3, if_true, i5]) (Nat.zero_le _) (by omega)
        simp +decide only [go_sem, W_region, Wx_some, Nat.reduceAdd, Nat.reduceMul, Nat.reduceEqDiff, Int.reduceAdd, Int.reduceSub, Int.reduceMul, Int.reduceNeg, Int.reduceToNat, hsz, g0, g2, i1, i2, i3, i4, i5, Nat.mul_one, hg, hc, hd0, hr]
        have e0 : d = 0 := by omega
        subst e0
        refine next (k - 1, a2, c2) _ _ ⟨by simp only; omega, by simp +decide only [go_sem, hsz], rfl, by simp +decide only [go_sem, hsz, g2], ?_, by simp +decide only [go_sem, hsz, Nat.sub_zero], ?_⟩ (by simp only; omega)
        · rw [← hv]
          simp only
          have := trim_step (l := ds) (k := k - 1) (by omega) hd2
          rw [hk1] at this
          exact this.symm
        · simpa [lv_take, List.take_take, Nat.min_eq_left (show k - 1 ≤ k by omega)] using s2
      · have f1 := fin (by
          unfold Top
          rw [List.getLast?_eq_getElem?, List.length_take, Nat.min_eq_left (by omega), hd1]
          intro hh
          cases hh
          exact hd0 rfl)
        simp +decide only [go_sem, W_region, Wx_some, Nat.reduceAdd, Nat.reduceMul, Nat.reduceEqDiff, Int.reduceAdd, Int.reduceSub, Int.reduceMul, Int.reduceNeg, Int.reduceToNat, hsz, g0, g2, i1, i2, i3, i4, i5, Nat.mul_one, hg, hc, hd0, hz]
        exact f1 _

theorem add32_run (x y c : Nat) (h : Heap) (hx : x < 4294967296) (hy : y < 4294967296) (hc : c ≤ 1) : Runs K f_bits_Add32 #[.int .u32 (x : Int), .int .u32 (y : Int), .int .u32 (c : Int)] h fun v _ =>
    v = .tuple #[.int .u32 (((x + y + c) % 4294967296 : Nat) : Int), .int .u32 (((x + y + c) / 4294967296 : Nat) : Int)] := by
  refine Runs.of Kok (Does.intro rfl (by decide +kernel) F_bits_Add32 rfl ?_)
  have q : (x + y + c) / 4294967296 % 4294967296 = (x + y + c) / 4294967296 := by omega
  simp +decide only [go_sem, W_region, Wx_some, Nat.reduceAdd, Nat.reduceMul, Nat.reduceEqDiff, Int.reduceAdd, Int.reduceSub, Int.reduceMul, Int.reduceNeg, Int.reduceToNat, w64 (show x < 18446744073709551616 by omega), w64 (show y < 18446744073709551616 by omega), w64 (show c < 18446744073709551616 by omega), wadd (show x + y < 18446744073709551616 by omega), wadd (show x + y + c < 18446744073709551616 by omega), w32, ishr32, q]

theorem sub32_run (x y c : Nat) (h : Heap) (hx : x < 4294967296) (hy : y < 4294967296) (hc : c ≤ 1) : Runs K f_bits_Sub32 #[.int .u32 (x : Int), .int .u32 (y : Int), .int .u32 (c : Int)] h fun v _ =>
    v = .tuple #[.int .u32 (((x + 8589934592 - y - c) % 4294967296 : Nat) : Int), .int .u32 ((if x < y + c then 1 else 0 : Nat) : Int)] := by
  refine Runs.of Kok (Does.intro rfl (by decide +kernel) F_bits_Sub32 rfl ?_)
  have q : ((x + 4294967296 - y) % 4294967296 + 4294967296 - c) % 4294967296 = (x + 8589934592 - y - c) % 4294967296 := by omega
  have l1 : 4294967295 ^^^ x < 4294967296 := Nat.xor_lt_two_pow (n := 32) (by omega) hx
  have l2 : x ^^^ y < 4294967296 := Nat.xor_lt_two_pow (n := 32) hx hy
  have l3 : 4294967295 ^^^ (x ^^^ y) < 4294967296 := Nat.xor_lt_two_pow (n := 32) (by omega) l2
  have l4 : (x + 8589934592 - y - c) % 4294967296 < 4294967296 := Nat.mod_lt _ (by omega)
  have l5 : ((4294967295 ^^^ x) &&& y) < 4294967296 := Nat.lt_of_le_of_lt Nat.and_le_right hy
  have l6 : ((4294967295 ^^^ (x ^^^ y)) &&& ((x + 8589934592 - y - c) % 4294967296)) < 4294967296 := Nat.lt_of_le_of_lt Nat.and_le_right l4
  simp +decide only [go_sem, W_region, Wx_some, Nat.reduceAdd, Nat.reduceMul, Nat.reduceEqDiff, Int.reduceAdd, Int.reduceSub, Int.reduceMul, Int.reduceNeg, Int.reduceToNat, wsub32 (show y ≤ 4294967296 by omega), wsub32 (show c ≤ 4294967296 by omega), q, ixor1 hx, iand32 l1 hy, ixor32 hx hy, ixor1 l2, iand32 l3 l4, ior32 l5 l6, ishr31, borrow32 hx hy hc]

theorem of_run (m : Nat) (h : Heap) (hm : m < 18446744073709551616) : Runs K f_nat_Of #[.int .u64 (m : Int)] h fun v w => NatV w v m := by
  refine Runs.of Kok (Does.intro rfl (by decide +kernel) F_nat_Of rfl ?_)
  obtain ⟨w0, e0, hx, hs, z0, z1⟩ := lay2 h (.cells [.slice none 0 0] 1) (.cells [.int .u32 ((m % 4294967296 : Nat) : Int), .int .u32 ((m / 4294967296 : Nat) : Int)] 1)
  have q : m / 4294967296 % 4294967296 = m / 4294967296 := by omega
  simp +decide only [go_sem, W_region, Wx_some, Nat.reduceAdd, Nat.reduceMul, Nat.reduceEqDiff, Int.reduceAdd, Int.reduceSub, Int.reduceMul, Int.reduceNeg, Int.reduceToNat, w32, ishr32, q, e0]
  have sm : Small [m % 4294967296, m / 4294967296] := Small.cons (by rw [B_eq]; omega) (Small.cons (by rw [B_eq]; omega) Small.nil)
  refine W_call Kok (by omega) (trim_run [m % 4294967296, m / 4294967296] w0 (a := some ⟨h.size + 1, 0, none⟩) (n := 2) (c := 2) (.inr (.inr ⟨h.size + 1, 0, _, rfl, by omega, by omega, by rw [z1]; rfl, by simp, rfl, .inl ⟨by omega, by simp [big]⟩⟩)) sm (by omega)) fun v w1 hx1 hv => ?_
  have e1 : val [m % 4294967296, m / 4294967296] = m := by
    simp only [val_cons, val_nil, B_eq]
    omega
  rw [e1] at hv
  obtain ⟨a, c, rfl, s⟩ := hv.open
  have z2 : w1.get h.size = _ := (hx1.2 _ (by omega)).trans z0
  have hz1 := hx1.1
  obtain ⟨w2, e2, hx2, hs2, z3, z4⟩ := put1 (hx.trans hx1) (Nat.le_refl h.size) (.cells [.slice a (dig m).length c] 1)
  simp +decide only [go_sem, W_region, Wx_some, Nat.reduceAdd, Nat.reduceMul, Nat.reduceEqDiff, Int.reduceAdd, Int.reduceSub, Int.reduceMul, Int.reduceNeg, Int.reduceToNat, z2, e2, z3]
  exact hv.over z2 (by rfl) (by rfl) hs2 z3 z4

theorem zero_run (m : Nat) (h : Heap) {v : Value} (hv : NatV h v m) : Runs K f_nat_Nat_Zero #[v] h fun x _ => x = .bool (decide (m = 0)) := by
  obtain ⟨a, c, rfl, s⟩ := hv.open
  refine Runs.of Kok (Does.intro rfl (by decide +kernel) F_nat_Nat_Zero rfl ?_)
  simp +decide only [go_sem, W_region, Wx_some, Nat.reduceAdd, Nat.reduceMul, Nat.reduceEqDiff, Int.reduceAdd, Int.reduceSub, Int.reduceMul, Int.reduceNeg, Int.reduceToNat]
  congr 1
  rw [decide_eq_decide]
  rw [← dig_nil, ← List.length_eq_zero_iff]
  omega

theorem limbs_run (m : Nat) (h : Heap) {v : Value} (hv : NatV h v m) : Runs K f_nat_Nat_Limbs #[v] h fun x _ => x = .int .i64 (((dig m).length : Nat) : Int) := by
  obtain ⟨a, c, rfl, s⟩ := hv.open
  refine Runs.of Kok (Does.intro rfl (by decide +kernel) F_nat_Nat_Limbs rfl ?_)
  simp +decide only [go_sem, W_region, Wx_some, Nat.reduceAdd, Nat.reduceMul, Nat.reduceEqDiff, Int.reduceAdd, Int.reduceSub, Int.reduceMul, Int.reduceNeg, Int.reduceToNat]

theorem one_run (m : Nat) (h : Heap) {v : Value} (hv : NatV h v m) : Runs K f_nat_Nat_One #[v] h fun x _ => x = .bool (decide (m = 1)) := by
  obtain ⟨a, c, rfl, s⟩ := hv.open
  refine Runs.of Kok (Does.intro rfl (by decide +kernel) F_nat_Nat_One rfl ?_)
  by_cases h1 : (((dig m).length : Nat) : Int) = 1
  · obtain ⟨d, hd⟩ : ∃ d, dig m = [d] := List.length_eq_one_iff.1 (by omega)
    have hm : m = d := by rw [← val_dig m, hd]; simp [val_cons, val_nil]
    subst hm
    obtain ⟨b, o, cs, rfl, hb, hg, hc⟩ := s.one (i := 0) (x := .int .u32 (m : Int)) (by rw [hd]; rfl)
    have hne : ¬ b = h.size := by omega
    rw [hd]
    simp +decide only [go_sem, W_region, Wx_some, Nat.reduceAdd, Nat.reduceMul, Nat.reduceEqDiff, Int.reduceAdd, Int.reduceSub, Int.reduceMul, Int.reduceNeg, Int.reduceToNat, List.length_cons, List.length_nil, Nat.zero_add, hne, hg, Nat.mul_one, Nat.add_zero]
    rw [Nat.add_zero] at hc
    simp +decide only [go_sem, W_region, Wx_some, Nat.reduceAdd, Nat.reduceMul, Nat.reduceEqDiff, Int.reduceAdd, Int.reduceSub, Int.reduceMul, Int.reduceNeg, Int.reduceToNat, hc]
    congr 1
    rw [decide_eq_decide]
    omega
  · simp +decide only [go_sem, W_region, Wx_some, Nat.reduceAdd, Nat.reduceMul, Nat.reduceEqDiff, Int.reduceAdd, Int.reduceSub, Int.reduceMul, Int.reduceNeg, Int.reduceToNat, h1]
    have : ¬ m = 1 := by
      rintro rfl
      rw [dig_one (by omega) (by rw [B_eq]; omega)] at h1
      exact h1 rfl
    simp [this]

theorem uint_run (m : Nat) (h : Heap) {v : Value} (hv : NatV h v m) : Runs K f_nat_Nat_Uint #[v] h fun x _ =>
    x = if m < 18446744073709551616 then .tuple #[.int .u64 (m : Int), .bool true] else .tuple #[.int .u64 0, .bool false] := by
  obtain ⟨a, c, rfl, s⟩ := hv.open
  have hle : (dig m).length ≤ 2 ↔ m < 18446744073709551616 := by
    rw [dig_length]
    rfl
  refine Runs.of Kok (Does.intro rfl (by decide +kernel) F_nat_Nat_Uint rfl ?_)
  by_cases h0 : (((dig m).length : Nat) : Int) = 0
  · have hm : m = 0 := dig_nil.1 (List.length_eq_zero_iff.1 (by omega))
    subst hm
    simp +decide only [go_sem, W_region, Wx_some, Nat.reduceAdd, Nat.reduceMul, Nat.reduceEqDiff, Int.reduceAdd, Int.reduceSub, Int.reduceMul, Int.reduceNeg, Int.reduceToNat, dig_zero, List.length_nil]
    rfl
  by_cases h1 : (((dig m).length : Nat) : Int) = 1
  · obtain ⟨d, hd⟩ : ∃ d, dig m = [d] := List.length_eq_one_iff.1 (by omega)
    have hm : m = d := by rw [← val_dig m, hd]; simp [val_cons, val_nil]
    subst hm
    have hB : m < 4294967296 := dig_small m m (by rw [hd]; simp)
    obtain ⟨b, o, cs, rfl, hb, hg, hc⟩ := s.one (i := 0) (x := .int .u32 (m : Int)) (by rw [hd]; rfl)
    have hne : ¬ b = h.size := by omega
    rw [Nat.add_zero] at hc
    have hlt : m < 18446744073709551616 := by omega
    rw [hd]
    simp +decide only [go_sem, W_region, Wx_some, Nat.reduceAdd, Nat.reduceMul, Nat.reduceEqDiff, Int.reduceAdd, Int.reduceSub, Int.reduceMul, Int.reduceNeg, Int.reduceToNat, List.length_cons, List.length_nil, Nat.zero_add, hne, hg, Nat.mul_one, Nat.add_zero, hc, w64 hlt, hlt]
  by_cases h2 : (((dig m).length : Nat) : Int) = 2
  · obtain ⟨d, e, hd⟩ : ∃ d e, dig m = [d, e] := by
      match hq : dig m, h2 with
      | [d, e], _ => exact ⟨d, e, rfl⟩
    have hm : m = d + 4294967296 * e := by rw [← val_dig m, hd]; simp [val_cons, val_nil, B_eq]
    have hd1 : d < 4294967296 := dig_small m d (by rw [hd]; simp)
    have he1 : e < 4294967296 := dig_small m e (by rw [hd]; simp)
    obtain ⟨b, o, cs, rfl, hb, hg, hc⟩ := s.one (i := 0) (x := .int .u32 (d : Int)) (by rw [hd]; rfl)
    obtain ⟨b', o', cs', hbb, hb', hg', hc'⟩ := s.one (i := 1) (x := .int .u32 (e : Int)) (by rw [hd]; rfl)
    cases hbb
    rw [hg] at hg'
    cases hg'
    have hne : ¬ b = h.size := by omega
    rw [Nat.add_zero] at hc
    have hlt : m < 18446744073709551616 := by omega
    have q1 : e * 4294967296 % 18446744073709551616 = e * 4294967296 := by omega
    have q2 : (d ||| e * 4294967296) = m := by
      rw [Nat.or_comm, or_add hd1]
      omega
    rw [hd]
    simp +decide only [go_sem, W_region, Wx_some, Nat.reduceAdd, Nat.reduceMul, Nat.reduceEqDiff, Int.reduceAdd, Int.reduceSub, Int.reduceMul, Int.reduceNeg, Int.reduceToNat, List.length_cons, List.length_nil, Nat.zero_add, hne, hg, Nat.mul_one, Nat.add_zero, hc, hc', w64 (show d < 18446744073709551616 by omega), w64 (show e < 18446744073709551616 by omega), ishl32, q1, ior64 (show d < 18446744073709551616 by omega) (show e * 4294967296 < 18446744073709551616 by omega), q2, hlt]
  · have hlt : ¬ m < 18446744073709551616 := by
      rw [← hle]
      omega
    simp +decide only [go_sem, W_region, Wx_some, Nat.reduceAdd, Nat.reduceMul, Nat.reduceEqDiff, Int.reduceAdd, Int.reduceSub, Int.reduceMul, Int.reduceNeg, Int.reduceToNat, h0, h1, h2, hlt]

theorem cmp_run (x y : Nat) (h : Heap) {v u : Value} (hv : NatV h v x) (hu : NatV h u y) (hl : (dig x).length ≤ 1099511627776) : Runs K f_nat_Nat_Cmp #[v, u] h fun r _ => r = .int .i64 (if x < y then -1 else if x = y then 0 else 1) := by
  obtain ⟨a, c, rfl, s⟩ := hv.open
  obtain ⟨b, d, rfl, t⟩ := hu.open
  refine Runs.of Kok (Does.intro rfl (by decide +kernel) F_nat_Nat_Cmp rfl ?_)
  obtain ⟨w0, e0, hx, hs, z0, z1⟩ := lay2 h (.cells [.slice a (dig x).length c] 1) (.cells [.slice b (dig y).length d] 1)
  by_cases h1 : (((dig x).length : Nat) : Int) = (((dig y).length : Nat) : Int)
  case neg =>
    by_cases h2 : (((dig x).length : Nat) : Int) < (((dig y).length : Nat) : Int)
    · have : x < y := lt_of_length (by omega)
      simp +decide only [go_sem, W_region, Wx_some, Nat.reduceAdd, Nat.reduceMul, Nat.reduceEqDiff, Int.reduceAdd, Int.reduceSub, Int.reduceMul, Int.reduceNeg, Int.reduceToNat, e0, z0, z1, h1, h2, this]
    · have q : y < x := lt_of_length (by omega)
      have q1 : ¬ x < y := by omega
      have q2 : ¬ x = y := by omega
      simp +decide only [go_sem, W_region, Wx_some, Nat.reduceAdd, Nat.reduceMul, Nat.reduceEqDiff, Int.reduceAdd, Int.reduceSub, Int.reduceMul, Int.reduceNeg, Int.reduceToNat, e0, z0, z1, h1, h2, q1, q2]
  have hlen : (dig x).length = (dig y).length := by omega
  have i2 : IntKind.i64.wrap ((((dig x).length : Nat) : Int) - 1) = (((dig x).length : Nat) : Int) - 1 := wrap_i64 (by omega) (by omega)
  have s0 := s.ext hx
  have t0 := t.ext hx
  rw [← hlen] at t0
  have h1' : (((dig y).length : Nat) : Int) = (((dig x).length : Nat) : Int) := by omega
  rw [← hlen] at z1 e0 ⊢
  simp +decide only [go_sem, W_region, Wx_some, Nat.reduceAdd, Nat.reduceMul, Nat.reduceEqDiff, Int.reduceAdd, Int.reduceSub, Int.reduceMul, Int.reduceNeg, Int.reduceToNat, e0, z0, z1, i2]
  clear e0
  refine W_loop (α := Nat) (fun k e w => k ≤ (dig x).length ∧ e.size = 50 ∧ w = w0 ∧ e.get 2 = .pointer (some ⟨h.size, 0, none⟩) ∧ e.get 3 = .pointer (some ⟨h.size + 1, 0, none⟩) ∧ e.get 5 = .int .i64 ((k : Int) - 1) ∧ (dig x).drop k = (dig y).drop k) (fun k => k) (dig x).length ?_ ?_
  · refine ⟨Nat.le_refl _, by simp +decide only [go_sem], rfl, by simp +decide only [go_sem], by simp +decide only [go_sem], by simp +decide only [go_sem], ?_⟩
    rw [List.drop_of_length_le (Nat.le_refl _), List.drop_of_length_le (by omega)]
  · rintro k e w ⟨hk, hsz, rfl, g2, g3, g5, hd⟩ next
    by_cases hk0 : (0 : Int) ≤ (k : Int) - 1
    case neg =>
      have : k = 0 := by omega
      subst this
      have q : x = y := dig_inj (by simpa using hd)
      have q1 : ¬ x < y := by omega
      simp +decide only [go_sem, W_region, Wx_some, Nat.reduceAdd, Nat.reduceMul, Nat.reduceEqDiff, Int.reduceAdd, Int.reduceSub, Int.reduceMul, Int.reduceNeg, Int.reduceToNat, hsz, g2, g3, g5, hk0, q, Nat.lt_irrefl]
    have i4 : (k : Int) - 1 < (((dig x).length : Nat) : Int) := by omega
    have i5 : ((k : Int) - 1).toNat = k - 1 := by omega
    have i6 : IntKind.i64.wrap ((k : Int) - 1 - 1) = ((k - 1 : Nat) : Int) - 1 := by rw [wrap_i64 (by omega) (by omega)]; omega
    obtain ⟨p, hp⟩ : ∃ p, (dig x)[k - 1]? = some p := ⟨_, List.getElem?_eq_getElem (by omega)⟩
    obtain ⟨q, hq⟩ : ∃ q, (dig y)[k - 1]? = some q := ⟨_, List.getElem?_eq_getElem (by omega)⟩
    obtain ⟨b1, o1, cs1, rfl, hb1, hg1, hc1⟩ := s0.one (lv_get hp)
    obtain ⟨b2, o2, cs2, rfl, hb2, hg2, hc2⟩ := t0.one (lv_get hq)
    have hkk : k - 1 + 1 = k := by omega
    by_cases hpq : (p : Int) = (q : Int)
    · have hpq' : p = q := by omega
      subst hpq'
      simp +decide only [go_sem, W_region, Wx_some, Nat.reduceAdd, Nat.reduceMul, Nat.reduceEqDiff, Int.reduceAdd, Int.reduceSub, Int.reduceMul, Int.reduceNeg, Int.reduceToNat, hsz, g2, g3, g5, z0, z1, hk0, i4, i5, Nat.mul_one, hg1, hg2, hc1, hc2, i6]
      refine next (k - 1) _ _ ⟨by omega, by simp +decide only [go_sem, hsz], rfl, by simp +decide only [go_sem, hsz, g2], by simp +decide only [go_sem, hsz, g3], by simp +decide only [go_sem, hsz], ?_⟩ (by omega)
      rw [List.drop_eq_getElem_cons (show k - 1 < (dig x).length by omega), List.drop_eq_getElem_cons (show k - 1 < (dig y).length by omega), hkk, hd, (List.getElem?_eq_some_iff.1 hp).2, (List.getElem?_eq_some_iff.1 hq).2]
    · by_cases hlt : (p : Int) < (q : Int)
      · have hxy : x < y := by
          have := lt_at (dig_small x) hp hq (by rw [hkk]; exact hd) (by omega)
          rwa [val_dig, val_dig] at this
        simp +decide only [go_sem, W_region, Wx_some, Nat.reduceAdd, Nat.reduceMul, Nat.reduceEqDiff, Int.reduceAdd, Int.reduceSub, Int.reduceMul, Int.reduceNeg, Int.reduceToNat, hsz, g2, g3, g5, z0, z1, hk0, i4, i5, Nat.mul_one, hg1, hg2, hc1, hc2, hpq, hlt, hxy]
      · have hxy : y < x := by
          have := lt_at (dig_small y) hq hp (by rw [hkk]; exact hd.symm) (by omega)
          rwa [val_dig, val_dig] at this
        have q1 : ¬ x < y := by omega
        have q2 : ¬ x = y := by omega
        simp +decide only [go_sem, W_region, Wx_some, Nat.reduceAdd, Nat.reduceMul, Nat.reduceEqDiff, Int.reduceAdd, Int.reduceSub, Int.reduceMul, Int.reduceNeg, Int.reduceToNat, hsz, g2, g3, g5, z0, z1, hk0, i4, i5, Nat.mul_one, hg1, hg2, hc1, hc2, hpq, hlt, q1, q2]
end Go.Proofs.YtjlaenglmdpboaaGreat.N1
