/- Proved here: parts of the way to BDefnBack (BN11 BN12 BR0 BR1 BN13 BN14); no condition beyond those that each theorem names. -/
import Derived.Test.YtachkofbmodnnaaGreatDoorW9
set_option linter.unusedSimpArgs false
set_option linter.unusedVariables false
namespace Go.Proofs.YtachkofbmodnnaaGreatDoor.N11
open Go Go.Im Go.Im.Limbs Go.Proofs Go.RowKit Hd N1 N2 N10
set_option maxRecDepth 100000
theorem pow_run (x n most : Nat) (h : Heap) {v : Value} (hv : NatV h v x) (hx0 : x ≠ 0) (hx1 : x ≠ 1) (hn : n ≤ 1099511627776) (hm : ∀ i, i ≤ n → (dig (x ^ i)).length ≤ most) (hmost : most ≤ 549755813) :
  Runs K f_nat_Nat_Pow #[v, .int .i64 (n : Int), .int .i64 (most : Int)] h fun r w => ∃ q, r = .tuple #[q, .bool true] ∧ NatV w q (x ^ n) := by
 obtain ⟨a, c, rfl, sa⟩ := hv.open
 refine Runs.of Kok (Does.intro rfl (by decide +kernel) F_nat_Nat_Pow rfl ?_)
 obtain ⟨w0, e0, x0, hs0, z0, z1⟩ := lay2 h (.cells [.slice a (dig x).length c] 1) (.cells [.slice none 0 0] 1)
 simp +decide only [go_sem, W_region, Wx_some, e0]
 refine W_call Kok (by omega) (of_run 1 w0 (by omega)) fun r w1 x1 hr => ?_
 obtain ⟨a1, c1, rfl, s1⟩ := hr.open
 obtain ⟨w2, e2, x2, hs2, g2⟩ := lay1 w1 (.cells [.slice none 0 0] 1)
 have hx2 := x0.trans (x1.trans x2)
 have hsz : h.size + 2 ≤ w1.size := by have := x1.1; omega
 have j1 : h.size ≤ w1.size := by omega
 have j2 : h.size ≤ h.size + 1 := by omega
 obtain ⟨w3, e3, x3, hs3, g3, k3⟩ := put1 hx2 j1 (.cells [.slice a1 (dig 1).length c1] 1)
 have y0 : w3.get h.size = .cells [.slice a (dig x).length c] 1 := (k3 _ (by omega)).trans (((x1.trans x2).2 _ (by omega)).trans z0)
 have y1 : w3.get (h.size + 1) = .cells [.slice none 0 0] 1 := (k3 _ (by omega)).trans (((x1.trans x2).2 _ (by omega)).trans z1)
 have n3 : NatV w3 (.agg #[.slice a1 (dig 1).length c1]) 1 := (hr.ext x2).over g2 (by rfl) (by rfl) hs3 g3 k3
 obtain ⟨ob, hob⟩ : ∃ ob, ob = w1.size := ⟨_, rfl⟩
 have fin : ∀ (w : Heap) (p : Value) (X : Nat), Ext h w → w.get (h.size + 1) = .cells [.slice none 0 0] 1 → NatV w (.agg #[p]) X → ∃ wd, w.set (h.size + 1) (.cells [p] 1) = wd ∧ wd.get (h.size + 1) = .cells [p] 1 ∧ NatV wd (.agg #[p]) X := by
  intro w p X hx g2 n1
  obtain ⟨wd, ed, xd, hsd, gd, kd⟩ := put1 hx j2 (.cells [p] 1)
  exact ⟨wd, ed, gd, n1.over g2 (by rfl) (by rfl) hsd gd kd⟩
 by_cases hn0 : (n : Int) ≤ 0
 ·have : n = 0 := by omega
  subst this
  obtain ⟨wd, ed, gd, nd⟩ := fin w3 _ 1 x3 y1 n3
  simp +decide only [go_sem, W_region, Wx_some, e2, g2, j1, e3, g3, hn0, y1, j2, ed, gd]
  exact ⟨_, rfl, nd⟩
 simp +decide only [go_sem, W_region, Wx_some, e2, g2, j1, e3, hn0, y0]
 refine W_call Kok (by omega) (one_run x w3 (hv.ext x3)) fun r w4 x4 hr => ?_
 subst hr
 have y0 : w4.get h.size = _ := (x4.2 _ (by omega)).trans y0
 have y1 : w4.get (h.size + 1) = _ := (x4.2 _ (by omega)).trans y1
 have hs4 : w3.size ≤ w4.size := x4.1
 have hx4 := x3.trans x4
 simp +decide only [go_sem, W_region, Wx_some, hx1, y0]
 refine W_call Kok (by omega) (zero_run x w4 (hv.ext hx4)) fun r w5 x5 hr => ?_
 subst hr
 have y0 : w5.get h.size = _ := (x5.2 _ (by omega)).trans y0
 have y1 : w5.get (h.size + 1) = _ := (x5.2 _ (by omega)).trans y1
 have g5 : w5.get ob = .cells [.slice a1 (dig 1).length c1] 1 := by rw [hob]; exact (x5.2 _ (by omega)).trans ((x4.2 _ (by omega)).trans g3)
 have hs5 : w4.size ≤ w5.size := x5.1
 have hx5 := hx4.trans x5
 simp +decide only [go_sem, W_region, Wx_some, hx0]
 refine W_loop (α := Nat × Option Addr × Nat) (fun k e w => k.1 ≤ n ∧ e.size = 33 ∧ Ext h w ∧ ob < w.size ∧ w.get h.size = .cells [.slice a (dig x).length c] 1 ∧ w.get (h.size + 1) = .cells [.slice none 0 0] 1 ∧ w.get ob = .cells [.slice k.2.1 (dig (x ^ k.1)).length k.2.2] 1 ∧ NatV w (.agg #[.slice k.2.1 (dig (x ^ k.1)).length k.2.2]) (x ^ k.1) ∧
  e.get 2 = .int .i64 (most : Int) ∧ e.get 3 = .pointer (some ⟨h.size, 0, none⟩) ∧ e.get 6 = .pointer (some ⟨h.size + 1, 0, none⟩) ∧ e.get 8 = .pointer (some ⟨ob, 0, none⟩) ∧ e.get 20 = .int .i64 (n : Int) ∧ e.get 21 = .int .i64 (k.1 : Int)) (fun k => n - k.1) (0, a1, c1) ?_ ?_
 ·refine ⟨Nat.zero_le _, by simp +decide only [go_sem], hx5, by omega, y0, y1, ?_, ?_, by simp +decide only [go_sem], by simp +decide only [go_sem], by simp +decide only [go_sem], by simp +decide only [go_sem, ← hob], by simp +decide only [go_sem], by simp +decide only [go_sem]; rfl⟩
  ·simpa using g5
  ·have := n3.ext (x4.trans x5)
   simpa using this
 ·rintro ⟨k, aO, cO⟩ e w ⟨hk, hsz', hxw, hobw, g0, g1, go, nO, e2', e3', e6, e8, e20, e21⟩ next
  simp only at hk go nO e21
  by_cases hkn : (k : Int) < (n : Int)
  case neg =>
   have hkk : k = n := by omega
   subst hkk
   obtain ⟨wd, ed, gd, nd⟩ := fin w _ _ hxw g1 nO
   simp +decide only [go_sem, W_region, Wx_some, hsz', e2', e3', e6, e8, e20, e21, hkn, go, g1, j2, ed, gd]
   exact ⟨_, rfl, nd⟩
  have hlO : (dig (x ^ k)).length ≤ 549755813887 := Nat.le_trans (hm k (by omega)) (by omega)
  have hlx : (dig x).length ≤ 549755813887 := by
   have := hm 1 (by omega)
   rw [Nat.pow_one] at this
   omega
  simp +decide only [go_sem, W_region, Wx_some, hsz', e2', e3', e6, e8, e20, e21, hkn, go, g0]
  refine W_call Kok (by have := hxw.1; omega) (mul_run (x ^ k) x w nO (hv.ext hxw) hlO hlx) fun r w6 x6 hr => ?_
  rw [← Nat.pow_succ] at hr
  obtain ⟨a6, c6, rfl, s6⟩ := hr.open
  have g0 : w6.get h.size = _ := (x6.2 _ (by omega)).trans g0
  have g1 : w6.get (h.size + 1) = _ := (x6.2 _ (by omega)).trans g1
  have go : w6.get ob = _ := (x6.2 _ (by omega)).trans go
  have hs6 := x6.1
  have jo : h.size ≤ ob := by omega
  obtain ⟨w7, e7, x7, hs7, g7, k7⟩ := put1 (hxw.trans x6) jo (.cells [.slice a6 (dig (x ^ (k + 1))).length c6] 1)
  have n7 : NatV w7 (.agg #[.slice a6 (dig (x ^ (k + 1))).length c6]) (x ^ (k + 1)) := hr.over go (by rfl) (by rfl) hs7 g7 k7
  have g0 : w7.get h.size = _ := (k7 _ (by omega)).trans g0
  have g1 : w7.get (h.size + 1) = _ := (k7 _ (by omega)).trans g1
  simp +decide only [go_sem, W_region, Wx_some, hsz', e2', e3', e6, e8, e20, e21, go, jo, e7, g7]
  refine W_call Kok (by omega) (limbs_run (x ^ (k + 1)) w7 n7) fun r w8 x8 hr => ?_
  subst hr
  have hlim : ¬ (most : Int) < (((dig (x ^ (k + 1))).length : Nat) : Int) := by
   have := hm (k + 1) (by omega)
   omega
  have i5 : IntKind.i64.wrap ((k : Int) + 1) = ((k + 1 : Nat) : Int) := by rw [wrap_i64 (by omega) (by omega)]; omega
  simp +decide only [go_sem, W_region, Wx_some, hsz', e2', e3', e6, e8, e20, e21, hlim, i5]
  exact next (k + 1, a6, c6) _ _ ⟨by simp only; omega, by simp +decide only [go_sem, hsz'], x7.trans x8, by have := x8.1; omega, (x8.2 _ (by omega)).trans g0, (x8.2 _ (by omega)).trans g1, (x8.2 _ (by omega)).trans g7, n7.ext x8, by simp +decide only [go_sem, hsz', e2'], by simp +decide only [go_sem, hsz', e3'], by simp +decide only [go_sem, hsz', e6], by simp +decide only [go_sem, hsz', e8], by simp +decide only [go_sem, hsz', e20], by simp +decide only [go_sem, hsz']⟩ (by simp only; omega)
theorem ten_run (n : Nat) (h : Heap) (hn : n ≤ 2000) : Runs K f_deci_ten #[.int .i64 (n : Int)] h fun r w => NatV w r (10 ^ n) := by
 refine Runs.of Kok (Does.intro rfl (by decide +kernel) F_deci_ten rfl ?_)
 obtain ⟨w0, e0, x0, hs0, z0⟩ := lay1 h (.cells [.slice none 0 0] 1)
 simp +decide only [go_sem, W_region, Wx_some, e0]
 refine W_call Kok (by omega) (of_run 10 w0 (by omega)) fun r w1 x1 hr => ?_
 have hm : ∀ i, i ≤ n → (dig (10 ^ i)).length ≤ 1048576 := by
  intro i hi
  obtain ⟨N, hN⟩ : ∃ N, N = 1048576 := ⟨_, rfl⟩
  rw [dig_length, ← hN]
  have h1 : 10 ^ i ≤ B ^ i := Nat.pow_le_pow_left (by rw [B_eq]; omega) i
  have h2 : B ^ i < B ^ N := Nat.pow_lt_pow_right (by rw [B_eq]; omega) (by omega)
  omega
 simp +decide only [go_sem, W_region, Wx_some]
 refine W_call Kok (by have := x1.1; omega) (pow_run 10 n 1048576 w1 hr (by omega) (by omega) (by omega) hm (by omega)) fun r w2 x2 hr => ?_
 obtain ⟨q, rfl, hq⟩ := hr
 obtain ⟨a2, c2, rfl, s2⟩ := hq.open
 obtain ⟨w3, e3, x3, hs3, g3⟩ := lay1 w2 (.cells [.slice none 0 0] 1)
 have hx2 := x0.trans (x1.trans x2)
 have j1 : h.size ≤ w2.size := hx2.1
 have s2' : h.size + 1 ≤ w2.size := by have := x1.1; have := x2.1; omega
 obtain ⟨w4, e4, x4, hs4, g4, k4⟩ := put1 (hx2.trans x3) j1 (.cells [.slice a2 (dig (10 ^ n)).length c2] 1)
 have z4 : w4.get h.size = .cells [.slice none 0 0] 1 := (k4 _ (by omega)).trans (((x1.trans (x2.trans x3)).2 _ (by omega)).trans z0)
 obtain ⟨w5, e5, x5, hs5, g5, k5⟩ := put1 x4 (Nat.le_refl h.size) (.cells [.slice a2 (dig (10 ^ n)).length c2] 1)
 simp +decide only [go_sem, W_region, Wx_some, e3, g3, j1, e4, g4, z4, Nat.le_refl, e5, g5]
 exact ((hq.ext x3).over g3 (by rfl) (by rfl) hs4 g4 k4).over z4 (by rfl) (by rfl) hs5 g5 k5
end Go.Proofs.YtachkofbmodnnaaGreatDoor.N11
namespace Go.Proofs.YtachkofbmodnnaaGreatDoor.N12
open Go Go.Im Go.Im.Limbs Go.Proofs Go.RowKit Hd N1 N2 N10 N11
set_option maxRecDepth 100000
def dec (l : List UInt8) : Nat := l.foldl (fun a b => a * 10 + (b.toNat - 48)) 0
theorem dec_fold : ∀ (l : List UInt8) (a : Nat), l.foldl (fun a b => a * 10 + (b.toNat - 48)) a = a * 10 ^ l.length + dec l
 | [], a => by simp [dec]
 | b :: l, a => by
   unfold dec
   rw [List.foldl_cons, List.foldl_cons, dec_fold l, dec_fold l (0 * 10 + (b.toNat - 48)), List.length_cons, Nat.pow_succ]
   grind
theorem dec_append (l m : List UInt8) : dec (l ++ m) = dec l * 10 ^ m.length + dec m := by
 unfold dec
 rw [List.foldl_append, dec_fold m]
 rfl
theorem dec_nil : dec [] = 0 := rfl
theorem dec_snoc (l : List UInt8) (b : UInt8) : dec (l ++ [b]) = dec l * 10 + (b.toNat - 48) := by
 rw [dec_append]
 simp [dec]
def Digs (l : List UInt8) : Prop := ∀ b ∈ l, 48 ≤ b.toNat ∧ b.toNat ≤ 57
theorem dec_cons (b : UInt8) (l : List UInt8) : dec (b :: l) = (b.toNat - 48) * 10 ^ l.length + dec l := by
 have := dec_fold l (0 * 10 + (b.toNat - 48))
 unfold dec at *
 rw [List.foldl_cons, this]
 simp
theorem dec_lt : ∀ {l : List UInt8}, Digs l → dec l < 10 ^ l.length
 | [], _ => by simp [dec]
 | b :: l, h => by
   have h1 := dec_lt (l := l) fun c hc => h c (by simp [hc])
   have h2 := h b (by simp)
   rw [dec_cons, List.length_cons, Nat.pow_succ]
   have h3 : (b.toNat - 48) * 10 ^ l.length ≤ 9 * 10 ^ l.length := Nat.mul_le_mul_right _ (by omega)
   omega
theorem text_eq {l m : List UInt8} : (text l = text m) = (l = m) := by
 apply propext
 exact ⟨fun h => by have := congrArg (fun b : ByteArray => b.data.toList) h; simpa [text_data] using this, fun h => by rw [h]⟩
theorem dig_ten {m k : Nat} (h : m < 10 ^ k) : (dig m).length ≤ k := by
 rw [dig_length]
 exact Nat.lt_of_lt_of_le h (Nat.pow_le_pow_left (by rw [B_eq]; omega) k)
set_option maxHeartbeats 4000000 in
theorem parse_run (t : List UInt8) (h : Heap) (ht : Digs t) (h0 : t ≠ []) (hl : t.length ≤ 2000) : Runs K f_nat_Parse #[.string (text t)] h fun r w => ∃ q, r = .tuple #[q, .bool true] ∧ NatV w q (dec t) := by
 obtain ⟨N, hN⟩ : ∃ N, N = 2000 := ⟨_, rfl⟩
 have hl : t.length ≤ N := by omega
 refine Runs.of Kok (Does.intro rfl (by decide +kernel) F_nat_Parse rfl ?_)
 obtain ⟨w0, e0, x0, hs0, z0⟩ := lay1 h (.cells [.slice none 0 0] 1)
 have c1 : ¬ (2000 : Int) < ((t.length : Nat) : Int) := by omega
 have c0 : ¬ text t = text [] := by rw [text_eq]; exact h0
 have c0' : ¬ text t = ⟨#[]⟩ := c0
 obtain ⟨w1, e1, x1, hs1, z1⟩ := lay1 w0 (.cells [.slice none 0 0] 1)
 have hx1 := x0.trans x1
 have y0 : w1.get h.size = .cells [.slice none 0 0] 1 := (x1.2 _ (by omega)).trans z0
 have y1 : w1.get (h.size + 1) = .cells [.slice none 0 0] 1 := by rw [← hs0]; exact z1
 simp +decide only [go_sem, W_region, Wx_some, e0, c0', c1, e1]
 clear e0 e1 z1
 have j1 : h.size ≤ h.size + 1 := by omega
 refine W_loop (α := List UInt8 × Nat × Option Addr × Nat) (fun k e w => e.size = 60 ∧ Ext h w ∧ h.size + 2 ≤ w.size ∧ w.get h.size = .cells [.slice none 0 0] 1 ∧ w.get (h.size + 1) = .cells [.slice k.2.2.1 (dig k.2.1).length k.2.2.2] 1 ∧ NatV w (.agg #[.slice k.2.2.1 (dig k.2.1).length k.2.2.2]) k.2.1 ∧
  e.get 0 = .string (text k.1) ∧ e.get 2 = .pointer (some ⟨h.size, 0, none⟩) ∧ e.get 4 = .pointer (some ⟨h.size + 1, 0, none⟩) ∧ Digs k.1 ∧ k.1.length ≤ t.length ∧ dec t = k.2.1 * 10 ^ k.1.length + dec k.1) (fun k => k.1.length) (t, 0, none, 0) ?_ ?_
 ·refine ⟨by simp +decide only [go_sem], hx1, by omega, y0, ?_, ?_, by simp +decide only [go_sem], by simp +decide only [go_sem], by simp +decide only [go_sem, hs0], ht, Nat.le_refl _, by simp⟩
  ·simpa [dig_zero] using y1
  ·have := NatV.zero w1
   simpa [dig_zero] using this
 ·rintro ⟨t', V, aO, cO⟩ e w ⟨hsz, hxw, hws, g0, g1, nV, e0, e2, e4, hd', hl', hval⟩ next
  simp only at g1 nV e0 hd' hl' hval
  have hV : V < 10 ^ N := by
   have h1 := dec_lt ht
   have h2 : 10 ^ t.length ≤ 10 ^ N := Nat.pow_le_pow_right (by omega) hl
   have h3 : V * 1 ≤ V * 10 ^ t'.length := Nat.mul_le_mul_left _ (Nat.pow_pos (by omega))
   omega
  by_cases hpos : (0 : Int) < ((t'.length : Nat) : Int)
  case neg =>
   have ht' : t' = [] := List.eq_nil_of_length_eq_zero (by omega)
   subst ht'
   obtain ⟨wd, ed, xd, hsd, gd, kd⟩ := put1 hxw (Nat.le_refl h.size) (.cells [.slice aO (dig V).length cO] 1)
   simp +decide only [go_sem, W_region, Wx_some, hsz, e0, e2, e4, List.length_nil, g1, g0, Nat.le_refl, ed, gd]
   refine ⟨_, rfl, ?_⟩
   rw [hval]
   simp only [List.length_nil, Nat.pow_zero, Nat.mul_one, dec_nil, Nat.add_zero]
   exact nV.over g0 (by rfl) (by rfl) hsd gd kd
  obtain ⟨n, hn⟩ : ∃ n, n = min 9 t'.length := ⟨_, rfl⟩
  have q1 : min (9 : Int) ((t'.length : Nat) : Int) = (n : Int) := by omega
  have q2 : (0 : Int) ≤ (n : Int) := by omega
  have q3 : n ≤ t'.length := by omega
  have q4 : n ≤ 9 := by omega
  obtain ⟨ch, hch⟩ : ∃ ch, ch = t'.take n := ⟨_, rfl⟩
  have hchl : ch.length = n := by rw [hch, List.length_take]; omega
  have hchd : Digs ch := fun b hb => hd' b (by rw [hch] at hb; exact List.mem_of_mem_take hb)
  obtain ⟨w2, e2', x2, hs2, z2⟩ := lay1 w (.cells (byteCells ch) 1)
  have hx2 := hxw.trans x2
  have g0 : w2.get h.size = _ := (x2.2 _ (by omega)).trans g0
  have g1 : w2.get (h.size + 1) = _ := (x2.2 _ (by omega)).trans g1
  simp +decide only [go_sem, W_region, Wx_some, hsz, e0, e2, e4, hpos, q1, q2, Int.toNat_natCast, Nat.zero_le, q3, Nat.sub_zero, List.drop_zero, ← hch, e2', hchl]
  refine W_loop (α := Nat) (fun k e w' => k ≤ n ∧ e.size = 60 ∧ w' = w2 ∧ e.get 0 = .string (text t') ∧ e.get 2 = .pointer (some ⟨h.size, 0, none⟩) ∧ e.get 4 = .pointer (some ⟨h.size + 1, 0, none⟩) ∧ e.get 5 = .int .i64 (n : Int) ∧ e.get 6 = .int .u64 ((dec (ch.take k) : Nat) : Int) ∧ e.get 7 = .int .u64 ((10 ^ k : Nat) : Int) ∧
   e.get 27 = .slice (some ⟨w.size, 0, none⟩) n big ∧ e.get 28 = .int .i64 (n : Int) ∧ e.get 29 = .int .i64 (k : Int)) (fun k => n - k) 0 ?_ ?_
  ·exact ⟨Nat.zero_le _, by simp +decide only [go_sem, hsz], rfl, by simp +decide only [go_sem, hsz, e0], by simp +decide only [go_sem, hsz, e2], by simp +decide only [go_sem, hsz, e4], by simp +decide only [go_sem, hsz], by simp +decide only [go_sem, hsz]; rfl, by simp +decide only [go_sem, hsz]; rfl, by simp +decide only [go_sem, hsz], by simp +decide only [go_sem, hsz], by simp +decide only [go_sem, hsz]; rfl⟩
  ·rintro k e w' ⟨hk, hsz, rfl, e0, e2, e4, e5, e6, e7, e27, e28, e29⟩ next2
   by_cases hkn : (k : Int) < (n : Int)
   case neg =>
    have hkk : k = n := by omega
    subst hkk
    have hx : dec ch < 18446744073709551616 := by
     have h1 := dec_lt hchd
     have h2 : 10 ^ ch.length ≤ 10 ^ 9 := Nat.pow_le_pow_right (by omega) (by omega)
     omega
    have hp : 10 ^ k < 18446744073709551616 := by
     have h2 : 10 ^ k ≤ 10 ^ 9 := Nat.pow_le_pow_right (by omega) (by omega)
     omega
    rw [List.take_of_length_le (by omega)] at e6
    simp +decide only [go_sem, W_region, Wx_some, hsz, e0, e2, e4, e5, e6, e7, e27, e28, e29, hkn, g1]
    refine W_call Kok (by omega) (of_run (10 ^ k) w' hp) fun r w3 x3 hr => ?_
    simp +decide only [go_sem, W_region, Wx_some, hsz, e0, e2, e4, e5, e6, e7]
    have hl10 : (dig (10 ^ k)).length ≤ 549755813887 := by
     have := dig_length.2 (show 10 ^ k < B ^ 2 by rw [B_eq]; omega)
     omega
    have hlV : (dig V).length ≤ 2000 := by have := dig_ten hV; omega
    refine W_call Kok (by have := x3.1; omega) (mul_run V (10 ^ k) w3 (nV.ext (x2.trans x3)) hr (by omega) hl10) fun r w4 x4 hr4 => ?_
    simp +decide only [go_sem, W_region, Wx_some, hsz, e0, e2, e4, e5, e6, e7]
    refine W_call Kok (by have := x3.1; have := x4.1; omega) (of_run (dec ch) w4 hx) fun r w5 x5 hr5 => ?_
    simp +decide only [go_sem, W_region, Wx_some, hsz, e0, e2, e4, e5, e6, e7]
    have hlx : (dig (dec ch)).length ≤ 549755813887 := by
     have := dig_length.2 (show dec ch < B ^ 2 by rw [B_eq]; omega)
     omega
    have hlm : (dig (V * 10 ^ k)).length ≤ 549755813887 := by
     have h1 : V * 10 ^ k < 10 ^ (N + 9) := by
      rw [Nat.pow_add]
      have h2 : 10 ^ k ≤ 10 ^ 9 := Nat.pow_le_pow_right (by omega) (by omega)
      have h3 : V * 10 ^ k ≤ V * 10 ^ 9 := Nat.mul_le_mul_left _ h2
      have h4 : V * 10 ^ 9 < 10 ^ N * 10 ^ 9 := Nat.mul_lt_mul_of_pos_right hV (by omega)
      omega
     have := dig_ten h1
     omega
    refine W_call Kok (by have := x3.1; have := x4.1; have := x5.1; omega) (add_run (V * 10 ^ k) (dec ch) w5 (hr4.ext x5) hr5 hlm hlx) fun r w6 x6 hr6 => ?_
    obtain ⟨a6, c6, rfl, s6⟩ := hr6.open
    have x26 := x3.trans (x4.trans (x5.trans x6))
    have g0 : w6.get h.size = _ := (x26.2 _ (by omega)).trans g0
    have g1 : w6.get (h.size + 1) = _ := (x26.2 _ (by omega)).trans g1
    obtain ⟨w7, e7', x7, hs7, g7, k7⟩ := put1 (hx2.trans x26) j1 (.cells [.slice a6 (dig (V * 10 ^ k + dec ch)).length c6] 1)
    have hd : (t'.drop k).take (t'.length - k) = t'.drop k := List.take_of_length_le (by simp)
    simp +decide only [go_sem, W_region, Wx_some, hsz, e0, e2, e4, e5, e6, e7, g1, j1, e7', q2, Int.toNat_natCast, q3, Nat.le_refl, hd]
    refine next (t'.drop k, V * 10 ^ k + dec ch, a6, c6) _ _ ⟨by simp +decide only [go_sem, hsz], x7, by have := x26.1; omega, (k7 _ (by omega)).trans g0, g7, hr6.over g1 (by rfl) (by rfl) hs7 g7 k7, by simp +decide only [go_sem, hsz], by simp +decide only [go_sem, hsz, e2], by simp +decide only [go_sem, hsz, e4], fun b hb => hd' b (List.mem_of_mem_drop hb), by simp only [List.length_drop]; omega, ?_⟩ (by simp only [List.length_drop]; omega)
    simp only
    rw [hval]
    have h1 := dec_append ch (t'.drop k)
    rw [hch, List.take_append_drop, ← hch] at h1
    rw [h1]
    have h2 : 10 ^ t'.length = 10 ^ k * 10 ^ (t'.drop k).length := by
     rw [← Nat.pow_add]
     congr 1
     simp
     omega
    rw [h2]
    generalize 10 ^ (t'.drop k).length = g at *
    generalize 10 ^ k = f at *
    grind
   have hkn' : k < n := by omega
   obtain ⟨b, hb⟩ : ∃ b, ch[k]? = some b := ⟨_, List.getElem?_eq_getElem (by omega)⟩
   have hbd := hchd b (List.mem_of_getElem? hb)
   have hbc : (byteCells ch)[k]? = some (.int .u8 b.toNat) := by simp [byteCells, hb]
   have l1 : ¬ ((b.toNat : Nat) : Int) < 48 := by omega
   have l2 : ¬ (57 : Int) < ((b.toNat : Nat) : Int) := by omega
   have l3 : (0 : Int) ≤ (k : Int) := by omega
   have hdk : dec (ch.take k) < 10 ^ 9 := by
    have h1 := dec_lt (l := ch.take k) fun b hb => hchd b (List.mem_of_mem_take hb)
    have h2 : 10 ^ (ch.take k).length ≤ 10 ^ 9 := Nat.pow_le_pow_right (by omega) (by simp; omega)
    omega
   have hpk : 10 ^ k ≤ 10 ^ 9 := Nat.pow_le_pow_right (by omega) (by omega)
   have m1 : IntKind.u64.wrap (10 * ((dec (ch.take k) : Nat) : Int)) = ((10 * dec (ch.take k) : Nat) : Int) := wmul (x := 10) (by omega)
   have m2 : IntKind.u64.wrap (10 * ((10 ^ k : Nat) : Int)) = ((10 ^ (k + 1) : Nat) : Int) := by
    rw [Nat.pow_succ, Nat.mul_comm]
    exact wmul (x := 10) (by omega)
   have m3 : IntKind.u8.wrap (((b.toNat : Nat) : Int) - 48) = ((b.toNat - 48 : Nat) : Int) := by rw [wrap_u8 (by omega) (by omega)]; omega
   have m4 : IntKind.u64.wrap (((10 * dec (ch.take k) : Nat) : Int) + ((b.toNat - 48 : Nat) : Int)) = ((dec (ch.take (k + 1)) : Nat) : Int) := by
    rw [wadd (by omega), List.take_add_one, hb]
    simp only [Option.toList_some]
    rw [dec_snoc, Nat.mul_comm]
   have i5 : IntKind.i64.wrap ((k : Int) + 1) = ((k + 1 : Nat) : Int) := by rw [wrap_i64 (by omega) (by omega)]; omega
   simp +decide only [go_sem, W_region, Wx_some, hsz, e0, e2, e4, e5, e6, e7, e27, e28, e29, hkn, l3, Nat.mul_one, Nat.zero_add, Int.toNat_natCast, z2, hbc, l1, l2, m1, m2, m3, w64 (show b.toNat - 48 < 18446744073709551616 by omega), m4, i5]
   exact next2 (k + 1) _ _ ⟨by omega, by simp +decide only [go_sem, hsz], rfl, by simp +decide only [go_sem, hsz, e0], by simp +decide only [go_sem, hsz, e2], by simp +decide only [go_sem, hsz, e4], by simp +decide only [go_sem, hsz, e5], by simp +decide only [go_sem, hsz], by simp +decide only [go_sem, hsz], by simp +decide only [go_sem, hsz, e27], by simp +decide only [go_sem, hsz, e28], by simp +decide only [go_sem, hsz]⟩ (by omega)
theorem parse_none (h : Heap) : Runs K f_nat_Parse #[.string (text [])] h fun r w => ∃ q, r = .tuple #[q, .bool false] ∧ NatV w q 0 := by
 refine Runs.of Kok (Does.intro rfl (by decide +kernel) F_nat_Parse rfl ?_)
 have c0' : text [] = ⟨#[]⟩ := rfl
 simp +decide only [go_sem, W_region, Wx_some, c0', Nat.le_refl]
 exact ⟨_, rfl, NatV.zero _⟩
end Go.Proofs.YtachkofbmodnnaaGreatDoor.N12
namespace Go.Im.Dec
open Go Go.Im Go.Im.Limbs Go.Proofs.YtachkofbmodnnaaGreatDoor.N12
def ds (n : Nat) : List UInt8 := if h : n < 10 then [UInt8.ofNat (48 + n)] else ds (n / 10) ++ [UInt8.ofNat (48 + n % 10)]
termination_by n
decreasing_by omega
end Go.Im.Dec
namespace Go.Proofs.YtachkofbmodnnaaGreatDoor.R1
open Go Go.Im Go.Im.Limbs Go.Im.Dec Go.Proofs Go.RowKit Hd N12
set_option maxRecDepth 100000
end Go.Proofs.YtachkofbmodnnaaGreatDoor.R1
namespace Go.Proofs.YtachkofbmodnnaaGreatDoor.N13
open Go Go.Im Go.Im.Limbs Go.Proofs Go.RowKit Hd N1 N2 N10 N11 N12
set_option maxRecDepth 100000
def IntV (h : Heap) (v : Value) (m : Nat) (s : Bool) : Prop := ∃ p, v = .agg #[p, .bool s] ∧ NatV h (.agg #[p]) m
def RatV (h : Heap) (v : Value) (m : Nat) (s : Bool) (k : Nat) : Prop := ∃ p q, v = .agg #[p, .bool s, q] ∧ NatV h (.agg #[p]) m ∧ NatV h (.agg #[q]) k
theorem natv_slice {h : Heap} {p : Value} {m : Nat} (H : NatV h (.agg #[p]) m) : ∃ a n c, p = .slice a n c := by
 obtain ⟨a, n, c, h1, _⟩ := H
 have := congrArg (fun v => match v with | .agg xs => xs[0]? | _ => none) h1
 simp at this
 exact ⟨a, n, c, this⟩
theorem size_run (h : Heap) {v : Value} {m : Nat} {s : Bool} (hv : IntV h v m s) : Runs K f_whole_Int_Size #[v] h fun r w => NatV w r m := by
 obtain ⟨p, rfl, hp⟩ := hv
 obtain ⟨a, n, c, rfl⟩ := natv_slice hp
 refine Runs.of Kok (Does.intro rfl (by decide +kernel) F_whole_Int_Size rfl ?_)
 obtain ⟨w0, e0, x0, hs0, z0, z1⟩ := lay2 h (.cells [.slice a n c, .bool s] 2) (.cells [.slice none 0 0] 1)
 have j1 : h.size ≤ h.size + 1 := by omega
 obtain ⟨w1, e1, x1, hs1, g1, k1⟩ := put1 x0 j1 (.cells [.slice a n c] 1)
 simp +decide only [go_sem, W_region, Wx_some, e0, z0, z1, j1, e1, g1]
 exact (hp.ext x0).over z1 (by rfl) (by rfl) hs1 g1 k1
theorem neg_run (h : Heap) {v : Value} {m : Nat} {s : Bool} (hv : IntV h v m s) : Runs K f_whole_Int_Neg #[v] h fun r _ => r = .bool s := by
 obtain ⟨p, rfl, hp⟩ := hv
 obtain ⟨a, n, c, rfl⟩ := natv_slice hp
 refine Runs.of Kok (Does.intro rfl (by decide +kernel) F_whole_Int_Neg rfl ?_)
 simp +decide only [go_sem, W_region, Wx_some]
theorem wof_run (h : Heap) {v : Value} {m : Nat} (s : Bool) (hv : NatV h v m) : Runs K f_whole_Of #[.bool s, v] h fun r w => IntV w r m (s && decide (m ≠ 0)) := by
 obtain ⟨a, n, c, rfl, hs⟩ := hv
 have hv : NatV h (.agg #[.slice a n c]) m := ⟨a, n, c, rfl, hs⟩
 refine Runs.of Kok (Does.intro rfl (by decide +kernel) F_whole_Of rfl ?_)
 obtain ⟨w0, e0, x0, hs0, z0, z1⟩ := lay2 h (.cells [.slice a n c] 1) (.cells [.slice none 0 0, .bool false] 2)
 have j1 : h.size ≤ h.size + 1 := by omega
 cases s with
 | false =>
   obtain ⟨w1, e1, x1, hs1, g1, k1⟩ := put1 x0 j1 (.cells [.slice a n c, .bool false] 2)
   simp +decide only [go_sem, W_region, Wx_some, e0, z0, z1, j1, e1, g1]
   exact ⟨.slice a n c, by simp, (hv.ext x0).over z1 (by rfl) (by rfl) hs1 g1 k1⟩
 | true =>
   simp +decide only [go_sem, W_region, Wx_some, e0, z0]
   refine W_call Kok (by omega) (zero_run m w0 (hv.ext x0)) fun r w1 x1 hr => ?_
   subst hr
   have z1 : w1.get (h.size + 1) = _ := (x1.2 _ (by omega)).trans z1
   by_cases hm : m = 0
   ·obtain ⟨w2, e2, x2, hs2, g2, k2⟩ := put1 (x0.trans x1) j1 (.cells [.slice a n c, .bool false] 2)
    simp +decide only [go_sem, W_region, Wx_some, hm, z1, j1, e2, g2]
    exact ⟨.slice a n c, by simp, by rw [hm] at hv; exact ((hv.ext x0).ext x1).over z1 (by rfl) (by rfl) hs2 g2 k2⟩
   ·obtain ⟨w2, e2, x2, hs2, g2, k2⟩ := put1 (x0.trans x1) j1 (.cells [.slice a n c, .bool true] 2)
    simp +decide only [go_sem, W_region, Wx_some, hm, z1, j1, e2, g2]
    exact ⟨.slice a n c, by simp [hm], ((hv.ext x0).ext x1).over z1 (by rfl) (by rfl) hs2 g2 k2⟩
theorem whole_run (h : Heap) {v : Value} {m : Nat} {s : Bool} (hv : IntV h v m s) : Runs K f_ratio_Whole #[v] h fun r w => RatV w r m s 1 := by
 obtain ⟨p, rfl, hp⟩ := hv
 obtain ⟨a, n, c, rfl⟩ := natv_slice hp
 refine Runs.of Kok (Does.intro rfl (by decide +kernel) F_ratio_Whole rfl ?_)
 obtain ⟨w0, e0, x0, hs0, z0, z1⟩ := lay2 h (.cells [.slice a n c, .bool s] 2) (.cells [.slice none 0 0, .bool false, .slice none 0 0] 3)
 have j1 : h.size ≤ h.size + 1 := by omega
 simp +decide only [go_sem, W_region, Wx_some, e0, z0]
 refine W_call Kok (by omega) (of_run 1 w0 (by omega)) fun r w1 x1 hr => ?_
 obtain ⟨a1, c1, rfl, s1⟩ := hr.open
 have z1 : w1.get (h.size + 1) = _ := (x1.2 _ (by omega)).trans z1
 obtain ⟨w2, e2, x2, hs2, g2, k2⟩ := put1 (x0.trans x1) j1 (.cells [.slice a n c, .bool s, .slice a1 (dig 1).length c1] 3)
 simp +decide only [go_sem, W_region, Wx_some, z1, j1, e2, g2]
 exact ⟨_, _, rfl, ((hp.ext x0).ext x1).over z1 (by rfl) (by rfl) hs2 g2 k2, hr.over z1 (by rfl) (by rfl) hs2 g2 k2⟩
theorem down_run (h : Heap) {v : Value} {m k : Nat} {s : Bool} (hv : RatV h v m s k) (hk : k ≠ 0) : Runs K f_ratio_Rat_down #[v] h fun r w => NatV w r k := by
 obtain ⟨p, q, rfl, hp, hq⟩ := hv
 obtain ⟨a, n, c, rfl⟩ := natv_slice hp
 obtain ⟨a', n', c', rfl⟩ := natv_slice hq
 refine Runs.of Kok (Does.intro rfl (by decide +kernel) F_ratio_Rat_down rfl ?_)
 obtain ⟨w0, e0, x0, hs0, z0, z1⟩ := lay2 h (.cells [.slice a n c, .bool s, .slice a' n' c'] 3) (.cells [.slice none 0 0] 1)
 have j1 : h.size ≤ h.size + 1 := by omega
 simp +decide only [go_sem, W_region, Wx_some, e0, z0]
 refine W_call Kok (by omega) (zero_run k w0 (hq.ext x0)) fun r w1 x1 hr => ?_
 subst hr
 have z0 : w1.get h.size = _ := (x1.2 _ (by omega)).trans z0
 have z1 : w1.get (h.size + 1) = _ := (x1.2 _ (by omega)).trans z1
 obtain ⟨w2, e2, x2, hs2, g2, k2⟩ := put1 (x0.trans x1) j1 (.cells [.slice a' n' c'] 1)
 simp +decide only [go_sem, W_region, Wx_some, hk, z0, z1, j1, e2, g2]
 exact ((hq.ext x0).ext x1).over z1 (by rfl) (by rfl) hs2 g2 k2
theorem under_run (h : Heap) {v : Value} {m k : Nat} {s : Bool} (hv : RatV h v m s k) (hk : k ≠ 0) : Runs K f_ratio_Rat_under #[v] h fun r w => IntV w r k false := by
 obtain ⟨p, q, rfl, hp, hq⟩ := hv
 obtain ⟨a, n, c, rfl⟩ := natv_slice hp
 obtain ⟨a', n', c', rfl⟩ := natv_slice hq
 refine Runs.of Kok (Does.intro rfl (by decide +kernel) F_ratio_Rat_under rfl ?_)
 obtain ⟨w0, e0, x0, hs0, z0, z1⟩ := lay2 h (.cells [.slice a n c, .bool s, .slice a' n' c'] 3) (.cells [.slice none 0 0, .bool false] 2)
 have j1 : h.size ≤ h.size + 1 := by omega
 simp +decide only [go_sem, W_region, Wx_some, e0, z0]
 refine W_call Kok (by omega) (down_run w0 (m := m) (s := s) ⟨_, _, rfl, hp.ext x0, hq.ext x0⟩ hk) fun r w1 x1 hr => ?_
 simp +decide only [go_sem, W_region, Wx_some]
 refine W_call Kok (by have := x1.1; omega) (wof_run w1 false hr) fun r w2 x2 hr => ?_
 obtain ⟨p2, rfl, hp2⟩ := hr
 have z1 : w2.get (h.size + 1) = _ := ((x1.trans x2).2 _ (by omega)).trans z1
 obtain ⟨a2, n2, c2, rfl⟩ := natv_slice hp2
 obtain ⟨w3, e3, x3, hs3, g3, k3⟩ := put1 (x0.trans (x1.trans x2)) j1 (.cells [.slice a2 n2 c2, .bool false] 2)
 simp +decide only [go_sem, W_region, Wx_some, Bool.false_and, z1, j1, e3, g3]
 exact ⟨_, rfl, hp2.over z1 (by rfl) (by rfl) hs3 g3 k3⟩
set_option maxHeartbeats 4000000 in
theorem itimes_run (h : Heap) {v q : Value} {m k b : Nat} {s t : Bool} (hv : IntV h v m s) (hb : b < h.size) (hg : h.get b = .cells [q, .bool t] 2) (hq : NatV h (.agg #[q]) k) (l1 : (dig m).length ≤ 549755813) (l2 : (dig k).length ≤ 549755813) :
  Runs K f_whole_Int_Times #[v, .slice (some ⟨b, 0, none⟩) 1 1] h fun r w => IntV w r (m * k) ((s != t) && decide (m * k ≠ 0)) := by
 obtain ⟨p, rfl, hp⟩ := hv
 obtain ⟨a, n, c, rfl⟩ := natv_slice hp
 obtain ⟨a', n', c', rfl⟩ := natv_slice hq
 refine Runs.of Kok (Does.intro rfl (by decide +kernel) F_whole_Int_Times rfl ?_)
 obtain ⟨w0, e0, x0, hs0, z0, z1⟩ := lay2 h (.cells [.slice a n c, .bool s] 2) (.cells [.slice none 0 0, .bool false] 2)
 have j1 : h.size ≤ h.size + 1 := by omega
 simp +decide only [go_sem, W_region, Wx_some, e0]
 rw [W_round]
 have hg0 : w0.get b = _ := (x0.2 _ hb).trans hg
 obtain ⟨w1, e1, x1, hs1, g1⟩ := lay1 w0 (.cells [.slice none 0 0, .bool false] 2)
 have k1 : h.size ≤ w0.size := by omega
 have hg1 : w1.get b = _ := (x1.2 _ (by omega)).trans hg0
 obtain ⟨w2, e2, x2, hs2, g2, k2⟩ := put1 (x0.trans x1) k1 (.cells [.slice a' n' c', .bool t] 2)
 have z0 : w2.get h.size = _ := (k2 _ (by omega)).trans ((x1.2 _ (by omega)).trans z0)
 have z1 : w2.get (h.size + 1) = _ := (k2 _ (by omega)).trans ((x1.2 _ (by omega)).trans z1)
 have np : NatV w2 (.agg #[.slice a n c]) m := ((hp.ext x0).ext x1).over g1 (by rfl) (by rfl) hs2 g2 k2
 have nq : NatV w2 (.agg #[.slice a' n' c']) k := ((hq.ext x0).ext x1).over g1 (by rfl) (by rfl) hs2 g2 k2
 have hbb : ¬ b = w0.size := by omega
 simp +decide only [go_sem, W_region, Wx_some, e1, hg0, g1, hbb, k1, e2, z0, g2]
 refine W_call Kok (by omega) (mul_run m k w2 np nq (by omega) (by omega)) fun r w3 x3 hr => ?_
 simp +decide only [go_sem, W_region, Wx_some]
 refine W_call Kok (by have := x3.1; omega) (wof_run w3 _ hr) fun r w4 x4 hr => ?_
 obtain ⟨p4, rfl, hp4⟩ := hr
 obtain ⟨a4, n4, c4, rfl⟩ := natv_slice hp4
 have x34 := x3.trans x4
 have z0 : w4.get h.size = _ := (x34.2 _ (by omega)).trans z0
 have z1 : w4.get (h.size + 1) = _ := (x34.2 _ (by omega)).trans z1
 obtain ⟨bs, hbs⟩ : ∃ bs, bs = (!decide (s = t) && decide (m * k ≠ 0)) := ⟨_, rfl⟩
 obtain ⟨w5, e5, x5, hs5, g5, k5⟩ := put1 (x2.trans x34) (Nat.le_refl h.size) (.cells [.slice a4 n4 c4, .bool bs] 2)
 have z1 : w5.get (h.size + 1) = _ := (k5 _ (by omega)).trans z1
 obtain ⟨w6, e6, x6, hs6, g6, k6⟩ := put1 x5 j1 (.cells [.slice a4 n4 c4, .bool bs] 2)
 have i1 : IntKind.i64.wrap (0 + 1) = 1 := wrap_i64 (by omega) (by omega)
 have z0' : w4.get h.size = .cells [.slice a n c, .bool s] 2 := z0
 simp +decide only [go_sem, W_region, Wx_some, ← hbs, z0, Nat.le_refl, e5, i1]
 rw [W_round]
 simp +decide only [go_sem, W_region, Wx_some, g5, z1, j1, e6, g6]
 refine ⟨_, ?_, (hp4.over z0' (by rfl) (by rfl) hs5 g5 k5).over z1 (by rfl) (by rfl) hs6 g6 k6⟩
 rw [hbs]
 cases s <;> cases t <;> simp
set_option maxHeartbeats 4000000 in
theorem new_run (h : Heap) {v u : Value} {m k : Nat} {s t : Bool} (hv : IntV h v m s) (hu : IntV h u k t) (hk : k ≠ 0) (l1 : (dig m).length ≤ 549755813) (l2 : (dig k).length ≤ 549755813) :
  Runs K f_ratio_New #[v, u] h fun r w => ∃ q, r = .tuple #[q, .bool true] ∧ RatV w q (m / Nat.gcd m k) ((s != t) && decide (m / Nat.gcd m k ≠ 0)) (k / Nat.gcd m k) := by
 obtain ⟨p, rfl, hp⟩ := hv
 obtain ⟨a, n, c, rfl⟩ := natv_slice hp
 obtain ⟨q, rfl, hq⟩ := hu
 obtain ⟨a', n', c', rfl⟩ := natv_slice hq
 have hg0 : Nat.gcd m k ≠ 0 := fun h0 => hk (Nat.eq_zero_of_gcd_eq_zero_right h0)
 have lg : (dig (Nat.gcd m k)).length ≤ 549755813 := Nat.le_trans (dig_le_of (Nat.le_of_dvd (by omega) (Nat.gcd_dvd_right m k))) l2
 refine Runs.of Kok (Does.intro rfl (by decide +kernel) F_ratio_New rfl ?_)
 obtain ⟨w0, e0, x0, hs0, z0, z1, z2⟩ := lay3 h (.cells [.slice a n c, .bool s] 2) (.cells [.slice a' n' c', .bool t] 2) (.cells [.slice none 0 0, .bool false, .slice none 0 0] 3)
 have j2 : h.size ≤ h.size + 2 := by omega
 simp +decide only [go_sem, W_region, Wx_some, e0, z1]
 refine W_call Kok (by omega) (zero_run k w0 (hq.ext x0)) fun r w1 x1 hr => ?_
 subst hr
 have y0 : w1.get h.size = _ := (x1.2 _ (by omega)).trans z0
 have y1 : w1.get (h.size + 1) = _ := (x1.2 _ (by omega)).trans z1
 have y2 : w1.get (h.size + 2) = _ := (x1.2 _ (by omega)).trans z2
 have t1 : w0.size ≤ w1.size := x1.1
 have np1 := (hp.ext x0).ext x1
 have nq1 := (hq.ext x0).ext x1
 simp +decide only [go_sem, W_region, Wx_some, hk, y0, y1]
 refine W_call Kok (by omega) (size_run w1 (m := k) (s := t) ⟨_, rfl, nq1⟩) fun r w2 x2 hr => ?_
 simp +decide only [go_sem, W_region, Wx_some]
 refine W_call Kok (by have := x2.1; omega) (gcd_run m k w2 (np1.ext x2) hr l1 l2) fun r w3 x3 hr => ?_
 obtain ⟨ag, cg, rfl, sg⟩ := hr.open
 have x13 := x2.trans x3
 obtain ⟨w4, e4, x4, hs4, g4⟩ := lay1 w3 (.cells [.slice none 0 0] 1)
 have t3 : w1.size ≤ w3.size := x13.1
 have k3 : h.size ≤ w3.size := by omega
 have hx3 := x0.trans (x1.trans x13)
 obtain ⟨w5, e5, x5, hs5, g5, k5⟩ := put1 (hx3.trans x4) k3 (.cells [.slice ag (dig (Nat.gcd m k)).length cg] 1)
 have x14 := x13.trans x4
 have y0 : w5.get h.size = _ := (k5 _ (by omega)).trans ((x14.2 _ (by omega)).trans y0)
 have y1 : w5.get (h.size + 1) = _ := (k5 _ (by omega)).trans ((x14.2 _ (by omega)).trans y1)
 have y2 : w5.get (h.size + 2) = _ := (k5 _ (by omega)).trans ((x14.2 _ (by omega)).trans y2)
 have np5 : NatV w5 (.agg #[.slice a n c]) m := (np1.ext x14).over g4 (by rfl) (by rfl) hs5 g5 k5
 have nq5 : NatV w5 (.agg #[.slice a' n' c']) k := (nq1.ext x14).over g4 (by rfl) (by rfl) hs5 g5 k5
 have ng5 : NatV w5 (.agg #[.slice ag (dig (Nat.gcd m k)).length cg]) (Nat.gcd m k) := (hr.ext x4).over g4 (by rfl) (by rfl) hs5 g5 k5
 simp +decide only [go_sem, W_region, Wx_some, e4, g4, k3, e5, y0, g5]
 refine W_call Kok (by omega) (divmod_run m (Nat.gcd m k) w5 np5 ng5 l1) fun r w6 x6 hr6 => ?_
 obtain ⟨qa, ra, rfl, hqa, hra⟩ := hr6
 rw [if_neg hg0] at hqa hra
 obtain ⟨aq, cq, rfl, sq⟩ := hqa.open
 obtain ⟨ar, cr, rfl, sr⟩ := hra.open
 obtain ⟨w7, e7, x7, hs7, g7, g7'⟩ := lay2 w6 (.cells [.slice none 0 0] 1) (.cells [.slice none 0 0] 1)
 have t6 : w5.size ≤ w6.size := x6.1
 have k6 : h.size ≤ w6.size := by omega
 have k6' : h.size ≤ w6.size + 1 := by omega
 have x67 := x6.trans x7
 obtain ⟨w8, e8, x8, hs8, g8, k8⟩ := put1 (x5.trans x67) k6 (.cells [.slice aq (dig (m / Nat.gcd m k)).length cq] 1)
 have g8' : w8.get (w6.size + 1) = .cells [.slice none 0 0] 1 := (k8 _ (by omega)).trans g7'
 obtain ⟨w9, e9, x9, hs9, g9, k9⟩ := put1 x8 k6' (.cells [.slice ar (dig (m % Nat.gcd m k)).length cr] 1)
 have mv : ∀ q (hq : q < w5.size), w9.get q = w5.get q := fun q hq => (k9 _ (by omega)).trans ((k8 _ (by omega)).trans (x67.2 _ hq))
 have y0 : w9.get h.size = _ := (mv _ (by omega)).trans y0
 have y1 : w9.get (h.size + 1) = _ := (mv _ (by omega)).trans y1
 have y2 : w9.get (h.size + 2) = _ := (mv _ (by omega)).trans y2
 have gg9 : w9.get w3.size = _ := (mv _ (by omega)).trans g5
 have gq9 : w9.get w6.size = .cells [.slice aq (dig (m / Nat.gcd m k)).length cq] 1 := (k9 _ (by omega)).trans g8
 have up9 : ∀ {v : Value} {M : Nat}, NatV w7 v M → NatV w9 v M := fun H => (H.over g7 (by rfl) (by rfl) hs8 g8 k8).over g8' (by rfl) (by rfl) hs9 g9 k9
 have nq9 := up9 (nq5.ext x67)
 have ng9 := up9 (ng5.ext x67)
 have na9 := up9 (hqa.ext x7)
 simp +decide only [go_sem, W_region, Wx_some, e7, g7, k6, e8, g8', k6', e9, y1, gg9]
 refine W_call Kok (by omega) (divmod_run k (Nat.gcd m k) w9 nq9 ng9 l2) fun r wa xa hra => ?_
 obtain ⟨qb, rb, rfl, hqb, hrb⟩ := hra
 rw [if_neg hg0] at hqb hrb
 obtain ⟨aq', cq', rfl, sq'⟩ := hqb.open
 obtain ⟨ar', cr', rfl, sr'⟩ := hrb.open
 obtain ⟨wb, eb, xb, hsb, gb, gb'⟩ := lay2 wa (.cells [.slice none 0 0] 1) (.cells [.slice none 0 0] 1)
 have ta : w9.size ≤ wa.size := xa.1
 have ka : h.size ≤ wa.size := by omega
 have ka' : h.size ≤ wa.size + 1 := by omega
 have xab := xa.trans xb
 obtain ⟨wc, ec, xc, hsc, gc, kc⟩ := put1 (x9.trans xab) ka (.cells [.slice aq' (dig (k / Nat.gcd m k)).length cq'] 1)
 have gc' : wc.get (wa.size + 1) = .cells [.slice none 0 0] 1 := (kc _ (by omega)).trans gb'
 obtain ⟨wd, ed, xd, hsd, gd, kd⟩ := put1 xc ka' (.cells [.slice ar' (dig (k % Nat.gcd m k)).length cr'] 1)
 have mv : ∀ q (hq : q < w9.size), wd.get q = w9.get q := fun q hq => (kd _ (by omega)).trans ((kc _ (by omega)).trans (xab.2 _ hq))
 have y0 : wd.get h.size = _ := (mv _ (by omega)).trans y0
 have y1 : wd.get (h.size + 1) = _ := (mv _ (by omega)).trans y1
 have y2 : wd.get (h.size + 2) = _ := (mv _ (by omega)).trans y2
 have gqd : wd.get w6.size = _ := (mv _ (by omega)).trans gq9
 have gbd : wd.get wa.size = .cells [.slice aq' (dig (k / Nat.gcd m k)).length cq'] 1 := (kd _ (by omega)).trans gc
 have upd : ∀ {v : Value} {M : Nat}, NatV wb v M → NatV wd v M := fun H => (H.over gb (by rfl) (by rfl) hsc gc kc).over gc' (by rfl) (by rfl) hsd gd kd
 have npd := upd (up9 (np5.ext x67) |>.ext xab)
 have nqd := upd (nq9.ext xab)
 have nad := upd (na9.ext xab)
 have nbd := upd (hqb.ext xb)
 simp +decide only [go_sem, W_region, Wx_some, eb, gb, ka, ec, gc', ka', ed, y0]
 refine W_call Kok (by omega) (neg_run wd (m := m) (s := s) ⟨_, rfl, npd⟩) fun r we xe hre => ?_
 subst hre
 have y1 : we.get (h.size + 1) = _ := (xe.2 _ (by omega)).trans y1
 simp +decide only [go_sem, W_region, Wx_some, y1]
 refine W_call Kok (by have := xe.1; omega) (neg_run we (m := k) (s := t) ⟨_, rfl, nqd.ext xe⟩) fun r wf xf hrf => ?_
 subst hrf
 have xef := xe.trans xf
 have gqf : wf.get w6.size = _ := (xef.2 _ (by omega)).trans gqd
 simp +decide only [go_sem, W_region, Wx_some, gqf]
 refine W_call Kok (by have := xef.1; omega) (wof_run wf _ (nad.ext xef)) fun r wg xg hrg => ?_
 obtain ⟨pg, rfl, hpg⟩ := hrg
 obtain ⟨a4, n4, c4, rfl⟩ := natv_slice hpg
 have xeg := xef.trans xg
 have gbg : wg.get wa.size = _ := (xeg.2 _ (by omega)).trans gbd
 have y2 : wg.get (h.size + 2) = _ := (xeg.2 _ (by omega)).trans y2
 obtain ⟨bs, hbs⟩ : ∃ bs, bs = (!decide (s = t) && decide (m / Nat.gcd m k ≠ 0)) := ⟨_, rfl⟩
 obtain ⟨wh, eh, xh, hsh, gh, kh⟩ := put1 (xd.trans xeg) j2 (.cells [.slice a4 n4 c4, .bool bs, .slice aq' (dig (k / Nat.gcd m k)).length cq'] 3)
 simp +decide only [go_sem, W_region, Wx_some, ← hbs, gbg, y2, j2, eh, gh]
 refine ⟨_, rfl, _, _, ?_, hpg.over y2 (by rfl) (by rfl) hsh gh kh, (nbd.ext xeg).over y2 (by rfl) (by rfl) hsh gh kh⟩
 rw [hbs]
 cases s <;> cases t <;> simp
end Go.Proofs.YtachkofbmodnnaaGreatDoor.N13
namespace Go.Proofs.YtachkofbmodnnaaGreatDoor.N14
open Go Go.Im Go.Im.Limbs Go.Proofs Go.RowKit Hd N1 N2 N10 N11 N12 N13
set_option maxRecDepth 100000
theorem pow_dig {n N : Nat} (h : n < N) : (dig (10 ^ n)).length ≤ N := dig_ten (Nat.pow_lt_pow_right (by omega) h)
theorem dig_mul {m k a b : Nat} (h1 : (dig m).length ≤ a) (h2 : (dig k).length ≤ b) : (dig (m * k)).length ≤ a + b := by
 rw [dig_length] at *
 rw [Nat.pow_add]
 have h3 : m * k ≤ m * B ^ b := Nat.mul_le_mul_left _ (Nat.le_of_lt h2)
 have h4 : m * B ^ b < B ^ a * B ^ b := Nat.mul_lt_mul_of_pos_right h1 (Nat.pow_pos B_pos)
 omega
theorem gcd_quo {m k : Nat} (hk : k ≠ 0) : m / Nat.gcd m k ≠ 0 ↔ m ≠ 0 := by
 have hg : 0 < Nat.gcd m k := Nat.pos_of_ne_zero fun h0 => hk (Nat.eq_zero_of_gcd_eq_zero_right h0)
 constructor
 ·rintro h rfl
  simp at h
 ·intro h h0
  have h2 := Nat.div_mul_cancel (Nat.gcd_dvd_left m k)
  rw [h0, Nat.zero_mul] at h2
  exact h h2.symm
set_option maxHeartbeats 4000000 in
theorem rtimes_run (h : Heap) {v p2 q2 : Value} {m k m2 k2 b : Nat} {s t : Bool} (hv : RatV h v m s k) (hb : b < h.size) (hg : h.get b = .cells [p2, .bool t, q2] 3) (hp2 : NatV h (.agg #[p2]) m2) (hq2 : NatV h (.agg #[q2]) k2)
  (hk : k ≠ 0) (hk2 : k2 ≠ 0) (l1 : (dig m).length ≤ 200000000) (l2 : (dig k).length ≤ 200000000) (l3 : (dig m2).length ≤ 200000000) (l4 : (dig k2).length ≤ 200000000) :
  Runs K f_ratio_Rat_Times #[v, .slice (some ⟨b, 0, none⟩) 1 1] h fun r w => RatV w r (m * m2 / Nat.gcd (m * m2) (k * k2)) ((s != t) && decide (m * m2 ≠ 0)) (k * k2 / Nat.gcd (m * m2) (k * k2)) := by
 obtain ⟨p, q, rfl, hp, hq⟩ := hv
 obtain ⟨a, n, c, rfl⟩ := natv_slice hp
 obtain ⟨a', n', c', rfl⟩ := natv_slice hq
 obtain ⟨a2, n2, c2, rfl⟩ := natv_slice hp2
 obtain ⟨a2', n2', c2', rfl⟩ := natv_slice hq2
 refine Runs.of Kok (Does.intro rfl (by decide +kernel) F_ratio_Rat_Times rfl ?_)
 obtain ⟨w0, e0, x0, hs0, z0, z1⟩ := lay2 h (.cells [.slice a n c, .bool s, .slice a' n' c'] 3) (.cells [.slice none 0 0, .bool false, .slice none 0 0] 3)
 have j1 : h.size ≤ h.size + 1 := by omega
 simp +decide only [go_sem, W_region, Wx_some, e0]
 rw [W_round]
 have hg0 : w0.get b = _ := (x0.2 _ hb).trans hg
 obtain ⟨w1, e1, x1, hs1, g1⟩ := lay1 w0 (.cells [.slice none 0 0, .bool false, .slice none 0 0] 3)
 have k1 : h.size ≤ w0.size := by omega
 have hg1 : w1.get b = _ := (x1.2 _ (by omega)).trans hg0
 obtain ⟨w2, e2, x2, hs2, g2, k2'⟩ := put1 (x0.trans x1) k1 (.cells [.slice a2 n2 c2, .bool t, .slice a2' n2' c2'] 3)
 have z0 : w2.get h.size = _ := (k2' _ (by omega)).trans ((x1.2 _ (by omega)).trans z0)
 have z1 : w2.get (h.size + 1) = _ := (k2' _ (by omega)).trans ((x1.2 _ (by omega)).trans z1)
 have up : ∀ {v : Value} {M : Nat}, NatV h v M → NatV w2 v M := fun H => ((H.ext x0).ext x1).over g1 (by rfl) (by rfl) hs2 g2 k2'
 have np := up hp
 have nq := up hq
 have np2 := up hp2
 have nq2 := up hq2
 obtain ⟨w3, e3, x3, hs3, g3⟩ := lay1 w2 (.cells [.slice a2 n2 c2, .bool t] 2)
 simp +decide only [go_sem, W_region, Wx_some, e1, hg0, g1, k1, e2, z0, g2, e3]
 refine W_call Kok (by omega) (itimes_run w3 (m := m) (s := s) (b := w2.size) ⟨_, rfl, np.ext x3⟩ (by omega) g3 (np2.ext x3) (by omega) (by omega)) fun r w4 x4 hr4 => ?_
 obtain ⟨pt, rfl, hpt⟩ := hr4
 have z0 : w4.get h.size = _ := (x4.2 _ (by omega)).trans ((x3.2 _ (by omega)).trans z0)
 have g2' : w4.get w0.size = _ := (x4.2 _ (by omega)).trans ((x3.2 _ (by omega)).trans g2)
 have x34 := x3.trans x4
 simp +decide only [go_sem, W_region, Wx_some, z0]
 refine W_call Kok (by have := x34.1; omega) (under_run w4 (m := m) (s := s) ⟨_, _, rfl, np.ext x34, nq.ext x34⟩ hk) fun r w5 x5 hr5 => ?_
 obtain ⟨pu, rfl, hpu⟩ := hr5
 have g2' : w5.get w0.size = _ := (x5.2 _ (by have := x34.1; omega)).trans g2'
 have x35 := x34.trans x5
 simp +decide only [go_sem, W_region, Wx_some, g2']
 refine W_call Kok (by have := x35.1; omega) (under_run w5 (m := m2) (s := t) ⟨_, _, rfl, np2.ext x35, nq2.ext x35⟩ hk2) fun r w6 x6 hr6 => ?_
 obtain ⟨pv, rfl, hpv⟩ := hr6
 obtain ⟨av, nv, cv, rfl⟩ := natv_slice hpv
 obtain ⟨w7, e7, x7, hs7, g7⟩ := lay1 w6 (.cells [.slice av nv cv, .bool false] 2)
 have x36 := x35.trans x6
 have x37 := x36.trans x7
 simp +decide only [go_sem, W_region, Wx_some, e7]
 refine W_call Kok (by have := x36.1; omega) (itimes_run w7 (m := k) (s := false) (b := w6.size) ⟨_, rfl, hpu.ext (x6.trans x7)⟩ (by omega) g7 (hpv.ext x7) (by omega) (by omega)) fun r w8 x8 hr8 => ?_
 obtain ⟨pw, rfl, hpw⟩ := hr8
 have x38 := x37.trans x8
 simp +decide only [go_sem, W_region, Wx_some]
 have hkk : k * k2 ≠ 0 := Nat.mul_ne_zero hk hk2
 refine W_call Kok (by have := x38.1; omega) (new_run w8 (m := m * m2) (k := k * k2) ⟨_, rfl, hpt.ext (x5.trans (x6.trans (x7.trans x8)))⟩ ⟨_, rfl, hpw⟩ hkk (Nat.le_trans (dig_mul l1 l3) (by omega)) (Nat.le_trans (dig_mul l2 l4) (by omega))) fun r w9 x9 hr9 => ?_
 obtain ⟨qr, rfl, hqr⟩ := hr9
 have hsg : ((((s != t) && decide (m * m2 ≠ 0)) != ((false != false) && decide (k * k2 ≠ 0))) && decide (m * m2 / Nat.gcd (m * m2) (k * k2) ≠ 0)) = ((s != t) && decide (m * m2 ≠ 0)) := by
  have hx := gcd_quo (m := m * m2) hkk
  by_cases h0 : m * m2 = 0
  ·simp [h0]
  ·have h1 := hx.2 h0
   simp [h0, h1]
 rw [hsg] at hqr
 obtain ⟨pr, qq, rfl, hpr, hqq⟩ := hqr
 obtain ⟨a9, n9, c9, rfl⟩ := natv_slice hpr
 obtain ⟨a9', n9', c9', rfl⟩ := natv_slice hqq
 have x39 := x38.trans x9
 have z0 : w9.get h.size = .cells [.slice a n c, .bool s, .slice a' n' c'] 3 := (((x5.trans (x6.trans (x7.trans (x8.trans x9)))).2 _ (by have := x34.1; omega))).trans z0
 have z1 : w9.get (h.size + 1) = _ := (x39.2 _ (by omega)).trans z1
 obtain ⟨wa, ea, xa, hsa, ga, ka⟩ := put1 (x2.trans x39) (Nat.le_refl h.size) (.cells [.slice a9 n9 c9, .bool ((s != t) && decide (m * m2 ≠ 0)), .slice a9' n9' c9'] 3)
 have z1 : wa.get (h.size + 1) = _ := (ka _ (by omega)).trans z1
 obtain ⟨wb, eb, xb, hsb, gb, kb⟩ := put1 xa j1 (.cells [.slice a9 n9 c9, .bool ((s != t) && decide (m * m2 ≠ 0)), .slice a9' n9' c9'] 3)
 have i1 : IntKind.i64.wrap (0 + 1) = 1 := wrap_i64 (by omega) (by omega)
 generalize hbs : ((s != t) && decide (m * m2 ≠ 0)) = bs at *
 simp +decide only [go_sem, W_region, Wx_some, z0, Nat.le_refl, ea, i1]
 rw [W_round]
 simp +decide only [go_sem, W_region, Wx_some, ga, z1, j1, eb, gb]
 exact ⟨_, _, rfl, (hpr.over z0 (by rfl) (by rfl) hsa ga ka).over z1 (by rfl) (by rfl) hsb gb kb, (hqq.over z0 (by rfl) (by rfl) hsa ga ka).over z1 (by rfl) (by rfl) hsb gb kb⟩
set_option maxHeartbeats 4000000 in
theorem by_run (h : Heap) {v u : Value} {m k m2 k2 : Nat} {s : Bool} (hv : RatV h v m s k) (hu : RatV h u m2 false k2)
  (hk : k ≠ 0) (hk2 : k2 ≠ 0) (hm2 : m2 ≠ 0) (l1 : (dig m).length ≤ 200000000) (l2 : (dig k).length ≤ 200000000) (l3 : (dig m2).length ≤ 200000000) (l4 : (dig k2).length ≤ 200000000) :
  Runs K f_ratio_Rat_By #[v, u] h fun r w => ∃ q, r = .tuple #[q, .bool true] ∧ RatV w q (m * k2 / Nat.gcd (m * k2) (k * m2)) (s && decide (m * k2 ≠ 0)) (k * m2 / Nat.gcd (m * k2) (k * m2)) := by
 obtain ⟨p, q, rfl, hp, hq⟩ := hv
 obtain ⟨a, n, c, rfl⟩ := natv_slice hp
 obtain ⟨a', n', c', rfl⟩ := natv_slice hq
 obtain ⟨p2, q2, rfl, hp2, hq2⟩ := hu
 obtain ⟨a2, n2, c2, rfl⟩ := natv_slice hp2
 obtain ⟨a2', n2', c2', rfl⟩ := natv_slice hq2
 refine Runs.of Kok (Does.intro rfl (by decide +kernel) F_ratio_Rat_By rfl ?_)
 obtain ⟨w2, e0, x0, hs0, z0, z1, z2⟩ := lay3 h (.cells [.slice a n c, .bool s, .slice a' n' c'] 3) (.cells [.slice a2 n2 c2, .bool false, .slice a2' n2' c2'] 3) (.cells [.slice none 0 0, .bool false, .slice none 0 0] 3)
 have j2 : h.size ≤ h.size + 2 := by omega
 have np := hp.ext x0
 have nq := hq.ext x0
 have np2 := hp2.ext x0
 have nq2 := hq2.ext x0
 simp +decide only [go_sem, W_region, Wx_some, e0, z0, z1]
 refine W_call Kok (by omega) (under_run w2 (m := m2) (s := false) ⟨_, _, rfl, np2, nq2⟩ hk2) fun r w3 x3 hr3 => ?_
 obtain ⟨pv, rfl, hpv⟩ := hr3
 obtain ⟨av, nv, cv, rfl⟩ := natv_slice hpv
 obtain ⟨w4, e4, x4, hs4, g4⟩ := lay1 w3 (.cells [.slice av nv cv, .bool false] 2)
 have x34 := x3.trans x4
 simp +decide only [go_sem, W_region, Wx_some, e4]
 refine W_call Kok (by have := x3.1; omega) (itimes_run w4 (m := m) (s := s) (b := w3.size) ⟨_, rfl, np.ext x34⟩ (by omega) g4 (hpv.ext x4) (by omega) (by omega)) fun r w5 x5 hr5 => ?_
 obtain ⟨pt, rfl, hpt⟩ := hr5
 have x35 := x34.trans x5
 have z0 : w5.get h.size = _ := (x35.2 _ (by omega)).trans z0
 have z1 : w5.get (h.size + 1) = _ := (x35.2 _ (by omega)).trans z1
 simp +decide only [go_sem, W_region, Wx_some, z0]
 refine W_call Kok (by have := x35.1; omega) (under_run w5 (m := m) (s := s) ⟨_, _, rfl, np.ext x35, nq.ext x35⟩ hk) fun r w6 x6 hr6 => ?_
 obtain ⟨pu, rfl, hpu⟩ := hr6
 have x36 := x35.trans x6
 have z1 : w6.get (h.size + 1) = _ := (x6.2 _ (by have := x35.1; omega)).trans z1
 obtain ⟨w7, e7, x7, hs7, g7⟩ := lay1 w6 (.cells [.slice a2 n2 c2, .bool false] 2)
 have x37 := x36.trans x7
 simp +decide only [go_sem, W_region, Wx_some, z1, e7]
 refine W_call Kok (by have := x36.1; omega) (itimes_run w7 (m := k) (s := false) (b := w6.size) ⟨_, rfl, hpu.ext x7⟩ (by omega) g7 (np2.ext x37) (by omega) (by omega)) fun r w8 x8 hr8 => ?_
 obtain ⟨pw, rfl, hpw⟩ := hr8
 have x38 := x37.trans x8
 simp +decide only [go_sem, W_region, Wx_some]
 have hkk : k * m2 ≠ 0 := Nat.mul_ne_zero hk hm2
 refine W_call Kok (by have := x38.1; omega) (new_run w8 (m := m * k2) (k := k * m2) ⟨_, rfl, hpt.ext (x6.trans (x7.trans x8))⟩ ⟨_, rfl, hpw⟩ hkk (Nat.le_trans (dig_mul l1 l4) (by omega)) (Nat.le_trans (dig_mul l2 l3) (by omega))) fun r w9 x9 hr9 => ?_
 obtain ⟨qr, rfl, hqr⟩ := hr9
 have hsg : ((((s != false) && decide (m * k2 ≠ 0)) != ((false != false) && decide (k * m2 ≠ 0))) && decide (m * k2 / Nat.gcd (m * k2) (k * m2) ≠ 0)) = (s && decide (m * k2 ≠ 0)) := by
  have hx := gcd_quo (m := m * k2) hkk
  by_cases h0 : m * k2 = 0
  ·simp [h0]
  ·have h1 := hx.2 h0
   simp [h0, h1]
 rw [hsg] at hqr
 obtain ⟨pr, qq, rfl, hpr, hqq⟩ := hqr
 obtain ⟨a9, n9, c9, rfl⟩ := natv_slice hpr
 obtain ⟨a9', n9', c9', rfl⟩ := natv_slice hqq
 have x39 := x38.trans x9
 have z2 : w9.get (h.size + 2) = _ := (x39.2 _ (by omega)).trans z2
 generalize hbs : (s && decide (m * k2 ≠ 0)) = bs at *
 obtain ⟨wa, ea, xa, hsa, ga, ka⟩ := put1 (x0.trans x39) j2 (.cells [.slice a9 n9 c9, .bool bs, .slice a9' n9' c9'] 3)
 simp +decide only [go_sem, W_region, Wx_some, z2, j2, ea, ga]
 exact ⟨_, rfl, _, _, rfl, hpr.over z2 (by rfl) (by rfl) hsa ga ka, hqq.over z2 (by rfl) (by rfl) hsa ga ka⟩
def scM (m : Nat) (e : Int) : Nat := if 0 ≤ e then m * 10 ^ e.toNat else m / Nat.gcd m (10 ^ (-e).toNat)
def scK (m : Nat) (e : Int) : Nat := if 0 ≤ e then 1 else 10 ^ (-e).toNat / Nat.gcd m (10 ^ (-e).toNat)
set_option maxHeartbeats 4000000 in
theorem scaled_run (h : Heap) {v : Value} {m : Nat} {s : Bool} {e : Int} (hv : RatV h v m s 1) (hs : s = true → m ≠ 0) (l1 : (dig m).length ≤ 100000000) (he1 : -2000 ≤ e) (he2 : e ≤ 2000) :
  Runs K f_deci_scaled #[v, .int .i64 e] h fun r w => RatV w r (scM m e) s (scK m e) := by
 obtain ⟨p, q, rfl, hp, hq⟩ := hv
 obtain ⟨a, n, c, rfl⟩ := natv_slice hp
 obtain ⟨a', n', c', rfl⟩ := natv_slice hq
 have l10 : ∀ n, n ≤ 2000 → (dig (10 ^ n)).length ≤ 2001 := fun n hn => pow_dig (by omega)
 refine Runs.of Kok (Does.intro rfl (by decide +kernel) F_deci_scaled rfl ?_)
 obtain ⟨w0, e0, x0, hs0, z0, z1⟩ := lay2 h (.cells [.slice a n c, .bool s, .slice a' n' c'] 3) (.cells [.slice none 0 0, .bool false, .slice none 0 0] 3)
 have j1 : h.size ≤ h.size + 1 := by omega
 have i1 : IntKind.i64.wrap (0 - e) = 0 - e := wrap_i64 (by omega) (by omega)
 obtain ⟨g, hg⟩ : ∃ g : Nat, g = (max e (0 - e)).toNat := ⟨_, rfl⟩
 have i2 : max e (0 - e) = (g : Int) := by omega
 simp +decide only [go_sem, W_region, Wx_some, e0, i1, i2]
 refine W_call Kok (by omega) (ten_run g w0 (by omega)) fun r w1 x1 hr => ?_
 simp +decide only [go_sem, W_region, Wx_some]
 refine W_call Kok (by have := x1.1; omega) (wof_run w1 false hr) fun r w2 x2 hr => ?_
 simp +decide only [go_sem, W_region, Wx_some]
 refine W_call Kok (by have := x1.1; have := x2.1; omega) (whole_run w2 hr) fun r w3 x3 hr => ?_
 obtain ⟨p3, q3, rfl, hp3, hq3⟩ := hr
 obtain ⟨a3, n3, c3, rfl⟩ := natv_slice hp3
 obtain ⟨a3', n3', c3', rfl⟩ := natv_slice hq3
 have x13 := x1.trans (x2.trans x3)
 have hx3 := x0.trans x13
 obtain ⟨w4, e4, x4, hs4, g4⟩ := lay1 w3 (.cells [.slice none 0 0, .bool false, .slice none 0 0] 3)
 have t3 : w0.size ≤ w3.size := x13.1
 have k3 : h.size ≤ w3.size := by omega
 obtain ⟨w5, e5, x5, hs5, g5, k5⟩ := put1 (hx3.trans x4) k3 (.cells [.slice a3 n3 c3, .bool false, .slice a3' n3' c3'] 3)
 have up : ∀ {v : Value} {M : Nat}, NatV w3 v M → NatV w5 v M := fun H => (H.ext x4).over g4 (by rfl) (by rfl) hs5 g5 k5
 have np := up ((hp.ext x0).ext x13)
 have nq := up ((hq.ext x0).ext x13)
 have np3 := up hp3
 have nq3 := up hq3
 have z0 : w5.get h.size = _ := (k5 _ (by omega)).trans ((x4.2 _ (by omega)).trans ((x13.2 _ (by omega)).trans z0))
 have z1 : w5.get (h.size + 1) = _ := (k5 _ (by omega)).trans ((x4.2 _ (by omega)).trans ((x13.2 _ (by omega)).trans z1))
 have fin : ∀ (w : Heap) {u : Value} {M K' : Nat}, Ext w5 w → RatV w u M s K' → ∃ aa nn cc a2 n2 c2 wd, u = .agg #[.slice aa nn cc, .bool s, .slice a2 n2 c2] ∧ w.set (h.size + 1) (.cells [.slice aa nn cc, .bool s, .slice a2 n2 c2] 3) = wd ∧ w.get (h.size + 1) = .cells [.slice none 0 0, .bool false, .slice none 0 0] 3 ∧ wd.get (h.size + 1) = .cells [.slice aa nn cc, .bool s, .slice a2 n2 c2] 3 ∧ RatV wd u M s K' := by
  intro w u M K' hx hu
  obtain ⟨pp, qq, rfl, hpp, hqq⟩ := hu
  obtain ⟨aa, nn, cc, rfl⟩ := natv_slice hpp
  obtain ⟨a2, n2, c2, rfl⟩ := natv_slice hqq
  have z1 : w.get (h.size + 1) = _ := (hx.2 _ (by omega)).trans z1
  obtain ⟨wd, ed, xd, hsd, gd, kd⟩ := put1 (x5.trans hx) j1 (.cells [.slice aa nn cc, .bool s, .slice a2 n2 c2] 3)
  exact ⟨aa, nn, cc, a2, n2, c2, wd, rfl, ed, z1, gd, _, _, rfl, hpp.over z1 (by rfl) (by rfl) hsd gd kd, hqq.over z1 (by rfl) (by rfl) hsd gd kd⟩
 have hsm : ∀ M, M ≠ 0 → (s && decide (m * M ≠ 0)) = s := by
  intro M hM
  cases s with
  | false => rfl
  | true =>
    have := Nat.mul_ne_zero (hs rfl) hM
    simp [this]
 have h10 : 10 ^ g ≠ 0 := by have : 0 < 10 ^ g := Nat.pow_pos (by omega); omega
 by_cases hpos : (0 : Int) ≤ e
 ·obtain ⟨w6, e6, x6, hs6, g6⟩ := lay1 w5 (.cells [.slice a3 n3 c3, .bool false, .slice a3' n3' c3'] 3)
  simp +decide only [go_sem, W_region, Wx_some, Bool.false_and, e4, g4, k3, e5, hpos, z0, g5, e6]
  refine W_call Kok (by have := x5.1; omega) (rtimes_run w6 (m := m) (k := 1) (s := s) (b := w5.size) ⟨_, _, rfl, np.ext x6, nq.ext x6⟩ (by omega) g6 (np3.ext x6) (nq3.ext x6) (by omega) (by omega) (by omega) (Nat.le_trans (dig_length.2 (show 1 < B ^ 1 by rw [B_eq]; omega)) (by omega)) (Nat.le_trans (l10 g (by omega)) (by omega)) (Nat.le_trans (dig_length.2 (show 1 < B ^ 1 by rw [B_eq]; omega)) (by omega))) fun r w7 x7 hr => ?_
  have eg : e.toNat = g := by omega
  have hM : m * 10 ^ g / Nat.gcd (m * 10 ^ g) (1 * 1) = scM m e := by
   rw [scM, if_pos hpos, eg, Nat.mul_one, Nat.gcd_one_right, Nat.div_one]
  have hK : 1 * 1 / Nat.gcd (m * 10 ^ g) (1 * 1) = scK m e := by
   rw [scK, if_pos hpos, Nat.mul_one, Nat.gcd_one_right]
  rw [hM, hK, Bool.bne_false, hsm _ h10] at hr
  obtain ⟨aa, nn, cc, a2, n2, c2, wd, rfl, ed, zz1, gd, hfin⟩ := fin w7 (x6.trans x7) hr
  simp +decide only [go_sem, W_region, Wx_some, zz1, j1, ed, gd]
  exact hfin
 ·simp +decide only [go_sem, W_region, Wx_some, Bool.false_and, e4, g4, k3, e5, hpos, z0, g5]
  refine W_call Kok (by have := x5.1; omega) (by_run w5 (m := m) (k := 1) (s := s) ⟨_, _, rfl, np, nq⟩ ⟨_, _, rfl, np3, nq3⟩ (by omega) (by omega) h10 (by omega) (Nat.le_trans (dig_length.2 (show 1 < B ^ 1 by rw [B_eq]; omega)) (by omega)) (Nat.le_trans (l10 g (by omega)) (by omega)) (Nat.le_trans (dig_length.2 (show 1 < B ^ 1 by rw [B_eq]; omega)) (by omega))) fun r w7 x7 hr => ?_
  obtain ⟨qv, rfl, hqv⟩ := hr
  have eg : (-e).toNat = g := by omega
  have hM : m * 1 / Nat.gcd (m * 1) (1 * 10 ^ g) = scM m e := by
   rw [scM, if_neg hpos, eg, Nat.mul_one, Nat.one_mul]
  have hK : 1 * 10 ^ g / Nat.gcd (m * 1) (1 * 10 ^ g) = scK m e := by
   rw [scK, if_neg hpos, eg, Nat.mul_one, Nat.one_mul]
  rw [hM, hK, hsm 1 (by omega)] at hqv
  obtain ⟨pp, qq, rfl, hpp, hqq⟩ := hqv
  obtain ⟨aa, nn, cc, rfl⟩ := natv_slice hpp
  obtain ⟨a2, n2, c2, rfl⟩ := natv_slice hqq
  obtain ⟨w8, e8, x8, hs8, g8⟩ := lay1 w7 (.cells [.slice none 0 0, .bool false, .slice none 0 0] 3)
  have k7 : h.size ≤ w7.size := by have := x7.1; have := x5.1; omega
  obtain ⟨w9, e9, x9, hs9, g9, k9⟩ := put1 (x5.trans (x7.trans x8)) k7 (.cells [.slice aa nn cc, .bool s, .slice a2 n2 c2] 3)
  have zz1 : w9.get (h.size + 1) = .cells [.slice none 0 0, .bool false, .slice none 0 0] 3 := (k9 _ (by have := x7.1; omega)).trans ((x8.2 _ (by have := x7.1; omega)).trans ((x7.2 _ (by omega)).trans z1))
  obtain ⟨wd, ed, xd, hsd, gd, kd⟩ := put1 x9 j1 (.cells [.slice aa nn cc, .bool s, .slice a2 n2 c2] 3)
  simp +decide only [go_sem, W_region, Wx_some, e8, g8, k7, e9, g9, zz1, j1, ed, gd]
  exact ⟨_, _, rfl, ((hpp.ext x8).over g8 (by rfl) (by rfl) hs9 g9 k9).over zz1 (by rfl) (by rfl) hsd gd kd, ((hqq.ext x8).over g8 (by rfl) (by rfl) hs9 g9 k9).over zz1 (by rfl) (by rfl) hsd gd kd⟩
end Go.Proofs.YtachkofbmodnnaaGreatDoor.N14
