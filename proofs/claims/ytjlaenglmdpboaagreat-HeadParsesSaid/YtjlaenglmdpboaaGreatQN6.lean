/- Proved here: a multiple of a number taken away from limbs, and the number put back; of every number of few enough limbs. -/
import Derived.Test.YtjlaenglmdpboaaGreatQN5
namespace Go.Proofs.YtjlaenglmdpboaaGreat.N6
open Go Go.Im Go.Im.Limbs Go.Proofs Go.RowKit Go.Proofs.YtjlaenglmdpboaaGreat.Hd Go.Proofs.YtjlaenglmdpboaaGreat.N1 Go.Proofs.YtjlaenglmdpboaaGreat.N2 Go.Proofs.YtjlaenglmdpboaaGreat.N3 Go.Proofs.YtjlaenglmdpboaaGreat.N4 Go.Proofs.YtjlaenglmdpboaaGreat.N5
set_option maxRecDepth 100000
set_option linter.unusedSimpArgs false
set_option linter.unusedVariables false

/-- All is as it was, but for one block, and new ones. -/
def But (b : Nat) (h w : Heap) : Prop := h.size ≤ w.size ∧ ∀ q, q < h.size → q ≠ b → w.get q = h.get q
theorem But.refl (b : Nat) (h : Heap) : But b h h := ⟨Nat.le_refl _, fun _ _ _ => rfl⟩
theorem But.ext {b : Nat} {h w w' : Heap} (k : But b h w) (x : Ext w w') : But b h w' := ⟨Nat.le_trans k.1 x.1, fun q h1 h2 => (x.2 q (by have := k.1; omega)).trans (k.2 q h1 h2)⟩
theorem But.set {b : Nat} {h w : Heap} (k : But b h w) (x : Blk) : But b h (w.set b x) := ⟨k.1, fun q h1 h2 => by rw [Heap.get_set, if_neg h2]; exact k.2 q h1 h2⟩
/-- A slice that lies elsewhere. -/
def SlX (b : Nat) (h : Heap) (size : Nat) (a : Option Addr) (n c : Nat) (xs : List Value) : Prop := ∀ w, But b h w → Sl w size a n c xs

theorem mid_get {α : Type} {pre seg post : List α} {i : Nat} (h : i < seg.length) : (pre ++ seg ++ post)[pre.length + i]? = seg[i]? := by
  rw [List.append_assoc, List.getElem?_append_right (by omega), Nat.add_sub_cancel_left, List.getElem?_append_left h]
theorem mid_set {α : Type} {pre seg post : List α} {i : Nat} (h : i < seg.length) (v : α) : (pre ++ seg ++ post).set (pre.length + i) v = pre ++ seg.set i v ++ post := by
  rw [List.append_assoc, List.append_assoc, List.set_append_right _ _ (by omega), Nat.add_sub_cancel_left, List.set_append_left _ _ h]
theorem take_set {l : List Nat} {k : Nat} (h : k < l.length) (d : Nat) : val ((l.set k d).take (k + 1)) = val (l.take k) + d * B ^ k := by
  have := val_take_succ (l := l.set k d) (k := k) (d := d) (by rw [List.getElem?_set_self h])
  rw [this, List.take_set_of_le (Nat.le_refl _)]
theorem drop_set {l : List Nat} {k : Nat} (d : Nat) : (l.set k d).drop (k + 1) = l.drop (k + 1) := by
  rw [List.drop_set_of_lt (by omega)]

theorem under_step {vs seg seg' : List Nat} {k g p s cy bw : Nat} (hp : vs[k]? = some p) (hs : seg[k]? = some s) (hk : k < seg'.length) (hsB : s < 4294967296) (hbw : bw ≤ 1)
    (hv : val (seg'.take k) + g * val (vs.take k) = val (seg.take k) + (cy + bw) * B ^ k) :
    val ((seg'.set k ((s + 8589934592 - (g * p + cy) % 4294967296 - bw) % 4294967296)).take (k + 1)) + g * val (vs.take (k + 1)) =
      val (seg.take (k + 1)) + ((g * p + cy) / 4294967296 + (if s < (g * p + cy) % 4294967296 + bw then 1 else 0)) * B ^ (k + 1) := by
  rw [take_set hk, val_take_succ hp, val_take_succ hs, Nat.pow_succ]
  have h4 : (g * p + cy) % 4294967296 + B * ((g * p + cy) / 4294967296) = g * p + cy := by
    rw [B_eq]
    exact Nat.mod_add_div _ _
  have hlo : (g * p + cy) % 4294967296 < 4294967296 := Nat.mod_lt _ (by omega)
  generalize (g * p + cy) / 4294967296 = t at *
  generalize (g * p + cy) % 4294967296 = lo at *
  have h5 : (s + 8589934592 - lo - bw) % 4294967296 + lo + bw = s + (if s < lo + bw then 1 else 0) * B := by
    rw [B_eq]
    split <;> omega
  generalize (s + 8589934592 - lo - bw) % 4294967296 = d at *
  generalize (if s < lo + bw then 1 else 0) = z at *
  grind

theorem under_run (pre seg post vs : List Nat) (g b n cu : Nat) (h : Heap) {low : Nat} {va : Option Addr} {cv : Nat} (hb : b < h.size) (hlow : low ≤ b) (hg : h.get b = .cells (lv (pre ++ seg ++ post)) 1) (hseg : seg.length = n + 1) (hsm : Small seg)
    (hvl : vs.length = n) (hvs : Small vs) (sv : SlX b h 1 va n cv (lv vs)) (hg4 : g ≤ 4294967296) (hn : n ≤ 549755813887) (hpre : pre.length ≤ 549755813887) :
    Does K low f_nat_under #[.slice (some ⟨b, pre.length, none⟩) (n + 1) cu, .slice va n cv, .int .u64 (g : Int)] h fun r w => ∃ seg' bw, r = .bool (decide (bw = 1)) ∧ bw ≤ 1 ∧ seg'.length = n + 1 ∧ Small seg' ∧ But b h w ∧ w.get b = .cells (lv (pre ++ seg' ++ post)) 1 ∧
      val seg' + g * val vs = val seg + bw * B ^ (n + 1) := by
  refine Does.intro rfl (by decide +kernel) F_nat_under rfl ?_
  simp +decide only [go_sem, W_region, Wx_some, Nat.reduceAdd, Nat.reduceMul, Nat.reduceEqDiff, Int.reduceAdd, Int.reduceSub, Int.reduceMul, Int.reduceNeg, Int.reduceToNat]
  refine W_loop (α := Nat × List Nat × Nat × Nat) (fun k e w => k.1 ≤ n ∧ e.size = 60 ∧ But b h w ∧ w.get b = .cells (lv (pre ++ k.2.1 ++ post)) 1 ∧ e.get 0 = .slice (some ⟨b, pre.length, none⟩) (n + 1) cu ∧ e.get 1 = .slice va n cv ∧ e.get 2 = .int .u64 (g : Int) ∧
    e.get 7 = .int .u64 (k.2.2.1 : Int) ∧ e.get 8 = .int .u32 (k.2.2.2 : Int) ∧ e.get 12 = .slice va n cv ∧ e.get 13 = .int .i64 (n : Int) ∧ e.get 14 = .int .i64 (k.1 : Int) ∧
    k.2.1.length = n + 1 ∧ Small k.2.1 ∧ k.2.2.1 < 4294967296 ∧ k.2.2.2 ≤ 1 ∧ k.2.1.drop k.1 = seg.drop k.1 ∧ val (k.2.1.take k.1) + g * val (vs.take k.1) = val (seg.take k.1) + (k.2.2.1 + k.2.2.2) * B ^ k.1) (fun k => n - k.1) (0, seg, 0, 0) ?_ ?_
  · refine ⟨Nat.zero_le _, by simp +decide only [go_sem], But.refl _ _, hg, by simp +decide only [go_sem], by simp +decide only [go_sem], by simp +decide only [go_sem], by simp +decide only [go_sem]; rfl, by simp +decide only [go_sem]; rfl, by simp +decide only [go_sem], by simp +decide only [go_sem], by simp +decide only [go_sem]; rfl, hseg, hsm, by simp only; omega, by simp only; omega, rfl, by simp [val_nil]⟩
  · rintro ⟨k, seg', cy, bw⟩ e w ⟨hk, hsz, hbut, hgw, e0, e1, e2, e7, e8, e12, e13, e14, hl', hsm', hcy, hbw, hdr, hval⟩ next
    simp only at hk hgw e7 e8 e14 hl' hsm' hcy hbw hdr hval
    have hsame : ∀ i, k ≤ i → seg'[i]? = seg[i]? := by
      intro i hi
      have h1 : (seg'.drop k)[i - k]? = (seg.drop k)[i - k]? := by rw [hdr]
      rw [List.getElem?_drop, List.getElem?_drop, show k + (i - k) = i by omega] at h1
      exact h1
    have hlowsz : low ≤ w.size := by have := hbut.1; omega
    obtain ⟨s, hs⟩ : ∃ s, seg[k]? = some s := ⟨_, List.getElem?_eq_getElem (by omega)⟩
    have hsB : s < 4294967296 := hsm.get hs
    have hs' : seg'[k]? = some s := (hsame k (Nat.le_refl _)).trans hs
    have hget : ∀ w2 : Heap, w2.get b = .cells (lv (pre ++ seg' ++ post)) 1 → (lv (pre ++ seg' ++ post))[pre.length + k]? = some (.int .u32 (s : Int)) := fun _ _ => lv_get (by rw [mid_get (by omega)]; exact hs')
    have hget := hget w hgw
    have hlen : pre.length + k + 1 ≤ (lv (pre ++ seg' ++ post)).length := by rw [lv_length]; simp; omega
    have i3 : (0 : Int) ≤ (k : Int) := by omega
    have i4 : (k : Int) < ((n + 1 : Nat) : Int) := by omega
    have i5 : IntKind.i64.wrap ((k : Int) + 1) = ((k + 1 : Nat) : Int) := by rw [wrap_i64 (by omega) (by omega)]; omega
    by_cases hkn : (k : Int) < (n : Int)
    case neg =>
      have hkk : k = n := by omega
      subst hkk
      have c1 : cy % 4294967296 = cy := Nat.mod_eq_of_lt hcy
      simp +decide only [go_sem, W_region, Wx_some, Nat.reduceAdd, Nat.reduceMul, Nat.reduceEqDiff, Int.reduceAdd, Int.reduceSub, Int.reduceMul, Int.reduceNeg, Int.reduceToNat, hsz, e0, e1, e2, e7, e8, e12, e13, e14, hkn, i3, i4, Nat.mul_one, Int.toNat_natCast, hgw, hget, w32, c1]
      refine W_call Kok hlowsz (sub32_run s cy bw w hsB hcy hbw) fun v w2 hx2 hv => ?_
      subst hv
      have hgw2 : w2.get b = _ := (hx2.2 b (by have := hbut.1; omega)).trans hgw
      have hput := lv_put (l := pre ++ seg' ++ post) (k := pre.length + k) (by simp; omega) ((s + 8589934592 - cy - bw) % 4294967296)
      rw [mid_set (by omega)] at hput
      simp +decide only [go_sem, W_region, Wx_some, Nat.reduceAdd, Nat.reduceMul, Nat.reduceEqDiff, Int.reduceAdd, Int.reduceSub, Int.reduceMul, Int.reduceNeg, Int.reduceToNat, hsz, e0, e1, e2, e7, e8, e12, e13, e14, i3, i4, Nat.mul_one, Int.toNat_natCast, hgw2, List.length_cons, List.length_nil, hlow, hlen, hput]
      refine ⟨seg'.set k ((s + 8589934592 - cy - bw) % 4294967296), if s < cy + bw then 1 else 0, ?_, by split <;> omega, by simp [hl'], hsm'.set (by rw [B_eq]; exact Nat.mod_lt _ (by omega)) _, (hbut.ext hx2).set _, by first | rfl | rw [Heap.get_set, if_pos rfl], ?_⟩
      · congr 1
        rw [decide_eq_decide]
        split <;> omega
      · have q1 := val_set hs' ((s + 8589934592 - cy - bw) % 4294967296)
        have q2 : val seg' = val (seg'.take k) + s * B ^ k := by
          rw [← val_take_succ hs', List.take_of_length_le (by omega)]
        have q3 : val seg = val (seg.take k) + s * B ^ k := by
          rw [← val_take_succ hs, List.take_of_length_le (by omega)]
        rw [List.take_of_length_le (Nat.le_of_eq hvl)] at hval
        have h5 : (s + 8589934592 - cy - bw) % 4294967296 + cy + bw = s + (if s < cy + bw then 1 else 0) * B := by
          rw [B_eq]
          split <;> omega
        rw [Nat.pow_succ]
        generalize (s + 8589934592 - cy - bw) % 4294967296 = d at *
        generalize (if s < cy + bw then 1 else 0) = z at *
        grind
    have hkn' : k < n := by omega
    obtain ⟨p, hp⟩ : ∃ p, vs[k]? = some p := ⟨_, List.getElem?_eq_getElem (by omega)⟩
    have hpB : p < 4294967296 := hvs.get hp
    obtain ⟨b1, o1, cs1, rfl, hb1, hg1, hc1⟩ := (sv w hbut).one (lv_get hp)
    have hgp : g * p + cy < 18446744073709551616 := by
      have : g * p ≤ 4294967296 * 4294967295 := Nat.mul_le_mul hg4 (by omega)
      omega
    have hst := under_step (bw := bw) hp hs (by omega) hsB hbw hval
    have hlo : (g * p + cy) % 4294967296 < 4294967296 := Nat.mod_lt _ (by omega)
    simp +decide only [go_sem, W_region, Wx_some, Nat.reduceAdd, Nat.reduceMul, Nat.reduceEqDiff, Int.reduceAdd, Int.reduceSub, Int.reduceMul, Int.reduceNeg, Int.reduceToNat, hsz, e0, e1, e2, e7, e8, e12, e13, e14, hkn, i3, i4, Nat.mul_one, Int.toNat_natCast, hg1, hc1, w64 (show p < 18446744073709551616 by omega), wmul (show g * p < 18446744073709551616 by omega), wadd hgp, ishr32, hgw, hget, w32]
    refine W_call Kok hlowsz (sub32_run s ((g * p + cy) % 4294967296) bw w hsB hlo hbw) fun v w2 hx2 hv => ?_
    subst hv
    have hgw2 : w2.get b = _ := (hx2.2 b (by have := hbut.1; omega)).trans hgw
    have hput := lv_put (l := pre ++ seg' ++ post) (k := pre.length + k) (by simp; omega) ((s + 8589934592 - (g * p + cy) % 4294967296 - bw) % 4294967296)
    rw [mid_set (by omega)] at hput
    simp +decide only [go_sem, W_region, Wx_some, Nat.reduceAdd, Nat.reduceMul, Nat.reduceEqDiff, Int.reduceAdd, Int.reduceSub, Int.reduceMul, Int.reduceNeg, Int.reduceToNat, hsz, e0, e1, e2, e7, e8, e12, e13, e14, i3, i4, Nat.mul_one, Int.toNat_natCast, hgw2, List.length_cons, List.length_nil, hlow, hlen, hput, i5]
    refine next (k + 1, seg'.set k ((s + 8589934592 - (g * p + cy) % 4294967296 - bw) % 4294967296), (g * p + cy) / 4294967296, if s < (g * p + cy) % 4294967296 + bw then 1 else 0) _ _ ⟨by simp only; omega, by simp +decide only [go_sem, hsz], (hbut.ext hx2).set _, by rw [Heap.get_set, if_pos rfl], by simp +decide only [go_sem, hsz, e0], by simp +decide only [go_sem, hsz, e1], by simp +decide only [go_sem, hsz, e2], by simp +decide only [go_sem, hsz], by simp +decide only [go_sem, hsz], by simp +decide only [go_sem, hsz, e12], by simp +decide only [go_sem, hsz, e13], by simp +decide only [go_sem, hsz], by simp [hl'], hsm'.set (by rw [B_eq]; exact Nat.mod_lt _ (by omega)) _, by simp only; omega, by simp only; split <;> omega, ?_, hst⟩ (by simp only; omega)
    simp only
    rw [drop_set]
    have := congrArg (List.drop 1) hdr
    rw [List.drop_drop, List.drop_drop] at this
    exact this

theorem back_step {vs seg seg' : List Nat} {k p s cy : Nat} (hp : vs[k]? = some p) (hs : seg[k]? = some s) (hk : k < seg'.length)
    (hv : val (seg'.take k) + cy * B ^ k = val (seg.take k) + val (vs.take k)) :
    val ((seg'.set k ((s + p + cy) % 4294967296)).take (k + 1)) + (s + p + cy) / 4294967296 * B ^ (k + 1) = val (seg.take (k + 1)) + val (vs.take (k + 1)) := by
  rw [take_set hk, val_take_succ hp, val_take_succ hs, Nat.pow_succ]
  have h4 : (s + p + cy) % 4294967296 + B * ((s + p + cy) / 4294967296) = s + p + cy := by
    rw [B_eq]
    exact Nat.mod_add_div _ _
  generalize (s + p + cy) / 4294967296 = t at *
  generalize (s + p + cy) % 4294967296 = lo at *
  grind

theorem back_run (pre seg post vs : List Nat) (b n cu : Nat) (h : Heap) {low : Nat} {va : Option Addr} {cv : Nat} (hb : b < h.size) (hlow : low ≤ b) (hg : h.get b = .cells (lv (pre ++ seg ++ post)) 1) (hseg : seg.length = n + 1) (hsm : Small seg)
    (hvl : vs.length = n) (hvs : Small vs) (sv : SlX b h 1 va n cv (lv vs)) (hn : n ≤ 549755813887) (hpre : pre.length ≤ 549755813887) :
    Does K low f_nat_back #[.slice (some ⟨b, pre.length, none⟩) (n + 1) cu, .slice va n cv] h fun r w => ∃ seg' c, seg'.length = n + 1 ∧ Small seg' ∧ But b h w ∧ w.get b = .cells (lv (pre ++ seg' ++ post)) 1 ∧
      val seg' + c * B ^ (n + 1) = val seg + val vs := by
  refine Does.intro rfl (by decide +kernel) F_nat_back rfl ?_
  simp +decide only [go_sem, W_region, Wx_some, Nat.reduceAdd, Nat.reduceMul, Nat.reduceEqDiff, Int.reduceAdd, Int.reduceSub, Int.reduceMul, Int.reduceNeg, Int.reduceToNat]
  refine W_loop (α := Nat × List Nat × Nat) (fun k e w => k.1 ≤ n ∧ e.size = 36 ∧ But b h w ∧ w.get b = .cells (lv (pre ++ k.2.1 ++ post)) 1 ∧ e.get 0 = .slice (some ⟨b, pre.length, none⟩) (n + 1) cu ∧ e.get 1 = .slice va n cv ∧
    e.get 4 = .int .u32 (k.2.2 : Int) ∧ e.get 7 = .slice va n cv ∧ e.get 8 = .int .i64 (n : Int) ∧ e.get 9 = .int .i64 (k.1 : Int) ∧
    k.2.1.length = n + 1 ∧ Small k.2.1 ∧ k.2.2 ≤ 1 ∧ k.2.1.drop k.1 = seg.drop k.1 ∧ val (k.2.1.take k.1) + k.2.2 * B ^ k.1 = val (seg.take k.1) + val (vs.take k.1)) (fun k => n - k.1) (0, seg, 0) ?_ ?_
  · refine ⟨Nat.zero_le _, by simp +decide only [go_sem], But.refl _ _, hg, by simp +decide only [go_sem], by simp +decide only [go_sem], by simp +decide only [go_sem]; rfl, by simp +decide only [go_sem], by simp +decide only [go_sem], by simp +decide only [go_sem]; rfl, hseg, hsm, by simp only; omega, rfl, by simp [val_nil]⟩
  · rintro ⟨k, seg', cy⟩ e w ⟨hk, hsz, hbut, hgw, e0, e1, e4, e7, e8, e9, hl', hsm', hcy, hdr, hval⟩ next
    simp only at hk hgw e4 e9 hl' hsm' hcy hdr hval
    have hsame : ∀ i, k ≤ i → seg'[i]? = seg[i]? := by
      intro i hi
      have h1 : (seg'.drop k)[i - k]? = (seg.drop k)[i - k]? := by rw [hdr]
      rw [List.getElem?_drop, List.getElem?_drop, show k + (i - k) = i by omega] at h1
      exact h1
    have hlowsz : low ≤ w.size := by have := hbut.1; omega
    obtain ⟨s, hs⟩ : ∃ s, seg[k]? = some s := ⟨_, List.getElem?_eq_getElem (by omega)⟩
    have hsB : s < 4294967296 := hsm.get hs
    have hs' : seg'[k]? = some s := (hsame k (Nat.le_refl _)).trans hs
    have hget : (lv (pre ++ seg' ++ post))[pre.length + k]? = some (.int .u32 (s : Int)) := lv_get (by rw [mid_get (by omega)]; exact hs')
    have hlen : pre.length + k + 1 ≤ (lv (pre ++ seg' ++ post)).length := by rw [lv_length]; simp; omega
    have i3 : (0 : Int) ≤ (k : Int) := by omega
    have i4 : (k : Int) < ((n + 1 : Nat) : Int) := by omega
    have i5 : IntKind.i64.wrap ((k : Int) + 1) = ((k + 1 : Nat) : Int) := by rw [wrap_i64 (by omega) (by omega)]; omega
    by_cases hkn : (k : Int) < (n : Int)
    case neg =>
      have hkk : k = n := by omega
      subst hkk
      have c1 : IntKind.u32.wrap ((s : Int) + (cy : Int)) = (((s + cy) % 4294967296 : Nat) : Int) := by rw [← Int.natCast_add, w32]
      have hput := lv_put (l := pre ++ seg' ++ post) (k := pre.length + k) (by simp; omega) ((s + cy) % 4294967296)
      rw [mid_set (by omega)] at hput
      simp +decide only [go_sem, W_region, Wx_some, Nat.reduceAdd, Nat.reduceMul, Nat.reduceEqDiff, Int.reduceAdd, Int.reduceSub, Int.reduceMul, Int.reduceNeg, Int.reduceToNat, hsz, e0, e1, e4, e7, e8, e9, hkn, i3, i4, Nat.mul_one, Int.toNat_natCast, hgw, hget, c1, List.length_cons, List.length_nil, hlow, hlen, hput]
      refine ⟨seg'.set k ((s + cy) % 4294967296), (s + cy) / 4294967296, by simp [hl'], hsm'.set (by rw [B_eq]; exact Nat.mod_lt _ (by omega)) _, hbut.set _, by first | rfl | rw [Heap.get_set, if_pos rfl], ?_⟩
      have q1 := val_set hs' ((s + cy) % 4294967296)
      have q2 : val seg' = val (seg'.take k) + s * B ^ k := by
        rw [← val_take_succ hs', List.take_of_length_le (by omega)]
      have q3 : val seg = val (seg.take k) + s * B ^ k := by
        rw [← val_take_succ hs, List.take_of_length_le (by omega)]
      rw [List.take_of_length_le (Nat.le_of_eq hvl)] at hval
      have h5 : (s + cy) % 4294967296 + B * ((s + cy) / 4294967296) = s + cy := by
        rw [B_eq]
        exact Nat.mod_add_div _ _
      rw [Nat.pow_succ]
      generalize (s + cy) % 4294967296 = d at *
      generalize (s + cy) / 4294967296 = z at *
      grind
    have hkn' : k < n := by omega
    obtain ⟨p, hp⟩ : ∃ p, vs[k]? = some p := ⟨_, List.getElem?_eq_getElem (by omega)⟩
    have hpB : p < 4294967296 := hvs.get hp
    obtain ⟨b1, o1, cs1, rfl, hb1, hg1, hc1⟩ := (sv w hbut).one (lv_get hp)
    have hst := back_step hp hs (by omega) hval
    simp +decide only [go_sem, W_region, Wx_some, Nat.reduceAdd, Nat.reduceMul, Nat.reduceEqDiff, Int.reduceAdd, Int.reduceSub, Int.reduceMul, Int.reduceNeg, Int.reduceToNat, hsz, e0, e1, e4, e7, e8, e9, hkn, i3, i4, Nat.mul_one, Int.toNat_natCast, hg1, hc1, hgw, hget]
    refine W_call Kok hlowsz (add32_run s p cy w hsB hpB hcy) fun v w2 hx2 hv => ?_
    subst hv
    have hgw2 : w2.get b = _ := (hx2.2 b (by have := hbut.1; omega)).trans hgw
    have hput := lv_put (l := pre ++ seg' ++ post) (k := pre.length + k) (by simp; omega) ((s + p + cy) % 4294967296)
    rw [mid_set (by omega)] at hput
    simp +decide only [go_sem, W_region, Wx_some, Nat.reduceAdd, Nat.reduceMul, Nat.reduceEqDiff, Int.reduceAdd, Int.reduceSub, Int.reduceMul, Int.reduceNeg, Int.reduceToNat, hsz, e0, e1, e4, e7, e8, e9, i3, i4, Nat.mul_one, Int.toNat_natCast, hgw2, List.length_cons, List.length_nil, hlow, hlen, hput, i5]
    refine next (k + 1, seg'.set k ((s + p + cy) % 4294967296), (s + p + cy) / 4294967296) _ _ ⟨by simp only; omega, by simp +decide only [go_sem, hsz], (hbut.ext hx2).set _, by rw [Heap.get_set, if_pos rfl], by simp +decide only [go_sem, hsz, e0], by simp +decide only [go_sem, hsz, e1], by simp +decide only [go_sem, hsz], by simp +decide only [go_sem, hsz, e7], by simp +decide only [go_sem, hsz, e8], by simp +decide only [go_sem, hsz], by simp [hl'], hsm'.set (by rw [B_eq]; exact Nat.mod_lt _ (by omega)) _, by simp only; omega, ?_, hst⟩ (by simp only; omega)
    simp only
    rw [drop_set]
    have := congrArg (List.drop 1) hdr
    rw [List.drop_drop, List.drop_drop] at this
    exact this
end Go.Proofs.YtjlaenglmdpboaaGreat.N6
