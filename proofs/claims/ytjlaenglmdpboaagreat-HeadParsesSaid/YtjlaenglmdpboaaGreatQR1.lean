/- Proved here: the document's rows of digits: what trimming, one digit, comparing and writing come to, of every row of digits. -/
import Derived.Test.YtjlaenglmdpboaaGreatQR0
namespace Go.Proofs.YtjlaenglmdpboaaGreat.R1
open Go Go.Im Go.Im.Limbs Go.Im.Dec Go.Proofs Go.RowKit Go.Proofs.YtjlaenglmdpboaaGreat.Hd Go.Proofs.YtjlaenglmdpboaaGreat.N12
set_option maxRecDepth 100000
set_option linter.unusedSimpArgs false
set_option linter.unusedVariables false

theorem ibinop_lsss {P : Program} {t : TypeId} {s u : ByteArray} : ibinop P .lss t (.string s) (.string u) = some (.bool (Op.bytesLess s.toList u.toList)) := by simp [ibinop, ibin]
theorem trim_run (t : List UInt8) (h : Heap) (hl : t.length ≤ 1099511627776) : Runs K f_ref01_Trim #[.string (text t)] h fun r _ => r = .string (text (trimF t)) := by
  refine Runs.of Kok (Does.intro rfl (by decide +kernel) F_ref01_Trim rfl ?_)
  simp +decide only [go_sem, W_region, Wx_some, Nat.reduceAdd, Nat.reduceMul, Nat.reduceEqDiff, Int.reduceAdd, Int.reduceSub, Int.reduceMul, Int.reduceNeg, Int.reduceToNat]
  refine W_loop (α := List UInt8) (fun k e w => e.size = 14 ∧ Ext h w ∧ e.get 0 = .string (text k) ∧ k.length ≤ 1099511627776 ∧ trimF k = trimF t) (fun k => k.length) t ?_ ?_
  · exact ⟨by simp +decide only [go_sem], Ext.refl h, by simp +decide only [go_sem], hl, rfl⟩
  · rintro k e w ⟨hsz, hxw, e0, hk, hkt⟩ next
    match k, hk with
    | [], hk =>
      rw [← hkt]
      simp +decide only [go_sem, W_region, Wx_some, Nat.reduceAdd, Nat.reduceMul, Nat.reduceEqDiff, Int.reduceAdd, Int.reduceSub, Int.reduceMul, Int.reduceNeg, Int.reduceToNat, hsz, e0, List.length_nil]
      rfl
    | [b], hk =>
      rw [← hkt]
      simp +decide only [go_sem, W_region, Wx_some, Nat.reduceAdd, Nat.reduceMul, Nat.reduceEqDiff, Int.reduceAdd, Int.reduceSub, Int.reduceMul, Int.reduceNeg, Int.reduceToNat, hsz, e0, List.length_cons, List.length_nil]
      rfl
    | b :: c :: k, hk =>
      have q1 : (1 : Int) < (((b :: c :: k).length : Nat) : Int) := by simp only [List.length_cons]; omega
      by_cases hb : ((b.toNat : Nat) : Int) = 48
      · have q2 : 1 ≤ (b :: c :: k).length := by simp
        have q3 : ((b :: c :: k).drop 1).take ((b :: c :: k).length - 1) = c :: k := by simp
        have q4 : ichar (text (b :: c :: k)) 0 = some (.int .u8 b.toNat) := rfl
        generalize hL : b :: c :: k = L at *
        simp +decide only [go_sem, W_region, Wx_some, Nat.reduceAdd, Nat.reduceMul, Nat.reduceEqDiff, Int.reduceAdd, Int.reduceSub, Int.reduceMul, Int.reduceNeg, Int.reduceToNat, hsz, e0, q1, q4, hb, q2, Nat.le_refl, q3]
        refine next (c :: k) _ _ ⟨by simp +decide only [go_sem, hsz], hxw, by simp +decide only [go_sem, hsz], by rw [← hL] at hk; simp at hk ⊢; omega, ?_⟩ (by rw [← hL]; simp)
        rw [← hkt, ← hL, trimF, if_pos (by omega)]
      · have q4 : ichar (text (b :: c :: k)) 0 = some (.int .u8 b.toNat) := rfl
        have q5 : trimF (b :: c :: k) = b :: c :: k := by rw [trimF, if_neg (by omega)]
        rw [← hkt, q5]
        generalize hL : b :: c :: k = L at *
        simp +decide only [go_sem, W_region, Wx_some, Nat.reduceAdd, Nat.reduceMul, Nat.reduceEqDiff, Int.reduceAdd, Int.reduceSub, Int.reduceMul, Int.reduceNeg, Int.reduceToNat, hsz, e0, q1, q4, hb]

theorem trim_ds_run {t : List UInt8} (hd : Digs t) (hne : t ≠ []) (h : Heap) (hl : t.length ≤ 1099511627776) : Runs K f_ref01_Trim #[.string (text t)] h fun r _ => r = .string (text (ds (dec t))) := by
  have := trim_run t h hl
  rwa [trim_ds hd hne] at this

theorem digit_run (t : List UInt8) (i : Nat) (h : Heap) (ht : Digs t) (hl : t.length ≤ 1099511627776) : Runs K f_ref01_digit #[.string (text t), .int .i64 (i : Int)] h fun r _ => r = .int .i64 ((dgt t i : Nat) : Int) := by
  refine Runs.of Kok (Does.intro rfl (by decide +kernel) F_ref01_digit rfl ?_)
  by_cases hi : ((t.length : Nat) : Int) ≤ (i : Int)
  · have : dgt t i = 0 := by unfold dgt; rw [if_pos (by omega)]
    simp +decide only [go_sem, W_region, Wx_some, Nat.reduceAdd, Nat.reduceMul, Nat.reduceEqDiff, Int.reduceAdd, Int.reduceSub, Int.reduceMul, Int.reduceNeg, Int.reduceToNat, hi, this]
    rfl
  · have q1 : IntKind.i64.wrap (((t.length : Nat) : Int) - 1) = ((t.length - 1 : Nat) : Int) := by rw [wrap_i64 (by omega) (by omega)]; omega
    have q2 : IntKind.i64.wrap (((t.length - 1 : Nat) : Int) - (i : Int)) = ((t.length - 1 - i : Nat) : Int) := by rw [wrap_i64 (by omega) (by omega)]; omega
    obtain ⟨b, hb⟩ : ∃ b, t[t.length - 1 - i]? = some b := ⟨_, List.getElem?_eq_getElem (by omega)⟩
    have hbd := ht b (List.mem_of_getElem? hb)
    have q3 := ichar_text hb
    have q4 : IntKind.u8.wrap (((b.toNat : Nat) : Int) - 48) = ((b.toNat - 48 : Nat) : Int) := by rw [wrap_u8 (by omega) (by omega)]; omega
    have q5 : IntKind.i64.wrap (((b.toNat - 48 : Nat) : Int)) = ((b.toNat - 48 : Nat) : Int) := wrap_i64 (by omega) (by omega)
    have q6 : dgt t i = b.toNat - 48 := by
      unfold dgt
      rw [if_neg (by omega), List.getD, hb]
      rfl
    simp +decide only [go_sem, W_region, Wx_some, Nat.reduceAdd, Nat.reduceMul, Nat.reduceEqDiff, Int.reduceAdd, Int.reduceSub, Int.reduceMul, Int.reduceNeg, Int.reduceToNat, hi, q1, q2, q3, q4, q5, q6]

theorem cmp_run (a b : Nat) (h : Heap) : Runs K f_ref01_Cmp #[.string (text (ds a)), .string (text (ds b))] h fun r _ => r = .int .i64 (if a < b then -1 else if a = b then 0 else 1) := by
  refine Runs.of Kok (Does.intro rfl (by decide +kernel) F_ref01_Cmp rfl ?_)
  by_cases h1 : (((ds a).length : Nat) : Int) = (((ds b).length : Nat) : Int)
  case neg =>
    by_cases h2 : (((ds a).length : Nat) : Int) < (((ds b).length : Nat) : Int)
    · have : a < b := lt_of_ds (by omega)
      simp +decide only [go_sem, W_region, Wx_some, Nat.reduceAdd, Nat.reduceMul, Nat.reduceEqDiff, Int.reduceAdd, Int.reduceSub, Int.reduceMul, Int.reduceNeg, Int.reduceToNat, h1, h2, this]
    · have h3 : b < a := lt_of_ds (by omega)
      have h4 : ¬ a < b := by omega
      have h5 : ¬ a = b := by omega
      simp +decide only [go_sem, W_region, Wx_some, Nat.reduceAdd, Nat.reduceMul, Nat.reduceEqDiff, Int.reduceAdd, Int.reduceSub, Int.reduceMul, Int.reduceNeg, Int.reduceToNat, h1, h2, h4, h5]
  by_cases h2 : a = b
  · subst h2
    have h4 : ¬ a < a := by omega
    simp +decide only [go_sem, W_region, Wx_some, Nat.reduceAdd, Nat.reduceMul, Nat.reduceEqDiff, Int.reduceAdd, Int.reduceSub, Int.reduceMul, Int.reduceNeg, Int.reduceToNat, h4]
  have h2' : ¬ text (ds a) = text (ds b) := fun hh => h2 (ds_inj.1 (text_inj.1 hh))
  have h3 := less_dec (s := ds a) (t := ds b) (by omega) (ds_digs a) (ds_digs b)
  rw [dec_ds, dec_ds] at h3
  have t1 : (text (ds a)).toList = ds a := by rw [ByteArray.toList_eq]; rfl
  have t2 : (text (ds b)).toList = ds b := by rw [ByteArray.toList_eq]; rfl
  by_cases h4 : a < b
  · have h5 := h3.2 h4
    simp +decide only [go_sem, W_region, Wx_some, Nat.reduceAdd, Nat.reduceMul, Nat.reduceEqDiff, Int.reduceAdd, Int.reduceSub, Int.reduceMul, Int.reduceNeg, Int.reduceToNat, h1, h2', ibinop_lsss, t1, t2, h5, h4]
  · have h5 : Op.bytesLess (ds a) (ds b) = false := by
      cases hb : Op.bytesLess (ds a) (ds b) with
      | false => rfl
      | true => exact absurd (h3.1 hb) h4
    simp +decide only [go_sem, W_region, Wx_some, Nat.reduceAdd, Nat.reduceMul, Nat.reduceEqDiff, Int.reduceAdd, Int.reduceSub, Int.reduceMul, Int.reduceNeg, Int.reduceToNat, h1, h2', ibinop_lsss, t1, t2, h5, h4, h2]

def iv (l : List Nat) : List Value := l.map fun (d : Nat) => .int .i64 (d : Int)
theorem iv_length (l : List Nat) : (iv l).length = l.length := by simp [iv]
theorem iv_get {l : List Nat} {i d : Nat} (h : l[i]? = some d) : (iv l)[i]? = some (.int .i64 (d : Int)) := by simp [iv, h]
theorem iv_append (l r : List Nat) : iv (l ++ r) = iv l ++ iv r := by simp [iv]
theorem iv_set (l : List Nat) (k d : Nat) : (iv l).set k (.int .i64 (d : Int)) = iv (l.set k d) := by simp [iv, List.map_set]
theorem written_run (ds : List Nat) (h : Heap) {a : Option Addr} {n c : Nat} (s : Sl h 1 a n c (iv ds)) (hd : ∀ d ∈ ds, d ≤ 9) (hn : n ≤ 1000000) : Runs K f_ref01_written #[.slice a n c] h fun r _ => r = .string (text (wr ds)) := by
  have hlen : ds.length = n := by have := s.length; rw [iv_length] at this; omega
  refine Runs.of Kok (Does.intro rfl (by decide +kernel) F_ref01_written rfl ?_)
  have q1 : IntKind.i64.wrap ((n : Int) + 1) = ((n + 1 : Nat) : Int) := by rw [wrap_i64 (by omega) (by omega)]; omega
  have q2 : IntKind.i64.wrap ((n : Int) - 1) = (n : Int) - 1 := wrap_i64 (by omega) (by omega)
  have m1 : imk h.size 1 1 [.int .u8 0] 0 ((n + 1 : Nat) : Int) = some (.slice (some ⟨h.size, 0, none⟩) 0 (n + 1), some (.cells (List.replicate (n + 1) (.int .u8 0)) 1)) := by
    rw [imk_ok (by omega) (by omega) (by omega) (by omega)]
    simp [List.flatten_replicate_singleton]
  obtain ⟨w1, e1, x1, hs1, g1⟩ := lay1 h (.cells (List.replicate (n + 1) (.int .u8 0)) 1)
  simp +decide only [go_sem, W_region, Wx_some, Nat.reduceAdd, Nat.reduceMul, Nat.reduceEqDiff, Int.reduceAdd, Int.reduceSub, Int.reduceMul, Int.reduceNeg, Int.reduceToNat, q1, m1, e1, q2]
  refine W_loop (α := Nat) (fun k e w => k ≤ n ∧ e.size = 31 ∧ Ext h w ∧ h.size < w.size ∧ e.get 0 = .slice a n c ∧ e.get 3 = .slice (some ⟨h.size, 0, none⟩) (n - k) (n + 1) ∧ e.get 4 = .int .i64 ((k : Int) - 1) ∧
    w.get h.size = .cells (byteCells ((ds.drop k).reverse.map fun d => UInt8.ofNat (48 + d)) ++ List.replicate (k + 1) (.int .u8 0)) 1) (fun k => k) n ?_ ?_
  · refine ⟨Nat.le_refl _, by simp +decide only [go_sem], x1, by omega, by simp +decide only [go_sem], by simp +decide only [go_sem, Nat.sub_self], by simp +decide only [go_sem], ?_⟩
    rw [g1, List.drop_of_length_le (by omega)]
    simp [byteCells]
  · rintro k e w ⟨hk, hsz, hxw, hws, e0, e3, e4, gw⟩ next
    have hxl : ((ds.drop k).reverse.map fun d => UInt8.ofNat (48 + d)).length = n - k := by simp; omega
    by_cases hk0 : (0 : Int) ≤ (k : Int) - 1
    · obtain ⟨j, rfl⟩ : ∃ j, k = j + 1 := ⟨k - 1, by omega⟩
      obtain ⟨d, hdj⟩ : ∃ d, ds[j]? = some d := ⟨_, List.getElem?_eq_getElem (by omega)⟩
      have hd9 := hd d (List.mem_of_getElem? hdj)
      obtain ⟨b, o, cs, rfl, hb, hgb, hcb⟩ := (s.ext hxw).one (iv_get hdj)
      have q3 : (((j + 1 : Nat) : Int) - 1).toNat = j := by omega
      have q4 : ((j + 1 : Nat) : Int) - 1 < (n : Int) := by omega
      have q5 : IntKind.i64.wrap (48 + (d : Int)) = ((48 + d : Nat) : Int) := by rw [wrap_i64 (by omega) (by omega)]; omega
      have q6 : IntKind.u8.wrap (((48 + d : Nat) : Int)) = ((48 + d : Nat) : Int) := wrap_u8 (by omega) (by omega)
      have q7 : IntKind.i64.wrap (((j + 1 : Nat) : Int) - 1 - 1) = (j : Int) - 1 := by rw [wrap_i64 (by omega) (by omega)]; omega
      obtain ⟨w2, e2, x2, hs2, g2⟩ := lay1 w (.cells [.int .u8 ((48 + d : Nat) : Int)] 1)
      have gw2 : w2.get h.size = _ := (x2.2 _ hws).trans gw
      have hnum : ((UInt8.ofNat (48 + d)).toNat : Int) = ((48 + d : Nat) : Int) := by
        have e : 48 + d < 256 := by omega
        rw [UInt8.toNat_ofNat_of_lt' (by simpa using e)]
      have hroom := iapp_room (low := h.size) (bytes := 1) (o := 0) (n := n - (j + 1)) (k := 1) (cap := n + 1) (new := [.int .u8 ((48 + d : Nat) : Int)]) gw2 (Nat.le_refl _) (by omega) (by omega) (by omega) (by simp only [big]; omega) (by simp [byteCells]; omega)
      have hsp : splice (byteCells ((ds.drop (j + 1)).reverse.map fun d => UInt8.ofNat (48 + d)) ++ List.replicate (j + 1 + 1) (.int .u8 0)) (0 + (n - (j + 1)) * 1) [.int .u8 ((48 + d : Nat) : Int)] = byteCells ((ds.drop j).reverse.map fun d => UInt8.ofNat (48 + d)) ++ List.replicate (j + 1) (.int .u8 0) := by
        have e1 : ds.drop j = d :: ds.drop (j + 1) := by
          rw [List.drop_eq_getElem_cons (show j < ds.length by omega), (List.getElem?_eq_some_iff.1 hdj).2]
        rw [Nat.zero_add, Nat.mul_one, ← hxl, ← hnum, splice_room, e1]
        simp
      rw [hsp] at hroom
      obtain ⟨w3, e3', x3, hs3, g3, k3⟩ := put1 (hxw.trans x2) (Nat.le_refl _) (.cells (byteCells ((ds.drop j).reverse.map fun d => UInt8.ofNat (48 + d)) ++ List.replicate (j + 1) (.int .u8 0)) 1)
      simp +decide only [go_sem, W_region, Wx_some, Nat.reduceAdd, Nat.reduceMul, Nat.reduceEqDiff, Int.reduceAdd, Int.reduceSub, Int.reduceMul, Int.reduceNeg, Int.reduceToNat, hsz, e0, e3, e4, hk0, q3, q4, Nat.mul_one, hgb, hcb, q5, q6, e2, g2, hroom, e3', q7]
      refine next j _ _ ⟨by omega, by simp +decide only [go_sem, hsz], x3, by omega, by simp +decide only [go_sem, hsz, e0], ?_, by simp +decide only [go_sem, hsz], g3⟩ (by omega)
      have : n - (j + 1) + 1 = n - j := by omega
      simp +decide only [go_sem, W_region, Wx_some, Nat.reduceAdd, Nat.reduceMul, Nat.reduceEqDiff, Int.reduceAdd, Int.reduceSub, Int.reduceMul, Int.reduceNeg, Int.reduceToNat, hsz, this]
    · have hk0' : k = 0 := by omega
      subst hk0'
      by_cases hn0 : n = 0
      · subst hn0
        have : ds = [] := List.eq_nil_of_length_eq_zero hlen
        subst this
        simp +decide only [go_sem, W_region, Wx_some, Nat.reduceAdd, Nat.reduceMul, Nat.reduceEqDiff, Int.reduceAdd, Int.reduceSub, Int.reduceMul, Int.reduceNeg, Int.reduceToNat, hsz, e0, e3, e4, hk0]
        rfl
      · have q8 : ¬ ((n : Nat) : Int) = 0 := by omega
        have hne : ds ≠ [] := by
          rintro rfl
          simp at hlen
          omega
        have hisl : isl (.cells (byteCells ((ds.drop 0).reverse.map fun d => UInt8.ofNat (48 + d)) ++ List.replicate (0 + 1) (.int .u8 0)) 1) 1 0 n = some (byteCells (ds.reverse.map fun d => UInt8.ofNat (48 + d))) := by
          rw [isl_cells, if_pos ⟨rfl, by simp [byteCells]; omega⟩]
          simp only [List.drop_zero, Nat.mul_one]
          rw [List.take_append_of_le_length (by simp [byteCells]; omega), List.take_of_length_le (by simp [byteCells]; omega)]
        have hrd : (w.get h.size).read = .cells (byteCells ((ds.drop 0).reverse.map fun d => UInt8.ofNat (48 + d)) ++ List.replicate (0 + 1) (.int .u8 0)) 1 := by rw [gw]; rfl
        generalize Blk.cells (byteCells ((ds.drop 0).reverse.map fun d => UInt8.ofNat (48 + d)) ++ List.replicate (0 + 1) (.int .u8 0)) 1 = blk at hisl hrd
        simp +decide only [go_sem, W_region, Wx_some, Nat.reduceAdd, Nat.reduceMul, Nat.reduceEqDiff, Int.reduceAdd, Int.reduceSub, Int.reduceMul, Int.reduceNeg, Int.reduceToNat, hsz, e0, e3, e4, hk0, Nat.sub_zero, q8, hrd, hisl, icvs_bytes]
        refine W_call Kok hxw.1 (trim_run _ w (by simp; omega)) fun r w2 x2 hr => ?_
        subst hr
        simp +decide only [go_sem, W_region, Wx_some, Nat.reduceAdd, Nat.reduceMul, Nat.reduceEqDiff, Int.reduceAdd, Int.reduceSub, Int.reduceMul, Int.reduceNeg, Int.reduceToNat, hsz]
        rw [Dec.wr, if_neg hne]

theorem written_ds (l : List Nat) (h : Heap) {a : Option Addr} {n c : Nat} (s : Sl h 1 a n c (iv l)) (hd : ∀ d ∈ l, d ≤ 9) (hn : n ≤ 1000000) : Runs K f_ref01_written #[.slice a n c] h fun r _ => r = .string (text (ds (v10 l))) := by
  have := written_run l h s hd hn
  rwa [wr_ds hd] at this
end Go.Proofs.YtjlaenglmdpboaaGreat.R1
