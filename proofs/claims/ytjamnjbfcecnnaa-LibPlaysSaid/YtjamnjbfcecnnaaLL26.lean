/- Proved here: an act of the law's world, on a library and on the document's. -/
import Derived.Test.YtjamnjbfcecnnaaLL25
set_option linter.unusedSimpArgs false
set_option linter.unusedVariables false
namespace Go.Im.Lib
open Go Go.Im Go.Sort
theorem St.pass {low : Nat} {w w' : Heap} {x x' : Bl} {n : Nat} {L : List Ent} (S : St low w x n L) (hs : w.size ≤ w'.size) (hF : ∀ b, b < w.size → x'.F b → x.F b) (hfr : ∀ b, b < w.size → ¬ x'.F b → w'.get b = w.get b) :
    ¬ x'.F x.lq ∧ w'.get x.lq = .cells [.map (some x.mq)] 1 ∧ (∀ v xs, BoxF w x.F v xs → BoxF w' x'.F v xs) ∧ ∀ r M, RefS w x.F r M → RefS w' x'.F r M := by
  have h1 : ¬ x'.F x.lq := fun h => S.lF (hF _ S.lw h)
  have fr : Frm x'.F w w' := ⟨hs, hfr⟩
  exact ⟨h1, (hfr _ S.lw h1).trans S.lib, fun v xs h => (h.weaken hF).frm fr, fun r M h => (h.weaken hF).frm fr⟩
theorem St.pass2 {low : Nat} {w w' : Heap} {x x' : Bl} {n : Nat} {L : List Ent} (S : St low w x n L) (hs : w.size ≤ w'.size) (hF : ∀ b, b < w.size → x'.F b → x.F b) (hfr : ∀ b, b < w.size → ¬ x.F b → w'.get b = w.get b) :
    ¬ x'.F x.lq ∧ w'.get x.lq = .cells [.map (some x.mq)] 1 ∧ (∀ v xs, BoxF w x.F v xs → BoxF w' x'.F v xs) ∧ ∀ r M, RefS w x.F r M → RefS w' x'.F r M := by
  have h1 : ¬ x'.F x.lq := fun h => S.lF (hF _ S.lw h)
  have e1 : ∀ b, b < w.size → (x.F b ∨ x'.F b) → x.F b := fun b hb h => h.elim id (hF b hb)
  have fr : Frm (fun b => x.F b ∨ x'.F b) w w' := ⟨hs, fun b hb hf => hfr b hb fun h => hf (.inl h)⟩
  exact ⟨h1, (hfr _ S.lw S.lF).trans S.lib, fun v xs h => ((h.weaken e1).frm fr).weaken fun b _ hb => .inr hb, fun r M h => ((h.weaken e1).frm fr).weaken fun b _ hb => .inr hb⟩
theorem LP.keep2 {low : Nat} {w w' : Heap} {t : Value} {q b n m : Nat} {o o' : List Nat} (h : LP low w t q b n o) (hs : w.size ≤ w'.size) (hk : ∀ i, (i = q ∨ i = b) → i < w.size → i ∉ o → w'.get i = w.get i) (ho : ∀ i, i < w.size → i ∈ o' → i ∈ o) (hm : n ≤ m) : LP low w' t q b m o' := by
  rcases h with h | ⟨c, xs, h1, h2, h3, h4, h5, h6, h7, h8, h9, h10, h11, h12⟩
  · exact .inl h
  · exact .inr ⟨c, xs, h1, h2, by omega, (hk q (.inl rfl) h3 h10).trans h4, h5, by omega, (hk b (.inr rfl) h6 h11).trans h7, h8, by omega, fun hh => h10 (ho q h3 hh), fun hh => h11 (ho b h6 hh), h12⟩
end Go.Im.Lib
namespace Go.Proofs.Ytjamnjbfcecnnaa.L26
open Go Go.Im Go.Im.Lib Go.Proofs Go.RowKit Go.Proofs.Ytjamnjbfcecnnaa.Hd Go.Proofs.Ytjamnjbfcecnnaa.L20 Go.Proofs.Ytjamnjbfcecnnaa.L23 Go.Proofs.Ytjamnjbfcecnnaa.L24 Go.Proofs.Ytjamnjbfcecnnaa.L25
set_option maxRecDepth 100000
set_option maxHeartbeats 1000000 in
theorem does_run (kd : Int) (nms : List ByteArray) (xs : List Int) (hh w : Heap) (x0 : Ext hh w) {x : Bl} {n : Nat} {L : List Ent} (S : St hh.size w x n L) (hn1 : 100 ≤ n) (hn2 : n ≤ 500)
    {na la : Option Addr} {nc lc : Nat} (sn : Sl hh 1 na nms.length nc (sv nms)) (sl : Sl hh 1 la xs.length lc (iv xs)) (hnm : nms.length ≤ 20) (hxl : xs.length ≤ 100) (hsz : ∀ s ∈ nms, s.size ≤ maxLen) :
    Does K hh.size f_law29_world_does #[.pointer (some ⟨x.wq, 0, none⟩), .agg #[.int .i64 kd, .slice na nms.length nc, .slice la xs.length lc]] w fun r w' => r = .bool true ∧ ∃ x' L', St hh.size w' x' (n + 1) L' ∧ x'.wq = x.wq ∧ x'.lq = x.lq := by
  refine Does.intro rfl (by decide +kernel) F_law29_world_does rfl ?_
  obtain ⟨w1, f1, x1, hs1, z1⟩ := lay1 w (.cells [.int .i64 kd, .slice na nms.length nc, .slice la xs.length lc] 3)
  obtain ⟨nm, hnmd⟩ : ∃ nm, nm = nms.headD ByteArray.empty := ⟨_, rfl⟩
  have hnmz : nm.size ≤ maxLen := by
    rw [hnmd]
    cases nms with
    | nil => exact Nat.zero_le _
    | cons y ys => exact hsz y (by simp)
  have K1 := x0.trans x1
  have S1 := S.ext x1
  clear S
  apply W_join (α := Unit) (fun _ e W => e.size = 149 ∧ e.get 0 = .pointer (some ⟨x.wq, 0, none⟩) ∧ e.get 3 = .pointer (some ⟨w.size, 0, none⟩) ∧ e.get 5 = .string nm ∧ W = w1)
  · intro cont
    cases nms with
    | nil =>
      simp only [List.length_nil] at f1 z1
      simp +decide only [go_sem, Wx_some]
      (rw [W_region]; simp +decide only [go_sem, Wx_some, f1, z1])
      (rw [W_region]; simp +decide only [go_sem, Wx_some, f1, z1])
      (rw [W_region]; simp +decide only [go_sem, Wx_some, f1, z1])
      exact cont () _ _ ⟨by simp +decide only [go_sem], by simp +decide only [go_sem], by simp +decide only [go_sem], by simp +decide only [go_sem]; rw [hnmd]; rfl, rfl⟩
    | cons y ys =>
      obtain ⟨b, o, cs, rfl, q2, q3, q4⟩ := (sn.ext K1).one (i := 0) (x := .string y) (by simp [sv])
      rw [Nat.add_zero] at q4
      have h0 : (0 : Int) < (((y :: ys).length : Nat) : Int) := by simp only [List.length_cons]; omega
      have h00 : (0 : Int) < (((ys.length + 1 : Nat)) : Int) := by omega
      simp only [List.length_cons] at f1 z1
      simp +decide only [go_sem, Wx_some]
      (rw [W_region]; simp +decide only [go_sem, Wx_some, f1, z1])
      (rw [W_region]; simp +decide only [go_sem, Wx_some, f1, z1])
      (rw [W_region]; simp +decide only [go_sem, Wx_some, f1, z1, h0, h00])
      (rw [W_region]; simp +decide only [go_sem, Wx_some, f1, z1, h0, h00, q3, q4])
      exact cont () _ _ ⟨by simp +decide only [go_sem], by simp +decide only [go_sem], by simp +decide only [go_sem], by simp +decide only [go_sem]; rw [hnmd]; rfl, rfl⟩
  rintro ⟨⟩ e W ⟨hsz', e0, e3, e5, rfl⟩
  obtain ⟨m1, m2, m3, m4, m5⟩ := S1.mem
  obtain ⟨es, c, hm, R⟩ := S1.map
  obtain ⟨r, told, inn, hw, r1, r2, r3⟩ := S1.world
  have jl : hh.size ≤ W.size := K1.1
  have zW := z1
  have iF : ∀ b, x.F b → b < W.size := fun b hb => (S1.fl b hb).2
  have mF : ∀ b, b = x.wq ∨ b = x.mq ∨ b = x.tq ∨ b = x.tb ∨ b = x.iq ∨ b = x.ib → x.F b := fun b hb => by simpa [Bl.F, Fs] using hb
  have lne : x.lq ≠ x.wq ∧ x.lq ≠ x.mq := ⟨fun e => S1.lF (mF _ (.inl e)), fun e => S1.lF (mF _ (.inr (.inl e)))⟩
  have actne : w.size ≠ x.wq := by
    intro e
    rw [e, hw] at z1
    cases z1
  have actne2 : w.size ≠ x.mq := by
    intro e
    rw [e, hm] at z1
    cases z1
  have htq := iF x.tq (mF _ (by simp))
  have htb := iF x.tb (mF _ (by simp))
  have hiq := iF x.iq (mF _ (by simp))
  have hib := iF x.ib (mF _ (by simp))
  have slw : Sl W 1 la xs.length lc (iv xs) := sl.ext K1
  by_cases k0 : kd = 0
  · -- Save
    obtain ⟨w2, f2, x2, hs2, z2⟩ := lay1 W (.cells [] 1)
    obtain ⟨a3, c3, w3, f3, x3, hc3, s3⟩ := app0 (low := hh.size) (bytes := 8) (new := iv xs) (k := xs.length) z2 (by omega) (by omega) (by rw [iv_length]; omega) (by omega) (by omega)
    have hi3 := (slw.ext x2).isl
    have z2a : w2.get w.size = _ := (x2.2 _ (by omega)).trans zW
    have h23 := x3.1
    obtain ⟨w4, f4, x4, hs4, z4⟩ := lay1 w3 (.cells [.slice none 0 0] 1)
    obtain ⟨w5, f5, x5, hs5, z5, k5⟩ := put1 (x2.trans (x3.trans x4)) (b := w3.size) (by omega) (.cells [.slice a3 xs.length c3] 1)
    have g5 : w5.get x.wq = _ := (x5.2 _ m2).trans hw
    have j5 : hh.size ≤ w3.size := by omega
    obtain ⟨w6, f6⟩ : ∃ w6, w5.set x.wq (.cells [.pointer (some ⟨x.lq, 0, none⟩), r, told, .pointer (some ⟨w3.size, 0, none⟩)] 4) = w6 := ⟨_, rfl⟩
    have hs6 : w6.size = w5.size := by rw [← f6]; rfl
    have k6 : ∀ b, b ≠ x.wq → w6.get b = w5.get b := fun b hb => by rw [← f6, Heap.get_set, if_neg hb]
    have g6 : w6.get x.wq = .cells [.pointer (some ⟨x.lq, 0, none⟩), r, told, .pointer (some ⟨w3.size, 0, none⟩)] 4 := by rw [← f6, Heap.get_set, if_pos rfl]
    have l6 : w6.get x.lq = _ := (k6 _ lne.1).trans ((x5.2 _ S1.lw).trans S1.lib)
    have mm6 : w6.get x.mq = _ := (k6 _ (Ne.symm m5)).trans ((x5.2 _ m4).trans hm)
    have b6 : w6.get w3.size = _ := (k6 _ (by omega)).trans z5
    -- the block of the numbers
    obtain ⟨ib, ha3, hib1, hib2, hibc, hibk⟩ : ∃ ib, a3 = some ⟨ib, 0, none⟩ ∧ W.size ≤ ib ∧ ib < w3.size ∧ w3.get ib = .cells (iv xs) 1 ∧ ((xs = [] ∧ c3 = 0) ∨ (0 < xs.length ∧ c3 = big)) := by
      rcases hc3 with ⟨h0, rfl, rfl, rfl⟩ | ⟨h0, rfl, rfl, hw3⟩
      · have : xs = [] := List.eq_nil_of_length_eq_zero h0
        subst this
        exact ⟨W.size, rfl, Nat.le_refl _, by omega, z2, .inl ⟨rfl, rfl⟩⟩
      · refine ⟨w2.size, rfl, by omega, ?_, ?_, .inr ⟨h0, rfl⟩⟩
        · rw [hw3]; simp
        · rw [hw3]; exact push_self _ _
    subst ha3
    have c6 : w6.get ib = .cells (iv xs) 1 := (k6 _ (by omega)).trans ((k5 _ (by omega)).trans ((x4.2 _ (by omega)).trans hibc))
    have Lo : Loose hh.size w6 w3.size (some ⟨ib, 0, none⟩) c3 xs := ⟨ib, rfl, by omega, by omega, by omega, c6, hibk⟩
    have CA : CopyA w6 (.pointer (some ⟨w3.size, 0, none⟩)) xs := .inr ⟨w3.size, _, c3, rfl, by omega, b6, Lo.sl⟩
    have sv := save_run nm xs w6 (low := hh.size) (by omega) (q := x.lq) (M := x.mq) (by have := S1.lw; omega) l6 m3 (by omega) mm6 (R.mono fun _ _ _ _ _ => trivial) CA (by omega)
    have kd0 : kd = (0 : Int) := k0
    subst kd0
    simp +decide only [go_sem, W_region, Wx_some, hsz', e0, e3, e5, zW, f2, z2a, hi3, f3, f4, z4, j5, f5, g5, m1, f6, g6]
    refine W_does rfl sv fun rr w7 hr => ?_
    obtain ⟨w7', v, es', c', x7, LB, rfl, hput⟩ := hr
    have h77 := x7.1
    have k7 : ∀ b, b < w6.size → b ≠ x.mq → (w7'.set x.mq (.map es' c')).get b = w6.get b := fun b hb hne => by rw [Heap.get_set, if_neg hne]; exact x7.2 b hb
    obtain ⟨w7, f7⟩ : ∃ w7, w7'.set x.mq (.map es' c') = w7 := ⟨_, rfl⟩
    rw [f7] at k7
    have hs7 : w7.size = w7'.size := by rw [← f7]; rfl
    have g7 : w7.get x.wq = _ := (k7 _ (by omega) m5).trans g6
    have oldW : ∀ b, b < W.size → b ≠ x.wq → b ≠ x.mq → w7.get b = W.get b := fun b hb h1 h2 => (k7 b (by omega) h2).trans ((k6 b h1).trans (x5.2 b hb))
    have a7 : w7.get w.size = _ := (oldW _ (by omega) actne actne2).trans zW
    obtain ⟨X, hX⟩ : ∃ X : Bl, X = ⟨x.wq, x.lq, x.mq, x.tq, x.tb, w3.size, ib⟩ := ⟨_, rfl⟩
    have XF : ∀ b, X.F b ↔ (b = x.wq ∨ b = x.mq ∨ b = x.tq ∨ b = x.tb ∨ b = w3.size ∨ b = ib) := fun b => by subst hX; simp [Bl.F, Fs]
    have XFold : ∀ b, b < W.size → X.F b → x.F b := by
      intro b hb hx
      rcases (XF b).1 hx with h | h | h | h | h | h
      · exact mF _ (.inl h)
      · exact mF _ (.inr (.inl h))
      · exact mF _ (.inr (.inr (.inl h)))
      · exact mF _ (.inr (.inr (.inr (.inl h))))
      · omega
      · omega
    have XFlt : ∀ b, X.F b → b < w6.size := by
      intro b hx
      rcases (XF b).1 hx with h | h | h | h | h | h <;> omega
    have R7 : RefS w7 X.F r L := (r1.weaken XFold).frm ⟨by omega, fun b hb hf => oldW b hb (fun h => hf ((XF b).2 (.inl h))) fun h => hf ((XF b).2 (.inr (.inl h)))⟩
    have sl7 : Sl w7 1 la xs.length lc (iv xs) := by
      rcases sl with h1 | h1 | ⟨b, o, cs, h1, h2, h3, h4, h5⟩
      · exact .inl h1
      · exact .inr (.inl h1)
      · refine .inr (.inr ⟨b, o, cs, h1, h2, by omega, ?_, h5⟩)
        rw [oldW b (by omega) (by omega) (by omega), K1.2 b h3]
        exact h4
    simp +decide only [go_sem, W_region, Wx_some, hsz', e0, e3, e5, f7, g7, a7]
    refine W_call Kok (by omega) (rsave_run nm xs L w7 (fun b hb => by have := XFlt b hb; omega) R7 (by have := S1.few; omega) (by omega) sl7) fun u w8 x8 R8 => ?_
    have h8 := x8.1
    have g8 : w8.get x.wq = _ := (x8.2 _ (by omega)).trans g7
    obtain ⟨w9, f9⟩ : ∃ w9, w8.set x.wq (.cells [.pointer (some ⟨x.lq, 0, none⟩), u, told, .pointer (some ⟨w3.size, 0, none⟩)] 4) = w9 := ⟨_, rfl⟩
    have hs9 : w9.size = w8.size := by rw [← f9]; rfl
    have k9 : ∀ b, b ≠ x.wq → w9.get b = w8.get b := fun b hb => by rw [← f9, Heap.get_set, if_neg hb]
    have g9 : w9.get x.wq = .cells [.pointer (some ⟨x.lq, 0, none⟩), u, told, .pointer (some ⟨w3.size, 0, none⟩)] 4 := by rw [← f9, Heap.get_set, if_pos rfl]
    obtain ⟨ua, uc, uvs, rfl, -⟩ := id R8
    simp +decide only [go_sem, W_region, Wx_some, hsz', e0, e3, e5, g8, m1, f9]
    have old9 : ∀ b, b < W.size → b ≠ x.wq → b ≠ x.mq → w9.get b = W.get b := fun b hb h1 h2 => (k9 b h1).trans ((x8.2 b (by omega)).trans (oldW b hb h1 h2))
    obtain ⟨p1, p2, p3, p4⟩ := S1.pass (w' := w9) (x' := X) (by omega) XFold (fun b hb hf => old9 b hb (fun h => hf ((XF b).2 (.inl h))) fun h => hf ((XF b).2 (.inr (.inl h))))
    have LB9 : LooseB w6.size w9 v xs := LB.keep (by omega) fun b hb1 hb2 => by
      rw [k9 b (by omega), x8.2 b (by omega), ← f7, Heap.get_set, if_neg (by omega)]
    have BV : BoxF w9 X.F v xs := LB9.box fun b hb _ hf => by have := XFlt b hf; omega
    obtain ⟨es2, c2, hput2, MR9⟩ := (R.mono fun nm xs v _ hb => p3 v xs hb).put (nm := nm) BV
    rw [hput] at hput2
    cases hput2
    have m9 : w9.get x.mq = .map es' c' := by rw [k9 _ (Ne.symm m5), x8.2 _ (by omega), ← f7, Heap.get_set, if_pos rfl]
    have b9 : w9.get w3.size = _ := (k9 _ (by omega)).trans ((x8.2 _ (by omega)).trans ((k7 _ (by omega) (by omega)).trans b6))
    have c9 : w9.get ib = _ := (k9 _ (by omega)).trans ((x8.2 _ (by omega)).trans ((k7 _ (by omega) (by omega)).trans c6))
    have i3 : w3.size < w9.size := by omega
    have i4 : ib < w9.size := by omega
    have i5 : ib ≠ w3.size := by omega
    have i6 : W.size ≤ w3.size := by omega
    have hlq := S1.lw
    have o1 : w3.size ∉ [x.wq, x.lq, x.mq, x.tq, x.tb] := by
      simp only [List.mem_cons, List.not_mem_nil, or_false, not_or]
      omega
    have o2 : ib ∉ [x.wq, x.lq, x.mq, x.tq, x.tb] := by
      simp only [List.mem_cons, List.not_mem_nil, or_false, not_or]
      omega
    refine ⟨X, saveL L nm xs, ?_, by subst hX; rfl, by subst hX; rfl⟩
    subst hX
    refine ⟨fun b hb => ?_, by have := S1.lw; simp only; omega, p1, p2, ⟨es', c', m9, MR9⟩, ⟨_, told, _, g9, R8.frm ⟨by omega, fun b _ hf => k9 b fun h => hf ((XF b).2 (.inl h))⟩, ?_, ?_⟩, ?_, ?_⟩
    · rcases (XF b).1 hb with h | h | h | h | h | h
      · omega
      · omega
      · have := (S1.fl x.tq (mF _ (by simp))).1; omega
      · have := (S1.fl x.tb (mF _ (by simp))).1; omega
      · omega
      · omega
    · refine (((r2.others (o' := [x.wq, x.lq, x.mq, w3.size, ib]) fun i hi ho => ?_).keep (w' := w9) (by omega) fun i _ hi ho => old9 i hi (fun h => ho (by simp [h])) fun h => ho (by simp [h])).more (by omega))
      simp only [List.mem_cons, List.not_mem_nil, or_false] at ho ⊢
      omega
    · exact .inr ⟨c3, xs, rfl, Nat.le_trans jl i6, i3, b9, Nat.le_trans jl hib1, i4, c9, hibk, by omega, o1, o2, i5⟩
    · have := save_length (L := L) nm xs
      have := S1.few
      omega
    · intro p hp
      rcases mem_save.1 hp with rfl | ⟨hp, _⟩
      · exact ⟨hnmz, hxl⟩
      · exact S1.small p hp
  by_cases k1 : kd = 1
  · -- Load
    subst k1
    have RK : MR (Kp W) es c L := R.mono fun nm xs v hmem hb => by
      obtain ⟨p, h1, h2⟩ := hb.copy
      exact ⟨p, h1, h2, by have := (S1.small _ hmem).2; simp only at this; omega⟩
    simp +decide only [go_sem, W_region, Wx_some, hsz', e0, e3, e5, zW, k0, hw]
    refine W_call Kok jl (load_run nm W S1.lw S1.lib m4 hm RK) fun rr w2 x2 hr => ?_
    have h2 := x2.1
    obtain ⟨w3, f3, x3, hs3, z3⟩ := lay1 w2 (.cells [.pointer none] 1)
    rcases hr with ⟨ys, v, hmem, rfl, qb, ab, cb, rfl, lb1, lb2, lb3, b, rfl, lc1, lc2, lc3, lc4, lc5⟩ | ⟨hno, rfl⟩
    · obtain ⟨w4, f4, x4, hs4, z4, k4⟩ := put1 x3 (Nat.le_refl _) (.cells [.pointer (some ⟨qb, 0, none⟩)] 1)
      have K4 := x2.trans x4
      have g4 : w4.get x.wq = _ := (K4.2 _ m2).trans hw
      have j2 : hh.size ≤ w2.size := by omega
      have R4 := r1.frm (Frm.ext K4)
      have hys := (S1.small _ hmem).2
      simp only at hys
      simp +decide only [go_sem, W_region, Wx_some, hsz', e0, e3, e5, f3, z3, j2, f4, g4]
      refine W_call Kok (by omega) (rload_run nm L w4 R4 (by have := S1.few; omega)) fun rr w5 x5 hr => ?_
      rcases hr with ⟨ys2, a2, c2, hmem2, rfl, s5⟩ | ⟨hno, _⟩
      · have heq : ys = ys2 := by
          obtain ⟨i, hi⟩ := List.mem_iff_getElem?.1 hmem
          obtain ⟨j, hj⟩ := List.mem_iff_getElem?.1 hmem2
          have ei : (names L)[i]? = some nm := by simp [names, hi]
          have ej : (names L)[j]? = some nm := by simp [names, hj]
          have : i = j := (List.getElem?_inj (List.getElem?_eq_some_iff.1 ei).1 R.srt.nodup).1 (ei.trans ej.symm)
          subst this
          rw [hi] at hj
          cases hj
          rfl
        subst heq
        have h5 := x5.1
        have K5 := K4.trans x5
        have g5 : w5.get x.wq = _ := (x5.2 _ (by omega)).trans g4
        have t5 : w5.get w2.size = _ := (x5.2 _ (by omega)).trans z4
        obtain ⟨w6, f6⟩ : ∃ w6, w5.set x.wq (.cells [.pointer (some ⟨x.lq, 0, none⟩), r, .pointer (some ⟨qb, 0, none⟩), inn] 4) = w6 := ⟨_, rfl⟩
        have hs6 : w6.size = w5.size := by rw [← f6]; rfl
        have k6 : ∀ b, b ≠ x.wq → w6.get b = w5.get b := fun b hb => by rw [← f6, Heap.get_set, if_neg hb]
        have g6 : w6.get x.wq = .cells [.pointer (some ⟨x.lq, 0, none⟩), r, .pointer (some ⟨qb, 0, none⟩), inn] 4 := by rw [← f6, Heap.get_set, if_pos rfl]
        have t6 : w6.get w2.size = _ := (k6 _ (by omega)).trans t5
        have q6 : w6.get qb = _ := (k6 _ (by omega)).trans ((x5.2 _ (by omega)).trans ((k4 _ (by omega)).trans ((x3.2 _ lb2).trans lb3)))
        have b6 : w6.get b = _ := (k6 _ (by omega)).trans ((x5.2 _ (by omega)).trans ((k4 _ (by omega)).trans ((x3.2 _ lc2).trans lc4)))
        have Lo : Loose w.size w6 qb (some ⟨b, 0, none⟩) cb ys := ⟨b, rfl, by omega, by omega, lc3, b6, lc5⟩
        have CA : CopyA w6 (.pointer (some ⟨qb, 0, none⟩)) ys := .inr ⟨qb, _, cb, rfl, by omega, q6, Lo.sl⟩
        have s6 : Sl w6 1 a2 ys.length c2 (iv ys) := (s5.frm (w' := w6) ⟨by omega, fun b _ hf => k6 b fun h => hf (mF _ (.inl h))⟩).1
        simp +decide only [go_sem, W_region, Wx_some, hsz', e0, e3, e5, t5, g5, m1, f6, t6]
        refine W_call Kok (by omega) (numbers_run ys w6 CA) fun rr w7 x7 hr => ?_
        obtain ⟨a7, c7, rfl, s7, _, _⟩ := hr
        simp +decide only [go_sem, W_region, Wx_some, hsz']
        refine W_call Kok (by have := x7.1; omega) (isame_run ys w7 s7 (s6.ext x7) (by omega)) fun rr w8 x8 hr => ?_
        obtain ⟨rfl, rfl⟩ := hr
        simp +decide only [go_sem, W_region, Wx_some, hsz']
        have S6 : St hh.size w6 ⟨x.wq, x.lq, x.mq, qb, b, x.iq, x.ib⟩ (n + 1) L := by
          obtain ⟨X, hX⟩ : ∃ X : Bl, X = ⟨x.wq, x.lq, x.mq, qb, b, x.iq, x.ib⟩ := ⟨_, rfl⟩
          have XF : ∀ i, X.F i ↔ (i = x.wq ∨ i = x.mq ∨ i = qb ∨ i = b ∨ i = x.iq ∨ i = x.ib) := fun i => by subst hX; simp [Bl.F, Fs]
          have XFold : ∀ i, i < W.size → X.F i → x.F i := by
            intro i hi hx
            rcases (XF i).1 hx with h | h | h | h | h | h
            · exact mF _ (.inl h)
            · exact mF _ (.inr (.inl h))
            · omega
            · omega
            · exact mF _ (.inr (.inr (.inr (.inr (.inl h)))))
            · exact mF _ (.inr (.inr (.inr (.inr (.inr h)))))
          have old6 : ∀ i, i < W.size → i ≠ x.wq → w6.get i = W.get i := fun i hi h1 => (k6 i h1).trans (K5.2 i hi)
          obtain ⟨p1, p2, p3, p4⟩ := S1.pass (w' := w6) (x' := X) (by omega) XFold (fun i hi hf => old6 i hi fun h => hf ((XF i).2 (.inl h)))
          rw [← hX]
          have hlq := S1.lw
          have o1 : qb ∉ [x.wq, x.lq, x.mq, x.iq, x.ib] := by
            simp only [List.mem_cons, List.not_mem_nil, or_false, not_or]
            omega
          have o2 : b ∉ [x.wq, x.lq, x.mq, x.iq, x.ib] := by
            simp only [List.mem_cons, List.not_mem_nil, or_false, not_or]
            omega
          have i1 : hh.size ≤ qb := by omega
          have i2 : qb < w6.size := by omega
          have i3 : hh.size ≤ b := by omega
          have i4 : b < w6.size := by omega
          have fl : ∀ i, X.F i → hh.size ≤ i ∧ i < w6.size := by
            intro i hi
            by_cases hiW : i < W.size
            · have := S1.fl i (XFold i hiW hi)
              omega
            · rcases (XF i).1 hi with h | h | h | h | h | h <;> omega
          subst hX
          refine ⟨fl, by simp only; omega, p1, p2, ⟨es, c, (old6 _ m4 (Ne.symm m5)).trans hm, R.mono fun _ _ _ _ hb => p3 _ _ hb⟩, ⟨r, _, inn, g6, p4 _ _ r1, .inr ⟨cb, ys, rfl, i1, i2, q6, i3, i4, b6, lc5, by omega, o1, o2, lc3⟩, ?_⟩, by have := S1.few; omega, S1.small⟩
          refine (((r3.others (o' := [x.wq, x.lq, x.mq, qb, b]) fun i hi ho => ?_).keep (w' := w6) (by omega) fun i _ hi ho => old6 i hi (fun h => ho (by simp [h]))).more (by omega))
          simp only [List.mem_cons, List.not_mem_nil, or_false] at ho ⊢
          omega
        exact ⟨_, L, S6.ext x7, rfl, rfl⟩
      · exact absurd (mem_names.2 ⟨_, hmem⟩) hno
    · obtain ⟨w4, f4, x4, hs4, z4, k4⟩ := put1 x3 (Nat.le_refl _) (.cells [.pointer none] 1)
      have K4 := x2.trans x4
      have g4 : w4.get x.wq = _ := (K4.2 _ m2).trans hw
      have j2 : hh.size ≤ w2.size := by omega
      have R4 := r1.frm (Frm.ext K4)
      simp +decide only [go_sem, W_region, Wx_some, hsz', e0, e3, e5, f3, z3, j2, f4, g4]
      refine W_call Kok (by omega) (rload_run nm L w4 R4 (by have := S1.few; omega)) fun rr w5 x5 hr => ?_
      rcases hr with ⟨ys2, a2, c2, hmem2, _, _⟩ | ⟨_, rfl⟩
      · exact absurd (mem_names.2 ⟨_, hmem2⟩) hno
      · have h5 := x5.1
        have K5 := K4.trans x5
        have g5 : w5.get x.wq = _ := (x5.2 _ (by omega)).trans g4
        have t5 : w5.get w2.size = _ := (x5.2 _ (by omega)).trans z4
        obtain ⟨w6, f6⟩ : ∃ w6, w5.set x.wq (.cells [.pointer (some ⟨x.lq, 0, none⟩), r, .pointer none, inn] 4) = w6 := ⟨_, rfl⟩
        have hs6 : w6.size = w5.size := by rw [← f6]; rfl
        have k6 : ∀ b, b ≠ x.wq → w6.get b = w5.get b := fun b hb => by rw [← f6, Heap.get_set, if_neg hb]
        have g6 : w6.get x.wq = .cells [.pointer (some ⟨x.lq, 0, none⟩), r, .pointer none, inn] 4 := by rw [← f6, Heap.get_set, if_pos rfl]
        have t6 : w6.get w2.size = _ := (k6 _ (by omega)).trans t5
        simp +decide only [go_sem, W_region, Wx_some, hsz', e0, e3, e5, t5, g5, m1, f6, t6]
        refine W_call Kok (by omega) (numbers_run [] w6 (.inl ⟨rfl, rfl⟩)) fun rr w7 x7 hr => ?_
        obtain ⟨a7, c7, rfl, s7, _, _⟩ := hr
        simp +decide only [go_sem, W_region, Wx_some, hsz']
        refine W_call Kok (by have := x7.1; omega) (isame_run [] w7 s7 (Sl.nil _ _) (by simp)) fun rr w8 x8 hr => ?_
        obtain ⟨rfl, rfl⟩ := hr
        simp +decide only [go_sem, W_region, Wx_some, hsz']
        have S6 : St hh.size w6 ⟨x.wq, x.lq, x.mq, x.wq, x.wq, x.iq, x.ib⟩ (n + 1) L := by
          obtain ⟨X, hX⟩ : ∃ X : Bl, X = ⟨x.wq, x.lq, x.mq, x.wq, x.wq, x.iq, x.ib⟩ := ⟨_, rfl⟩
          have XF : ∀ i, X.F i ↔ (i = x.wq ∨ i = x.mq ∨ i = x.iq ∨ i = x.ib) := fun i => by subst hX; simp [Bl.F, Fs]; omega
          have XFold : ∀ i, i < W.size → X.F i → x.F i := by
            intro i hi hx
            rcases (XF i).1 hx with h | h | h | h
            · exact mF _ (.inl h)
            · exact mF _ (.inr (.inl h))
            · exact mF _ (.inr (.inr (.inr (.inr (.inl h)))))
            · exact mF _ (.inr (.inr (.inr (.inr (.inr h)))))
          have old6 : ∀ i, i < W.size → i ≠ x.wq → w6.get i = W.get i := fun i hi h1 => (k6 i h1).trans (K5.2 i hi)
          obtain ⟨p1, p2, p3, p4⟩ := S1.pass (w' := w6) (x' := X) (by omega) XFold (fun i hi hf => old6 i hi fun h => hf ((XF i).2 (.inl h)))
          rw [← hX]
          have hlq := S1.lw
          have fl : ∀ i, X.F i → hh.size ≤ i ∧ i < w6.size := by
            intro i hi
            have hiW : i < W.size := by rcases (XF i).1 hi with h | h | h | h <;> omega
            have := S1.fl i (XFold i hiW hi)
            omega
          subst hX
          refine ⟨fl, by simp only; omega, p1, p2, ⟨es, c, (old6 _ m4 (Ne.symm m5)).trans hm, R.mono fun _ _ _ _ hb => p3 _ _ hb⟩, ⟨r, _, inn, g6, p4 _ _ r1, .inl rfl, ?_⟩, by have := S1.few; omega, S1.small⟩
          refine (((r3.others (o' := [x.wq, x.lq, x.mq, x.wq, x.wq]) fun i hi ho => ?_).keep (w' := w6) (by omega) fun i _ hi ho => old6 i hi (fun h => ho (by simp [h]))).more (by omega))
          simp only [List.mem_cons, List.not_mem_nil, or_false] at ho ⊢
          omega
        exact ⟨_, L, S6.ext x7, rfl, rfl⟩
  have XFx : ∀ i, x.F i ↔ (i = x.wq ∨ i = x.mq ∨ i = x.tq ∨ i = x.tb ∨ i = x.iq ∨ i = x.ib) := fun i => by simp [Bl.F, Fs]
  by_cases k2 : kd = 2
  · -- Drop
    subst k2
    have sn1 : Sl W 1 na nms.length nc (sv nms) := sn.ext K1
    simp +decide only [go_sem, W_region, Wx_some, hsz', e0, e3, e5, zW, k0, k1, hw]
    refine W_call Kok jl (rdrop_run nms L W iF r1 (by have := S1.few; omega) (by omega) sn1) fun rr w2 x2 hr => ?_
    obtain ⟨u, rfl, R2⟩ := hr
    have h2 := x2.1
    have g2 : w2.get x.wq = _ := (x2.2 _ m2).trans hw
    obtain ⟨ua, uc, uvs, rfl, R2a⟩ := id R2
    obtain ⟨w3, f3⟩ : ∃ w3, w2.set x.wq (.cells [.pointer (some ⟨x.lq, 0, none⟩), .slice ua (dropsL L nms).length uc, told, inn] 4) = w3 := ⟨_, rfl⟩
    have hs3 : w3.size = w2.size := by rw [← f3]; rfl
    have k3 : ∀ b, b ≠ x.wq → w3.get b = w2.get b := fun b hb => by rw [← f3, Heap.get_set, if_neg hb]
    have g3 : w3.get x.wq = .cells [.pointer (some ⟨x.lq, 0, none⟩), .slice ua (dropsL L nms).length uc, told, inn] 4 := by rw [← f3, Heap.get_set, if_pos rfl]
    have a3 : w3.get w.size = _ := (k3 _ actne).trans ((x2.2 _ (by omega)).trans zW)
    have old3 : ∀ i, i < W.size → i ≠ x.wq → w3.get i = W.get i := fun i hi h1 => (k3 i h1).trans (x2.2 i hi)
    have fr3 : Frm x.F W w3 := ⟨by omega, fun i hi hf => old3 i hi fun h => hf (mF _ (.inl h))⟩
    have fr23 : Frm x.F w2 w3 := ⟨by omega, fun i hi hf => k3 i fun h => hf (mF _ (.inl h))⟩
    have R3 : MR (BoxF w3 x.F) es c L := R.mono fun _ _ _ _ hb => hb.frm fr3
    have lq3 : w3.get x.lq = _ := (old3 _ S1.lw lne.1).trans S1.lib
    have mq3 : w3.get x.mq = _ := (old3 _ m4 (Ne.symm m5)).trans hm
    have sn3 : SlF w3 x.F 1 na nms.length nc (sv nms) := (Sl.old K1 sn fun b hb => (S1.fl b hb).1).frm fr3
    have hlq := S1.lw
    have dr := drop_run nms w3 (low := hh.size) (by omega) (q := x.lq) (M := x.mq) (F := x.F) (mF _ (by simp)) (fun b hb => by have := iF b hb; omega) S1.lF (by omega) lq3 m3 (by omega) mq3 R3 (fun p hp => by have := (S1.small p hp).2; omega) sn3 (by omega)
    simp +decide only [go_sem, W_region, Wx_some, hsz', e0, e3, e5, g2, m1, f3, g3, a3]
    refine W_does rfl dr fun rr w4 hr => ?_
    obtain ⟨rfl, es', hm4, R4, fr4⟩ := hr
    simp +decide only [go_sem, W_region, Wx_some, hsz']
    refine ⟨x, dropsL L nms, ?_, rfl, rfl⟩
    have h4 := fr4.1
    have old4 : ∀ i, i < W.size → i ≠ x.wq → i ≠ x.mq → w4.get i = W.get i := fun i hi h1 h2 => (fr4.2 i (by omega) h2).trans (old3 i hi h1)
    have fr34 : Frm x.F w3 w4 := fr4.weaken fun i _ e => by rw [e]; exact mF _ (by simp)
    have hsub : ∀ (l : List ByteArray) (L : List Ent), ∀ p ∈ dropsL L l, p ∈ L := by
      intro l
      induction l with
      | nil => intro L p hp; exact hp
      | cons y l ih => intro L p hp; exact (mem_drop.1 (ih (dropL L y) p hp)).1
    have hlen : ∀ (l : List ByteArray) (L : List Ent), (dropsL L l).length ≤ L.length := by
      intro l
      induction l with
      | nil => intro L; exact Nat.le_refl _
      | cons y l ih => intro L; exact Nat.le_trans (ih (dropL L y)) (drop_length L y)
    refine ⟨fun b hb => ?_, by omega, S1.lF, ?_, ⟨es', c, hm4, R4⟩, ⟨_, told, inn, ?_, (R2.frm fr23).frm fr34, ?_, ?_⟩, by have := hlen nms L; have := S1.few; omega, fun p hp => S1.small p (hsub nms L p hp)⟩
    · have := S1.fl b hb
      omega
    · exact (fr4.2 _ (by omega) lne.2).trans lq3
    · exact (fr4.2 _ (by omega) m5).trans g3
    · exact (r2.keep (w' := w4) (by omega) fun i _ hi ho => old4 i hi (fun h => ho (by simp [h])) fun h => ho (by simp [h])).more (by omega)
    · exact (r3.keep (w' := w4) (by omega) fun i _ hi ho => old4 i hi (fun h => ho (by simp [h])) fun h => ho (by simp [h])).more (by omega)
  by_cases k3 : kd = 3
  · -- what was told is changed
    subst k3
    rcases r2 with rfl | ⟨tc, ts, rfl, t1, t2, t3, t4, t5, t6, t7, t8, t9, t10, t11⟩
    · simp +decide only [go_sem, W_region, Wx_some, hsz', e0, e3, e5, zW, k0, k1, k2, hw]
      exact ⟨x, L, S1.more (by omega), rfl, rfl⟩
    · obtain ⟨w2, f2, x2, hs2, z2⟩ := lay1 W (.cells [.int .i64 99] 1)
      have g2 : w2.get x.wq = _ := (x2.2 _ m2).trans hw
      have q2 : w2.get x.tq = _ := (x2.2 _ t2).trans t3
      have b2 : w2.get x.tb = _ := (x2.2 _ t5).trans t6
      have isl : islice w2 1 (.slice (some ⟨W.size, 0, none⟩) 1 1) = some [.int .i64 99] := by
        simp only [islice, Heap.look, z2, Blk.read]
        rfl
      obtain ⟨w3, nb, f3, hs3, hnb, hnb1, hnb2, k3'⟩ : ∃ w3 nb, iapp hh.size w2 1 8 (.slice (some ⟨x.tb, 0, none⟩) ts.length tc) 1 (some [.int .i64 99]) = some (.slice (some ⟨nb, 0, none⟩) (ts.length + 1) big, w3) ∧ w3.size = w2.size + 1 ∧ nb = w2.size ∧ w2.size ≤ nb ∧ w3.get nb = .cells (iv (ts ++ [99])) 1 ∧ ∀ b, b < w2.size → b ≠ x.tb → w3.get b = w2.get b := by
        rcases t7 with ⟨rfl, rfl⟩ | ⟨h0, rfl⟩
        · refine ⟨w2.push (.cells [.int .i64 99] 1), w2.size, ?_, rfl, rfl, Nat.le_refl _, push_self _ _, fun b hb _ => push_lt hb _⟩
          simp only [iapp, List.length_nil]
          rw [if_neg (by omega), if_neg (by omega)]
          simp [iput, b2, iv, big]
        · have ow : Own hh.size w2 1 (.slice (some ⟨x.tb, 0, none⟩) ts.length big) ts.length (iv ts) := .inr ⟨x.tb, rfl, t4, by omega, b2, by rw [iv_length]; omega⟩
          obtain ⟨w3, e1, e2, e3, e4⟩ := own_app (low := hh.size) (bytes := 8) (k := 1) (new := [.int .i64 99]) ow (by omega) (by omega) (by omega) rfl (by omega) (by omega)
          refine ⟨w3, w2.size, e1, e3, rfl, Nat.le_refl _, ?_, fun b hb hne => e4 b hb (by simp only [vblk, ne_eq, Option.some.injEq]; exact fun h => hne h.symm)⟩
          rcases e2 with ⟨h5, _⟩ | ⟨b', h5, _, _, h6, _⟩
          · cases h5
          · cases h5
            rw [h6]
            simp [iv]
      have q3 : w3.get x.tq = _ := (k3' _ (by omega) (Ne.symm t11)).trans q2
      obtain ⟨w4, f4⟩ : ∃ w4, w3.set x.tq (.cells [.slice (some ⟨nb, 0, none⟩) (ts.length + 1) big] 1) = w4 := ⟨_, rfl⟩
      have hs4 : w4.size = w3.size := by rw [← f4]; rfl
      have k4 : ∀ b, b ≠ x.tq → w4.get b = w3.get b := fun b hb => by rw [← f4, Heap.get_set, if_neg hb]
      have g4 : w4.get x.tq = .cells [.slice (some ⟨nb, 0, none⟩) (ts.length + 1) big] 1 := by rw [← f4, Heap.get_set, if_pos rfl]
      have twq : x.wq ≠ x.tq := fun h => t9 (by simp [h])
      simp +decide only [go_sem, W_region, Wx_some, hsz', e0, e3, e5, zW, k0, k1, k2, hw, t3, f2, isl, f3, q3, t1, f4]
      refine W_chk ?_ ?_
      · simp +decide only [go_sem, W_region, Wx_some, hsz', m2]
        simp
        intro h
        exact t10 (by simp [h])
      simp +decide only [go_sem, W_region, Wx_some, hsz']
      obtain ⟨X, hX⟩ : ∃ X : Bl, X = ⟨x.wq, x.lq, x.mq, x.tq, nb, x.iq, x.ib⟩ := ⟨_, rfl⟩
      have XF : ∀ i, X.F i ↔ (i = x.wq ∨ i = x.mq ∨ i = x.tq ∨ i = nb ∨ i = x.iq ∨ i = x.ib) := fun i => by subst hX; simp [Bl.F, Fs]
      have XFold : ∀ i, i < W.size → X.F i → x.F i := by
        intro i hi hx
        rcases (XF i).1 hx with h | h | h | h | h | h
        · exact mF _ (.inl h)
        · exact mF _ (.inr (.inl h))
        · exact mF _ (.inr (.inr (.inl h)))
        · omega
        · exact mF _ (.inr (.inr (.inr (.inr (.inl h)))))
        · exact mF _ (.inr (.inr (.inr (.inr (.inr h)))))
      have old4 : ∀ i, i < W.size → i ≠ x.tq → i ≠ x.tb → w4.get i = W.get i := fun i hi h1 h2 => (k4 i h1).trans ((k3' i (by omega) h2).trans (x2.2 i hi))
      obtain ⟨p1, p2, p3, p4⟩ := S1.pass2 (w' := w4) (x' := X) (by omega) XFold (fun i hi hf => old4 i hi (fun h => hf (mF _ (.inr (.inr (.inl h))))) fun h => hf (mF _ (.inr (.inr (.inr (.inl h))))))
      have hlq := S1.lw
      have nt9 : x.tq ∉ [x.wq, x.lq, x.mq, x.iq, x.ib] := t9
      simp only [List.mem_cons, List.not_mem_nil, or_false, not_or] at t9 t10
      have o2 : nb ∉ [x.wq, x.lq, x.mq, x.iq, x.ib] := by
        simp only [List.mem_cons, List.not_mem_nil, or_false, not_or]
        omega
      have i2 : x.tq < w4.size := by omega
      have i3 : hh.size ≤ nb := by omega
      have i4 : nb < w4.size := by omega
      have i5 : nb ≠ x.tq := by omega
      have nb4 : w4.get nb = .cells (iv (ts ++ [99])) 1 := (k4 _ i5).trans hnb2
      have hlen : (ts ++ [(99 : Int)]).length = ts.length + 1 := by simp
      have fl : ∀ i, X.F i → hh.size ≤ i ∧ i < w4.size := by
        intro i hi
        by_cases hiW : i < W.size
        · have := S1.fl i (XFold i hiW hi)
          omega
        · rcases (XF i).1 hi with h | h | h | h | h | h <;> omega
      refine ⟨X, L, ?_, by subst hX; rfl, by subst hX; rfl⟩
      subst hX
      refine ⟨fl, by simp only; omega, p1, p2, ⟨es, c, (old4 _ m4 (by omega) (by omega)).trans hm, R.mono fun _ _ _ _ hb => p3 _ _ hb⟩, ⟨r, _, inn, (old4 _ m2 (by omega) (by omega)).trans hw, p4 _ _ r1, .inr ⟨big, ts ++ [99], rfl, t1, i2, by rw [hlen]; exact g4, i3, i4, nb4, .inr ⟨by omega, rfl⟩, by omega, nt9, o2, i5⟩, ?_⟩, by have := S1.few; omega, S1.small⟩
      refine r3.keep2 (by omega) (fun i _ hi ho => ?_) (fun i hi ho => ?_) (by omega)
      · simp only [List.mem_cons, List.not_mem_nil, or_false, not_or] at ho
        exact old4 i hi (by omega) (by omega)
      · simp only [List.mem_cons, List.not_mem_nil, or_false] at ho ⊢
        omega
  · -- what was handed in is changed
    obtain ⟨ys, CA, hyl⟩ := r3.copy
    simp +decide only [go_sem, W_region, Wx_some, hsz', e0, e3, e5, zW, k0, k1, k2, k3, hw]
    refine W_call Kok jl (numbers_run ys W CA) fun rr w2 x2 hr => ?_
    obtain ⟨a2, c2, rfl, s2, hnone, hsome⟩ := hr
    have h2 := x2.1
    by_cases hpos : (0 : Int) < ((ys.length : Nat) : Int)
    · rcases r3 with rfl | ⟨tc, ts, rfl, t1, t2, t3, t4, t5, t6, t7, t8, t9, t10, t11⟩
      · rcases CA with ⟨_, rfl⟩ | ⟨q, a, c, h, _⟩
        · simp at hpos
        · cases h
      · have h3 := hsome _ rfl
        rw [t3] at h3
        simp only [Blk.cells.injEq, List.cons.injEq, Value.slice.injEq, and_true] at h3
        obtain ⟨rfl, hlen, rfl⟩ := h3
        cases ts with
        | nil => simp at hlen; omega
        | cons d ts =>
          have b2 : w2.get x.ib = _ := (x2.2 _ t5).trans t6
          obtain ⟨w3, f3⟩ : ∃ w3, w2.set x.ib (.cells (iv (IntKind.i64.wrap (d + 1) :: ts)) 1) = w3 := ⟨_, rfl⟩
          have hs3 : w3.size = w2.size := by rw [← f3]; rfl
          have k3' : ∀ b, b ≠ x.ib → w3.get b = w2.get b := fun b hb => by rw [← f3, Heap.get_set, if_neg hb]
          have g3 : w3.get x.ib = .cells (iv (IntKind.i64.wrap (d + 1) :: ts)) 1 := by rw [← f3, Heap.get_set, if_pos rfl]
          simp only [iv, List.map_cons] at b2 f3
          simp +decide only [go_sem, W_region, Wx_some, hsz', hpos, b2, t4, f3]
          have old3 : ∀ i, i < W.size → i ≠ x.ib → w3.get i = W.get i := fun i hi h1 => (k3' i h1).trans (x2.2 i hi)
          obtain ⟨p1, p2, p3, p4⟩ := S1.pass2 (w' := w3) (x' := x) (by omega) (fun _ _ h => h) (fun i hi hf => old3 i hi fun h => hf (mF _ (.inr (.inr (.inr (.inr (.inr h)))))))
          have hlq := S1.lw
          have nt10 := t10
          simp only [List.mem_cons, List.not_mem_nil, or_false, not_or] at t9 t10
          refine ⟨x, L, ?_, rfl, rfl⟩
          refine ⟨fun i hi => by have := S1.fl i hi; omega, by omega, p1, p2, ⟨es, c, (old3 _ m4 (by omega)).trans hm, R.mono fun _ _ _ _ hb => p3 _ _ hb⟩, ⟨r, told, _, (old3 _ m2 (by omega)).trans hw, p4 _ _ r1, ?_, ?_⟩, by have := S1.few; omega, S1.small⟩
          · refine r2.keep2 (by omega) (fun i _ hi ho => ?_) (fun i hi ho => ho) (by omega)
            simp only [List.mem_cons, List.not_mem_nil, or_false, not_or] at ho
            exact old3 i hi (by omega)
          · refine .inr ⟨tc, IntKind.i64.wrap (d + 1) :: ts, rfl, t1, by omega, (old3 _ t2 (by omega)).trans t3, t4, by omega, g3, .inr ?_, by simp only [List.length_cons] at t8 ⊢; omega, ?_, nt10, t11⟩
            · rcases t7 with ⟨h, _⟩ | ⟨_, h⟩
              · cases h
              · exact ⟨by simp, h⟩
            · simp only [List.mem_cons, List.not_mem_nil, or_false, not_or]
              exact t9
    · simp +decide only [go_sem, W_region, Wx_some, hsz', hpos]
      exact ⟨x, L, (S1.ext x2).more (by omega), rfl, rfl⟩
end Go.Proofs.Ytjamnjbfcecnnaa.L26
