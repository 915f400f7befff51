/- Proved here: a library's calls, where things are kept apart; of lists that are not too long. -/
import Derived.Test.YtjamnjbfcecnnaaLL22
set_option linter.unusedSimpArgs false
set_option linter.unusedVariables false
namespace Go.Im.Lib
open Go Go.Im Go.Sort
def iv (l : List Int) : List Value := l.map (Value.int .i64)
theorem iv_length (l : List Int) : (iv l).length = l.length := by simp [iv]
/-- Memory is as it was, but where F says. -/
def Frm (F : Nat → Prop) (w w' : Heap) : Prop := w.size ≤ w'.size ∧ ∀ b, b < w.size → ¬ F b → w'.get b = w.get b
theorem Frm.refl (F : Nat → Prop) (w : Heap) : Frm F w w := ⟨Nat.le_refl _, fun _ _ _ => rfl⟩
theorem Frm.trans {F : Nat → Prop} {a b c : Heap} (h : Frm F a b) (k : Frm F b c) : Frm F a c := ⟨Nat.le_trans h.1 k.1, fun i hi hf => (k.2 i (by have := h.1; omega) hf).trans (h.2 i hi hf)⟩
theorem Frm.ext {F : Nat → Prop} {a b : Heap} (k : Ext a b) : Frm F a b := ⟨k.1, fun i hi _ => k.2 i hi⟩
theorem Frm.set {F : Nat → Prop} {w : Heap} {b : Nat} (hb : F b) (x : Blk) : Frm F w (w.set b x) := ⟨Nat.le_refl _, fun i _ hf => by rw [Heap.get_set, if_neg (by rintro rfl; exact hf hb)]⟩
theorem Frm.weaken {F G : Nat → Prop} {a b : Heap} (h : Frm F a b) (hfg : ∀ i, i < a.size → F i → G i) : Frm G a b := ⟨h.1, fun i hi hg => h.2 i hi fun hf => hg (hfg i hi hf)⟩
/-- A slice that lies where F doesn't. -/
def SlF (w : Heap) (F : Nat → Prop) (size : Nat) (a : Option Addr) (n c : Nat) (xs : List Value) : Prop := Sl w size a n c xs ∧ (0 < c → ∀ ad, a = some ad → ¬ F ad.block)
theorem SlF.frm {w w' : Heap} {F : Nat → Prop} (k : Frm F w w') {size : Nat} {a : Option Addr} {n c : Nat} {xs : List Value} (s : SlF w F size a n c xs) : SlF w' F size a n c xs := by
  obtain ⟨s, hf⟩ := s
  refine ⟨?_, hf⟩
  rcases s with h1 | h1 | ⟨b, o, cs, h1, h2, h3, h4, h5⟩
  · exact .inl h1
  · exact .inr (.inl h1)
  · exact .inr (.inr ⟨b, o, cs, h1, h2, by have := k.1; omega, by rw [k.2 b h3 (hf h2 _ h1)]; exact h4, h5⟩)
theorem SlF.weaken {w : Heap} {F G : Nat → Prop} (hg : ∀ b, b < w.size → G b → F b) {size : Nat} {a : Option Addr} {n c : Nat} {xs : List Value} (s : SlF w F size a n c xs) : SlF w G size a n c xs := by
  obtain ⟨s, hf⟩ := s
  refine ⟨s, fun hc ad ha hgb => ?_⟩
  rcases s with ⟨_, _, h1, _⟩ | ⟨_, _, _, _, h1, _⟩ | ⟨b, o, cs, h1, h2, h3, h4, h5⟩
  · omega
  · omega
  · rw [h1] at ha
    cases ha
    exact hf hc _ h1 (hg b h3 hgb)
/-- A box with a list of numbers, or none. -/
def BoxF (w : Heap) (F : Nat → Prop) (v : Value) (xs : List Int) : Prop := ∃ q a c, v = .agg #[.pointer (some ⟨q, 0, none⟩)] ∧ q < w.size ∧ ¬ F q ∧ w.get q = .cells [.slice a xs.length c] 1 ∧ SlF w F 1 a xs.length c (iv xs)
theorem BoxF.frm {w w' : Heap} {F : Nat → Prop} (k : Frm F w w') {v : Value} {xs : List Int} (h : BoxF w F v xs) : BoxF w' F v xs := by
  obtain ⟨q, a, c, h1, h2, h3, h4, h5⟩ := h
  exact ⟨q, a, c, h1, by have := k.1; omega, h3, (k.2 q h2 h3).trans h4, h5.frm k⟩
theorem BoxF.weaken {w : Heap} {F G : Nat → Prop} (hg : ∀ b, b < w.size → G b → F b) {v : Value} {xs : List Int} (h : BoxF w F v xs) : BoxF w G v xs := by
  obtain ⟨q, a, c, h1, h2, h3, h4, h5⟩ := h
  exact ⟨q, a, c, h1, h2, fun hh => h3 (hg q h2 hh), h4, h5.weaken hg⟩
/-- A slice that may be changed, of one's own. -/
def Loose (low : Nat) (w : Heap) (q : Nat) (a : Option Addr) (c : Nat) (xs : List Int) : Prop :=
  ∃ b, a = some ⟨b, 0, none⟩ ∧ low ≤ b ∧ b < w.size ∧ b ≠ q ∧ w.get b = .cells (iv xs) 1 ∧ ((xs = [] ∧ c = 0) ∨ (0 < xs.length ∧ c = big))
theorem Loose.sl {low : Nat} {w : Heap} {q : Nat} {a : Option Addr} {c : Nat} {xs : List Int} (h : Loose low w q a c xs) : Sl w 1 a xs.length c (iv xs) := by
  obtain ⟨b, rfl, _, h2, _, h4, h5⟩ := h
  rcases h5 with ⟨rfl, rfl⟩ | ⟨h5, rfl⟩
  · exact .inr (.inl ⟨b, 0, rfl, rfl, rfl, rfl⟩)
  · exact .inr (.inr ⟨b, 0, _, rfl, by simp [big], h2, by rw [h4]; rfl, by rw [iv_length]; omega, by rw [List.drop_zero, List.take_of_length_le (by rw [iv_length]; omega)], .inr rfl⟩)
/-- A box with such a slice. -/
def LooseB (low : Nat) (w : Heap) (v : Value) (xs : List Int) : Prop := ∃ q a c, v = .agg #[.pointer (some ⟨q, 0, none⟩)] ∧ low ≤ q ∧ q < w.size ∧ w.get q = .cells [.slice a xs.length c] 1 ∧ Loose low w q a c xs
theorem LooseB.box {low : Nat} {w : Heap} {v : Value} {xs : List Int} (h : LooseB low w v xs) {F : Nat → Prop} (hf : ∀ b, low ≤ b → b < w.size → ¬ F b) : BoxF w F v xs := by
  obtain ⟨q, a, c, h1, h2, h3, h4, h5⟩ := h
  refine ⟨q, a, c, h1, h3, hf q h2 h3, h4, h5.sl, fun hc ad ha => ?_⟩
  obtain ⟨b, rfl, k1, k2, _⟩ := h5
  cases ha
  exact hf b k1 k2
theorem LooseB.keep {low : Nat} {w w' : Heap} {v : Value} {xs : List Int} (h : LooseB low w v xs) (hs : w.size ≤ w'.size) (hk : ∀ b, low ≤ b → b < w.size → w'.get b = w.get b) : LooseB low w' v xs := by
  obtain ⟨q, a, c, h1, h2, h3, h4, b, k0, k1, k2, k3, k4, k5⟩ := h
  exact ⟨q, a, c, h1, h2, by omega, (hk q h2 h3).trans h4, b, k0, k1, by omega, k3, (hk b k1 k2).trans k4, k5⟩
theorem LooseB.low {low low' : Nat} (hl : low' ≤ low) {w : Heap} {v : Value} {xs : List Int} (h : LooseB low w v xs) : LooseB low' w v xs := by
  obtain ⟨q, a, c, h1, h2, h3, h4, b, k0, k1, k2⟩ := h
  exact ⟨q, a, c, h1, by omega, h3, h4, b, k0, by omega, k2⟩
/-- What can be copied. -/
def CopyA (w : Heap) (p : Value) (xs : List Int) : Prop := (p = .pointer none ∧ xs = []) ∨ ∃ q a c, p = .pointer (some ⟨q, 0, none⟩) ∧ q < w.size ∧ w.get q = .cells [.slice a xs.length c] 1 ∧ Sl w 1 a xs.length c (iv xs)
theorem CopyA.ext {w w' : Heap} (k : Ext w w') {p : Value} {xs : List Int} (h : CopyA w p xs) : CopyA w' p xs := by
  rcases h with h | ⟨q, a, c, h1, h2, h3, h4⟩
  · exact .inl h
  · exact .inr ⟨q, a, c, h1, by have := k.1; omega, (k.2 q h2).trans h3, h4.ext k⟩
theorem BoxF.copy {w : Heap} {F : Nat → Prop} {v : Value} {xs : List Int} (h : BoxF w F v xs) : ∃ p, v = .agg #[p] ∧ CopyA w p xs := by
  obtain ⟨q, a, c, h1, h2, _, h4, h5⟩ := h
  exact ⟨_, h1, .inr ⟨q, a, c, rfl, h2, h4, h5.1⟩⟩
theorem LooseB.copy {low : Nat} {w : Heap} {v : Value} {xs : List Int} (h : LooseB low w v xs) : ∃ p, v = .agg #[p] ∧ CopyA w p xs := by
  obtain ⟨q, a, c, h1, _, h2, h4, h5⟩ := h
  exact ⟨_, h1, .inr ⟨q, a, c, rfl, h2, h4, h5.sl⟩⟩
end Go.Im.Lib
namespace Go.Proofs.Ytjamnjbfcecnnaa.L23
open Go Go.Im Go.Im.Lib Go.Proofs Go.RowKit Go.Proofs.Ytjamnjbfcecnnaa.Hd Go.Proofs.Ytjamnjbfcecnnaa.L20
set_option maxRecDepth 100000

theorem numbers_run (xs : List Int) (h : Heap) {p : Value} (C : CopyA h p xs) : Runs K f_law29_numbers #[.agg #[p]] h fun r w => ∃ a c, r = .slice a xs.length c ∧ Sl w 1 a xs.length c (iv xs) ∧ (p = .pointer none → a = none ∧ c = 0) ∧ ∀ q, p = .pointer (some ⟨q, 0, none⟩) → h.get q = .cells [.slice a xs.length c] 1 := by
  refine Runs.of Kok (Does.intro rfl (by decide +kernel) F_law29_numbers rfl ?_)
  rcases C with ⟨rfl, rfl⟩ | ⟨q, a, c, rfl, hq, hg, s⟩
  · obtain ⟨w1, e1, x1, hs1, z1⟩ := lay1 h (.cells [.pointer none] 1)
    simp +decide only [go_sem, W_region, Wx_some, e1, z1]
    exact ⟨none, 0, rfl, Sl.nil _ _, fun _ => ⟨rfl, rfl⟩, fun q hq => by cases hq⟩
  · obtain ⟨w1, e1, x1, hs1, z1⟩ := lay1 h (.cells [.pointer (some ⟨q, 0, none⟩)] 1)
    have g1 : w1.get q = _ := (x1.2 q hq).trans hg
    simp +decide only [go_sem, W_region, Wx_some, e1, z1, g1]
    exact ⟨a, c, rfl, s.ext x1, fun hh => (by cases hh), fun q' hq' => by cases hq'; exact hg⟩
theorem imC : imethod Try.prog 44 "Copy" = some 79 := by kernel_rfl
attribute [go_sem] Try.underlying44
@[go_sem] theorem ishut_struct {fs : Array Field} {t : TypeId} {x : Value} : ishut (some (.struct fs)) t x = some (.iface t x) := rfl
/-- A list like another one. -/
theorem copy_run (xs : List Int) (h : Heap) {p : Value} (C : CopyA h p xs) (hl : xs.length ≤ 1000000) : Runs K f_law29_List_Copy #[.agg #[p]] h fun r w => LooseB h.size w r xs := by
  refine Runs.of Kok (Does.intro rfl (by decide +kernel) F_law29_List_Copy rfl ?_)
  have hp : cellOK p = true ∧ p.cells = #[p] := by
    rcases C with ⟨rfl, _⟩ | ⟨q, a, c, rfl, _⟩ <;> exact ⟨rfl, rfl⟩
  obtain ⟨w4, e4, x4, hs4, z0, z1, z2, z3⟩ := lay4 h (.cells [p] 1) (.cells [.pointer none] 1) (.cells [] 1) (.cells [.slice none 0 0] 1)
  obtain ⟨w5, e5, x5, hs5, y3, k5⟩ := put1 x4 (b := h.size + 3) (by omega) (.cells [.slice (some ⟨h.size + 2, 0, none⟩) 0 0] 1)
  have y0 : w5.get h.size = _ := (k5 _ (by omega)).trans z0
  have y1 : w5.get (h.size + 1) = _ := (k5 _ (by omega)).trans z1
  have y2 : w5.get (h.size + 2) = _ := (k5 _ (by omega)).trans z2
  have i0 : ¬ h.size + 2 = h.size + 3 := by omega
  have j3 : h.size ≤ h.size + 3 := by omega
  have j1 : h.size ≤ h.size + 1 := by omega
  rcases C with ⟨rfl, rfl⟩ | ⟨q, a, c, rfl, hq, hg, s⟩
  · obtain ⟨w6, e6, x6, hs6, v1, k6⟩ := put1 x5 (b := h.size + 1) (by omega) (.cells [.pointer (some ⟨h.size + 3, 0, none⟩)] 1)
    have v3 : w6.get (h.size + 3) = _ := (k6 _ (by omega)).trans y3
    have v2 : w6.get (h.size + 2) = _ := (k6 _ (by omega)).trans y2
    simp +decide only [go_sem, W_region, Wx_some, hp.1, hp.2, e4, z3, j3, e5, y0, y1, j1, e6, v1]
    exact ⟨h.size + 3, some ⟨h.size + 2, 0, none⟩, 0, rfl, by omega, by omega, v3, h.size + 2, rfl, by omega, by omega, by omega, v2, .inl ⟨rfl, rfl⟩⟩
  · have gq : w5.get q = _ := (x5.2 q hq).trans hg
    obtain ⟨a', c', w6, f6, x6, hc6, s6⟩ := app0 (low := h.size) (bytes := 8) (new := iv xs) (k := xs.length) y2 (by omega) (by omega) (by rw [iv_length]; omega) (by omega) (by omega)
    have hi := (s.ext x5).isl
    have u3 : w6.get (h.size + 3) = _ := (x6.2 _ (by omega)).trans y3
    have u1 : w6.get (h.size + 1) = _ := (x6.2 _ (by omega)).trans y1
    have u2 : w6.get (h.size + 2) = _ := (x6.2 _ (by omega)).trans y2
    have h6 : w5.size ≤ w6.size := x6.1
    obtain ⟨w7, f7, x7, hs7, v3, k7⟩ := put1 (x5.trans x6) (b := h.size + 3) (by omega) (.cells [.slice a' xs.length c'] 1)
    have v1 : w7.get (h.size + 1) = _ := (k7 _ (by omega)).trans u1
    have v2 : w7.get (h.size + 2) = _ := (k7 _ (by omega)).trans u2
    obtain ⟨w8, f8, x8, hs8, t1, k8⟩ := put1 x7 (b := h.size + 1) (by omega) (.cells [.pointer (some ⟨h.size + 3, 0, none⟩)] 1)
    have t3 : w8.get (h.size + 3) = _ := (k8 _ (by omega)).trans v3
    have t2 : w8.get (h.size + 2) = _ := (k8 _ (by omega)).trans v2
    simp +decide only [go_sem, W_region, Wx_some, hp.1, hp.2, e4, z3, j3, e5, y0, y3, gq, hi, f6, u3, f7, v1, j1, f8, t1]
    refine ⟨h.size + 3, a', c', rfl, by omega, by omega, t3, ?_⟩
    rcases hc6 with ⟨h0, rfl, rfl, rfl⟩ | ⟨h0, rfl, rfl, hw6⟩
    · have : xs = [] := List.eq_nil_of_length_eq_zero h0
      subst this
      exact ⟨h.size + 2, rfl, by omega, by omega, by omega, t2, .inl ⟨rfl, rfl⟩⟩
    · have hz : w6.size = w5.size + 1 := by rw [hw6]; rfl
      have g6 : w6.get w5.size = .cells (iv xs) 1 := by rw [hw6]; exact push_self _ _
      exact ⟨w5.size, rfl, by omega, by omega, by omega, (k8 _ (by omega)).trans ((k7 _ (by omega)).trans g6), .inr ⟨h0, rfl⟩⟩
theorem look_at {w : Heap} {M : Nat} {es : List MapEntry} {c : Nat} (hm : w.get M = .map es c) (nm : ByteArray) : ilookup Try.prog w 60 (.map (some M)) (.string nm) true = ifound (some (.agg #[.pointer none])) true (Instr.findNow .string (.string nm) es 0) := by
  simp only [ilookup, mapL, zeroL, imap, hm]
/-- How a kept thing lies. -/
def Kp (w : Heap) (v : Value) (xs : List Int) : Prop := ∃ p, v = .agg #[p] ∧ CopyA w p xs ∧ xs.length ≤ 1000000
theorem Kp.ext {w w' : Heap} (k : Ext w w') {v : Value} {xs : List Int} (h : Kp w v xs) : Kp w' v xs := by
  obtain ⟨p, h1, h2, h3⟩ := h
  exact ⟨p, h1, h2.ext k, h3⟩
theorem load_run (nm : ByteArray) (h : Heap) {q M : Nat} {es : List MapEntry} {c : Nat} {L : List Ent} (hq : q < h.size) (hg : h.get q = .cells [.map (some M)] 1) (hM : M < h.size) (hm : h.get M = .map es c) (R : MR (Kp h) es c L) :
    Runs K f_lib_Library_law29_List_Load #[.pointer (some ⟨q, 0, none⟩), .string nm] h fun r w => (∃ xs v, (nm, xs) ∈ L ∧ r = .tuple #[v, .bool true] ∧ LooseB h.size w v xs) ∨ (nm ∉ names L ∧ r = .tuple #[.agg #[.pointer none], .bool false]) := by
  refine Runs.of Kok (Does.intro rfl (by decide +kernel) F_lib_Library_law29_List_Load rfl ?_)
  obtain ⟨w1, e1, x1, hs1, z1⟩ := lay1 h (.cells [.pointer none] 1)
  have g1 : w1.get q = _ := (x1.2 q hq).trans hg
  have m1 : w1.get M = _ := (x1.2 M hM).trans hm
  have lk := look_at m1 nm
  obtain ⟨w2, e2, x2, hs2, z2⟩ := lay1 w1 (.cells [.pointer none] 1)
  have j1 : h.size ≤ w1.size := x1.1
  have j0 : h.size ≤ h.size := Nat.le_refl _
  by_cases hin : nm ∈ names L
  · obtain ⟨xs, hx⟩ := mem_names.1 hin
    obtain ⟨i, v, hf, p, rfl, C, hlen⟩ := R.found hx
    have hp : cellOK p = true ∧ p.cells = #[p] := by
      rcases C with ⟨rfl, _⟩ | ⟨q, a, c, rfl, _⟩ <;> exact ⟨rfl, rfl⟩
    rw [hf] at lk
    simp only [ifound, if_true] at lk
    obtain ⟨w3, e3, x3, hs3, z3, k3⟩ := put1 (x1.trans x2) (b := w1.size) (by omega) (.cells [p] 1)
    simp +decide only [go_sem, W_region, Wx_some, e1, g1, lk, e2, z2, hp.1, hp.2, j1, e3, z3, iinvoke_iface imC]
    refine W_call Kok x3.1 (copy_run xs w3 (C.ext x3) hlen) fun r w4 x4 hr => ?_
    obtain ⟨qb, a, cc, rfl, b1, b2, b3, b4⟩ := hr
    have z4 : w4.get h.size = .cells [.pointer none] 1 := (x4.2 _ (by omega)).trans ((k3 _ (by omega)).trans ((x2.2 _ (by omega)).trans z1))
    obtain ⟨w5, e5, x5, hs5, z5, k5⟩ := put1 (x3.trans x4) j0 (.cells [.pointer (some ⟨qb, 0, none⟩)] 1)
    simp +decide only [go_sem, W_region, Wx_some, z4, j0, e5, z5]
    refine .inl ⟨xs, _, hx, rfl, ?_⟩
    have LB : LooseB w3.size w4 (.agg #[.pointer (some ⟨qb, 0, none⟩)]) xs := ⟨qb, a, cc, rfl, b1, b2, b3, b4⟩
    exact (LB.low (low' := h.size + 1) (by omega)).keep (by omega) (fun b hb _ => k5 b (by omega)) |>.low (by omega)
  · rw [R.lost hin] at lk
    have hpl : plain (.agg #[.pointer none]) = true := rfl
    simp only [ifound, hpl, if_true] at lk
    obtain ⟨w3, e3, x3, hs3, z3, k3⟩ := put1 (x1.trans x2) (b := w1.size) (by omega) (.cells [.pointer none] 1)
    have z30 : w3.get h.size = .cells [.pointer none] 1 := (k3 _ (by omega)).trans ((x2.2 _ (by omega)).trans z1)
    obtain ⟨w4, e4, x4, hs4, z4, k4⟩ := put1 x3 j0 (.cells [.pointer none] 1)
    simp +decide only [go_sem, W_region, Wx_some, e1, g1, lk, e2, z2, j1, e3, z3, z30, j0, e4, z4]
    exact .inr hin
theorem mapset_at {w : Heap} {low M : Nat} {es es' : List MapEntry} {c c' : Nat} (hl : low ≤ M) (hm : w.get M = .map es c) {nm : ByteArray} {v : Value} (hp : iput1 es c (.string nm) v (Instr.findNow .string (.string nm) es 0) = some (.map es' c')) :
    imapset Try.prog low w 60 (.map (some M)) (.string nm) v = some (w.set M (.map es' c')) := by
  simp only [imapset, mapL, hm, if_pos hl, hp]
theorem mapdel_at {w : Heap} {low M : Nat} {es es' : List MapEntry} {c c' : Nat} (hl : low ≤ M) (hm : w.get M = .map es c) {nm : ByteArray} (hp : idel1 es c (Instr.findNow .string (.string nm) es 0) = some (.map es' c')) :
    imapdel Try.prog low w 60 (.map (some M)) (.string nm) = some (w.set M (.map es' c')) := by
  simp only [imapdel, mapL, hm, if_pos hl, hp]
theorem save_run (nm : ByteArray) (xs : List Int) (h : Heap) {low : Nat} (hlow : low ≤ h.size) {q M : Nat} {es : List MapEntry} {c : Nat} {L : List Ent} (hq : q < h.size) (hg : h.get q = .cells [.map (some M)] 1) (hM0 : low ≤ M) (hM : M < h.size) (hm : h.get M = .map es c)
    (R : MR (fun _ _ => True) es c L) {p : Value} (C : CopyA h p xs) (hlen : xs.length ≤ 1000000) :
    Does K low f_lib_Library_law29_List_Save #[.pointer (some ⟨q, 0, none⟩), .string nm, .agg #[p]] h fun r w => ∃ w2 v es' c', Ext h w2 ∧ LooseB h.size w2 v xs ∧ w = w2.set M (.map es' c') ∧ iput1 es c (.string nm) v (Instr.findNow .string (.string nm) es 0) = some (.map es' c') := by
  refine Does.intro rfl (by decide +kernel) F_lib_Library_law29_List_Save rfl ?_
  have hp : cellOK p = true ∧ p.cells = #[p] := by
    rcases C with ⟨rfl, _⟩ | ⟨q, a, c, rfl, _⟩ <;> exact ⟨rfl, rfl⟩
  obtain ⟨w1, e1, x1, hs1, z1⟩ := lay1 h (.cells [p] 1)
  have g1 : w1.get q = _ := (x1.2 q hq).trans hg
  simp +decide only [go_sem, W_region, Wx_some, hp.1, hp.2, e1, g1, z1, iinvoke_iface imC]
  refine W_call Kok (Nat.le_trans hlow x1.1) (copy_run xs w1 (C.ext x1) hlen) fun r w2 x2 LB => ?_
  have m2 : w2.get M = _ := ((x1.trans x2).2 M hM).trans hm
  obtain ⟨es', c', hput, _⟩ := R.put (nm := nm) (xs := xs) (v := r) trivial
  have ms := mapset_at hM0 m2 hput
  simp +decide only [go_sem, W_region, Wx_some, ms]
  exact ⟨w2, r, es', c', x1.trans x2, LB.low (low' := h.size) (by omega), rfl, hput⟩
/-- The things of some names are kept no longer. -/
theorem drop_run (nms : List ByteArray) (h : Heap) {low : Nat} (hlow : low ≤ h.size) {q M : Nat} {es : List MapEntry} {c : Nat} {L : List Ent} {F : Nat → Prop} (hF : F M) (hFs : ∀ b, F b → b < h.size) (hqF : ¬ F q) (hq : q < h.size) (hg : h.get q = .cells [.map (some M)] 1) (hM0 : low ≤ M) (hM : M < h.size) (hm : h.get M = .map es c)
    (R : MR (BoxF h F) es c L) (hL : ∀ p ∈ L, p.2.length ≤ 1000000) {a : Option Addr} {cp : Nat} (s : SlF h F 1 a nms.length cp (sv nms)) (hn : nms.length ≤ 1000) :
    Does K low f_lib_Library_law29_List_Drop #[.pointer (some ⟨q, 0, none⟩), .slice a nms.length cp] h fun r w => r = .int .i64 (hitsL L nms : Int) ∧ ∃ es', w.get M = .map es' c ∧ MR (BoxF w F) es' c (dropsL L nms) ∧ Frm (fun b => b = M) h w := by
  refine Does.intro rfl (by decide +kernel) F_lib_Library_law29_List_Drop rfl ?_
  simp +decide only [go_sem, W_region, Wx_some]
  have hFM : ∀ i, i < h.size → (i = M) → F i := fun i _ e => by rw [e]; exact hF
  refine W_loop (α := Nat) (fun i e w => i ≤ nms.length ∧ e.size = 32 ∧ Frm (fun b => b = M) h w ∧ (∃ es', w.get M = .map es' c ∧ MR (BoxF w F) es' c (dropsL L (nms.take i))) ∧ (∃ k, k + hitsL (dropsL L (nms.take i)) (nms.drop i) = hitsL L nms ∧ k ≤ i ∧ e.get 5 = .int .i64 (k : Int)) ∧
    e.get 0 = .pointer (some ⟨q, 0, none⟩) ∧ e.get 10 = .slice a nms.length cp ∧ e.get 11 = .int .i64 (nms.length : Int) ∧ e.get 12 = .int .i64 (i : Int)) (fun i => nms.length - i) 0 ?_ ?_
  · refine ⟨Nat.zero_le _, by simp +decide only [go_sem], Frm.refl _ _, ⟨es, hm, by simpa [dropsL] using R⟩, ⟨0, by simp [dropsL], Nat.le_refl _, by simp +decide only [go_sem]; rfl⟩, by simp +decide only [go_sem], by simp +decide only [go_sem], by simp +decide only [go_sem], by simp +decide only [go_sem]; rfl⟩
  rintro i e w ⟨hi, hsz, xw, ⟨es1, m1, R1⟩, ⟨k, hk, hki, e5⟩, e0, e10, e11, e12⟩ next
  have hws := xw.1
  have hgw : w.get q = _ := (xw.2 q hq (by rintro rfl; exact hqF hF)).trans hg
  have hjl : low ≤ w.size := Nat.le_trans hlow hws
  by_cases hil : (i : Int) < ((nms.length : Nat) : Int)
  · obtain ⟨y, hy⟩ : ∃ y, nms[i]? = some y := ⟨_, List.getElem?_eq_getElem (by omega)⟩
    have sw := s.frm (xw.weaken hFM)
    obtain ⟨b, o, cs, hba, q2, q3, q4⟩ := sw.1.one (i := i) (x := .string y) (by simp [sv, hy])
    subst hba
    have c0 : (0 : Int) ≤ (i : Int) := by omega
    have i1 : IntKind.i64.wrap ((i : Int) + 1) = ((i + 1 : Nat) : Int) := by rw [wrap_i64 (by omega) (by omega)]; omega
    have k1 : IntKind.i64.wrap ((k : Int) + 1) = ((k + 1 : Nat) : Int) := by rw [wrap_i64 (by omega) (by omega)]; omega
    have htk : nms.take (i + 1) = nms.take i ++ [y] := by rw [List.take_add_one, hy]; rfl
    have hdr : nms.drop i = y :: nms.drop (i + 1) := by
      obtain ⟨hlt, e1⟩ := List.getElem?_eq_some_iff.1 hy
      rw [List.drop_eq_getElem_cons hlt, e1]
    have hds : dropsL L (nms.take (i + 1)) = dropL (dropsL L (nms.take i)) y := by rw [htk]; simp [dropsL]
    rw [hdr, hitsL] at hk
    rw [← hds] at hk
    have hsub : ∀ (l : List ByteArray) (L : List Ent), ∀ p ∈ dropsL L l, p ∈ L := by
      intro l
      induction l with
      | nil => intro L p hp; exact hp
      | cons y l ih => intro L p hp; exact (mem_drop.1 (ih (dropL L y) p hp)).1
    have RK : MR (Kp w) es1 c (dropsL L (nms.take i)) := R1.mono fun nm xs v hmem hb => by
      obtain ⟨p, h1, h2⟩ := hb.copy
      exact ⟨p, h1, h2, hL _ (hsub _ _ _ hmem)⟩
    simp +decide only [go_sem, W_region, Wx_some, hsz, e0, e5, e10, e11, e12, hil, c0, Int.toNat_natCast, q3, q4]
    refine W_call Kok hjl (load_run y w (by omega) hgw (by omega) m1 RK) fun r w1 x1 hr => ?_
    obtain ⟨w2, e2, x2, hs2, z2⟩ := lay1 w1 (.cells [.pointer none] 1)
    have h1s := x1.1
    have j1 : low ≤ w1.size := by omega
    have j2 : ∀ b, b < w.size → w2.get b = w.get b := fun b hb => (x2.2 b (by omega)).trans (x1.2 b hb)
    rcases hr with ⟨xs, v, hmem, rfl, LB⟩ | ⟨hno, rfl⟩
    · obtain ⟨qb, ab, cb, rfl, lb1, lb2, lb3, lb4⟩ := LB
      obtain ⟨w3, e3, x3, hs3, z3, k3⟩ := put1 x2 (Nat.le_refl _) (.cells [.pointer (some ⟨qb, 0, none⟩)] 1)
      have m3 : w3.get M = _ := (k3 _ (by omega)).trans ((j2 M (by omega)).trans m1)
      have g3 : w3.get q = _ := (k3 _ (by omega)).trans ((j2 q (by omega)).trans hgw)
      obtain ⟨es2, hdel, R2⟩ := R1.del y
      have md := mapdel_at hM0 m3 hdel
      have hin := mem_names.2 ⟨xs, hmem⟩
      have hone := hits_one R1.srt hin
      obtain ⟨w4, e4⟩ : ∃ w4, w3.set M (.map es2 c) = w4 := ⟨_, rfl⟩
      have hs4 : w4.size = w3.size := by rw [← e4]; rfl
      have f14 : Frm (fun b => b = M) w w4 := by
        refine ⟨by omega, fun b hb hne => ?_⟩
        rw [← e4, Heap.get_set, if_neg hne]
        exact (k3 b (by omega)).trans (j2 b hb)
      have g4 : w4.get M = .map es2 c := by rw [← e4, Heap.get_set, if_pos rfl]
      simp +decide only [go_sem, W_region, Wx_some, hsz, e0, e5, e10, e11, e12, e2, z2, j1, e3, g3, md, e4, i1, k1]
      refine next (i + 1) _ _ ⟨by omega, by simp +decide only [go_sem, hsz], xw.trans f14, ⟨es2, g4, ?_⟩, ⟨k + 1, by omega, by omega, by simp +decide only [go_sem, hsz]⟩, by simp +decide only [go_sem, hsz, e0], by simp +decide only [go_sem, hsz, e10], by simp +decide only [go_sem, hsz, e11], by simp +decide only [go_sem, hsz]⟩ (by omega)
      rw [hds]
      exact R2.mono fun nm xs v _ hb => hb.frm (f14.weaken fun i _ e => by rw [e]; exact hF)
    · obtain ⟨w3, e3, x3, hs3, z3, k3⟩ := put1 x2 (Nat.le_refl _) (.cells [.pointer none] 1)
      have m3 : w3.get M = _ := (k3 _ (by omega)).trans ((j2 M (by omega)).trans m1)
      have hzero := hits_zero hno
      have f13 : Frm (fun b => b = M) w w3 := ⟨by omega, fun b hb hne => (k3 b (by omega)).trans (j2 b hb)⟩
      simp +decide only [go_sem, W_region, Wx_some, hsz, e0, e5, e10, e11, e12, e2, z2, j1, e3, i1]
      refine next (i + 1) _ _ ⟨by omega, by simp +decide only [go_sem, hsz], xw.trans f13, ⟨es1, m3, ?_⟩, ⟨k, by omega, by omega, by simp +decide only [go_sem, hsz, e5]⟩, by simp +decide only [go_sem, hsz, e0], by simp +decide only [go_sem, hsz, e10], by simp +decide only [go_sem, hsz, e11], by simp +decide only [go_sem, hsz]⟩ (by omega)
      rw [hds, drop_none hno]
      exact R1.mono fun nm xs v _ hb => hb.frm (f13.weaken fun i _ e => by rw [e]; exact hF)
  · have hin : i = nms.length := by omega
    subst hin
    rw [List.drop_length] at hk
    rw [List.take_length] at hk R1
    simp only [hitsL, Nat.add_zero] at hk
    subst hk
    simp +decide only [go_sem, W_region, Wx_some, hsz, e0, e5, e10, e11, e12, hil]
    exact ⟨es1, m1, R1, xw⟩
end Go.Proofs.Ytjamnjbfcecnnaa.L23
