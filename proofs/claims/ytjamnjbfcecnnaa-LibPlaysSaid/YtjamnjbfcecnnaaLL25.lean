/- Proved here: a library beside the document's, with what was handed in and out; texts and numbers that are the same. -/
import Derived.Test.YtjamnjbfcecnnaaLL24
set_option linter.unusedSimpArgs false
set_option linter.unusedVariables false
namespace Go.Im.Lib
open Go Go.Im Go.Sort
/-- What was handed in or out: none, or a box q with a slice of the block b. -/
def LP (low : Nat) (w : Heap) (t : Value) (q b : Nat) (n : Nat) (others : List Nat) : Prop := t = .pointer none ∨ ∃ c xs, t = .pointer (some ⟨q, 0, none⟩) ∧ low ≤ q ∧ q < w.size ∧ w.get q = .cells [.slice (some ⟨b, 0, none⟩) xs.length c] 1 ∧ low ≤ b ∧ b < w.size ∧ w.get b = .cells (iv xs) 1 ∧
  ((xs = [] ∧ c = 0) ∨ (0 < xs.length ∧ c = big)) ∧ xs.length ≤ n ∧ q ∉ others ∧ b ∉ others ∧ b ≠ q
theorem LP.keep {low : Nat} {w w' : Heap} {t : Value} {q b n : Nat} {others : List Nat} (h : LP low w t q b n others) (hs : w.size ≤ w'.size) (hk : ∀ i, (i = q ∨ i = b) → i < w.size → i ∉ others → w'.get i = w.get i) : LP low w' t q b n others := by
  rcases h with h | ⟨c, xs, h1, h2, h3, h4, h5, h6, h7, h8, h9, h10, h11, h12⟩
  · exact .inl h
  · exact .inr ⟨c, xs, h1, h2, by omega, (hk q (.inl rfl) h3 h10).trans h4, h5, by omega, (hk b (.inr rfl) h6 h11).trans h7, h8, h9, h10, h11, h12⟩
theorem LP.others {low : Nat} {w : Heap} {t : Value} {q b n : Nat} {o o' : List Nat} (h : LP low w t q b n o) (ho : ∀ i, i < w.size → i ∈ o' → i ∈ o) : LP low w t q b n o' := by
  rcases h with h | ⟨c, xs, h1, h2, h3, h4, h5, h6, h7, h8, h9, h10, h11, h12⟩
  · exact .inl h
  · exact .inr ⟨c, xs, h1, h2, h3, h4, h5, h6, h7, h8, h9, fun hh => h10 (ho q h3 hh), fun hh => h11 (ho b h6 hh), h12⟩
theorem LP.more {low : Nat} {w : Heap} {t : Value} {q b n m : Nat} {o : List Nat} (h : LP low w t q b n o) (hm : n ≤ m) : LP low w t q b m o := by
  rcases h with h | ⟨c, xs, h1, h2, h3, h4, h5, h6, h7, h8, h9, h10, h11, h12⟩
  · exact .inl h
  · exact .inr ⟨c, xs, h1, h2, h3, h4, h5, h6, h7, h8, by omega, h10, h11, h12⟩
theorem LP.copy {low : Nat} {w : Heap} {t : Value} {q b n : Nat} {o : List Nat} (h : LP low w t q b n o) : ∃ xs, CopyA w t xs ∧ xs.length ≤ n := by
  rcases h with h | ⟨c, xs, h1, h2, h3, h4, h5, h6, h7, h8, h9, _, _, h12⟩
  · exact ⟨[], .inl ⟨h, rfl⟩, Nat.zero_le _⟩
  · have L : Loose low w q (some ⟨b, 0, none⟩) c xs := ⟨b, rfl, h5, h6, h12, h7, h8⟩
    exact ⟨xs, .inr ⟨q, _, c, h1, h3, h4, L.sl⟩, h9⟩
/-- The blocks that may be changed. -/
def Fs (l : List Nat) (b : Nat) : Prop := b ∈ l
/-- The blocks of a state: the world's, the library's, the map's, what was told, what was handed in. -/
structure Bl where
  wq : Nat
  lq : Nat
  mq : Nat
  tq : Nat
  tb : Nat
  iq : Nat
  ib : Nat
def Bl.F (x : Bl) : Nat → Prop := Fs [x.wq, x.mq, x.tq, x.tb, x.iq, x.ib]
structure St (low : Nat) (w : Heap) (x : Bl) (n : Nat) (L : List Ent) : Prop where
  fl : ∀ b, x.F b → low ≤ b ∧ b < w.size
  lw : x.lq < w.size
  lF : ¬ x.F x.lq
  lib : w.get x.lq = .cells [.map (some x.mq)] 1
  map : ∃ es c, w.get x.mq = .map es c ∧ MR (BoxF w x.F) es c L
  world : ∃ r told inn, w.get x.wq = .cells [.pointer (some ⟨x.lq, 0, none⟩), r, told, inn] 4 ∧ RefS w x.F r L ∧ LP low w told x.tq x.tb n [x.wq, x.lq, x.mq, x.iq, x.ib] ∧ LP low w inn x.iq x.ib n [x.wq, x.lq, x.mq, x.tq, x.tb]
  few : L.length ≤ n
  small : ∀ p ∈ L, p.1.size ≤ maxLen ∧ p.2.length ≤ 100
theorem St.mem {low : Nat} {w : Heap} {x : Bl} {n : Nat} {L : List Ent} (h : St low w x n L) : low ≤ x.wq ∧ x.wq < w.size ∧ low ≤ x.mq ∧ x.mq < w.size ∧ x.wq ≠ x.mq := by
  have h1 := h.fl x.wq (by simp [Bl.F, Fs])
  have h2 := h.fl x.mq (by simp [Bl.F, Fs])
  refine ⟨h1.1, h1.2, h2.1, h2.2, fun e => ?_⟩
  obtain ⟨es, c, hm, _⟩ := h.map
  obtain ⟨r, t, i, hw, _⟩ := h.world
  rw [e, hm] at hw
  cases hw
theorem St.ext {low : Nat} {w w' : Heap} (k : Ext w w') {x : Bl} {n : Nat} {L : List Ent} (h : St low w x n L) : St low w' x n L := by
  obtain ⟨m1, m2, m3, m4, m5⟩ := h.mem
  have k1 := k.1
  obtain ⟨es, c, hm, R⟩ := h.map
  obtain ⟨r, t, i, hw, r1, r2, r3⟩ := h.world
  exact ⟨fun b hb => let ⟨a, b⟩ := h.fl b hb; ⟨a, by omega⟩, by have := h.lw; omega, h.lF, (k.2 _ h.lw).trans h.lib, ⟨es, c, (k.2 _ m4).trans hm, R.mono fun _ _ _ _ hb => hb.frm (Frm.ext k)⟩,
    ⟨r, t, i, (k.2 _ m2).trans hw, r1.frm (Frm.ext k), r2.keep k1 fun i _ hi _ => k.2 i hi, r3.keep k1 fun i _ hi _ => k.2 i hi⟩, h.few, h.small⟩
theorem St.more {low : Nat} {w : Heap} {x : Bl} {n m : Nat} {L : List Ent} (h : St low w x n L) (hm : n ≤ m) : St low w x m L := by
  obtain ⟨r, t, i, hw, r1, r2, r3⟩ := h.world
  exact ⟨h.fl, h.lw, h.lF, h.lib, h.map, ⟨r, t, i, hw, r1, r2.more hm, r3.more hm⟩, Nat.le_trans h.few hm, h.small⟩
theorem Sl.old {hh w : Heap} (k : Ext hh w) {size : Nat} {a : Option Addr} {n c : Nat} {xs : List Value} (s : Sl hh size a n c xs) {F : Nat → Prop} (hF : ∀ b, F b → hh.size ≤ b) : SlF w F size a n c xs := by
  refine ⟨s.ext k, fun hc ad ha hf => ?_⟩
  rcases s with ⟨_, _, h1, _⟩ | ⟨_, _, _, _, h1, _⟩ | ⟨b, o, cs, h1, h2, h3, _⟩
  · omega
  · omega
  · rw [h1] at ha
    cases ha
    have := hF b hf
    omega
end Go.Im.Lib
namespace Go.Proofs.Ytjamnjbfcecnnaa.L25
open Go Go.Im Go.Im.Lib Go.Proofs Go.RowKit Go.Proofs.Ytjamnjbfcecnnaa.Hd Go.Proofs.Ytjamnjbfcecnnaa.L20
set_option maxRecDepth 100000
theorem iv_get {l : List Int} {i : Nat} {d : Int} (h : l[i]? = some d) : (iv l)[i]? = some (.int .i64 d) := by simp [iv, h]
theorem isame_run (xs : List Int) (h : Heap) {a a2 : Option Addr} {c c2 : Nat} (s : Sl h 1 a xs.length c (iv xs)) (s2 : Sl h 1 a2 xs.length c2 (iv xs)) (hl : xs.length ≤ 1000000) : Runs K f_ref06_IntsSame #[.slice a xs.length c, .slice a2 xs.length c2] h fun r w => h = w ∧ r = .bool true := by
  refine Runs.of Kok (Does.intro rfl (by decide +kernel) F_ref06_IntsSame rfl ?_)
  simp +decide only [go_sem, W_region, Wx_some]
  refine W_loop (α := Nat) (fun i e w => i ≤ xs.length ∧ e.size = 26 ∧ h = w ∧ e.get 0 = .slice a xs.length c ∧ e.get 1 = .slice a2 xs.length c2 ∧ e.get 5 = .int .i64 (i : Int)) (fun i => xs.length - i) 0 ?_ ?_
  · exact ⟨Nat.zero_le _, by simp +decide only [go_sem], rfl, by simp +decide only [go_sem], by simp +decide only [go_sem], by simp +decide only [go_sem]; rfl⟩
  rintro i e w ⟨hi, hsz, hw, e0, e1, e5⟩ next
  subst hw
  by_cases hc : (i : Int) < ((xs.length : Nat) : Int)
  · obtain ⟨d, hd⟩ : ∃ d, xs[i]? = some d := ⟨_, List.getElem?_eq_getElem (by omega)⟩
    obtain ⟨b, o, cs, rfl, p2, p3, p4⟩ := s.one (iv_get hd)
    obtain ⟨b2, o2, cs2, rfl, q2, q3, q4⟩ := s2.one (iv_get hd)
    have c0 : (0 : Int) ≤ (i : Int) := by omega
    have i1 : IntKind.i64.wrap ((i : Int) + 1) = ((i + 1 : Nat) : Int) := by rw [wrap_i64 (by omega) (by omega)]; omega
    simp +decide only [go_sem, W_region, Wx_some, hsz, e0, e1, e5, c0, hc, Int.toNat_natCast, p3, p4, q3, q4, Nat.mul_one, i1]
    exact next (i + 1) _ _ ⟨by omega, by simp +decide only [go_sem, hsz], rfl, by simp +decide only [go_sem, hsz, e0], by simp +decide only [go_sem, hsz, e1], by simp +decide only [go_sem, hsz]⟩ (by omega)
  · simp +decide only [go_sem, W_region, Wx_some, hsz, e0, e1, e5, hc]
theorem texts_run (ls : List ByteArray) (h : Heap) {a a2 : Option Addr} {c c2 : Nat} (s : Sl h 1 a ls.length c (sv ls)) (s2 : Sl h 1 a2 ls.length c2 (sv ls)) (hl' : ls.length ≤ 1000) :
    Runs K f_ref05_Texts #[.slice a ls.length c, .slice a2 ls.length c2] h fun r w => h = w ∧ r = .bool true := by
  refine Runs.of Kok (Does.intro rfl (by decide +kernel) F_ref05_Texts rfl ?_)
  simp +decide only [go_sem, W_region, Wx_some]
  refine W_loop (α := Nat) (fun i e w => i ≤ ls.length ∧ e.size = 26 ∧ h = w ∧ e.get 0 = .slice a ls.length c ∧ e.get 1 = .slice a2 ls.length c2 ∧ e.get 5 = .int .i64 (i : Int)) (fun i => ls.length - i) 0 ?_ ?_
  · exact ⟨Nat.zero_le _, by simp +decide only [go_sem], rfl, by simp +decide only [go_sem], by simp +decide only [go_sem], by simp +decide only [go_sem]; rfl⟩
  rintro i e w ⟨hi, hsz, hw, e0, e1, e5⟩ next
  subst hw
  by_cases hc : (i : Int) < ((ls.length : Nat) : Int)
  · obtain ⟨d, hd⟩ : ∃ d, ls[i]? = some d := ⟨_, List.getElem?_eq_getElem (by omega)⟩
    obtain ⟨b, o, cs, rfl, p2, p3, p4⟩ := s.one (i := i) (x := .string d) (by simp [sv, hd])
    obtain ⟨b2, o2, cs2, rfl, q2, q3, q4⟩ := s2.one (i := i) (x := .string d) (by simp [sv, hd])
    have c0 : (0 : Int) ≤ (i : Int) := by omega
    have i1 : IntKind.i64.wrap ((i : Int) + 1) = ((i + 1 : Nat) : Int) := by rw [wrap_i64 (by omega) (by omega)]; omega
    simp +decide only [go_sem, W_region, Wx_some, hsz, e0, e1, e5, c0, hc, Int.toNat_natCast, p3, p4, q3, q4, Nat.mul_one, i1]
    exact next (i + 1) _ _ ⟨by omega, by simp +decide only [go_sem, hsz], rfl, by simp +decide only [go_sem, hsz, e0], by simp +decide only [go_sem, hsz, e1], by simp +decide only [go_sem, hsz]⟩ (by omega)
  · simp +decide only [go_sem, W_region, Wx_some, hsz, e0, e1, e5, hc]
/-- A library. -/
theorem new_run (h : Heap) : Runs K f_lib_New_law29_List #[] h fun r w => r = .pointer (some ⟨h.size + 1, 0, none⟩) ∧ w.size = h.size + 2 ∧ w.get h.size = .map [] 0 ∧ w.get (h.size + 1) = .cells [.map (some h.size)] 1 := by
  refine Runs.of Kok (Does.intro rfl (by decide +kernel) F_lib_New_law29_List rfl ?_)
  obtain ⟨w2, e2, x2, hs2, z0, z1⟩ := lay2 h (.map [] 0) (.cells [.map (some h.size)] 1)
  simp +decide only [go_sem, W_region, Wx_some, e2]
  exact ⟨hs2, z0, z1⟩
/-- All names of a library. -/
theorem names_run {low : Nat} {w : Heap} {x : Bl} {n : Nat} {L : List Ent} (S : St low w x n L) (hn : n ≤ 1000) : Runs K f_lib_Library_law29_List_Names #[.pointer (some ⟨x.lq, 0, none⟩)] w fun r w' => ∃ a c, r = .slice a (names L).length c ∧ Sl w' 1 a (names L).length c (sv (names L)) := by
  obtain ⟨es, c, hm, R⟩ := S.map
  have hnl : (names L).length = L.length := by simp [names]
  have e := R.named (Nat.le_trans S.few hn) (fun p hp => (S.small p hp).1) w
  have e1 : namesRun #[.pointer (some ⟨x.lq, 0, none⟩)] w = namesOf w (.map es c) := by
    simp only [namesRun, Heap.look, S.lib, Blk.read]
    rw [← hm]
    rfl
  rw [e] at e1
  by_cases h0 : L = []
  · rw [if_pos h0] at e1
    refine ⟨1, _, w, e1, Ext.refl w, none, 0, ?_, ?_⟩
    · rw [h0]; rfl
    · rw [h0]; exact Sl.nil _ _
  · rw [if_neg h0] at e1
    refine ⟨1, _, _, e1, (Ext.refl w).push _, some ⟨w.size, 0, none⟩, big, by rw [hnl], .inr (.inr ⟨w.size, 0, _, rfl, by simp [big], by simp, by rw [push_self]; rfl, by simp [hnl, sv], by rw [List.drop_zero, List.take_of_length_le (by simp [hnl, sv])]; rfl, .inr rfl⟩)⟩
end Go.Proofs.Ytjamnjbfcecnnaa.L25
