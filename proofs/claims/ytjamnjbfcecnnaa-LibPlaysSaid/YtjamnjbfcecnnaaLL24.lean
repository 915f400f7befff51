/- Proved here: the document's library, where things are kept apart; of lists that are not too long. -/
import Derived.Test.YtjamnjbfcecnnaaLL23
set_option linter.unusedSimpArgs false
set_option linter.unusedVariables false
namespace Go.Im.Lib
open Go Go.Im Go.Sort
/-- Entries' cells. -/
def EC (w : Heap) (F : Nat → Prop) (vs : List Value) (L : List Ent) : Prop := vs.length = L.length * 2 ∧ ∀ (i : Nat) (nm : ByteArray) (xs : List Int), L[i]? = some (nm, xs) → vs[i * 2]? = some (.string nm) ∧ ∃ a c, vs[i * 2 + 1]? = some (.slice a xs.length c) ∧ SlF w F 1 a xs.length c (iv xs)
theorem EC.nil (w : Heap) (F : Nat → Prop) : EC w F [] [] := ⟨rfl, by intro i nm xs h; simp at h⟩
theorem EC.one {w : Heap} {F : Nat → Prop} {nm : ByteArray} {xs : List Int} {a : Option Addr} {c : Nat} (s : SlF w F 1 a xs.length c (iv xs)) : EC w F [.string nm, .slice a xs.length c] [(nm, xs)] := by
  refine ⟨rfl, fun i nm' xs' h => ?_⟩
  cases i with
  | zero =>
    cases h
    exact ⟨rfl, a, c, rfl, s⟩
  | succ i => simp at h
theorem EC.app {w : Heap} {F : Nat → Prop} {vs us : List Value} {L M : List Ent} (h : EC w F vs L) (k : EC w F us M) : EC w F (vs ++ us) (L ++ M) := by
  refine ⟨by simp [h.1, k.1, Nat.add_mul], fun i nm xs hi => ?_⟩
  by_cases hl : i < L.length
  · rw [List.getElem?_append_left hl] at hi
    rw [List.getElem?_append_left (by rw [h.1]; omega), List.getElem?_append_left (by rw [h.1]; omega)]
    exact h.2 i nm xs hi
  · rw [List.getElem?_append_right (by omega)] at hi
    rw [List.getElem?_append_right (by rw [h.1]; omega), List.getElem?_append_right (by rw [h.1]; omega), h.1]
    rw [show i * 2 - L.length * 2 = (i - L.length) * 2 by omega, show i * 2 + 1 - L.length * 2 = (i - L.length) * 2 + 1 by omega]
    exact k.2 _ nm xs hi
theorem EC.frm {w w' : Heap} {F : Nat → Prop} (k : Frm F w w') {vs : List Value} {L : List Ent} (h : EC w F vs L) : EC w' F vs L :=
  ⟨h.1, fun i nm xs hi => let ⟨a, b, c, d, e⟩ := h.2 i nm xs hi; ⟨a, b, c, d, e.frm k⟩⟩
theorem EC.weaken {w : Heap} {F G : Nat → Prop} (hg : ∀ b, b < w.size → G b → F b) {vs : List Value} {L : List Ent} (h : EC w F vs L) : EC w G vs L :=
  ⟨h.1, fun i nm xs hi => let ⟨a, b, c, d, e⟩ := h.2 i nm xs hi; ⟨a, b, c, d, e.weaken hg⟩⟩
/-- The document's library. -/
def RefS (w : Heap) (F : Nat → Prop) (r : Value) (L : List Ent) : Prop := ∃ a c vs, r = .slice a L.length c ∧ SlF w F 2 a L.length c vs ∧ EC w F vs L
theorem RefS.frm {w w' : Heap} {F : Nat → Prop} (k : Frm F w w') {r : Value} {L : List Ent} (h : RefS w F r L) : RefS w' F r L := by
  obtain ⟨a, c, vs, h1, h2, h3⟩ := h
  exact ⟨a, c, vs, h1, h2.frm k, h3.frm k⟩
theorem RefS.weaken {w : Heap} {F G : Nat → Prop} (hg : ∀ b, b < w.size → G b → F b) {r : Value} {L : List Ent} (h : RefS w F r L) : RefS w G r L := by
  obtain ⟨a, c, vs, h1, h2, h3⟩ := h
  exact ⟨a, c, vs, h1, h2.weaken hg, h3.weaken hg⟩
theorem RefS.nil (w : Heap) (F : Nat → Prop) : RefS w F (.slice none 0 0) [] := ⟨none, 0, [], rfl, ⟨Sl.nil _ _, fun h => by omega⟩, EC.nil _ _⟩
/-- An entry. -/
theorem ent_at {w : Heap} {F : Nat → Prop} {L : List Ent} {a : Option Addr} {c : Nat} {vs : List Value} (s : SlF w F 2 a L.length c vs) (E : EC w F vs L) {i : Nat} {nm : ByteArray} {xs : List Int} (hi : L[i]? = some (nm, xs)) :
    ∃ b o cs a2 c2, a = some ⟨b, o, none⟩ ∧ b < w.size ∧ (w.get b).read = .cells cs 2 ∧ cs[o + i * 2]? = some (.string nm) ∧ cs[o + i * 2 + 1]? = some (.slice a2 xs.length c2) ∧ (cs.drop (o + i * 2)).take 2 = [.string nm, .slice a2 xs.length c2] ∧ o + i * 2 + 2 ≤ cs.length ∧ SlF w F 1 a2 xs.length c2 (iv xs) := by
  have hlt : i < L.length := (List.getElem?_eq_some_iff.1 hi).1
  obtain ⟨b, o, cs, h1, h2, h3, h4, h5⟩ := s.1.at hlt
  obtain ⟨g1, a2, c2, g2, g3⟩ := E.2 i nm xs hi
  have get : ∀ j, j < L.length * 2 → cs[o + j]? = vs[j]? := fun j hj => by rw [h5, List.getElem?_take, if_pos hj, List.getElem?_drop]
  have c1 := (get (i * 2) (by omega)).trans g1
  have c3 := (get (i * 2 + 1) (by omega)).trans g2
  have hle : o + i * 2 + 2 ≤ cs.length := by omega
  refine ⟨b, o, cs, a2, c2, h1, h2, h3, c1, c3, ?_, hle, g3⟩
  obtain ⟨k1, e1⟩ := List.getElem?_eq_some_iff.1 c1
  obtain ⟨k2, e2⟩ := List.getElem?_eq_some_iff.1 c3
  rw [List.drop_eq_getElem_cons k1, e1]
  have k2' : o + i * 2 + 1 < cs.length := k2
  rw [List.drop_eq_getElem_cons k2']
  have e2' : cs[o + i * 2 + 1] = .slice a2 xs.length c2 := e2
  rw [e2']
  rfl
theorem less_eq (a b : ByteArray) : Op.bytesLess a.toList b.toList = ltb a b := by
  rw [Go.Proofs.bytesLess_eq, ByteArray.toList_eq, ByteArray.toList_eq]
  rfl
theorem lss_eq {P : Program} {t : TypeId} (a b : ByteArray) : ibinop P .lss t (.string a) (.string b) = some (.bool (ltb a b)) := by
  simp only [ibinop, ibin, less_eq]
theorem gtr_eq {P : Program} {t : TypeId} (a b : ByteArray) : ibinop P .gtr t (.string a) (.string b) = some (.bool (ltb b a)) := by
  have h : (!(Op.bytesLess a.toList b.toList || a.toList == b.toList)) = ltb b a := by
    rw [less_eq, bytes_beq]
    rcases lt_tri a b with h | h | h
    · have h2 : ltb b a = false := by
        cases hh : ltb b a with
        | false => rfl
        | true => exact absurd (lt_trans h (ltb_iff.1 hh)) (lt_irrefl _)
      rw [ltb_iff.2 h, h2]
      rfl
    · subst h
      have h2 : ltb a a = false := by
        cases hh : ltb a a with
        | false => rfl
        | true => exact absurd (ltb_iff.1 hh) (lt_irrefl _)
      rw [h2]
      simp
    · have h2 : ltb a b = false := by
        cases hh : ltb a b with
        | false => rfl
        | true => exact absurd (lt_trans h (ltb_iff.1 hh)) (lt_irrefl _)
      have h3 : ¬ a = b := fun e => lt_ne h e.symm
      rw [ltb_iff.2 h, h2]
      simp [h3]
  simp only [ibinop, ibin, h]
end Go.Im.Lib
namespace Go.Proofs.Ytjamnjbfcecnnaa.L24
open Go Go.Im Go.Im.Lib Go.Proofs Go.RowKit Go.Proofs.Ytjamnjbfcecnnaa.Hd Go.Proofs.Ytjamnjbfcecnnaa.L20
set_option maxRecDepth 100000
theorem own_slf {low : Nat} {w : Heap} {size : Nat} {v : Value} {n : Nat} {xs : List Value} (H : Own low w size v n xs) {F : Nat → Prop} (hF : ∀ b, F b → b < low) : ∃ a c, v = .slice a n c ∧ SlF w F size a n c xs := by
  obtain ⟨a, c, rfl⟩ := H.shape
  refine ⟨a, c, rfl, H.sl, fun hc ad ha hf => ?_⟩
  rcases H with ⟨h1, _⟩ | ⟨b, h1, h2, _⟩
  · cases h1; omega
  · cases h1
    cases ha
    have := hF b hf
    omega
theorem rload_run (nm : ByteArray) (L : List Ent) (h : Heap) {F : Nat → Prop} {r : Value} (R : RefS h F r L) (hl : L.length ≤ 100000) :
    Runs K f_ref29_Load #[r, .string nm] h fun u w => (∃ xs a c, (nm, xs) ∈ L ∧ u = .tuple #[.slice a xs.length c, .bool true] ∧ SlF w F 1 a xs.length c (iv xs)) ∨ (nm ∉ names L ∧ u = .tuple #[.slice none 0 0, .bool false]) := by
  obtain ⟨a, c, vs, rfl, s, E⟩ := R
  refine Runs.of Kok (Does.intro rfl (by decide +kernel) F_ref29_Load rfl ?_)
  simp +decide only [go_sem, W_region, Wx_some]
  refine W_loop (α := Nat) (fun i e w => i ≤ L.length ∧ e.size = 25 ∧ h = w ∧ nm ∉ names (L.take i) ∧ e.get 0 = .slice a L.length c ∧ e.get 1 = .string nm ∧ e.get 6 = .int .i64 (i : Int)) (fun i => L.length - i) 0 ?_ ?_
  · exact ⟨Nat.zero_le _, by simp +decide only [go_sem], rfl, by simp [names], by simp +decide only [go_sem], by simp +decide only [go_sem], by simp +decide only [go_sem]; rfl⟩
  rintro i e w ⟨hi, hsz, rfl, hno, e0, e1, e6⟩ next
  by_cases hil : (i : Int) < ((L.length : Nat) : Int)
  · obtain ⟨⟨y, ys⟩, hy⟩ : ∃ y, L[i]? = some y := ⟨_, List.getElem?_eq_getElem (by omega)⟩
    obtain ⟨b, o, cs, a2, c2, rfl, q2, q3, q4, q5, q6, q7, q8⟩ := ent_at s E hy
    have c0 : (0 : Int) ≤ (i : Int) := by omega
    have i1 : IntKind.i64.wrap ((i : Int) + 1) = ((i + 1 : Nat) : Int) := by rw [wrap_i64 (by omega) (by omega)]; omega
    by_cases hn : y = nm
    · subst hn
      simp +decide only [go_sem, W_region, Wx_some, hsz, e0, e1, e6, hil, c0, Int.toNat_natCast, q3, q4, q5]
      exact .inl ⟨ys, a2, c2, List.mem_of_getElem? hy, rfl, q8⟩
    · simp +decide only [go_sem, W_region, Wx_some, hsz, e0, e1, e6, hil, c0, Int.toNat_natCast, q3, q4, hn, i1]
      refine next (i + 1) _ _ ⟨by omega, by simp +decide only [go_sem, hsz], rfl, ?_, by simp +decide only [go_sem, hsz, e0], by simp +decide only [go_sem, hsz, e1], by simp +decide only [go_sem, hsz]⟩ (by omega)
      rw [List.take_add_one, hy]
      simp only [names, Option.toList, List.map_append, List.map_cons, List.map_nil, List.mem_append, List.mem_singleton, not_or]
      exact ⟨hno, fun e => hn e.symm⟩
  · simp +decide only [go_sem, W_region, Wx_some, hsz, e0, e1, e6, hil]
    rw [List.take_of_length_le (by omega)] at hno
    exact .inr hno
theorem rnames_run (L : List Ent) (h : Heap) {F : Nat → Prop} {r : Value} (R : RefS h F r L) (hl : L.length ≤ 100000) :
    Runs K f_ref29_Names #[r] h fun u w => ∃ a c, u = .slice a (names L).length c ∧ Sl w 1 a (names L).length c (sv (names L)) := by
  obtain ⟨a, c, vs, rfl, s, E⟩ := R
  refine Runs.of Kok (Does.intro rfl (by decide +kernel) F_ref29_Names rfl ?_)
  have hnl : (names L).length = L.length := by simp [names]
  simp +decide only [go_sem, W_region, Wx_some]
  refine W_loop (α := Nat × Value) (fun i e w => i.1 ≤ L.length ∧ e.size = 20 ∧ Ext h w ∧ e.get 0 = .slice a L.length c ∧ e.get 3 = i.2 ∧ Own h.size w 1 i.2 i.1 (sv (names (L.take i.1))) ∧ e.get 4 = .int .i64 (i.1 : Int)) (fun i => L.length - i.1) (0, .slice none 0 0) ?_ ?_
  · exact ⟨Nat.zero_le _, by simp +decide only [go_sem], Ext.refl h, by simp +decide only [go_sem], by simp +decide only [go_sem], Own.nil _ _ _, by simp +decide only [go_sem]; rfl⟩
  rintro ⟨i, u⟩ e w ⟨hi, hsz, xw, e0, e3, own, e4⟩ next
  simp only at hi e3 own e4
  by_cases hil : (i : Int) < ((L.length : Nat) : Int)
  · obtain ⟨⟨y, ys⟩, hy⟩ : ∃ y, L[i]? = some y := ⟨_, List.getElem?_eq_getElem (by omega)⟩
    obtain ⟨b, o, cs, a2, c2, rfl, q2, q3, q4, q5, q6, q7, q8⟩ := ent_at (s.frm (Frm.ext xw)) (E.frm (Frm.ext xw)) hy
    have c0 : (0 : Int) ≤ (i : Int) := by omega
    have i1 : IntKind.i64.wrap ((i : Int) + 1) = ((i + 1 : Nat) : Int) := by rw [wrap_i64 (by omega) (by omega)]; omega
    obtain ⟨w2, f2, x2, hs2, z2⟩ := lay1 w (.cells [.string y] 1)
    obtain ⟨w3, f3, o3, hs3, x3⟩ := own_app2 (low := h.size) (bytes := 16) (k := 1) (new := [.string y]) (Nat.le_refl _) (xw.trans x2) (own.ext x2) (by omega) (by omega) rfl (by omega) (by omega)
    have et : sv (names (L.take (i + 1))) = sv (names (L.take i)) ++ [.string y] := by rw [List.take_add_one, hy]; simp [sv, names]
    rw [← et] at o3
    obtain ⟨ua, uc, rfl⟩ := own.shape
    simp +decide only [go_sem, W_region, Wx_some, hsz, e0, e3, e4, hil, c0, Int.toNat_natCast, q3, q4, f2, z2, f3, i1]
    exact next (i + 1, .slice (some ⟨w2.size, 0, none⟩) (i + 1) big) _ _ ⟨by simp only; omega, by simp +decide only [go_sem, hsz], x3, by simp +decide only [go_sem, hsz, e0], by simp +decide only [go_sem, hsz], o3, by simp +decide only [go_sem, hsz]⟩ (by simp only; omega)
  · have hin : i = L.length := by omega
    subst hin
    simp +decide only [go_sem, W_region, Wx_some, hsz, e0, e3, e4, hil]
    rw [List.take_of_length_le (by omega)] at own
    obtain ⟨a', c', rfl⟩ := own.shape
    rw [hnl]
    exact ⟨a', c', rfl, own.sl⟩
theorem take_filter {L : List Ent} {i : Nat} {p : Ent} (hp : L[i]? = some p) (f : Ent → Bool) : (L.take (i + 1)).filter f = (L.take i).filter f ++ if f p then [p] else [] := by
  rw [List.take_add_one, hp]
  simp only [Option.toList, List.filter_append, List.filter_cons, List.filter_nil]
/-- A list of entries that is made. -/
def OwnE (low : Nat) (w : Heap) (F : Nat → Prop) (u : Value) (L : List Ent) : Prop := ∃ vs, Own low w 2 u L.length vs ∧ EC w F vs L
theorem OwnE.nil (low : Nat) (w : Heap) (F : Nat → Prop) : OwnE low w F (.slice none 0 0) [] := ⟨[], Own.nil _ _ _, EC.nil _ _⟩
theorem OwnE.ext {low : Nat} {w w' : Heap} (k : Ext w w') {F : Nat → Prop} {u : Value} {L : List Ent} (h : OwnE low w F u L) : OwnE low w' F u L := by
  obtain ⟨vs, h1, h2⟩ := h
  exact ⟨vs, h1.ext k, h2.frm (Frm.ext k)⟩
/-- What lies in blocks of another kind stays as an own slice grows. -/
theorem slf_stay {low : Nat} {w w' : Heap} {u : Value} {k : Nat} {vs : List Value} (H : Own low w 2 u k vs) (hs : w.size ≤ w'.size) (hk : ∀ b, b < w.size → vblk u ≠ some b → w'.get b = w.get b) {F : Nat → Prop} {a : Option Addr} {n c : Nat} {xs : List Value} (s : SlF w F 1 a n c xs) : SlF w' F 1 a n c xs := by
  obtain ⟨s, hf⟩ := s
  refine ⟨?_, hf⟩
  rcases s with h1 | h1 | ⟨b, o, cs, h1, h2, h3, h4, h5⟩
  · exact .inl h1
  · exact .inr (.inl h1)
  · refine .inr (.inr ⟨b, o, cs, h1, h2, by omega, ?_, h5⟩)
    rw [hk b h3 ?_]
    · exact h4
    · intro hv
      rcases H with ⟨rfl, _⟩ | ⟨b', rfl, _, _, hg, _⟩
      · simp [vblk] at hv
      · simp only [vblk, Option.some.injEq] at hv
        subst hv
        rw [hg] at h4
        simp [Blk.read] at h4
theorem ec_stay {low : Nat} {w w' : Heap} {u : Value} {k : Nat} {vs : List Value} (H : Own low w 2 u k vs) (hs : w.size ≤ w'.size) (hk : ∀ b, b < w.size → vblk u ≠ some b → w'.get b = w.get b) {F : Nat → Prop} {us : List Value} {L : List Ent} (h : EC w F us L) : EC w' F us L :=
  ⟨h.1, fun i nm xs hi => let ⟨a, b, c, d, e⟩ := h.2 i nm xs hi; ⟨a, b, c, d, slf_stay H hs hk e⟩⟩
theorem OwnE.app {h w : Heap} (x : Ext h w) {F : Nat → Prop} {u : Value} {L : List Ent} (H : OwnE h.size w F u L) (hl : L.length ≤ 100000) {nm : ByteArray} {xs : List Int} {a : Option Addr} {c : Nat} (s : SlF w F 1 a xs.length c (iv xs)) :
    ∃ w', iapp h.size w 2 40 u 1 (some [.string nm, .slice a xs.length c]) = some (.slice (some ⟨w.size, 0, none⟩) (L.length + 1) big, w') ∧ w'.size = w.size + 1 ∧ Ext h w' ∧ OwnE h.size w' F (.slice (some ⟨w.size, 0, none⟩) (L.length + 1) big) (L ++ [(nm, xs)]) ∧
      (∀ b, b < w.size → vblk u ≠ some b → w'.get b = w.get b) := by
  obtain ⟨vs, h1, h2⟩ := H
  have x0 := x.1
  obtain ⟨w', e1, e2, e3, e4⟩ := own_app (low := h.size) (bytes := 40) (k := 1) (new := [.string nm, .slice a xs.length c]) h1 x0 (by omega) (by omega) rfl (by omega) (by omega)
  refine ⟨w', e1, e3, ⟨by omega, fun b hb => ?_⟩, ⟨_, by simpa using e2, (ec_stay h1 (by omega) e4 h2).app (EC.one (slf_stay h1 (by omega) e4 s))⟩, e4⟩
  refine (e4 b (by omega) ?_).trans (x.2 b hb)
  rcases h1 with ⟨rfl, _⟩ | ⟨b', rfl, h5, _⟩
  · simp [vblk]
  · simp only [vblk, ne_eq, Option.some.injEq]
    omega
theorem iapp_lower {low low' : Nat} (hl : low' ≤ low) {h h' : Heap} {size bytes k : Nat} {s v : Value} {new : Option (List Value)} (H : iapp low h size bytes s k new = some (v, h')) : iapp low' h size bytes s k new = some (v, h') := by
  unfold iapp at H ⊢
  split at H
  · split at H
    · split at H
      · cases H
      · rename_i h1
        rw [if_neg h1]
        split at H
        · rename_i h2
          rw [if_pos h2]
          exact H
        · rename_i h2
          rw [if_neg h2]
          exact iput_lower hl H
    · cases H
  · cases H
theorem OwnE.ref {low : Nat} {w : Heap} {F : Nat → Prop} {u : Value} {L : List Ent} (H : OwnE low w F u L) (hF : ∀ b, F b → b < low) : RefS w F u L := by
  obtain ⟨vs, h1, h2⟩ := H
  obtain ⟨a, c, h3, h4⟩ := own_slf h1 hF
  exact ⟨a, c, vs, h3, h4, h2⟩
theorem OwnE.shape {low : Nat} {w : Heap} {F : Nat → Prop} {u : Value} {L : List Ent} (H : OwnE low w F u L) : ∃ a c, u = .slice a L.length c := by
  obtain ⟨vs, h1, _⟩ := H
  exact h1.shape
/-- Something is kept. -/
theorem rsave_run (nm : ByteArray) (ys : List Int) (L : List Ent) (h : Heap) {F : Nat → Prop} (hF : ∀ b, F b → b < h.size) {r : Value} (R : RefS h F r L) (hl : L.length ≤ 1000) (hy : ys.length ≤ 100000) {ya : Option Addr} {yc : Nat} (sy : Sl h 1 ya ys.length yc (iv ys)) :
    Runs K f_ref29_Save #[r, .string nm, .slice ya ys.length yc] h fun u w => RefS w F u (saveL L nm ys) := by
  obtain ⟨a, c, vs, rfl, s, E⟩ := R
  refine Runs.of Kok (Does.intro rfl (by decide +kernel) F_ref29_Save rfl ?_)
  simp +decide only [go_sem, W_region, Wx_some]
  refine W_loop (α := Nat × Value) (fun i e w => i.1 ≤ L.length ∧ e.size = 59 ∧ Ext h w ∧ OwnE h.size w F i.2 ((L.take i.1).filter fun p => ltb p.1 nm) ∧ e.get 0 = .slice a L.length c ∧ e.get 1 = .string nm ∧ e.get 2 = .slice ya ys.length yc ∧ e.get 7 = i.2 ∧ e.get 8 = .int .i64 (i.1 : Int)) (fun i => L.length - i.1) (0, .slice none 0 0) ?_ ?_
  · exact ⟨Nat.zero_le _, by simp +decide only [go_sem], Ext.refl h, OwnE.nil _ _ _, by simp +decide only [go_sem], by simp +decide only [go_sem], by simp +decide only [go_sem], by simp +decide only [go_sem], by simp +decide only [go_sem]; rfl⟩
  rintro ⟨i, u⟩ e w ⟨hi, hsz, xw, own, e0, e1, e2, e7, e8⟩ next
  simp only at hi own e7 e8
  have hfl : ∀ (f : Ent → Bool) (k : Nat), ((L.take k).filter f).length ≤ 1000 := fun f k => by
    have h1 := List.length_filter_le f (L.take k)
    have h2 := List.length_take_le k L
    have h3 : (L.take k).length ≤ L.length := by rw [List.length_take]; omega
    omega
  by_cases hil : (i : Int) < ((L.length : Nat) : Int)
  · obtain ⟨⟨y, xs⟩, hy⟩ : ∃ y, L[i]? = some y := ⟨_, List.getElem?_eq_getElem (by omega)⟩
    obtain ⟨b, o, cs, a2, c2, rfl, q2, q3, q4, q5, q6, q7, q8⟩ := ent_at (s.frm (Frm.ext xw)) (E.frm (Frm.ext xw)) hy
    have c0 : (0 : Int) ≤ (i : Int) := by omega
    have i1 : IntKind.i64.wrap ((i : Int) + 1) = ((i + 1 : Nat) : Int) := by rw [wrap_i64 (by omega) (by omega)]; omega
    have ht := take_filter hy fun p => ltb p.1 nm
    cases hlt : ltb y nm with
    | true =>
      obtain ⟨w2, f2, x2, hs2, z2⟩ := lay1 w (.cells [.string y, .slice a2 xs.length c2] 2)
      obtain ⟨w3, f3, hs3, x3, o3, _⟩ := (own.ext x2).app (xw.trans x2) (Nat.le_trans (hfl _ _) (by omega)) (nm := y) (q8.frm (Frm.ext x2))
      simp only [hlt, if_true] at ht
      rw [← ht] at o3
      obtain ⟨ua, uc, rfl⟩ := own.shape
      simp +decide only [go_sem, W_region, Wx_some, hsz, e0, e1, e2, e7, e8, hil, c0, Int.toNat_natCast, q3, q4, q6, q7, lss_eq, hlt, f2, z2, f3, i1]
      exact next (i + 1, _) _ _ ⟨by simp only; omega, by simp +decide only [go_sem, hsz], x3, o3, by simp +decide only [go_sem, hsz, e0], by simp +decide only [go_sem, hsz, e1], by simp +decide only [go_sem, hsz, e2], by simp +decide only [go_sem, hsz], by simp +decide only [go_sem, hsz]⟩ (by simp only; omega)
    | false =>
      simp only [hlt, Bool.false_eq_true, if_false, List.append_nil] at ht
      rw [← ht] at own
      simp +decide only [go_sem, W_region, Wx_some, hsz, e0, e1, e2, e7, e8, hil, c0, Int.toNat_natCast, q3, q4, lss_eq, hlt, i1]
      exact next (i + 1, u) _ _ ⟨by simp only; omega, by simp +decide only [go_sem, hsz], xw, own, by simp +decide only [go_sem, hsz, e0], by simp +decide only [go_sem, hsz, e1], by simp +decide only [go_sem, hsz, e2], by simp +decide only [go_sem, hsz, e7], by simp +decide only [go_sem, hsz]⟩ (by simp only; omega)
  · have hin : i = L.length := by omega
    subst hin
    rw [List.take_length] at own
    have hA : (L.filter fun p => ltb p.1 nm).length ≤ 1000 := by have := hfl (fun p => ltb p.1 nm) L.length; rwa [List.take_length] at this
    obtain ⟨w2, f2, x2, hs2, z2⟩ := lay1 w (.cells [] 1)
    obtain ⟨a3, c3, w3, f3, x3, hc3, s3⟩ := app0 (low := h.size) (bytes := 8) (new := iv ys) (k := ys.length) z2 (by omega) (by omega) (by rw [iv_length]; omega) (by omega) (by omega)
    have hi3 := (sy.ext (xw.trans x2)).isl
    have K3 := xw.trans (x2.trans x3)
    have sf : SlF w3 F 1 a3 ys.length c3 (iv ys) := ⟨s3, fun hc ad ha hf => by
      have hb := hF _ hf
      have := xw.1
      rcases hc3 with ⟨_, _, hh, _⟩ | ⟨_, rfl, _⟩
      · omega
      · cases ha; simp only at hb; omega⟩
    obtain ⟨w4, f4, x4, hs4, z4⟩ := lay1 w3 (.cells [.string nm, .slice a3 ys.length c3] 2)
    obtain ⟨w5, f5, hs5, x5, o5, _⟩ := (own.ext (x2.trans (x3.trans x4))).app (K3.trans x4) (by omega) (nm := nm) (sf.frm (Frm.ext x4))
    obtain ⟨ua, uc, rfl⟩ := own.shape
    simp +decide only [go_sem, W_region, Wx_some, hsz, e0, e1, e2, e7, e8, hil, f2, hi3, f3, f4, z4, f5]
    refine W_loop (α := Nat × Value) (fun i e w => i.1 ≤ L.length ∧ e.size = 59 ∧ Ext h w ∧ OwnE h.size w F i.2 (((L.filter fun p => ltb p.1 nm) ++ [(nm, ys)]) ++ (L.take i.1).filter fun p => ltb nm p.1) ∧ e.get 0 = .slice a L.length c ∧ e.get 1 = .string nm ∧ e.get 7 = i.2 ∧ e.get 9 = .int .i64 (i.1 : Int)) (fun i => L.length - i.1) (0, .slice (some ⟨w4.size, 0, none⟩) ((L.filter fun p => ltb p.1 nm).length + 1) big) ?_ ?_
    · exact ⟨Nat.zero_le _, by simp +decide only [go_sem, hsz], x5, by simpa using o5, by simp +decide only [go_sem, hsz, e0], by simp +decide only [go_sem, hsz, e1], by simp +decide only [go_sem, hsz], by simp +decide only [go_sem, hsz]; rfl⟩
    clear next
    rintro ⟨i, u⟩ e w ⟨hi, hsz, xw, own, e0, e1, e7, e9⟩ next
    simp only at hi own e7 e9
    by_cases hil : (i : Int) < ((L.length : Nat) : Int)
    · obtain ⟨⟨y, xs⟩, hy⟩ : ∃ y, L[i]? = some y := ⟨_, List.getElem?_eq_getElem (by omega)⟩
      obtain ⟨b, o, cs, a2, c2, rfl, q2, q3, q4, q5, q6, q7, q8⟩ := ent_at (s.frm (Frm.ext xw)) (E.frm (Frm.ext xw)) hy
      have c0 : (0 : Int) ≤ (i : Int) := by omega
      have i1 : IntKind.i64.wrap ((i : Int) + 1) = ((i + 1 : Nat) : Int) := by rw [wrap_i64 (by omega) (by omega)]; omega
      have ht := take_filter hy fun p => ltb nm p.1
      have hB := hfl (fun p => ltb nm p.1) i
      cases hlt : ltb nm y with
      | true =>
        obtain ⟨w2, f2, x2, hs2, z2⟩ := lay1 w (.cells [.string y, .slice a2 xs.length c2] 2)
        obtain ⟨w3, f3, hs3, x3, o3, _⟩ := (own.ext x2).app (xw.trans x2) (by simp only [List.length_append, List.length_cons, List.length_nil]; omega) (nm := y) (q8.frm (Frm.ext x2))
        simp only [hlt, if_true] at ht
        have hL' : ((L.filter fun p => ltb p.1 nm) ++ [(nm, ys)] ++ (L.take i).filter fun p => ltb nm p.1) ++ [(y, xs)] = (L.filter fun p => ltb p.1 nm) ++ [(nm, ys)] ++ (L.take (i + 1)).filter fun p => ltb nm p.1 := by rw [ht, List.append_assoc _ _ [(y, xs)]]
        rw [hL'] at o3
        obtain ⟨ua, uc, rfl⟩ := own.shape
        simp +decide only [go_sem, W_region, Wx_some, hsz, e0, e1, e7, e9, hil, c0, Int.toNat_natCast, q3, q4, q6, q7, gtr_eq, hlt, f2, z2, f3, i1]
        exact next (i + 1, _) _ _ ⟨by simp only; omega, by simp +decide only [go_sem, hsz], x3, o3, by simp +decide only [go_sem, hsz, e0], by simp +decide only [go_sem, hsz, e1], by simp +decide only [go_sem, hsz], by simp +decide only [go_sem, hsz]⟩ (by simp only; omega)
      | false =>
        simp only [hlt, Bool.false_eq_true, if_false, List.append_nil] at ht
        rw [← ht] at own
        simp +decide only [go_sem, W_region, Wx_some, hsz, e0, e1, e7, e9, hil, c0, Int.toNat_natCast, q3, q4, gtr_eq, hlt, i1]
        exact next (i + 1, u) _ _ ⟨by simp only; omega, by simp +decide only [go_sem, hsz], xw, own, by simp +decide only [go_sem, hsz, e0], by simp +decide only [go_sem, hsz, e1], by simp +decide only [go_sem, hsz, e7], by simp +decide only [go_sem, hsz]⟩ (by simp only; omega)
    · have hin : i = L.length := by omega
      subst hin
      rw [List.take_length] at own
      simp +decide only [go_sem, W_region, Wx_some, hsz, e0, e1, e7, e9, hil]
      have := own.ref hF
      rwa [List.append_assoc] at this
/-- Some names are kept no longer. -/
theorem rdrop_run (nms : List ByteArray) (L : List Ent) (h : Heap) {F : Nat → Prop} (hF : ∀ b, F b → b < h.size) {r : Value} (R : RefS h F r L) (hl : L.length ≤ 1000) (hn : nms.length ≤ 1000) {na : Option Addr} {nc : Nat} (sn : Sl h 1 na nms.length nc (sv nms)) :
    Runs K f_ref29_Drop #[r, .slice na nms.length nc] h fun u w => ∃ r', u = .tuple #[r', .int .i64 (hitsL L nms : Int)] ∧ RefS w F r' (dropsL L nms) := by
  refine Runs.of Kok (Does.intro rfl (by decide +kernel) F_ref29_Drop rfl ?_)
  have hlen : ∀ (l : List ByteArray) (L : List Ent), (dropsL L l).length ≤ L.length := by
    intro l
    induction l with
    | nil => intro L; exact Nat.le_refl _
    | cons y l ih => intro L; exact Nat.le_trans (ih (dropL L y)) (drop_length L y)
  simp +decide only [go_sem, W_region, Wx_some]
  refine W_loop (α := Nat × Value) (fun i e w => i.1 ≤ nms.length ∧ e.size = 44 ∧ Ext h w ∧ RefS w F i.2 (dropsL L (nms.take i.1)) ∧ (∃ k, k + hitsL (dropsL L (nms.take i.1)) (nms.drop i.1) = hitsL L nms ∧ k ≤ i.1 * 1000 ∧ e.get 6 = .int .i64 (k : Int)) ∧ e.get 0 = i.2 ∧ e.get 1 = .slice na nms.length nc ∧ e.get 7 = .int .i64 (i.1 : Int)) (fun i => nms.length - i.1) (0, r) ?_ ?_
  · exact ⟨Nat.zero_le _, by simp +decide only [go_sem], Ext.refl h, by simpa [dropsL] using R, ⟨0, by simp [dropsL], Nat.zero_le _, by simp +decide only [go_sem]; rfl⟩, by simp +decide only [go_sem], by simp +decide only [go_sem], by simp +decide only [go_sem]; rfl⟩
  rintro ⟨i, r1⟩ e w ⟨hi, hsz, xw, R1, ⟨k, hk, hki, e6⟩, e0, e1, e7⟩ next
  simp only at hi R1 hk hki e6 e0 e7
  have hM := hlen (nms.take i) L
  by_cases hil : (i : Int) < ((nms.length : Nat) : Int)
  · obtain ⟨y, hy⟩ : ∃ y, nms[i]? = some y := ⟨_, List.getElem?_eq_getElem (by omega)⟩
    have c0 : (0 : Int) ≤ (i : Int) := by omega
    have i1 : IntKind.i64.wrap ((i : Int) + 1) = ((i + 1 : Nat) : Int) := by rw [wrap_i64 (by omega) (by omega)]; omega
    have htk : nms.take (i + 1) = nms.take i ++ [y] := by rw [List.take_add_one, hy]; rfl
    have hdr : nms.drop i = y :: nms.drop (i + 1) := by
      obtain ⟨hlt, e1⟩ := List.getElem?_eq_some_iff.1 hy
      rw [List.drop_eq_getElem_cons hlt, e1]
    have hds : dropsL L (nms.take (i + 1)) = dropL (dropsL L (nms.take i)) y := by rw [htk]; simp [dropsL]
    rw [hdr, hitsL] at hk
    obtain ⟨M, hMM⟩ : ∃ M, M = dropsL L (nms.take i) := ⟨_, rfl⟩
    rw [← hMM] at R1 hM hk hds
    obtain ⟨a, c, vs, rfl, s, E⟩ := R1
    simp +decide only [go_sem, W_region, Wx_some, hsz, e0, e1, e6, e7, hil]
    refine W_loop (α := Nat × Value) (fun j e W => j.1 ≤ M.length ∧ e.size = 44 ∧ Ext w W ∧ OwnE w.size W F j.2 ((M.take j.1).filter fun p => !decide (p.1 = y)) ∧ e.get 6 = .int .i64 ((k + ((M.take j.1).filter fun p => decide (p.1 = y)).length : Nat) : Int) ∧ e.get 0 = .slice a M.length c ∧ e.get 1 = .slice na nms.length nc ∧ e.get 7 = .int .i64 (i : Int) ∧ e.get 8 = j.2 ∧ e.get 9 = .int .i64 (j.1 : Int)) (fun j => M.length - j.1) (0, .slice none 0 0) ?_ ?_
    · exact ⟨Nat.zero_le _, by simp +decide only [go_sem, hsz], Ext.refl _, OwnE.nil _ _ _, by simp +decide only [go_sem, hsz, e6]; simp, by simp +decide only [go_sem, hsz, e0], by simp +decide only [go_sem, hsz, e1], by simp +decide only [go_sem, hsz, e7], by simp +decide only [go_sem, hsz], by simp +decide only [go_sem, hsz]; rfl⟩
    rintro ⟨j, u⟩ e' W ⟨hj, hsz', xW, own, f6, f0, f1, f7, f8, f9⟩ next2
    simp only at hj own f6 f8 f9
    have KW := xw.trans xW
    have hfl : ∀ (f : Ent → Bool), ((M.take j).filter f).length ≤ 1000 := fun f => by
      have h1 := List.length_filter_le f (M.take j)
      have h3 : (M.take j).length ≤ M.length := by rw [List.length_take]; omega
      omega
    by_cases hjl : (j : Int) < ((M.length : Nat) : Int)
    · obtain ⟨⟨z, xs⟩, hz⟩ : ∃ z, M[j]? = some z := ⟨_, List.getElem?_eq_getElem (by omega)⟩
      obtain ⟨b, o, cs, a2, c2, rfl, q2, q3, q4, q5, q6, q7, q8⟩ := ent_at (s.frm (Frm.ext xW)) (E.frm (Frm.ext xW)) hz
      obtain ⟨b', o', cs', rfl, p2, p3, p4⟩ := (sn.ext KW).one (i := i) (x := .string y) (by simp [sv, hy])
      have d0 : (0 : Int) ≤ (j : Int) := by omega
      have j1 : IntKind.i64.wrap ((j : Int) + 1) = ((j + 1 : Nat) : Int) := by rw [wrap_i64 (by omega) (by omega)]; omega
      have ht := take_filter hz fun p => !decide (p.1 = y)
      have hu := take_filter hz fun p => decide (p.1 = y)
      have hf1 := hfl fun p => decide (p.1 = y)
      by_cases hzy : z = y
      · subst hzy
        simp only [decide_true, Bool.not_true, Bool.false_eq_true, if_false, List.append_nil] at ht
        simp only [decide_true, if_true] at hu
        rw [← ht] at own
        have n1 : IntKind.i64.wrap (((k + ((M.take j).filter fun p => decide (p.1 = z)).length : Nat) : Int) + 1) = ((k + ((M.take (j + 1)).filter fun p => decide (p.1 = z)).length : Nat) : Int) := by
          rw [hu, List.length_append, wrap_i64 (by omega) (by omega)]
          simp only [List.length_cons, List.length_nil]
          omega
        simp +decide only [go_sem, W_region, Wx_some, hsz', f0, f1, f6, f7, f8, f9, hjl, hil, c0, d0, Int.toNat_natCast, q3, q4, p3, p4, n1, j1]
        exact next2 (j + 1, u) _ _ ⟨by simp only; omega, by simp +decide only [go_sem, hsz'], xW, own, by simp +decide only [go_sem, hsz'], by simp +decide only [go_sem, hsz', f0], by simp +decide only [go_sem, hsz', f1], by simp +decide only [go_sem, hsz', f7], by simp +decide only [go_sem, hsz', f8], by simp +decide only [go_sem, hsz']⟩ (by simp only; omega)
      · obtain ⟨w2, g2, x2, hs2, z2⟩ := lay1 W (.cells [.string z, .slice a2 xs.length c2] 2)
        obtain ⟨w3, g3, hs3, xW3, o3, _⟩ := (own.ext x2).app (xW.trans x2) (Nat.le_trans (hfl _) (by omega)) (nm := z) (q8.frm (Frm.ext x2))
        simp only [hzy, decide_false, Bool.not_false, if_true] at ht
        simp only [hzy, decide_false, Bool.false_eq_true, if_false, List.append_nil] at hu
        rw [← ht] at o3
        rw [← hu] at f6
        obtain ⟨ua, uc, rfl⟩ := own.shape
        have g3' := iapp_lower (low' := h.size) xw.1 g3
        simp +decide only [go_sem, W_region, Wx_some, hsz', f0, f1, f6, f7, f8, f9, hjl, hil, c0, d0, Int.toNat_natCast, q3, q4, q6, q7, p3, p4, hzy, g2, z2, g3', j1]
        exact next2 (j + 1, _) _ _ ⟨by simp only; omega, by simp +decide only [go_sem, hsz'], xW3, o3, by simp +decide only [go_sem, hsz', f6], by simp +decide only [go_sem, hsz', f0], by simp +decide only [go_sem, hsz', f1], by simp +decide only [go_sem, hsz', f7], by simp +decide only [go_sem, hsz'], by simp +decide only [go_sem, hsz']⟩ (by simp only; omega)
    · have hjn : j = M.length := by omega
      subst hjn
      rw [List.take_length] at own f6
      simp +decide only [go_sem, W_region, Wx_some, hsz', f0, f1, f6, f7, f8, f9, hjl, i1]
      refine next (i + 1, u) _ _ ⟨by simp only; omega, by simp +decide only [go_sem, hsz'], KW, by rw [hds]; exact own.ref fun b hb => Nat.lt_of_lt_of_le (hF b hb) xw.1, ⟨k + hits M y, by simp only; rw [hds]; omega, ?_, by simp +decide only [go_sem, hsz', f6]; rfl⟩, by simp +decide only [go_sem, hsz', f8], by simp +decide only [go_sem, hsz', f1], by simp +decide only [go_sem, hsz']⟩ (by simp only; omega)
      have : hits M y ≤ M.length := List.length_filter_le _ _
      simp only
      omega
  · have hin : i = nms.length := by omega
    subst hin
    rw [List.drop_length] at hk
    rw [List.take_length] at hk R1
    simp only [hitsL, Nat.add_zero] at hk
    subst hk
    simp +decide only [go_sem, W_region, Wx_some, hsz, e0, e1, e6, e7, hil]
    exact ⟨_, rfl, R1⟩
end Go.Proofs.Ytjamnjbfcecnnaa.L24
