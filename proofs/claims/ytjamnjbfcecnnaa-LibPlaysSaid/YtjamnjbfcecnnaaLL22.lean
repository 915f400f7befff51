/- Proved here: plain lemmas of a library: a map's entries, and a list of names that rise. -/
import Derived.Test.YtjamnjbfcecnnaaLL20
set_option linter.unusedSimpArgs false
set_option linter.unusedVariables false
namespace Go.Im.Lib
open Go Go.Im Go.Sort
abbrev lt (a b : ByteArray) : Prop := a.data.toList < b.data.toList
abbrev Ent := ByteArray × List Int
theorem lt_irrefl (a : ByteArray) : ¬ lt a a := List.lt_irrefl _
theorem lt_trans {a b c : ByteArray} (h : lt a b) (k : lt b c) : lt a c := List.lt_trans h k
theorem data_inj {a b : ByteArray} (h : a.data.toList = b.data.toList) : a = b := by
  cases a
  cases b
  simp only at h
  rw [Array.toList_inj.1 h]
theorem lt_tri (a b : ByteArray) : lt a b ∨ a = b ∨ lt b a := by
  by_cases h : lt a b
  · exact .inl h
  · by_cases k : lt b a
    · exact .inr (.inr k)
    · exact .inr (.inl (data_inj (List.le_antisymm (List.not_lt.1 k) (List.not_lt.1 h))))
theorem lt_ne {a b : ByteArray} (h : lt a b) : a ≠ b := by
  rintro rfl
  exact lt_irrefl _ h
/-- Names that rise. -/
def Srt (L : List Ent) : Prop := L.Pairwise fun p q => lt p.1 q.1
def names (L : List Ent) : List ByteArray := L.map (·.1)
theorem Srt.nodup {L : List Ent} (h : Srt L) : (names L).Nodup := List.pairwise_map.2 (h.imp fun hh => lt_ne hh)
def ltb (a b : ByteArray) : Bool := decide (lt a b)
theorem ltb_iff {a b : ByteArray} : ltb a b = true ↔ lt a b := decide_eq_true_iff
def saveL (L : List Ent) (nm : ByteArray) (xs : List Int) : List Ent := L.filter (fun p => ltb p.1 nm) ++ ((nm, xs) : Ent) :: L.filter (fun p => ltb nm p.1)
def dropL (L : List Ent) (nm : ByteArray) : List Ent := L.filter fun p => !decide (p.1 = nm)
def dropsL (L : List Ent) (nms : List ByteArray) : List Ent := nms.foldl dropL L
def hits (L : List Ent) (nm : ByteArray) : Nat := (L.filter fun p => decide (p.1 = nm)).length
def hitsL : List Ent → List ByteArray → Nat
  | _, [] => 0
  | L, nm :: nms => hits L nm + hitsL (dropL L nm) nms
theorem Srt.save {L : List Ent} (h : Srt L) (nm : ByteArray) (xs : List Int) : Srt (saveL L nm xs) := by
  refine List.pairwise_append.2 ⟨h.filter _, List.pairwise_cons.2 ⟨?_, h.filter _⟩, ?_⟩
  · intro p hp
    exact ltb_iff.1 (List.mem_filter.1 hp).2
  · intro p hp q hq
    have h1 : lt p.1 nm := ltb_iff.1 (List.mem_filter.1 hp).2
    rcases List.mem_cons.1 hq with rfl | hq
    · exact h1
    · have h2 : lt nm q.1 := ltb_iff.1 (List.mem_filter.1 hq).2
      exact lt_trans h1 h2
theorem Srt.drop {L : List Ent} (h : Srt L) (nm : ByteArray) : Srt (dropL L nm) := h.filter _
theorem mem_save {L : List Ent} {nm : ByteArray} {xs : List Int} {p : Ent} : p ∈ saveL L nm xs ↔ p = (nm, xs) ∨ (p ∈ L ∧ p.1 ≠ nm) := by
  simp only [saveL, List.mem_append, List.mem_cons, List.mem_filter, ltb_iff]
  constructor
  · rintro (⟨h1, h2⟩ | h | ⟨h1, h2⟩)
    · exact .inr ⟨h1, lt_ne h2⟩
    · exact .inl h
    · exact .inr ⟨h1, fun e => lt_ne h2 e.symm⟩
  · rintro (h | ⟨h1, h2⟩)
    · exact .inr (.inl h)
    · rcases lt_tri p.1 nm with h | h | h
      · exact .inl ⟨h1, h⟩
      · exact absurd h h2
      · exact .inr (.inr ⟨h1, h⟩)
theorem mem_drop {L : List Ent} {nm : ByteArray} {p : Ent} : p ∈ dropL L nm ↔ p ∈ L ∧ p.1 ≠ nm := by
  simp [dropL, List.mem_filter]
theorem mem_names {L : List Ent} {nm : ByteArray} : nm ∈ names L ↔ ∃ xs, (nm, xs) ∈ L := by
  simp [names]
theorem drop_none {L : List Ent} {nm : ByteArray} (h : nm ∉ names L) : dropL L nm = L := by
  refine List.filter_eq_self.2 fun p hp => ?_
  simp only [Bool.not_eq_true', decide_eq_false_iff_not]
  intro e
  exact h (mem_names.2 ⟨p.2, by rw [← e]; exact hp⟩)
theorem save_length {L : List Ent} (nm : ByteArray) (xs : List Int) : (saveL L nm xs).length ≤ L.length + 1 := by
  have key : ∀ l : List Ent, (l.filter (fun p => ltb p.1 nm)).length + (l.filter (fun p => ltb nm p.1)).length ≤ l.length := by
    intro l
    induction l with
    | nil => simp
    | cons p l ih =>
      simp only [List.filter_cons, List.length_cons]
      cases h1 : ltb p.1 nm with
      | true =>
        have h2 : ltb nm p.1 = false := by
          cases h2 : ltb nm p.1 with
          | false => rfl
          | true => exact absurd (lt_trans (ltb_iff.1 h1) (ltb_iff.1 h2)) (lt_irrefl _)
        simp only [h2, if_true, Bool.false_eq_true, if_false, List.length_cons]
        omega
      | false =>
        simp only [Bool.false_eq_true, if_false]
        split
        · simp only [List.length_cons]; omega
        · omega
  rw [saveL, List.length_append, List.length_cons]
  exact Nat.succ_le_succ (key L)
theorem drop_length (L : List Ent) (nm : ByteArray) : (dropL L nm).length ≤ L.length := List.length_filter_le _ _

/-! ### A map's entries -/
/-- The entries' keys are these texts. -/
def KeysAre (es : List MapEntry) (ks : List ByteArray) : Prop := es.map (·.key) = ks.map Value.string
theorem KeysAre.tail {e : MapEntry} {es : List MapEntry} {k : ByteArray} {ks : List ByteArray} (h : KeysAre (e :: es) (k :: ks)) : e.key = .string k ∧ KeysAre es ks := by
  simp only [KeysAre, List.map_cons, List.cons.injEq] at h
  exact h
theorem KeysAre.len {es : List MapEntry} {ks : List ByteArray} (h : KeysAre es ks) : es.length = ks.length := by
  have := congrArg List.length h
  simpa using this
theorem keysOf_are : ∀ {es : List MapEntry} {ks : List ByteArray}, KeysAre es ks → keysOf es = some ks
  | [], [], _ => rfl
  | [], _ :: _, h => by have := h.len; simp at this
  | _ :: _, [], h => by have := h.len; simp at this
  | e :: es, k :: ks, h => by
    obtain ⟨h1, h2⟩ := h.tail
    simp only [keysOf, h1, keysOf_are h2]
theorem find_spec (nm : ByteArray) : ∀ {es : List MapEntry} {ks : List ByteArray} (i : Nat), KeysAre es ks →
    (nm ∉ ks ∧ Instr.findNow .string (.string nm) es i = some none) ∨ ∃ j e, es[j]? = some e ∧ e.key = .string nm ∧ nm ∈ ks ∧ Instr.findNow .string (.string nm) es i = some (some (i + j, e.val))
  | [], [], i, _ => .inl ⟨by simp, rfl⟩
  | [], _ :: _, _, h => by have := h.len; simp at this
  | _ :: _, [], _, h => by have := h.len; simp at this
  | e :: es, k :: ks, i, h => by
    obtain ⟨h1, h2⟩ := h.tail
    by_cases hk : nm = k
    · subst hk
      refine .inr ⟨0, e, rfl, h1, by simp, ?_⟩
      simp only [Instr.findNow, h1, Instr.sameNow, bytes_same.2 rfl, Nat.add_zero]
    · have hne : (nm == k) = false := by
        cases hb : nm == k with
        | false => rfl
        | true => exact absurd (bytes_same.1 hb) hk
      rcases find_spec nm (i + 1) h2 with ⟨a, b⟩ | ⟨j, e', a, b, c, d⟩
      · exact .inl ⟨by simp [hk, a], by simp only [Instr.findNow, h1, Instr.sameNow, hne, b]⟩
      · refine .inr ⟨j + 1, e', by simpa using a, b, by simp [c], ?_⟩
        simp only [Instr.findNow, h1, Instr.sameNow, hne, d]
        congr 3
        omega
/-- The entries' births. -/
def Bn (es : List MapEntry) (c : Nat) : Prop := (∀ e ∈ es, e.born < c) ∧ (es.map (·.born)).Nodup
/-- The map's entries are the list's; P: how a value is a list of numbers. -/
structure MR (P : Value → List Int → Prop) (es : List MapEntry) (c : Nat) (L : List Ent) : Prop where
  srt : Srt L
  keys : ∃ ks, KeysAre es ks ∧ ks.Perm (names L)
  bn : Bn es c
  vals : ∀ nm xs, (nm, xs) ∈ L → ∃ e ∈ es, e.key = .string nm ∧ P e.val xs
theorem MR.mono {P Q : Value → List Int → Prop} {es : List MapEntry} {c : Nat} {L : List Ent} (h : MR P es c L) (hpq : ∀ nm xs v, (nm, xs) ∈ L → P v xs → Q v xs) : MR Q es c L :=
  ⟨h.srt, h.keys, h.bn, fun nm xs hm => let ⟨e, he, hk, hp⟩ := h.vals nm xs hm; ⟨e, he, hk, hpq nm xs _ hm hp⟩⟩
theorem MR.empty (P : Value → List Int → Prop) : MR P [] 0 [] :=
  ⟨.nil, ⟨[], rfl, .nil⟩, ⟨by simp, by simp⟩, by simp⟩
theorem key_at {es : List MapEntry} {ks : List ByteArray} (h : KeysAre es ks) {j : Nat} {e : MapEntry} (he : es[j]? = some e) : ∃ k, ks[j]? = some k ∧ e.key = .string k := by
  have h1 : (es.map (·.key))[j]? = some e.key := by simp [he]
  rw [h, List.getElem?_map, Option.map_eq_some_iff] at h1
  obtain ⟨k, hk, e1⟩ := h1
  exact ⟨k, hk, e1.symm⟩
theorem same_entry {es : List MapEntry} {ks : List ByteArray} (h : KeysAre es ks) (hn : ks.Nodup) {e e' : MapEntry} (he : e ∈ es) {j : Nat} (he' : es[j]? = some e') {nm : ByteArray} (k : e.key = .string nm) (k' : e'.key = .string nm) : e = e' := by
  obtain ⟨i, hi⟩ := List.mem_iff_getElem?.1 he
  obtain ⟨a, ha, e1⟩ := key_at h hi
  obtain ⟨b, hb, e2⟩ := key_at h he'
  rw [k] at e1
  rw [k'] at e2
  cases e1
  cases e2
  have hij : i = j := by
    have hlt : i < ks.length := (List.getElem?_eq_some_iff.1 ha).1
    exact (List.getElem?_inj hlt hn).1 (ha.trans hb.symm)
  subst hij
  rw [hi] at he'
  exact Option.some.inj he'
section
variable {P : Value → List Int → Prop} {es : List MapEntry} {c : Nat} {L : List Ent}
theorem MR.knodup (h : MR P es c L) {ks : List ByteArray} (hp : ks.Perm (names L)) : ks.Nodup := hp.nodup_iff.2 h.srt.nodup
theorem MR.found (h : MR P es c L) {nm : ByteArray} {xs : List Int} (hm : (nm, xs) ∈ L) : ∃ i v, Instr.findNow .string (.string nm) es 0 = some (some (i, v)) ∧ P v xs := by
  obtain ⟨ks, hk, hp⟩ := h.keys
  obtain ⟨e, he, ek, hv⟩ := h.vals nm xs hm
  rcases find_spec nm 0 hk with ⟨a, _⟩ | ⟨j, e', a, b, _, d⟩
  · exact absurd (hp.mem_iff.2 (mem_names.2 ⟨xs, hm⟩)) a
  · have := same_entry hk (h.knodup hp) he a ek b
    subst this
    exact ⟨_, _, d, hv⟩
theorem MR.lost (h : MR P es c L) {nm : ByteArray} (hm : nm ∉ names L) : Instr.findNow .string (.string nm) es 0 = some none := by
  obtain ⟨ks, hk, hp⟩ := h.keys
  rcases find_spec nm 0 hk with ⟨_, b⟩ | ⟨j, e', _, _, b, _⟩
  · exact b
  · exact absurd (hp.mem_iff.1 b) hm
theorem save_names_in (h : Srt L) {nm : ByteArray} (xs : List Int) (hm : nm ∈ names L) : (names L).Perm (names (saveL L nm xs)) := by
  refine (List.perm_ext_iff_of_nodup h.nodup (h.save nm xs).nodup).2 fun k => ?_
  simp only [mem_names, mem_save]
  constructor
  · rintro ⟨ys, hy⟩
    by_cases e : k = nm
    · exact ⟨xs, .inl (by rw [e])⟩
    · exact ⟨ys, .inr ⟨hy, e⟩⟩
  · rintro ⟨ys, hy | ⟨hy, _⟩⟩
    · cases hy
      exact mem_names.1 hm
    · exact ⟨ys, hy⟩
theorem save_names_out (h : Srt L) {nm : ByteArray} (xs : List Int) (hm : nm ∉ names L) : (nm :: names L).Perm (names (saveL L nm xs)) := by
  refine (List.perm_ext_iff_of_nodup (List.nodup_cons.2 ⟨hm, h.nodup⟩) (h.save nm xs).nodup).2 fun k => ?_
  simp only [mem_names, mem_save, List.mem_cons]
  constructor
  · rintro (rfl | ⟨ys, hy⟩)
    · exact ⟨xs, .inl rfl⟩
    · refine ⟨ys, .inr ⟨hy, fun e => ?_⟩⟩
      exact hm (mem_names.2 ⟨ys, by rw [← show k = nm from e]; exact hy⟩)
  · rintro ⟨ys, hy | ⟨hy, _⟩⟩
    · cases hy
      exact .inl rfl
    · exact .inr ⟨ys, hy⟩
theorem MR.put (h : MR P es c L) {nm : ByteArray} {xs : List Int} {v : Value} (hv : P v xs) :
    ∃ es' c', iput1 es c (.string nm) v (Instr.findNow .string (.string nm) es 0) = some (.map es' c') ∧ MR P es' c' (saveL L nm xs) := by
  obtain ⟨ks, hk, hp⟩ := h.keys
  have hn := h.knodup hp
  rcases find_spec nm 0 hk with ⟨a, b⟩ | ⟨j, e, a, b, m, d⟩
  · have hm : nm ∉ names L := fun hh => a (hp.mem_iff.2 hh)
    refine ⟨_, _, by rw [b]; rfl, h.srt.save nm xs, ⟨ks ++ [nm], by simp only [KeysAre, List.map_append] at hk ⊢; rw [hk]; rfl, ?_⟩, ⟨?_, ?_⟩, ?_⟩
    · exact (List.perm_append_comm.trans (List.Perm.cons nm hp)).trans (save_names_out h.srt xs hm)
    · intro e he
      rcases List.mem_append.1 he with he | he
      · have := h.bn.1 e he; omega
      · simp at he
        subst he
        simp
    · rw [List.map_append]
      refine List.nodup_append.2 ⟨h.bn.2, by simp, fun x hx y hy => ?_⟩
      simp at hy
      subst hy
      obtain ⟨e, he, rfl⟩ := List.mem_map.1 hx
      have := h.bn.1 e he
      omega
    · intro nm' xs' hm'
      rcases mem_save.1 hm' with hh | ⟨hh, hne⟩
      · cases hh
        exact ⟨_, List.mem_append.2 (.inr (List.mem_singleton.2 rfl)), rfl, hv⟩
      · obtain ⟨e, he, ek, hp'⟩ := h.vals nm' xs' hh
        exact ⟨e, List.mem_append.2 (.inl he), ek, hp'⟩
  · have hm : nm ∈ names L := hp.mem_iff.1 m
    rw [Nat.zero_add] at d
    have hkeys : (es.modify j fun e => { e with key := .string nm, val := v }).map (·.key) = es.map (·.key) := by
      apply List.ext_getElem?
      intro i
      rw [List.getElem?_map, List.getElem?_map, List.getElem?_modify]
      by_cases hij : j = i
      · subst hij
        simp [a, b]
      · simp [hij]
    have hborn : (es.modify j fun e => { e with key := .string nm, val := v }).map (·.born) = es.map (·.born) := by
      apply List.ext_getElem?
      intro i
      rw [List.getElem?_map, List.getElem?_map, List.getElem?_modify]
      by_cases hij : j = i
      · subst hij
        simp [a]
      · simp [hij]
    refine ⟨_, _, by rw [d]; rfl, h.srt.save nm xs, ⟨ks, hkeys.trans hk, hp.trans (save_names_in h.srt xs hm)⟩, ⟨?_, by rw [hborn]; exact h.bn.2⟩, ?_⟩
    · intro e he
      have : e.born ∈ es.map (·.born) := by rw [← hborn]; exact List.mem_map.2 ⟨e, he, rfl⟩
      obtain ⟨e0, he0, h0⟩ := List.mem_map.1 this
      rw [← h0]
      exact h.bn.1 e0 he0
    · intro nm' xs' hm'
      rcases mem_save.1 hm' with hh | ⟨hh, hne⟩
      · cases hh
        refine ⟨{ e with key := .string nm, val := v }, List.mem_iff_getElem?.2 ⟨j, ?_⟩, rfl, hv⟩
        rw [List.getElem?_modify]
        simp [a]
      · obtain ⟨e1, he1, ek, hp'⟩ := h.vals nm' xs' hh
        obtain ⟨i, hi⟩ := List.mem_iff_getElem?.1 he1
        refine ⟨e1, List.mem_iff_getElem?.2 ⟨i, ?_⟩, ek, hp'⟩
        rw [List.getElem?_modify]
        have hij : ¬ j = i := by
          rintro rfl
          rw [a] at hi
          cases hi
          rw [b] at ek
          cases ek
          exact hne rfl
        simp [hij, hi]
theorem MR.del (h : MR P es c L) (nm : ByteArray) : ∃ es', idel1 es c (Instr.findNow .string (.string nm) es 0) = some (.map es' c) ∧ MR P es' c (dropL L nm) := by
  obtain ⟨ks, hk, hp⟩ := h.keys
  have hn := h.knodup hp
  rcases find_spec nm 0 hk with ⟨a, b⟩ | ⟨j, e, a, b, m, d⟩
  · have hm : nm ∉ names L := fun hh => a (hp.mem_iff.2 hh)
    rw [drop_none hm]
    exact ⟨es, by rw [b]; rfl, h⟩
  · rw [Nat.zero_add] at d
    obtain ⟨k0, hk0, ek0⟩ := key_at hk a
    rw [b] at ek0
    cases ek0
    have hlt : j < ks.length := (List.getElem?_eq_some_iff.1 hk0).1
    have hke : KeysAre (es.eraseIdx j) (ks.eraseIdx j) := by
      have er : ∀ {α β : Type} (f : α → β) (l : List α) (j : Nat), (l.eraseIdx j).map f = (l.map f).eraseIdx j := by
        intro α β f l j
        apply List.ext_getElem?
        intro i
        rw [List.getElem?_map, List.getElem?_eraseIdx, List.getElem?_eraseIdx, List.getElem?_map, List.getElem?_map]
        split <;> rfl
      simp only [KeysAre] at hk ⊢
      rw [er, hk, ← er]
    refine ⟨_, by rw [d]; rfl, h.srt.drop nm, ⟨ks.eraseIdx j, hke, ?_⟩, ⟨?_, ?_⟩, ?_⟩
    · have hkn : ks[j]'hlt = nm := (List.getElem?_eq_some_iff.1 hk0).2
      refine (List.perm_ext_iff_of_nodup (hn.sublist (List.eraseIdx_sublist _ _)) (h.srt.drop nm).nodup).2 fun k => ?_
      rw [List.mem_eraseIdx_iff_getElem?]
      simp only [mem_names, mem_drop]
      constructor
      · rintro ⟨i, hij, hi⟩
        have hm : k ∈ names L := hp.mem_iff.1 (List.mem_of_getElem? hi)
        obtain ⟨ys, hy⟩ := mem_names.1 hm
        refine ⟨ys, hy, ?_⟩
        intro e1
        subst e1
        exact hij ((List.getElem?_inj (List.getElem?_eq_some_iff.1 hi).1 hn).1 (hi.trans hk0.symm))
      · rintro ⟨ys, hy, hne⟩
        have hm : k ∈ ks := hp.mem_iff.2 (mem_names.2 ⟨ys, hy⟩)
        obtain ⟨i, hi⟩ := List.mem_iff_getElem?.1 hm
        refine ⟨i, ?_, hi⟩
        rintro rfl
        rw [hk0] at hi
        cases hi
        exact hne rfl
    · intro e he
      exact h.bn.1 e (List.mem_of_mem_eraseIdx he)
    · exact h.bn.2.sublist ((List.eraseIdx_sublist _ _).map _)
    · intro nm' xs' hm'
      obtain ⟨hh, hne⟩ := mem_drop.1 hm'
      obtain ⟨e1, he1, ek, hp'⟩ := h.vals nm' xs' hh
      refine ⟨e1, ?_, ek, hp'⟩
      obtain ⟨i, hi⟩ := List.mem_iff_getElem?.1 he1
      refine List.mem_eraseIdx_iff_getElem?.2 ⟨i, ?_, hi⟩
      rintro rfl
      rw [a] at hi
      cases hi
      rw [b] at ek
      cases ek
      exact hne rfl
theorem sort_names (h : Srt L) {ks : List ByteArray} (hp : ks.Perm (names L)) : sortB ks = names L := by
  have e1 : (ks.map (·.data.toList)).mergeSort (fun x y => decide (x ≤ y)) = ((names L).map (·.data.toList)).mergeSort (fun x y => decide (x ≤ y)) := mergeSort_of_perm (hp.map _)
  have e2 : ((names L).map (·.data.toList)).mergeSort (fun x y => decide (x ≤ y)) = (names L).map (·.data.toList) := by
    refine List.mergeSort_of_pairwise ?_
    refine List.pairwise_map.2 (List.pairwise_map.2 (h.imp fun hh => ?_))
    simp only [decide_eq_true_eq]
    exact List.le_of_lt hh
  rw [sortB, e1, e2, List.map_map]
  have : ∀ s : ByteArray, (text ∘ fun x : ByteArray => x.data.toList) s = s := by
    intro s
    cases s
    simp [text]
  rw [List.map_congr_left (g := id) fun s _ => this s, List.map_id]
theorem MR.named (h : MR P es c L) (hl : L.length ≤ 1000) (hs : ∀ p ∈ L, p.1.size ≤ maxLen) (w : Heap) :
    namesOf w (.map es c) = if L = [] then some (.slice none 0 0, w) else some (.slice (some ⟨w.size, 0, none⟩) L.length big, w.push (.cells ((names L).map Value.string) 1)) := by
  obtain ⟨ks, hk, hp⟩ := h.keys
  have hlen : ks.length = L.length := by have := hp.length_eq; simpa [names] using this
  have hok : mapOK es ks c = true := by
    simp only [mapOK, Bool.and_eq_true, decide_eq_true_eq, List.all_eq_true]
    refine ⟨⟨⟨⟨by have := hk.len; omega, h.bn.1⟩, h.bn.2⟩, h.knodup hp⟩, fun s hs' => ?_⟩
    obtain ⟨xs, hx⟩ := mem_names.1 (hp.mem_iff.1 hs')
    exact hs _ hx
  simp only [namesOf, keysOf_are hk, hok, if_true, sort_names h.srt hp, hlen]
  by_cases h0 : L = []
  · have : ks = [] := List.eq_nil_of_length_eq_zero (by rw [hlen, h0]; rfl)
    rw [if_pos (by simp [this]), if_pos h0]
  · have : ks.isEmpty = false := by
      cases ks with
      | nil => exact absurd (List.eq_nil_of_length_eq_zero hlen.symm) h0
      | cons k ks => rfl
    rw [if_neg (by simp [this]), if_neg h0]
end
theorem hits_one {L : List Ent} (h : Srt L) {nm : ByteArray} (hm : nm ∈ names L) : hits L nm = 1 := by
  obtain ⟨xs, hx⟩ := mem_names.1 hm
  have : L.filter (fun p => decide (p.1 = nm)) = [(nm, xs)] := by
    have hnd : (L.filter fun p => decide (p.1 = nm)).Nodup := (List.Pairwise.imp (S := fun p q : Ent => p ≠ q) (fun {p q} hh (e : p = q) => lt_ne hh (congrArg Prod.fst e)) h).filter _
    refine List.perm_singleton.1 ((List.perm_ext_iff_of_nodup hnd (by simp)).2 fun p => ?_)
    simp only [List.mem_filter, decide_eq_true_eq, List.mem_singleton]
    constructor
    · rintro ⟨h1, h2⟩
      have hn := h.nodup
      obtain ⟨i, hi⟩ := List.mem_iff_getElem?.1 h1
      obtain ⟨j, hj⟩ := List.mem_iff_getElem?.1 hx
      have ei : (names L)[i]? = some nm := by simp [names, hi, h2]
      have ej : (names L)[j]? = some nm := by simp [names, hj]
      have : i = j := (List.getElem?_inj (List.getElem?_eq_some_iff.1 ei).1 hn).1 (ei.trans ej.symm)
      subst this
      rw [hi] at hj
      exact Option.some.inj hj
    · rintro rfl
      exact ⟨hx, rfl⟩
  rw [hits, this]
  rfl
theorem hits_zero {L : List Ent} {nm : ByteArray} (hm : nm ∉ names L) : hits L nm = 0 := by
  rw [hits, List.length_eq_zero_iff, List.filter_eq_nil_iff]
  intro p hp
  simp only [decide_eq_true_eq]
  intro e
  exact hm (mem_names.2 ⟨p.2, by rw [← e]; exact hp⟩)
end Go.Im.Lib
