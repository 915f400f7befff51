/- Proved here: lists of names and numbers among the arguments of a law; no condition beyond those that each rule names. -/
import Derived.Test.YtjlaenglmdpboaaGreatLine
import Derived.Test.YtjlaenglmdpboaaGreatF1
import Derived.Deep.SlicePairs
set_option linter.unusedSimpArgs false
set_option linter.unusedVariables false
namespace Go.Im
open Go.RowKit
/-- One more slice of elements of several plain cells is laid. -/
theorem LaidOK.rows {W : World} {vs : List View} (L : LaidOK W vs) {size : Nat} {a : Option Addr} {k c : Nat} {vals : List Value} (hs : 0 < size) (hkc : k ≤ c) (A : Arg W a (k * size) (c * size) vals) (hat : vals.all Im.atomic = true) :
    ∃ vs' a' c', LaidOK W vs' ∧ (∀ b l, vPlaces vs b = some l → vPlaces vs' b = some l) ∧ Ext (laid vs) (laid vs') ∧ RV (vPlaces vs') (.slice a' k c') (.slice a k c) ∧ Sl (laid vs') size a' k c' vals ∧ (c' = 0 ∨ c' = big) := by
  obtain ⟨hl, hk, h⟩ := A
  have hc0 : c * size = 0 → c = 0 := fun hh => by
    rcases Nat.mul_eq_zero.1 hh with h1 | h1
    · exact h1
    · omega
  rcases h with ⟨rfl, hc⟩ | ⟨hc, ad, rfl⟩ | ⟨b, o, cc, e, fr, rfl, hc, hb, hoc, hcell⟩
  · have := hc0 hc
    subst this
    have : k = 0 := by omega
    subst this
    have hv : vals = [] := List.eq_nil_of_length_eq_zero (by simpa using hl)
    subst hv
    exact ⟨vs, none, 0, L, fun _ _ h => h, Ext.refl _, .nilSlice, Sl.nil _ _, .inl rfl⟩
  · have := hc0 hc
    subst this
    have : k = 0 := by omega
    subst this
    have hv : vals = [] := List.eq_nil_of_length_eq_zero (by simpa using hl)
    subst hv
    exact ⟨vs, some ⟨0, 0, none⟩, 0, L, fun _ _ h => h, Ext.refl _, .void 0 0 ad, .inr (.inl ⟨0, 0, rfl, rfl, rfl, rfl⟩), .inl rfl⟩
  · have hcp : 0 < c := Nat.pos_of_ne_zero fun hh => by subst hh; simp at hc
    refine ⟨⟨b, o, o + c * size, size, vals⟩ :: vs, some ⟨vs.length, 0, none⟩, big, ?_, vPlaces_old, (Ext.refl _).push _, ?_, ?_, .inr rfl⟩
    · intro i v hv
      rw [vAt_cons] at hv
      split at hv
      · cases hv
        refine ⟨hs, cc, e, fr, hb, by simp; omega, fun i x hi => ?_⟩
        have hx : Im.atomic x = true := List.all_eq_true.1 hat x (List.mem_of_getElem? hi)
        refine ⟨?_, x, hcell i x hi, RV.atomic _ hx⟩
        cases x <;> simp_all [Im.atomic, cellOK]
      · exact View.of_mono vPlaces_old (L i v hv)
    · have hφ : vPlaces (⟨b, o, o + c * size, size, vals⟩ :: vs) vs.length = some ⟨b, o, vals.length, o + c * size, size⟩ := by
        simp only [vPlaces, vAt_cons, if_true, Option.map_some, View.loc]
      have := RV.unknown (φ := vPlaces (⟨b, o, o + c * size, size, vals⟩ :: vs)) vs.length 0 k c _ hφ hkc (by simp only; omega) (by simp only; omega) (by simp only; omega)
      simpa using this
    · right; right
      refine ⟨vs.length, 0, vals, rfl, by simp [big], ?_, ?_, by omega, ?_, .inr rfl⟩
      · rw [laid_size]; simp
      · rw [laid_get _ _ ⟨b, o, o + c * size, size, vals⟩ (by rw [vAt_cons, if_pos rfl])]
        rfl
      · rw [List.drop_zero, List.take_of_length_le (by omega)]
end Go.Im
namespace Go.Proofs.YtjlaenglmdpboaaGreat.Line2
open Go Go.Im Go.Im.Lexing Go.ChangeShapes Go.WideShapes Go.ChangeAt Go.RowKit Go.Deep
theorem ncells_len (l : List NR) : (ncells l).length = l.length * 2 := by
  induction l with
  | nil => rfl
  | cons p l ih => simp only [ncells, List.flatMap_cons, List.length_append, List.length_cons, List.length_nil] at ih ⊢; omega
theorem ncells_atomic (l : List NR) : (ncells l).all Im.atomic = true := by
  rw [List.all_eq_true]
  intro x hx
  simp only [ncells, List.mem_flatMap] at hx
  obtain ⟨p, _, hx⟩ := hx
  simp at hx
  rcases hx with rfl | rfl <;> rfl
theorem ncells_take (l : List NR) (k : Nat) : (ncells l).take (k * 2) = ncells (l.take k) := by
  induction l generalizing k with
  | nil => simp [ncells]
  | cons p l ih =>
    cases k with
    | zero => simp [ncells]
    | succ k =>
      rw [show (k + 1) * 2 = k * 2 + 2 by omega]
      show _ :: _ :: (ncells l).take (k * 2) = _
      rw [ih]
      rfl
/-- Names among the arguments. -/
theorem names_at {H : Type} {enc : TypeId × Value → H} {P : Program} {t e : TypeId} {f0 f1 : Field} (ht : P.underlying t = some (.slice e)) (he : P.underlying e = some (.struct #[f0, f1])) (ce : P.cellsOf e = 2) (o0 : f0.offset = 0) (o1 : f1.offset = 1)
    (c0 : P.cellsOf f0.type = 1) (c1 : P.cellsOf f1.type = 1) (u0 : P.underlying f0.type = some .string) (u1 : P.underlying f1.type = some (.int .i64))
    {W : World} {a : Option Addr} {k c : Nat} {d : DataW H} {p : List MemPlace} (h : DataW.Trod enc P W 0 (fun _ => true) true t (.slice a k c) d p) :
    ∃ l : List NR, Arg W a (k * 2) (c * 2) (ncells l) ∧ l.length = k ∧ k ≤ c := by
  obtain ⟨fuel, hf⟩ := h
  rcases open_slice_pairs ht he ce o0 o1 c0 c1 hf with ⟨hcs, _⟩ | ⟨a', len, cap, m, n, V0, V1, D0, D1, P0, P1, hcs, _, hlc, hcm, hm, _, hx⟩
  · simp [Value.cells] at hcs
    obtain ⟨rfl, rfl, rfl⟩ := hcs
    exact ⟨[], ⟨rfl, Nat.le_refl _, .inl ⟨rfl, rfl⟩⟩, rfl, Nat.le_refl _⟩
  · simp [Value.cells] at hcs
    obtain ⟨rfl, rfl, rfl⟩ := hcs
    simp only [if_true] at hm
    subst hm
    have each : ∀ i, i < m → ∃ q : NR, V0 i = .string q.1 ∧ V1 i = .int .i64 q.2 := by
      intro i hi
      obtain ⟨_, _, g0, g1⟩ := hx i hi
      obtain ⟨s, hs, _⟩ := DataW.trod_string u0 g0
      obtain ⟨z, hz, _⟩ := DataW.trod_int u1 g1
      simp at hs hz
      exact ⟨(s, z), hs, hz⟩
    have : Inhabited NR := ⟨(ByteArray.empty, 0)⟩
    obtain ⟨q, hq⟩ := choose_lt each
    obtain ⟨l, hl⟩ : ∃ l, l = (List.range m).map q := ⟨_, rfl⟩
    have hll : l.length = m := by simp [hl]
    have hget : ∀ i, i < m → l[i]? = some (q i) := by
      intro i hi
      rw [hl, List.getElem?_map, List.getElem?_range hi]
      rfl
    have hA := Arg.of_cells (W := W) (a := a') (k := k * 2) (c := m * 2) (vals := ncells l) (by rw [ncells_len, hll]) (by omega) (fun j hj => by
      obtain ⟨g0, g1⟩ := ncells_get (hget (j / 2) (by omega))
      obtain ⟨e0, e1, _, _⟩ := hx (j / 2) (by omega)
      obtain ⟨q0, q1⟩ := hq (j / 2) (by omega)
      rcases Nat.mod_two_eq_zero_or_one j with hj0 | hj0
      · have hj' : j / 2 * 2 = j := by omega
        rw [hj'] at g0 e0
        rw [g0, e0, q0]
      · have hj' : j / 2 * 2 + 1 = j := by omega
        rw [hj'] at g1 e1
        rw [g1, e1, q1])
    rw [ncells_take] at hA
    exact ⟨l.take k, hA, by simp; omega, hlc⟩
end Go.Proofs.YtjlaenglmdpboaaGreat.Line2
