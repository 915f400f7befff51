/- Proved here: acts among the arguments of a law; no condition beyond those that each rule names. -/
import Derived.Test.YtjamnjbfcecnnaaLL21
import Derived.Test.YtjamnjbfcecnnaaLL27
set_option linter.unusedSimpArgs false
set_option linter.unusedVariables false
namespace Go.Im
open Go.RowKit
/-- One more slice, of cells that point to what is laid already. -/
theorem LaidOK.block {W : World} {vs : List View} (L : LaidOK W vs) {size : Nat} (hs : 0 < size) {b o k c : Nat} {cc : Array Value} {e : TypeId} {fr : Nat × Nat} (hb : W.heap[b]? = some (.cells cc e fr)) (hkc : k ≤ c) (hc : 0 < c) (hoc : o + c * size ≤ cc.size)
    {xs : List Value} (hxl : xs.length = k * size) (hrel : ∀ (i : Nat) (x : Value), xs[i]? = some x → cellOK x = true ∧ ∃ y, cc[o + i]? = some y ∧ RV (vPlaces vs) x y) :
    ∃ vs' a' c', LaidOK W vs' ∧ (∀ b l, vPlaces vs b = some l → vPlaces vs' b = some l) ∧ Ext (laid vs) (laid vs') ∧ RV (vPlaces vs') (.slice a' k c') (.slice (some ⟨b, o, none⟩) k c) ∧ Sl (laid vs') size a' k c' xs := by
  have hkcs : k * size ≤ c * size := Nat.mul_le_mul_right _ hkc
  refine ⟨⟨b, o, o + c * size, size, xs⟩ :: vs, some ⟨vs.length, 0, none⟩, big, ?_, vPlaces_old, (Ext.refl _).push _, ?_, ?_⟩
  · intro i v hv
    rw [vAt_cons] at hv
    split at hv
    · cases hv
      refine ⟨hs, cc, e, fr, hb, by simp only; omega, fun i x hi => ?_⟩
      obtain ⟨h1, y, h2, h3⟩ := hrel i x hi
      exact ⟨h1, y, h2, h3.mono vPlaces_old⟩
    · exact View.of_mono vPlaces_old (L i v hv)
  · have hφ : vPlaces (⟨b, o, o + c * size, size, xs⟩ :: vs) vs.length = some ⟨b, o, xs.length, o + c * size, size⟩ := by
      simp only [vPlaces, vAt_cons, if_true, Option.map_some, View.loc]
    have := RV.unknown (φ := vPlaces (⟨b, o, o + c * size, size, xs⟩ :: vs)) vs.length 0 k c _ hφ hkc (by simp only; omega) (by simp only; omega) (by simp only; omega)
    simpa using this
  · right; right
    refine ⟨vs.length, 0, xs, rfl, by simp [big], ?_, ?_, by omega, ?_, .inr rfl⟩
    · rw [laid_size]; simp
    · rw [laid_get _ _ ⟨b, o, o + c * size, size, xs⟩ (by rw [vAt_cons, if_pos rfl])]
      rfl
    · rw [List.drop_zero, List.take_of_length_le (by omega)]
/-- Cells that lie one behind the other lie in one block. -/
theorem cells_block {W : World} {a : Addr} {c : Nat} (hc : 0 < c) {f : Nat → Value} (h : ∀ i, i < c → W.cell? (a.add i) = some (f i)) :
    ∃ b o cc e fr, a = ⟨b, o, none⟩ ∧ W.heap[b]? = some (.cells cc e fr) ∧ o + c ≤ cc.size ∧ ∀ i, i < c → cc[o + i]? = some (f i) := by
  obtain ⟨b, o, sp⟩ := a
  have c0 := h 0 hc
  have hadd0 : (⟨b, o, sp⟩ : Addr).add 0 = ⟨b, o, sp⟩ := rfl
  rw [hadd0] at c0
  unfold World.cell? at c0
  split at c0
  · rename_i cc e fr hb
    split at c0
    · cases c0
    · rename_i hsp
      have hsp' : sp = none := by cases sp with
        | none => rfl
        | some z => simp at hsp
      subst hsp'
      have all : ∀ i, i < c → cc[o + i]? = some (f i) := by
        intro i hi
        have cl := h i hi
        rw [addr_add] at cl
        simp only [World.cell?, hb] at cl
        simpa using cl
      refine ⟨b, o, cc, e, fr, rfl, hb, ?_, all⟩
      have := (Array.getElem?_eq_some_iff.1 (all (c - 1) (by omega))).1
      omega
  · cases c0
end Go.Im
namespace Go.Proofs.Ytjamnjbfcecnnaa.L28
open Go Go.Im Go.Im.Lib Go.ChangeShapes Go.WideShapes Go.ChangeAt Go.RowKit Go.Deep Go.Joins Go.Proofs.Ytjamnjbfcecnnaa.L20
/-- An act in the world. -/
structure RAct where
  kd : Int
  nms : List ByteArray
  xs : List Int
  a1 : Option Addr
  c1 : Nat
  a2 : Option Addr
  c2 : Nat
def RAct.cells (r : RAct) : List Value := [.int .i64 r.kd, .slice r.a1 r.nms.length r.c1, .slice r.a2 r.xs.length r.c2]
def RAct.ok (W : World) (r : RAct) : Prop := Arg W r.a1 r.nms.length r.c1 (r.nms.map Value.string) ∧ Arg W r.a2 r.xs.length r.c2 (r.xs.map (Value.int .i64)) ∧ ∀ s ∈ r.nms, s.size ≤ maxLen
def RAct.act (r : RAct) : Act3 := (r.kd, r.nms, r.xs)
theorem lay_acts {W : World} : ∀ (rs : List RAct) {vs0 : List View}, LaidOK W vs0 → (∀ r ∈ rs, r.ok W) → ∃ vs xs, LaidOK W vs ∧ (∀ b l, vPlaces vs0 b = some l → vPlaces vs b = some l) ∧ Ext (laid vs0) (laid vs) ∧ AV (laid vs) xs (rs.map RAct.act) ∧
    ∀ (i : Nat) (x : Value), xs[i]? = some x → cellOK x = true ∧ ∃ y, (rs.flatMap RAct.cells)[i]? = some y ∧ RV (vPlaces vs) x y
  | [], vs0, L0, _ => ⟨vs0, [], L0, fun _ _ h => h, Ext.refl _, ⟨rfl, by intro i kd nms xs h; simp at h⟩, by intro i x h; simp at h⟩
  | r :: rs, vs0, L0, hok => by
    obtain ⟨A1, A2, hsz⟩ := hok r (by simp)
    obtain ⟨v1, b1, d1, L1, m1, x1, r1, s1, _⟩ := L0.line A1 (by simp [Im.atomic])
    obtain ⟨v2, b2, d2, L2, m2, x2, r2, s2, _⟩ := L1.line A2 (by simp [Im.atomic])
    obtain ⟨vs, xs, L, m, x, av, rel⟩ := lay_acts rs L2 fun r' hr => hok r' (by simp [hr])
    refine ⟨vs, [.int .i64 r.kd, .slice b1 r.nms.length d1, .slice b2 r.xs.length d2] ++ xs, L, fun b l h => m b l (m2 b l (m1 b l h)), x1.trans (x2.trans x), ⟨?_, fun i kd nms ys hi => ?_⟩, fun i y hy => ?_⟩
    · have := av.1
      simp only [List.length_map] at this
      simp only [List.length_append, List.length_cons, List.length_nil, List.length_map, this]
      omega
    · cases i with
      | zero =>
        simp [RAct.act] at hi
        obtain ⟨rfl, rfl, rfl⟩ := hi
        exact ⟨b1, d1, b2, d2, rfl, rfl, rfl, s1.ext (x2.trans x), s2.ext x, hsz⟩
      | succ i =>
        obtain ⟨na, nc, la, lc, g1, g2, g3, g4⟩ := av.2 i kd nms ys (by simpa using hi)
        refine ⟨na, nc, la, lc, ?_, ?_, ?_, g4⟩
        · rw [show (i + 1) * 3 = i * 3 + 3 by omega]; exact g1
        · rw [show (i + 1) * 3 + 1 = i * 3 + 1 + 3 by omega]; exact g2
        · rw [show (i + 1) * 3 + 2 = i * 3 + 2 + 3 by omega]; exact g3
    · match i, hy with
      | 0, hy =>
        cases hy
        exact ⟨rfl, _, rfl, .int _ _⟩
      | 1, hy =>
        cases hy
        exact ⟨rfl, _, rfl, (r1.mono m2).mono m⟩
      | 2, hy =>
        cases hy
        exact ⟨rfl, _, rfl, r2.mono m⟩
      | i + 3, hy =>
        obtain ⟨k1, z, k2, k3⟩ := rel i y (by simpa using hy)
        exact ⟨k1, z, by simpa [RAct.cells] using k2, k3⟩
theorem cells_len (rs : List RAct) : (rs.flatMap RAct.cells).length = rs.length * 3 := by
  induction rs with
  | nil => rfl
  | cons r rs ih => simp only [List.flatMap_cons, List.length_append, RAct.cells, List.length_cons, List.length_nil, ih]; omega
theorem cells_at : ∀ (rs : List RAct) (i : Nat) (r : RAct), rs[i]? = some r → ∀ j, j < 3 → (rs.flatMap RAct.cells)[i * 3 + j]? = r.cells[j]?
  | [], i, r, h, _, _ => by simp at h
  | q :: rs, 0, r, h, j, hj => by
    cases h
    rw [List.flatMap_cons, List.getElem?_append_left (by simp [RAct.cells]; omega)]
    simp
  | q :: rs, i + 1, r, h, j, hj => by
    rw [List.flatMap_cons, List.getElem?_append_right (by simp [RAct.cells]; omega)]
    have e : (i + 1) * 3 + j - q.cells.length = i * 3 + j := by simp [RAct.cells]; omega
    rw [e]
    exact cells_at rs i r (by simpa using h) j hj
theorem cells_take (rs : List RAct) (k : Nat) (hk : k ≤ rs.length) {j : Nat} {y : Value} (h : ((rs.take k).flatMap RAct.cells)[j]? = some y) : (rs.flatMap RAct.cells)[j]? = some y := by
  have e : rs = rs.take k ++ rs.drop k := (List.take_append_drop k rs).symm
  have hj := (List.getElem?_eq_some_iff.1 h).1
  rw [e, List.flatMap_append, List.getElem?_append_left hj]
  exact h
set_option maxRecDepth 100000 in
/-- Acts among the arguments. -/
theorem acts_of {H : Type} {enc : TypeId × Value → H} {W : World} {a : Option Addr} {k c : Nat} {d : DataW H} {p : List MemPlace} (h : DataW.Trod enc Try.prog W 0 (fun _ => true) true 38 (.slice a k c) d p) :
    ∃ rs : List RAct, rs.length = k ∧ (∀ r ∈ rs, r.ok W) ∧ ((a = none ∧ k = 0 ∧ c = 0) ∨ (k = 0 ∧ c = 0 ∧ ∃ ad, a = some ad) ∨ (0 < c ∧ k ≤ c ∧ ∃ b o cc e fr, a = some ⟨b, o, none⟩ ∧ W.heap[b]? = some (.cells cc e fr) ∧ o + c * 3 ≤ cc.size ∧ ∀ (j : Nat) y, (rs.flatMap RAct.cells)[j]? = some y → cc[o + j]? = some y)) := by
  obtain ⟨fuel, hf⟩ := h
  rcases open_slice Try.underlying38 hf with ⟨hcs, _⟩ | ⟨a', len, cap, m, n', D, Pl, hcs, _, hlc, hcm, hm, _, hx⟩
  · simp [Value.cells] at hcs
    obtain ⟨rfl, rfl, rfl⟩ := hcs
    exact ⟨[], rfl, by simp, .inl ⟨rfl, rfl, rfl⟩⟩
  · simp [Value.cells] at hcs
    obtain ⟨rfl, rfl, rfl⟩ := hcs
    simp only [if_true] at hm
    subst hm
    have ce : Try.prog.cellsOf 50 = 3 := by kernel_rfl
    have each : ∀ i, i < m → ∃ r : RAct, r.ok W ∧ ∀ j, j < 3 → W.cell? (a'.add (i * 3 + j)) = r.cells[j]? := by
      intro i hi
      obtain ⟨cs', h1, h2⟩ := hx i hi
      rw [ce] at h1
      obtain ⟨_, hlen, hcell⟩ := World.cells?_some h1
      obtain ⟨xs, kk, hk, hxy, _, hxl, hf⟩ := DataW.trod_struct Try.underlying50 h2
      match xs, hxl, cs', hlen with
      | [y0, y1, y2], _, [v0, v1, v2], _ =>
        have g0 := hf 0 _ rfl
        have g1 := hf 1 _ rfl
        have g2 := hf 2 _ rfl
        have c0 : Try.prog.cellsOf 3 = 1 := by kernel_rfl
        have c1 : Try.prog.cellsOf 27 = 1 := by kernel_rfl
        have c2 : Try.prog.cellsOf 48 = 1 := by kernel_rfl
        simp [c0, c1, c2] at g0 g1 g2
        have e0 := hcell 0 (by omega)
        have e1 := hcell 1 (by omega)
        have e2 := hcell 2 (by omega)
        rw [add_add] at e0 e1 e2
        obtain ⟨kd, hkd, _⟩ := DataW.trod_int Try.underlying3 g0
        obtain ⟨a1, k1, c1', rfl, ls, A, hl, hsz⟩ := L21.texts_at Try.underlying27 Try.underlying9 (by kernel_rfl) g1
        obtain ⟨a2, k2, c2', rfl, ys, B, hy, _⟩ := L21.ints_at Try.underlying48 Try.underlying3 (by kernel_rfl) g2
        simp at hkd
        subst hkd
        subst hl
        subst hy
        refine ⟨⟨kd, ls, ys, a1, c1', a2, c2'⟩, ⟨A, B, hsz⟩, fun j hj => ?_⟩
        obtain rfl | rfl | rfl : j = 0 ∨ j = 1 ∨ j = 2 := by omega
        · simpa [RAct.cells] using e0
        · simpa [RAct.cells] using e1
        · simpa [RAct.cells] using e2
    have : Inhabited RAct := ⟨⟨0, [], [], none, 0, none, 0⟩⟩
    obtain ⟨q, hq⟩ := choose_lt each
    obtain ⟨l, hl⟩ : ∃ l, l = (List.range m).map q := ⟨_, rfl⟩
    have hll : l.length = m := by simp [hl]
    have hget : ∀ i, i < m → l[i]? = some (q i) := by
      intro i hi
      rw [hl, List.getElem?_map, List.getElem?_range hi]
      rfl
    have hok : ∀ r ∈ l, r.ok W := by
      intro r hr
      rw [hl] at hr
      obtain ⟨i, hi, rfl⟩ := List.mem_map.1 hr
      exact (hq i (List.mem_range.1 hi)).1
    refine ⟨l.take k, by simp; omega, fun r hr => hok r (List.mem_of_mem_take hr), ?_⟩
    by_cases h0 : m = 0
    · subst h0
      exact .inr (.inl ⟨by omega, rfl, a', rfl⟩)
    · refine .inr (.inr ⟨by omega, hlc, ?_⟩)
      obtain ⟨b, o, cc, e, fr, rfl, hb, hsz, hall⟩ := cells_block (W := W) (a := a') (c := m * 3) (by omega) (f := fun j => ((l.flatMap RAct.cells)[j]?).getD undef) (fun j hj => by
        have hr := (hq (j / 3) (by omega)).2 (j % 3) (by omega)
        have hc := cells_at l (j / 3) _ (hget (j / 3) (by omega)) (j % 3) (by omega)
        have hj' : j / 3 * 3 + j % 3 = j := by omega
        rw [hj'] at hr hc
        rw [hr, hc]
        have : (q (j / 3)).cells.length = 3 := rfl
        rw [List.getElem?_eq_getElem (by omega)]
        rfl)
      refine ⟨b, o, cc, e, fr, rfl, hb, hsz, fun j y hy => ?_⟩
      have h2 := cells_take l k (by omega) hy
      have hj := (List.getElem?_eq_some_iff.1 h2).1
      rw [cells_len, hll] at hj
      rw [hall j hj, h2]
      rfl
end Go.Proofs.Ytjamnjbfcecnnaa.L28
