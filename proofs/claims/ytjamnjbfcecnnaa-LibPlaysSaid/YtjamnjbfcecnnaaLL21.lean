/- Proved here: texts and whole numbers within arguments; no condition beyond those that each rule names. -/
import Derived.Test.YtjamnjbfcecnnaaLL3
import Derived.Deep.Slices
import Derived.SliceStrings
import Derived.ChangeSame
import Derived.ChangeSlices
import Derived.Lib.SmallJoins
set_option linter.unusedSimpArgs false
set_option linter.unusedVariables false
namespace Go.Proofs.Ytjamnjbfcecnnaa.L21
open Go Go.Im Go.ChangeShapes Go.WideShapes Go.ChangeAt Go.RowKit Go.Deep Go.Joins
/-- Texts within an argument. -/
theorem texts_at {H : Type} {enc : TypeId × Value → H} {P : Program} {t e : TypeId} (ht : P.underlying t = some (.slice e)) (he : P.underlying e = some .string) (ce : P.cellsOf e = 1)
    {W : World} {v : Value} {n : Nat} {y : DataW H × List MemPlace} (h : DataW.trod enc P W 0 (fun _ => true) true n t [v] = some y) :
    ∃ a k c, v = .slice a k c ∧ ∃ ls : List ByteArray, Arg W a k c (ls.map Value.string) ∧ ls.length = k ∧ ∀ s ∈ ls, s.size ≤ maxLen := by
  rcases open_strings ht he ce h with ⟨hcs, _⟩ | ⟨a', k', c', ss, hcs, _, hk, hm, hz, _, hcell, hwf⟩
  · simp at hcs
    subst hcs
    exact ⟨_, _, _, rfl, [], ⟨rfl, Nat.le_refl _, .inl ⟨rfl, rfl⟩⟩, rfl, by simp⟩
  · simp at hcs
    subst hcs
    simp only [if_true] at hz
    refine ⟨_, _, _, rfl, ss.take k', ?_, by simp; omega, fun s hs => hwf s (List.mem_of_mem_take hs)⟩
    have := Arg.of_cells (W := W) (a := a') (k := k') (c := c') (vals := ss.map Value.string) (by simp [hz]) hk (fun i hi => by
      rw [hcell i (by omega)]
      simp [List.getD, List.getElem?_eq_getElem (show i < ss.length by omega)])
    rw [← List.map_take] at this
    exact this
/-- Whole numbers within an argument. -/
theorem ints_at {H : Type} {enc : TypeId × Value → H} {P : Program} {t e : TypeId} {k' : IntKind} (ht : P.underlying t = some (.slice e)) (he : P.underlying e = some (.int k')) (ce : P.cellsOf e = 1)
    {W : World} {v : Value} {n : Nat} {y : DataW H × List MemPlace} (h : DataW.trod enc P W 0 (fun _ => true) true n t [v] = some y) :
    ∃ a k c, v = .slice a k c ∧ ∃ l : List Int, Arg W a k c (l.map (Value.int k')) ∧ l.length = k ∧ ∀ x ∈ l, (Lit.int k' x).wf = true := by
  rcases open_ints ht he ce h with ⟨hcs, _⟩ | ⟨a', k, c, zs, hcs, _, hk, hm, hz, _, hcell, hwf⟩
  · simp at hcs
    subst hcs
    exact ⟨_, _, _, rfl, [], ⟨rfl, Nat.le_refl _, .inl ⟨rfl, rfl⟩⟩, rfl, by simp⟩
  · simp at hcs
    subst hcs
    simp only [if_true] at hz
    refine ⟨_, _, _, rfl, zs.take k, ?_, by simp; omega, fun x hx => hwf x (List.mem_of_mem_take hx)⟩
    have := Arg.of_cells (W := W) (a := a') (k := k) (c := c) (vals := zs.map (Value.int k')) (by simp [hz]) hk (fun i hi => by
      rw [hcell i (by omega)]
      simp [List.getD, List.getElem?_eq_getElem (show i < zs.length by omega)])
    rw [← List.map_take] at this
    exact this
end Go.Proofs.Ytjamnjbfcecnnaa.L21
