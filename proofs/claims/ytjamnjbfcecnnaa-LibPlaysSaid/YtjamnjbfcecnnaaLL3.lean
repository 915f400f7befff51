/- Proved here: lines among the arguments of a law; no condition beyond those that each rule names. -/
import Derived.Test.YtjamnjbfcecnnaaRows
import Derived.Test.YtjamnjbfcecnnaaIm4
import Derived.WalkKit
import Derived.ProofKit
import Derived.OpenShut
import Derived.ShutString
import Derived.ChangeOld
import Derived.Below
import Derived.Carry
import Derived.SizedLaws
set_option linter.unusedSimpArgs false
set_option linter.unusedVariables false
namespace Go.Im
open Go.RowKit
/-- One more line is laid. -/
theorem LaidOK.line {W : World} {vs : List View} (L : LaidOK W vs) {a : Option Addr} {k c : Nat} {vals : List Value} (A : Arg W a k c vals) (hat : vals.all Im.atomic = true) :
    ∃ vs' a' c', LaidOK W vs' ∧ (∀ b l, vPlaces vs b = some l → vPlaces vs' b = some l) ∧ Ext (laid vs) (laid vs') ∧ RV (vPlaces vs') (.slice a' k c') (.slice a k c) ∧ Sl (laid vs') 1 a' k c' vals ∧ (c' = 0 ∨ c' = big) := by
  obtain ⟨hl, hk, h⟩ := A
  rcases h with ⟨rfl, rfl⟩ | ⟨rfl, ad, rfl⟩ | ⟨b, o, cc, e, fr, rfl, hc, hb, hoc, hcell⟩
  · have : k = 0 := by omega
    subst this
    have hv : vals = [] := List.eq_nil_of_length_eq_zero hl
    subst hv
    exact ⟨vs, none, 0, L, fun _ _ h => h, Ext.refl _, .nilSlice, Sl.nil _ _, .inl rfl⟩
  · have : k = 0 := by omega
    subst this
    have hv : vals = [] := List.eq_nil_of_length_eq_zero hl
    subst hv
    exact ⟨vs, some ⟨0, 0, none⟩, 0, L, fun _ _ h => h, Ext.refl _, .void 0 0 ad, .inr (.inl ⟨0, 0, rfl, rfl, rfl, rfl⟩), .inl rfl⟩
  · refine ⟨⟨b, o, o + c, 1, vals⟩ :: vs, some ⟨vs.length, 0, none⟩, big, ?_, vPlaces_old, (Ext.refl _).push _, ?_, ?_, .inr rfl⟩
    · intro i v hv
      rw [vAt_cons] at hv
      split at hv
      · cases hv
        refine ⟨by simp, cc, e, fr, hb, by simp; omega, fun i x hi => ?_⟩
        have hx : Im.atomic x = true := List.all_eq_true.1 hat x (List.mem_of_getElem? hi)
        refine ⟨?_, x, hcell i x hi, RV.atomic _ hx⟩
        cases x <;> simp_all [Im.atomic, cellOK]
      · exact View.of_mono vPlaces_old (L i v hv)
    · have hφ : vPlaces (⟨b, o, o + c, 1, vals⟩ :: vs) vs.length = some ⟨b, o, vals.length, o + c, 1⟩ := by
        simp only [vPlaces, vAt_cons, if_true, Option.map_some, View.loc]
      have := RV.unknown (φ := vPlaces (⟨b, o, o + c, 1, vals⟩ :: vs)) vs.length 0 k c _ hφ hk (by simp; omega) (by simp; omega) (by simp)
      simpa using this
    · right; right
      refine ⟨vs.length, 0, vals, rfl, by simp [big], ?_, ?_, by simp; omega, ?_, .inr rfl⟩
      · rw [laid_size]; simp
      · rw [laid_get _ _ ⟨b, o, o + c, 1, vals⟩ (by rw [vAt_cons, if_pos rfl])]
        rfl
      · rw [List.drop_zero, List.take_of_length_le (by omega)]
end Go.Im
namespace Go.Proofs.Ytjamnjbfcecnnaa.L3
open Go Go.Im Go.ChangeShapes Go.WideShapes Go.ChangeAt Go.RowKit
set_option linter.unusedVariables false
theorem own : ownKnob Try.prog.godebug = none := by kernel_rfl
theorem laidOut : laidOutB Try.prog = true := by kernel_rfl
end Go.Proofs.Ytjamnjbfcecnnaa.L3
