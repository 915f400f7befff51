/- Proved here: the given statement LibNobody, at every input; no condition. -/
import Derived.Test.YtjamnjbfcecnnaaLL21
import Derived.Test.YtjamnjbfcecnnaaLL20
set_option linter.unusedSimpArgs false
set_option linter.unusedVariables false
namespace Go.Proofs.Ytjamnjbfcecnnaa.libNobody
open Go Go.Im Go.ChangeShapes Go.WideShapes Go.ChangeAt Go.RowKit Go.Deep Go.Joins Go.Proofs.Ytjamnjbfcecnnaa.L3
set_option linter.unusedVariables false
theorem calls (kd : Int) (ls : List ByteArray) (xs : List Int) (W : World) {a a2 : Option Addr} {k c k2 c2 : Nat} (A : Arg W a k c (ls.map Value.string)) (hl : ls.length = k) (B : Arg W a2 k2 c2 (xs.map (Value.int .i64))) (hx : xs.length = k2) :
    Calls Try.prog 7 #[.agg #[.int .i64 kd, .slice a k c, .slice a2 k2 c2]] W fun e W' => e = .returned (.bool true) ∧ Below W.heap.size W W' := by
  obtain ⟨v1, b, d, Q1, m1, x1, r1, s1, hc⟩ := (LaidOK.nil W).line A (by simp [Im.atomic])
  obtain ⟨v2, b2, d2, Q2, m2, x2, r2, s2, hc2⟩ := Q1.line B (by simp [Im.atomic])
  subst hl
  exact calls_laid (K := Hd.K) Hd.Kok Q2 (args := #[.agg #[.int .i64 kd, .slice b ls.length d, .slice b2 k2 d2]]) (RL.cons (RV.agg_list (RL.cons (.int _ _) (RL.cons (r1.mono m2) (RL.cons r2 (RL.nil _))))) (RL.nil _)) rfl
    (L20.law_run ls _ _ _ (s1.ext x2) rfl rfl rfl)

set_option maxRecDepth 100000 in
theorem lifted (os : Os) (started : os.Started) (H : Type) (enc : TypeId × Value → H) :
    ReturnsInHanded {} Try.checked os 7 .any (Rows.libNobodySpec.pre6 enc Try.prog Try.f7 Rows.libNobodyRow.domain false) (Rows.libNobodySpec.post enc Try.prog Try.f7 false true false false) := by
  refine returnsInHanded_of_change_sized (C := Try.checked) own started (by kernel_rfl) Try.func7
    (ChangeSpec.witness6 (enc := enc) (C := Try.checked) false ⟨#[], #[.agg #[.int .i64 0, .slice none 0 0, .slice none 0 0]], []⟩ 8 (by kernel_rfl) (by kernel_rfl) (by kernel_rfl) (by kernel_rfl)) ?_
  intro W base args ds gs before hval0 hW hcnd hsz0 _
  have hval : ∀ (j : Nat) t v, Try.f7.params[j]? = some t → args[j]? = some v → Value.okWide Try.prog W .any base t v := hval0
  have hW' := hW
  obtain ⟨p, q, hA0, hV, rfl, hfz, hnd⟩ := hW
  have hA : DataW.TrodAll enc Try.prog W 0 (fun _ => true) true Try.f7.params.toList args.toList ds p := hA0
  rw [Try.params7] at hA hval
  obtain ⟨v0, d0, rfl, rfl, h0⟩ := trodAll_one hA
  obtain ⟨rfl, rfl⟩ := trodVars_none hV
  clear hA0 hval0 hsz0
  simp only [List.append_nil] at hW'
  have harg0 : ∀ W', Below W.heap.size W W' → DataW.Trod enc Try.prog W' 0 (fun b => decide (b < W.heap.size)) true 50 v0 d0 p := fun W' hb =>
    Below.trod laidOut (by kernel_rfl) (of_decide_eq_true (by kernel_rfl)) h0 hb (fun x hx => by simpa using hW'.lt x hx)
  obtain ⟨q0, q1, q2, y0, y1, y2, fuel, rfl, e1, e2, t0, t1, t2⟩ := open_agg3 Try.underlying50 (by kernel_rfl) (by kernel_rfl) (hval 0 50 v0 rfl rfl) h0
  obtain ⟨kd, hkd, _⟩ := DataW.trod_int Try.underlying3 t0
  simp only [List.cons.injEq, and_true] at hkd
  subst hkd
  obtain ⟨a1, k1, c1, rfl, ls, A, hl, _⟩ := L21.texts_at Try.underlying27 Try.underlying9 (by kernel_rfl) t1
  obtain ⟨a2, k2, c2, rfl, xs, B, hx, _⟩ := L21.ints_at Try.underlying48 Try.underlying3 (by kernel_rfl) t2
  refine (calls kd ls xs W A hl B hx).mono fun e W' ⟨he, bel⟩ => ?_
  subst he
  exact ⟨_, rfl, _, _, _, [], _, [], hW', trodAll_mk1 (shut_bool Try.underlying4 _), trodAll_mk1 (harg0 W' bel), rfl, bel.frame _, fun h => by cases h⟩
theorem over : Rows.libNobodyRow.holds Try.pinned (OpenSpec.ofChange Rows.libNobodySpec) :=
  OpenClaim.holds_of_wide 7 Try.f7 rfl rfl rfl rfl rfl rfl rfl ⟨rfl, rfl, rfl, rfl, rfl⟩ rfl rfl rfl rfl rfl (by kernel_rfl) Try.func7 (by kernel_rfl)
    (of_decide_eq_true (by kernel_rfl)) (by unfold Func.isWrapper; first | (rw [if_pos (by decide +kernel)]; kernel_rfl) | (rw [if_neg (by decide +kernel)]; exact ⟨rfl, rfl⟩))
    (fun os started H enc _ => lifted os started H enc)
theorem proved : Rows.LibNobodySaid := over
#print axioms proved
end Go.Proofs.Ytjamnjbfcecnnaa.libNobody
namespace Go.Proofs.Ytjamnjbfcecnnaa
/-- The row, under a short name, for the claim. -/
theorem libNobody_holds : Rows.LibNobodySaid := libNobody.proved
end Go.Proofs.Ytjamnjbfcecnnaa
