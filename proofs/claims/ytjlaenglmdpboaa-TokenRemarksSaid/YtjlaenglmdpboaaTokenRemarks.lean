/- Proved here: the given statement TokenRemarks, at every input; no condition. -/
import Derived.Test.YtjlaenglmdpboaaLine
set_option linter.unusedSimpArgs false
set_option linter.unusedVariables false
namespace Go.Proofs.Ytjlaenglmdpboaa.tokenRemarks
open Go Go.Im Go.ChangeShapes Go.WideShapes Go.ChangeAt Go.RowKit Go.Proofs.Ytjlaenglmdpboaa.Line
set_option linter.unusedVariables false

theorem calls (l more : List Int) (W : World) {a b : Option Addr} {k c m d : Nat} (A : Arg W a k c (rv l)) (B : Arg W b m d (rv more)) (hl : l.length = k) (hm : more.length = m) (hk : k ≤ maxLen) :
    Calls Try.prog 3 #[.slice a k c, .slice b m d] W fun e W' => e = .returned (.bool true) ∧ Below W.heap.size W W' := by
  obtain ⟨v1, a', c', L1, m1, x1, r1, s1, hc⟩ := (LaidOK.nil W).line A (rv_atomic l)
  obtain ⟨v2, b', d', L2, m2, x2, r2, s2, _⟩ := L1.line B (rv_atomic more)
  subst hl
  subst hm
  refine calls_laid (K := Hd.K) Hd.Kok L2 (args := #[.slice a' l.length c', .slice b' more.length d']) ?_ rfl (N26.remarks_run l more _ (s1.ext x2) s2 hc)
  exact RL.cons (r1.mono m2) (RL.cons r2 (RL.nil _))

set_option maxRecDepth 100000 in
theorem lifted (os : Os) (started : os.Started) (H : Type) (enc : TypeId × Value → H) :
    ReturnsInHanded {} Try.checked os 3 .any (Rows.tokenRemarksSpec.pre6 enc Try.prog Try.f3 Rows.tokenRemarksRow.domain false) (Rows.tokenRemarksSpec.post enc Try.prog Try.f3 false true false false) := by
  refine returnsInHanded_of_change_sized (C := Try.checked) own started (by kernel_rfl) Try.func3
    (ChangeSpec.witness6 (enc := enc) (C := Try.checked) false ⟨#[], #[.slice none 0 0, .slice none 0 0], []⟩ 8 (by kernel_rfl) (by kernel_rfl) (by kernel_rfl) (by kernel_rfl)) ?_
  intro W base args ds gs before hval0 hW hcnd hsz0 _
  have hval : ∀ (j : Nat) t v, Try.f3.params[j]? = some t → args[j]? = some v → Value.okWide Try.prog W .any base t v := hval0
  have hW' := hW
  obtain ⟨p, q, hA0, hV, rfl, hfz, hnd⟩ := hW
  have hA : DataW.TrodAll enc Try.prog W 0 (fun _ => true) true Try.f3.params.toList args.toList ds p := hA0
  rw [Try.params3] at hA hval
  obtain ⟨v0, v1, d0, d1, p0, p1, rfl, rfl, rfl, h0, h1⟩ := trodAll_two hA
  obtain ⟨rfl, rfl⟩ := trodVars_none hV
  clear hA0 hval0 hsz0
  simp only [List.append_nil] at hW'
  have hlt : ∀ x ∈ p0 ++ p1, x.block < W.heap.size := fun x hx => by simpa using hW'.lt x hx
  have harg0 : ∀ W', Below W.heap.size W W' → DataW.Trod enc Try.prog W' 0 (fun b => decide (b < W.heap.size)) true 22 v0 d0 p0 := fun W' hb =>
    Below.trod laidOut (by kernel_rfl) (of_decide_eq_true (by kernel_rfl)) h0 hb (fun x hx => hlt x (List.mem_append.2 (.inl hx)))
  have harg1 : ∀ W', Below W.heap.size W W' → DataW.Trod enc Try.prog W' 0 (fun b => decide (b < W.heap.size)) true 22 v1 d1 p1 := fun W' hb =>
    Below.trod laidOut (by kernel_rfl) (of_decide_eq_true (by kernel_rfl)) h1 hb (fun x hx => hlt x (List.mem_append.2 (.inr hx)))
  obtain ⟨a, k, c, rfl⟩ := okWide_slice Try.underlying22 (hval 0 22 v0 rfl rfl)
  obtain ⟨b, m, d, rfl⟩ := okWide_slice Try.underlying22 (hval 1 22 v1 rfl rfl)
  obtain ⟨l, A, hl, hk, _⟩ := opened h0
  obtain ⟨more, B, hm, _, _⟩ := opened h1
  refine (calls l more W A B hl hm hk).mono fun e W' ⟨he, bel⟩ => ?_
  subst he
  exact ⟨_, rfl, _, _, _, [], _, [], hW', trodAll_mk1 (shut_bool Try.underlying4 _), trodAll_mk2 (harg0 W' bel) (harg1 W' bel), rfl, bel.frame _, fun h => by cases h⟩
theorem over : Rows.tokenRemarksRow.holds Try.pinned (OpenSpec.ofChange Rows.tokenRemarksSpec) :=
  OpenClaim.holds_of_wide 3 Try.f3 rfl rfl rfl rfl rfl rfl rfl ⟨rfl, rfl, rfl, rfl, rfl⟩ rfl rfl rfl rfl rfl (by kernel_rfl) Try.func3 (by kernel_rfl)
    (of_decide_eq_true (by kernel_rfl)) (by unfold Func.isWrapper; first | (rw [if_pos (by decide +kernel)]; kernel_rfl) | (rw [if_neg (by decide +kernel)]; exact ⟨rfl, rfl⟩))
    (fun os started H enc _ => lifted os started H enc)
theorem proved : Rows.TokenRemarksSaid := over
#print axioms proved
end Go.Proofs.Ytjlaenglmdpboaa.tokenRemarks
namespace Go.Proofs.Ytjlaenglmdpboaa
/-- The row, under a short name, for the claim. -/
theorem tokenRemarks_holds : Rows.TokenRemarksSaid := tokenRemarks.proved
end Go.Proofs.Ytjlaenglmdpboaa
