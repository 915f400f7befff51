/- Proved here: the given statement TokenOpens, at every input; no condition. -/
import Derived.Test.YtjlaenglmdpboaaLine
import Derived.Test.YtjlaenglmdpboaaT1
set_option linter.unusedSimpArgs false
set_option linter.unusedVariables false
namespace Go.Proofs.Ytjlaenglmdpboaa.tokenOpens
open Go Go.Im Go.ChangeShapes Go.WideShapes Go.ChangeAt Go.RowKit Go.Proofs.Ytjlaenglmdpboaa.Line
set_option linter.unusedVariables false

theorem calls (l : List Int) (y : Int) (W : World) {a : Option Addr} {k c : Nat} (A : Arg W a k c (rv l)) (hl : l.length = k) :
    Calls Try.prog 4 #[.slice a k c, .int .i32 y] W fun e W' => e = .returned (.bool true) ∧ Below W.heap.size W W' := by
  obtain ⟨v1, a', c', L1, m1, x1, r1, s1, hc⟩ := (LaidOK.nil W).line A (rv_atomic l)
  subst hl
  refine calls_laid (K := Hd.K) Hd.Kok L1 (args := #[.slice a' l.length c', .int .i32 y]) ?_ rfl (T1.opens_run l y _ s1 hc)
  exact RL.cons r1 (RL.cons (RV.atomic _ rfl) (RL.nil _))

set_option maxRecDepth 100000 in
theorem lifted (os : Os) (started : os.Started) (H : Type) (enc : TypeId × Value → H) :
    ReturnsInHanded {} Try.checked os 4 .any (Rows.tokenOpensSpec.pre6 enc Try.prog Try.f4 Rows.tokenOpensRow.domain false) (Rows.tokenOpensSpec.post enc Try.prog Try.f4 false true false false) := by
  refine returnsInHanded_of_change_sized (C := Try.checked) own started (by kernel_rfl) Try.func4
    (ChangeSpec.witness6 (enc := enc) (C := Try.checked) false ⟨#[], #[.slice none 0 0, .int .i32 0], []⟩ 8 (by kernel_rfl) (by kernel_rfl) (by kernel_rfl) (by kernel_rfl)) ?_
  intro W base args ds gs before hval0 hW hcnd hsz0 _
  have hval : ∀ (j : Nat) t v, Try.f4.params[j]? = some t → args[j]? = some v → Value.okWide Try.prog W .any base t v := hval0
  have hW' := hW
  obtain ⟨p, q, hA0, hV, rfl, hfz, hnd⟩ := hW
  have hA : DataW.TrodAll enc Try.prog W 0 (fun _ => true) true Try.f4.params.toList args.toList ds p := hA0
  rw [Try.params4] at hA hval
  obtain ⟨v0, v1, d0, d1, p0, p1, rfl, rfl, rfl, h0, h1⟩ := trodAll_two hA
  obtain ⟨rfl, rfl⟩ := trodVars_none hV
  clear hA0 hval0 hsz0
  simp only [List.append_nil] at hW'
  have hlt : ∀ x ∈ p0 ++ p1, x.block < W.heap.size := fun x hx => by simpa using hW'.lt x hx
  have harg0 : ∀ W', Below W.heap.size W W' → DataW.Trod enc Try.prog W' 0 (fun b => decide (b < W.heap.size)) true 22 v0 d0 p0 := fun W' hb =>
    Below.trod laidOut (by kernel_rfl) (of_decide_eq_true (by kernel_rfl)) h0 hb (fun x hx => hlt x (List.mem_append.2 (.inl hx)))
  obtain ⟨a, k, c, rfl⟩ := okWide_slice Try.underlying22 (hval 0 22 v0 rfl rfl)
  obtain ⟨y, rfl, rfl, rfl, w1⟩ := open_int Try.underlying21 (hval 1 21 v1 rfl rfl) h1
  obtain ⟨l, A, hl, hk, _⟩ := opened h0
  refine (calls l y W A hl).mono fun e W' ⟨he, bel⟩ => ?_
  subst he
  exact ⟨_, rfl, _, _, _, [], _, [], hW', trodAll_mk1 (shut_bool Try.underlying4 _), trodAll_mk2 (harg0 W' bel) (shut_int Try.underlying21 w1), rfl, bel.frame _, fun h => by cases h⟩
theorem over : Rows.tokenOpensRow.holds Try.pinned (OpenSpec.ofChange Rows.tokenOpensSpec) :=
  OpenClaim.holds_of_wide 4 Try.f4 rfl rfl rfl rfl rfl rfl rfl ⟨rfl, rfl, rfl, rfl, rfl⟩ rfl rfl rfl rfl rfl (by kernel_rfl) Try.func4 (by kernel_rfl)
    (of_decide_eq_true (by kernel_rfl)) (by unfold Func.isWrapper; first | (rw [if_pos (by decide +kernel)]; kernel_rfl) | (rw [if_neg (by decide +kernel)]; exact ⟨rfl, rfl⟩))
    (fun os started H enc _ => lifted os started H enc)
theorem proved : Rows.TokenOpensSaid := over
#print axioms proved
end Go.Proofs.Ytjlaenglmdpboaa.tokenOpens
namespace Go.Proofs.Ytjlaenglmdpboaa
/-- The row, under a short name, for the claim. -/
theorem tokenOpens_holds : Rows.TokenOpensSaid := tokenOpens.proved
end Go.Proofs.Ytjlaenglmdpboaa
