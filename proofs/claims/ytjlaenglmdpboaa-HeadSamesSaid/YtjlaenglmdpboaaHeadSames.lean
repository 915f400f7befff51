/- Proved here: the given statement HeadSames, at every input; no condition. -/
import Derived.Test.YtjlaenglmdpboaaRows
import Derived.Test.YtjlaenglmdpboaaH23
import Derived.WalkKit
import Derived.ProofKit
import Derived.OpenShut
import Derived.ShutString
import Derived.ChangeOld
import Derived.Below
import Derived.Carry
import Derived.SizedLaws
namespace Go.Proofs.Ytjlaenglmdpboaa.headSames
open Go Go.Im Go.ChangeShapes Go.WideShapes Go.ChangeAt Go.RowKit
open Go.ChangeMaps (open_string shut_string)
set_option linter.unusedVariables false
theorem own : ownKnob Try.prog.godebug = none := by kernel_rfl
theorem laidOut : laidOutB Try.prog = true := by kernel_rfl
set_option maxRecDepth 100000 in
theorem opened {H : Type} {enc : TypeId × Value → H} {W : World} {v : Value} {d : DataW H} {p : List MemPlace} (hval : Value.okWide Try.prog W .any 0 49 v) (h : DataW.Trod enc Try.prog W 0 (fun _ => true) true 49 v d p) :
    ∃ n r l g a k c xs, v = H23.hd n r l g a k c ∧ Arg W a k c (H23.strs xs) ∧ k ≤ maxLen := by
  obtain ⟨fuel, hf⟩ := h
  have hok := hval
  simp only [Value.okWide, Try.underlying49] at hok
  obtain ⟨cs, rfl, hs, _⟩ := hok
  have hs5 : cs.toList.length = 5 := by
    rw [Array.length_toList, hs]
    kernel_rfl
  obtain ⟨ys, m, _, hx, _, hlen, hfd⟩ := DataW.trod_struct Try.underlying49 hf
  have hc : (Value.agg cs).cells.toList = cs.toList := rfl
  rw [hc] at hfd
  obtain ⟨x0, x1, x2, x3, x4, hl⟩ : ∃ x0 x1 x2 x3 x4, cs.toList = [x0, x1, x2, x3, x4] := by
    match cs.toList, hs5 with
    | [x0, x1, x2, x3, x4], _ => exact ⟨x0, x1, x2, x3, x4, rfl⟩
  rw [hl] at hfd
  have y : ∀ i, i < 5 → ∃ z, ys[i]? = some z := fun i hi => ⟨_, List.getElem?_eq_getElem (by rw [hlen]; exact hi)⟩
  have one9 : Try.prog.cellsOf 9 = 1 := by kernel_rfl
  have one47 : Try.prog.cellsOf 47 = 1 := by kernel_rfl
  obtain ⟨z0, e0⟩ := y 0 (by omega)
  obtain ⟨z1, e1⟩ := y 1 (by omega)
  obtain ⟨z2, e2⟩ := y 2 (by omega)
  obtain ⟨z3, e3⟩ := y 3 (by omega)
  obtain ⟨z4, e4⟩ := y 4 (by omega)
  have f0 := hfd 0 { name := "Name", type := 9, offset := 0, embedded := false, tag := "", pkgPath := "", byteOffset := 0 } rfl
  have f1 := hfd 1 { name := "Result", type := 9, offset := 1, embedded := false, tag := "", pkgPath := "", byteOffset := 16 } rfl
  have f2 := hfd 2 { name := "Left", type := 9, offset := 2, embedded := false, tag := "", pkgPath := "", byteOffset := 32 } rfl
  have f3 := hfd 3 { name := "Right", type := 9, offset := 3, embedded := false, tag := "", pkgPath := "", byteOffset := 48 } rfl
  have f4 := hfd 4 { name := "Locals", type := 47, offset := 4, embedded := false, tag := "", pkgPath := "", byteOffset := 64 } rfl
  rw [e0] at f0
  rw [e1] at f1
  rw [e2] at f2
  rw [e3] at f3
  rw [e4] at f4
  simp only [List.drop_zero, List.drop_succ_cons, List.take_succ_cons, List.take_zero] at f0 f1 f2 f3 f4
  obtain ⟨s0, q0, _, _⟩ := DataW.trod_string Try.underlying9 f0
  obtain ⟨s1, q1, _, _⟩ := DataW.trod_string Try.underlying9 f1
  obtain ⟨s2, q2, _, _⟩ := DataW.trod_string Try.underlying9 f2
  obtain ⟨s3, q3, _, _⟩ := DataW.trod_string Try.underlying9 f3
  cases q0
  cases q1
  cases q2
  cases q3
  have hcs : ∀ z, cs.toList = [.string s0, .string s1, .string s2, .string s3, z] → Value.agg cs = .agg #[.string s0, .string s1, .string s2, .string s3, z] := by
    intro z hz
    congr 1
    exact Array.toList_inj.1 hz
  rcases open_strings Try.underlying47 Try.underlying9 one9 f4 with ⟨hq, _⟩ | ⟨a, k, c, ss, hq, _, hk, hm, hz, _, hcell, _⟩
  · cases hq
    exact ⟨s0, s1, s2, s3, none, 0, 0, [], hcs _ hl, ⟨rfl, Nat.le_refl _, .inl ⟨rfl, rfl⟩⟩, by simp [maxLen]⟩
  · cases hq
    simp only [if_true] at hz
    refine ⟨s0, s1, s2, s3, some a, k, c, ss.take k, hcs _ hl, ?_, by omega⟩
    have := Arg.of_cells (W := W) (a := a) (k := k) (c := c) (vals := H23.strs ss) (by simp [H23.strs, hz]) hk (fun i hi => by
      rw [hcell i (by omega)]
      simp [H23.strs, List.getD, List.getElem?_eq_getElem (show i < ss.length by omega)])
    simpa [H23.strs, List.map_take] using this

theorem calls (n r l g n' r' l' g' : ByteArray) (xs ys : List ByteArray) (W : World) {a b : Option Addr} {k c m d : Nat} (A : Arg W a k c (H23.strs xs)) (B : Arg W b m d (H23.strs ys)) (hk : k ≤ maxLen) (hm : m ≤ maxLen) :
    Calls Try.prog 5 #[H23.hd n r l g a k c, H23.hd n' r' l' g' b m d] W fun e W' => e = .returned (.bool true) ∧ Below W.heap.size W W' := by
  have hat : ∀ xs : List ByteArray, (H23.strs xs).all Im.atomic = true := by
    intro xs
    simp [H23.strs, Im.atomic]
  obtain ⟨v1, a', c', L1, m1, x1, r1, s1⟩ := (LaidOK.nil W).arg A (hat xs)
  obtain ⟨v2, b', d', L2, m2, x2, r2, s2⟩ := L1.arg B (hat ys)
  have hagg : ∀ {n r l g : ByteArray} {a a' : Option Addr} {k c c' : Nat}, RV (vPlaces v2) (.slice a' k c') (.slice a k c) → RV (vPlaces v2) (H23.hd n r l g a' k c') (H23.hd n r l g a k c) := by
    intro n r l g a a' k c c' h
    exact RV.agg_list (RL.cons (.string _) (RL.cons (.string _) (RL.cons (.string _) (RL.cons (.string _) (RL.cons h (RL.nil _))))))
  refine calls_laid (K := H23.K) H23.Kok L2 (args := #[H23.hd n r l g a' k c', H23.hd n' r' l' g' b' m d']) ?_ rfl (H23.sames_run n r l g n' r' l' g' xs ys _ (s1.ext x2) s2 hk hm)
  exact RL.cons (hagg (r1.mono m2)) (RL.cons (hagg r2) (RL.nil _))

set_option maxRecDepth 100000 in
theorem lifted (os : Os) (started : os.Started) (H : Type) (enc : TypeId × Value → H) :
    ReturnsInHanded {} Try.checked os 5 .any (Rows.headSamesSpec.pre6 enc Try.prog Try.f5 Rows.headSamesRow.domain false) (Rows.headSamesSpec.post enc Try.prog Try.f5 false true false false) := by
  refine returnsInHanded_of_change_sized (C := Try.checked) own started (by kernel_rfl) Try.func5
    (ChangeSpec.witness6 (enc := enc) (C := Try.checked) false ⟨#[], #[.agg #[.string ByteArray.empty, .string ByteArray.empty, .string ByteArray.empty, .string ByteArray.empty, .slice none 0 0], .agg #[.string ByteArray.empty, .string ByteArray.empty, .string ByteArray.empty, .string ByteArray.empty, .slice none 0 0]], []⟩ 8 (by kernel_rfl) (by kernel_rfl) (by kernel_rfl) (by kernel_rfl)) ?_
  intro W base args ds gs before hval0 hW hcnd hsz0 _
  have hval : ∀ (j : Nat) t v, Try.f5.params[j]? = some t → args[j]? = some v → Value.okWide Try.prog W .any base t v := hval0
  have hW' := hW
  obtain ⟨p, q, hA0, hV, rfl, hfz, hnd⟩ := hW
  have hA : DataW.TrodAll enc Try.prog W 0 (fun _ => true) true Try.f5.params.toList args.toList ds p := hA0
  rw [Try.params5] at hA hval
  obtain ⟨v0, v1, d0, d1, p0, p1, rfl, rfl, rfl, h0, h1⟩ := trodAll_two hA
  obtain ⟨rfl, rfl⟩ := trodVars_none hV
  clear hA0 hval0 hsz0
  simp only [List.append_nil] at hW'
  have hlt : ∀ x ∈ p0 ++ p1, x.block < W.heap.size := fun x hx => by simpa using hW'.lt x hx
  have harg0 : ∀ W', Below W.heap.size W W' → DataW.Trod enc Try.prog W' 0 (fun b => decide (b < W.heap.size)) true 49 v0 d0 p0 := fun W' hb =>
    Below.trod laidOut (by kernel_rfl) (of_decide_eq_true (by kernel_rfl)) h0 hb (fun x hx => hlt x (List.mem_append.2 (.inl hx)))
  have harg1 : ∀ W', Below W.heap.size W W' → DataW.Trod enc Try.prog W' 0 (fun b => decide (b < W.heap.size)) true 49 v1 d1 p1 := fun W' hb =>
    Below.trod laidOut (by kernel_rfl) (of_decide_eq_true (by kernel_rfl)) h1 hb (fun x hx => hlt x (List.mem_append.2 (.inr hx)))
  obtain ⟨n, r, l, g, a, k, c, xs, rfl, A, hk⟩ := opened (hval 0 49 v0 rfl rfl) h0
  obtain ⟨n', r', l', g', b, m, d, ys, rfl, B, hm⟩ := opened (hval 1 49 v1 rfl rfl) h1
  refine (calls n r l g n' r' l' g' xs ys W A B hk hm).mono fun e W' ⟨he, bel⟩ => ?_
  subst he
  exact ⟨_, rfl, _, _, _, [], _, [], hW', trodAll_mk1 (shut_bool Try.underlying4 _), trodAll_mk2 (harg0 W' bel) (harg1 W' bel), rfl, bel.frame _, fun h => by cases h⟩
theorem over : Rows.headSamesRow.holds Try.pinned (OpenSpec.ofChange Rows.headSamesSpec) :=
  OpenClaim.holds_of_wide 5 Try.f5 rfl rfl rfl rfl rfl rfl rfl ⟨rfl, rfl, rfl, rfl, rfl⟩ rfl rfl rfl rfl rfl (by kernel_rfl) Try.func5 (by kernel_rfl)
    (of_decide_eq_true (by kernel_rfl)) (by unfold Func.isWrapper; first | (rw [if_pos (by decide +kernel)]; kernel_rfl) | (rw [if_neg (by decide +kernel)]; exact ⟨rfl, rfl⟩))
    (fun os started H enc _ => lifted os started H enc)
theorem proved : Rows.HeadSamesSaid := over
#print axioms proved
end Go.Proofs.Ytjlaenglmdpboaa.headSames
namespace Go.Proofs.Ytjlaenglmdpboaa
/-- The row, under a short name, for the claim. -/
theorem headSames_holds : Rows.HeadSamesSaid := headSames.proved
end Go.Proofs.Ytjlaenglmdpboaa
