/- Proved here: the given statement PhraseReads, at every input; no condition. -/
import Derived.Test.YtjlaenglmdpboaaGreatLine
import Derived.Test.YtjlaenglmdpboaaGreatF7
import Derived.Test.YtjlaenglmdpboaaGreatLine2
set_option linter.unusedSimpArgs false
set_option linter.unusedVariables false
namespace Go.Proofs.YtjlaenglmdpboaaGreat.phraseReads
open Go Go.Im Go.ChangeShapes Go.WideShapes Go.ChangeAt Go.RowKit Go.Proofs.YtjlaenglmdpboaaGreat.Line
set_option linter.unusedVariables false

theorem two93 : Tryz.prog.cellsOf 93 = 2 := by kernel_rfl
theorem one9 : Tryz.prog.cellsOf 9 = 1 := by kernel_rfl
theorem one3 : Tryz.prog.cellsOf 3 = 1 := by kernel_rfl
theorem calls (l : List Int) (names : List Go.Im.Lexing.NR) (y : Int) (W : World) {a b : Option Addr} {k c m d : Nat} (A : Arg W a k c (rv l)) (hl : l.length = k) (B : Arg W b (m * 2) (d * 2) (Go.Im.Lexing.ncells names)) (hm : names.length = m) (hmd : m ≤ d) :
    Calls Tryz.prog 4 #[.slice a k c, .slice b m d, .int .i64 y] W fun e W' => e = .returned (.bool true) ∧ Below W.heap.size W W' := by
  obtain ⟨v1, a', c', L1, m1, x1, r1, s1, hc⟩ := (LaidOK.nil W).line A (rv_atomic l)
  obtain ⟨v2, b', d', L2, m2, x2, r2, s2, _⟩ := L1.rows (by omega) hmd B (Line2.ncells_atomic names)
  subst hl
  subst hm
  refine calls_laid (K := Hd.K) Hd.Kok L2 (args := #[.slice a' l.length c', .slice b' names.length d', .int .i64 y]) ?_ rfl (F7.preads_run l names y _ (s1.ext x2) hc s2)
  exact RL.cons (r1.mono m2) (RL.cons r2 (RL.cons (RV.atomic _ rfl) (RL.nil _)))

set_option maxRecDepth 100000 in
theorem lifted (os : Os) (started : os.Started) (H : Type) (enc : TypeId × Value → H) :
    ReturnsInHanded {} Tryz.checked os 4 .any (Rows.phraseReadsSpec.pre6 enc Tryz.prog Tryz.f4 Rows.phraseReadsRow.domain false) (Rows.phraseReadsSpec.post enc Tryz.prog Tryz.f4 false true false false) := by
  refine returnsInHanded_of_change_sized (C := Tryz.checked) own started (by kernel_rfl) Tryz.func4
    (ChangeSpec.witness6 (enc := enc) (C := Tryz.checked) false ⟨#[], #[.slice none 0 0, .slice none 0 0, .int .i64 0], []⟩ 8 (by kernel_rfl) (by kernel_rfl) (by kernel_rfl) (by kernel_rfl)) ?_
  intro W base args ds gs before hval0 hW hcnd hsz0 _
  have hval : ∀ (j : Nat) t v, Tryz.f4.params[j]? = some t → args[j]? = some v → Value.okWide Tryz.prog W .any base t v := hval0
  have hW' := hW
  obtain ⟨p, q, hA0, hV, rfl, hfz, hnd⟩ := hW
  have hA : DataW.TrodAll enc Tryz.prog W 0 (fun _ => true) true Tryz.f4.params.toList args.toList ds p := hA0
  rw [Tryz.params4] at hA hval
  obtain ⟨v0, v1, v2, d0, d1, d2, p0, p1, p2, rfl, rfl, rfl, h0, h1, h2⟩ := trodAll_three hA
  obtain ⟨rfl, rfl⟩ := trodVars_none hV
  clear hA0 hval0 hsz0
  simp only [List.append_nil] at hW'
  obtain ⟨y, rfl, rfl, rfl, w2⟩ := open_int Tryz.underlying3 (hval 2 3 v2 rfl rfl) h2
  simp only [List.append_nil] at hW'
  have hlt : ∀ x ∈ p0 ++ p1, x.block < W.heap.size := fun x hx => by simpa using hW'.lt x hx
  have harg0 : ∀ W', Below W.heap.size W W' → DataW.Trod enc Tryz.prog W' 0 (fun b => decide (b < W.heap.size)) true 22 v0 d0 p0 := fun W' hb =>
    Below.trod laidOut (by kernel_rfl) (of_decide_eq_true (by kernel_rfl)) h0 hb (fun x hx => hlt x (List.mem_append.2 (.inl hx)))
  have harg1 : ∀ W', Below W.heap.size W W' → DataW.Trod enc Tryz.prog W' 0 (fun b => decide (b < W.heap.size)) true 32 v1 d1 p1 := fun W' hb =>
    Below.trod laidOut (by kernel_rfl) (of_decide_eq_true (by kernel_rfl)) h1 hb (fun x hx => hlt x (List.mem_append.2 (.inr hx)))
  obtain ⟨a, k, c, rfl⟩ := okWide_slice Tryz.underlying22 (hval 0 22 v0 rfl rfl)
  obtain ⟨b, m, d, rfl⟩ := okWide_slice Tryz.underlying32 (hval 1 32 v1 rfl rfl)
  obtain ⟨l, A, hl, hk, _⟩ := opened h0
  obtain ⟨names, B, hm, hmd⟩ := Line2.names_at Tryz.underlying32 Tryz.underlying93 two93 rfl rfl one9 one3 Tryz.underlying9 Tryz.underlying3 h1
  refine (calls l names y W A hl B hm hmd).mono fun e W' ⟨he, bel⟩ => ?_
  subst he
  have h3 := trodAll_mk3 (harg0 W' bel) (harg1 W' bel) (shut_int (k := .i64) Tryz.underlying3 w2)
  rw [List.append_nil] at h3
  exact ⟨_, rfl, _, _, _, [], _, [], hW', trodAll_mk1 (shut_bool Tryz.underlying4 _), h3, rfl, bel.frame _, fun h => by cases h⟩
theorem over : Rows.phraseReadsRow.holds Tryz.pinned (OpenSpec.ofChange Rows.phraseReadsSpec) :=
  OpenClaim.holds_of_wide 4 Tryz.f4 rfl rfl rfl rfl rfl rfl rfl ⟨rfl, rfl, rfl, rfl, rfl⟩ rfl rfl rfl rfl rfl (by kernel_rfl) Tryz.func4 (by kernel_rfl)
    (of_decide_eq_true (by kernel_rfl)) (by unfold Func.isWrapper; first | (rw [if_pos (by decide +kernel)]; kernel_rfl) | (rw [if_neg (by decide +kernel)]; exact ⟨rfl, rfl⟩))
    (fun os started H enc _ => lifted os started H enc)
theorem proved : Rows.PhraseReadsSaid := over
#print axioms proved
end Go.Proofs.YtjlaenglmdpboaaGreat.phraseReads
namespace Go.Proofs.YtjlaenglmdpboaaGreat
/-- The row, under a short name, for the claim. -/
theorem phraseReads_holds : Rows.PhraseReadsSaid := phraseReads.proved
end Go.Proofs.YtjlaenglmdpboaaGreat
