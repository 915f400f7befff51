/- Proved here: the given statement LibPlays, at every input; no condition. -/
import Derived.Test.YtjamnjbfcecnnaaLL28
set_option linter.unusedSimpArgs false
set_option linter.unusedVariables false
namespace Go.Proofs.Ytjamnjbfcecnnaa.libPlays
open Go Go.Im Go.Im.Lib Go.ChangeShapes Go.WideShapes Go.ChangeAt Go.RowKit Go.Deep Go.Joins Go.Proofs.Ytjamnjbfcecnnaa.L3 Go.Proofs.Ytjamnjbfcecnnaa.L28
set_option linter.unusedVariables false
theorem calls (rs : List RAct) (W : World) (hok : ∀ r ∈ rs, r.ok W) {a : Option Addr} {k c : Nat} (hk : rs.length = k)
    (h : (a = none ∧ k = 0 ∧ c = 0) ∨ (k = 0 ∧ c = 0 ∧ ∃ ad, a = some ad) ∨ (0 < c ∧ k ≤ c ∧ ∃ b o cc e fr, a = some ⟨b, o, none⟩ ∧ W.heap[b]? = some (.cells cc e fr) ∧ o + c * 3 ≤ cc.size ∧ ∀ (j : Nat) y, (rs.flatMap RAct.cells)[j]? = some y → cc[o + j]? = some y)) :
    Calls Try.prog 6 #[.slice a k c] W fun e W' => e = .returned (.bool true) ∧ Below W.heap.size W W' := by
  rcases h with ⟨rfl, rfl, rfl⟩ | ⟨rfl, rfl, ad, rfl⟩ | ⟨hc, hkc, b, o, cc, e, fr, rfl, hb, hsz, hcell⟩
  · exact calls_laid (K := Hd.K) Hd.Kok (LaidOK.nil W) (args := #[.slice none 0 0]) (RL.cons .nilSlice (RL.nil _)) rfl (L27.law_run [] _ (Sl.nil _ _) ⟨rfl, by intro i kd nms xs h; simp at h⟩)
  · exact calls_laid (K := Hd.K) Hd.Kok (LaidOK.nil W) (args := #[.slice (some ⟨0, 0, none⟩) 0 0]) (RL.cons (.void 0 0 ad) (RL.nil _)) rfl (L27.law_run [] _ (.inr (.inl ⟨0, 0, rfl, rfl, rfl, rfl⟩)) ⟨rfl, by intro i kd nms xs h; simp at h⟩)
  · obtain ⟨vs, xs, L, m, x, av, rel⟩ := lay_acts rs (LaidOK.nil W) hok
    have hxl : xs.length = k * 3 := by have := av.1; simp only [List.length_map] at this; omega
    obtain ⟨vs', a', c', L', m', x', r', s'⟩ := L.block (size := 3) (by omega) hb hkc hc hsz hxl (fun i x hi => by
      obtain ⟨k1, y, k2, k3⟩ := rel i x hi
      exact ⟨k1, y, hcell i y k2, k3⟩)
    have av' : AV (laid vs') xs (rs.map RAct.act) := ⟨av.1, fun i kd nms ys hi => by
      obtain ⟨na, nc, la, lc, g1, g2, g3, g4, g5, g6⟩ := av.2 i kd nms ys hi
      exact ⟨na, nc, la, lc, g1, g2, g3, g4.ext x', g5.ext x', g6⟩⟩
    have hkl : (rs.map RAct.act).length = k := by simpa using hk
    rw [← hkl] at r' s' ⊢
    exact calls_laid (K := Hd.K) Hd.Kok L' (args := #[.slice a' (rs.map RAct.act).length c']) (RL.cons r' (RL.nil _)) rfl (L27.law_run (rs.map RAct.act) _ s' av')

set_option maxRecDepth 100000 in
theorem lifted (os : Os) (started : os.Started) (H : Type) (enc : TypeId × Value → H) :
    ReturnsInHanded {} Try.checked os 6 .any (Rows.libPlaysSpec.pre6 enc Try.prog Try.f6 Rows.libPlaysRow.domain false) (Rows.libPlaysSpec.post enc Try.prog Try.f6 false true false false) := by
  refine returnsInHanded_of_change_sized (C := Try.checked) own started (by kernel_rfl) Try.func6
    (ChangeSpec.witness6 (enc := enc) (C := Try.checked) false ⟨#[], #[.slice none 0 0], []⟩ 8 (by kernel_rfl) (by kernel_rfl) (by kernel_rfl) (by kernel_rfl)) ?_
  intro W base args ds gs before hval0 hW hcnd hsz0 _
  have hval : ∀ (j : Nat) t v, Try.f6.params[j]? = some t → args[j]? = some v → Value.okWide Try.prog W .any base t v := hval0
  have hW' := hW
  obtain ⟨p, q, hA0, hV, rfl, hfz, hnd⟩ := hW
  have hA : DataW.TrodAll enc Try.prog W 0 (fun _ => true) true Try.f6.params.toList args.toList ds p := hA0
  rw [Try.params6] at hA hval
  obtain ⟨v0, d0, rfl, rfl, h0⟩ := trodAll_one hA
  obtain ⟨rfl, rfl⟩ := trodVars_none hV
  clear hA0 hval0 hsz0
  simp only [List.append_nil] at hW'
  have harg0 : ∀ W', Below W.heap.size W W' → DataW.Trod enc Try.prog W' 0 (fun b => decide (b < W.heap.size)) true 38 v0 d0 p := fun W' hb =>
    Below.trod laidOut (by kernel_rfl) (of_decide_eq_true (by kernel_rfl)) h0 hb (fun x hx => by simpa using hW'.lt x hx)
  obtain ⟨a, k, c, rfl⟩ := okWide_slice Try.underlying38 (hval 0 38 v0 rfl rfl)
  obtain ⟨rs, hk, hok, hat⟩ := acts_of h0
  refine (calls rs W hok hk hat).mono fun e W' ⟨he, bel⟩ => ?_
  subst he
  exact ⟨_, rfl, _, _, _, [], _, [], hW', trodAll_mk1 (shut_bool Try.underlying4 _), trodAll_mk1 (harg0 W' bel), rfl, bel.frame _, fun h => by cases h⟩
theorem over : Rows.libPlaysRow.holds Try.pinned (OpenSpec.ofChange Rows.libPlaysSpec) :=
  OpenClaim.holds_of_wide 6 Try.f6 rfl rfl rfl rfl rfl rfl rfl ⟨rfl, rfl, rfl, rfl, rfl⟩ rfl rfl rfl rfl rfl (by kernel_rfl) Try.func6 (by kernel_rfl)
    (of_decide_eq_true (by kernel_rfl)) (by unfold Func.isWrapper; first | (rw [if_pos (by decide +kernel)]; kernel_rfl) | (rw [if_neg (by decide +kernel)]; exact ⟨rfl, rfl⟩))
    (fun os started H enc _ => lifted os started H enc)
theorem proved : Rows.LibPlaysSaid := over
#print axioms proved
end Go.Proofs.Ytjamnjbfcecnnaa.libPlays
namespace Go.Proofs.Ytjamnjbfcecnnaa
/-- The row, under a short name, for the claim. -/
theorem libPlays_holds : Rows.LibPlaysSaid := libPlays.proved
end Go.Proofs.Ytjamnjbfcecnnaa
