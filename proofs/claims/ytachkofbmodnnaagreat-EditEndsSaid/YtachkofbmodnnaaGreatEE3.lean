/- Proved here: which lines end an edit, in the program and in the document; EditEnds answers true at every line in memory. -/
import Derived.Test.YtachkofbmodnnaaGreatEE2
set_option linter.unusedSimpArgs false
set_option linter.unusedVariables false
namespace Go.Proofs.YtachkofbmodnnaaGreat.E3
open Go Go.Im Go.Im.Lexing Go.Im.Editing Go.Proofs Go.RowKit Go.Proofs.YtachkofbmodnnaaGreat.Hd Go.Proofs.YtachkofbmodnnaaGreat.E2
set_option maxRecDepth 100000

theorem last_at {m : List Int} {x : Int} (h : m[m.length - 1]? = some x) : m.getLast? = some x := by rw [List.getLast?_eq_getElem?]; exact h
theorem scan_step {q : Bool} {D : List Int} {i : Nat} {x : Int} (h : D[i]? = some x) : scanQ q (D.drop i) = if x = 39 then scanQ (!q) (D.drop (i + 1)) else if x = 9053 ∧ q = false then none else scanQ q (D.drop (i + 1)) := by
  obtain ⟨h1, h2⟩ := List.getElem?_eq_some_iff.1 h
  rw [List.drop_eq_getElem_cons h1, h2, scanQ]

theorem ends_run (l : List Int) (h : Heap) {tv : Value} (t : Ln h tv l) (hm : l.length ≤ 1000000) : Runs K f_edit_Ends #[tv] h fun r w => w = h ∧ ∃ v, r = .tuple #[v, .bool (endsS l).2] ∧ Ln h v (endsS l).1 := by
  refine Runs.of Kok (Does.intro rfl (by decide +kernel) F_edit_Ends rfl ?_)
  simp (decide := true) only [go_sem, W_region, Wx_some, Nat.reduceAdd, Nat.reduceMul, Nat.reduceEqDiff, Int.reduceAdd, Int.reduceSub, Int.reduceMul, Int.reduceNeg, Int.reduceToNat]
  refine W_call Kok (Nat.le_refl _) (trim_run l h t hm) fun r w x hr => ?_
  obtain ⟨hw, tm⟩ := hr
  have hw := hw.symm
  subst hw
  obtain ⟨m, hm'⟩ : ∃ m, m = trimS l := ⟨_, rfl⟩
  rw [← hm'] at tm
  have hml : m.length ≤ l.length := by rw [hm']; exact trim_len l
  obtain ⟨a, c, rfl⟩ := tm.open
  have no : m.getLast? ≠ some 8711 → endsS l = (m, false) := fun hh => by rw [hm'] at hh ⊢; exact ends_a hh
  have no2 : m.getLast? = some 8711 → scanQ false m.dropLast ≠ some false → endsS l = (m, false) := fun h1 h2 => by rw [hm'] at h1 h2 ⊢; exact ends_b h1 h2
  have yes : m.getLast? = some 8711 → scanQ false m.dropLast = some false → endsS l = (trimS m.dropLast, true) := fun h1 h2 => by rw [hm'] at h1 h2 ⊢; exact ends_c h1 h2
  by_cases h0 : ((m.length : Nat) : Int) = 0
  · have : m = [] := List.eq_nil_of_length_eq_zero (by omega)
    simp (decide := true) only [go_sem, W_region, Wx_some, Nat.reduceAdd, Nat.reduceMul, Nat.reduceEqDiff, Int.reduceAdd, Int.reduceSub, Int.reduceMul, Int.reduceNeg, Int.reduceToNat, h0]
    rw [no (by rw [this]; simp)]
    exact ⟨_, rfl, tm⟩
  obtain ⟨x, hx⟩ : ∃ x, m[m.length - 1]? = some x := ⟨_, List.getElem?_eq_getElem (by omega)⟩
  have hlast := last_at hx
  obtain ⟨b, o, cs, hq, q2, q3, q4⟩ := tm.one hx
  cases hq
  have i1 : IntKind.i64.wrap (((m.length : Nat) : Int) - 1) = ((m.length - 1 : Nat) : Int) := by rw [wrap_i64 (by omega) (by omega)]; omega
  have c0 : (0 : Int) ≤ ((m.length - 1 : Nat) : Int) := by omega
  have c1 : ((m.length - 1 : Nat) : Int) < ((m.length : Nat) : Int) := by omega
  by_cases hd : x = 8711
  case neg =>
    simp (decide := true) only [go_sem, W_region, Wx_some, Nat.reduceAdd, Nat.reduceMul, Nat.reduceEqDiff, Int.reduceAdd, Int.reduceSub, Int.reduceMul, Int.reduceNeg, Int.reduceToNat, h0, i1, c0, c1, Int.toNat_natCast, q3, q4, hd]
    rw [no (by rw [hlast]; simp [hd])]
    exact ⟨_, rfl, tm⟩
  rw [hd] at hlast
  obtain ⟨a', c', f1, tk⟩ := tm.cut (lo := none) (hi := some (.int .i64 ((m.length - 1 : Nat) : Int))) (x := 0) (y := m.length - 1) rfl (by simp [boundOf]) (Nat.zero_le _) (by omega)
  rw [List.drop_zero, Nat.sub_zero, ← List.dropLast_eq_take] at tk
  rw [Nat.sub_zero] at f1
  obtain ⟨D, hD⟩ : ∃ D, D = m.dropLast := ⟨_, rfl⟩
  rw [← hD] at tk no2 yes
  have hDl : D.length = m.length - 1 := by rw [hD]; simp
  simp (decide := true) only [go_sem, W_region, Wx_some, Nat.reduceAdd, Nat.reduceMul, Nat.reduceEqDiff, Int.reduceAdd, Int.reduceSub, Int.reduceMul, Int.reduceNeg, Int.reduceToNat, h0, i1, c0, c1, Int.toNat_natCast, q3, q4, hd, f1]
  refine W_loop (α := Nat × Bool) (fun k e w => k.1 ≤ D.length ∧ e.size = 54 ∧ h = w ∧ e.get 0 = .slice (some ⟨b, o, none⟩) m.length big ∧ e.get 4 = .bool k.2 ∧ e.get 26 = .slice a' (m.length - 1) c' ∧ e.get 27 = .int .i64 ((m.length - 1 : Nat) : Int) ∧ e.get 28 = .int .i64 (k.1 : Int) ∧ scanQ false D = scanQ k.2 (D.drop k.1)) (fun k => D.length - k.1) (0, false) ?_ ?_
  · exact ⟨Nat.zero_le _, by simp (decide := true) only [go_sem], rfl, by simp (decide := true) only [go_sem], by simp (decide := true) only [go_sem], by simp (decide := true) only [go_sem], by simp (decide := true) only [go_sem], by simp (decide := true) only [go_sem]; rfl, by simp⟩
  rintro ⟨k, q⟩ e w ⟨hk, hsz, hw, e0, e4, e26, e27, e28, hsc⟩ next
  subst hw
  simp only at hk e4 e28 hsc
  by_cases hkl : (k : Int) < ((m.length - 1 : Nat) : Int)
  case neg =>
    have hke : k = D.length := by omega
    rw [hke, List.drop_of_length_le (Nat.le_refl _), scanQ] at hsc
    cases q with
    | true =>
      simp (decide := true) only [go_sem, W_region, Wx_some, Nat.reduceAdd, Nat.reduceMul, Nat.reduceEqDiff, Int.reduceAdd, Int.reduceSub, Int.reduceMul, Int.reduceNeg, Int.reduceToNat, hsz, e0, e4, e26, e27, e28, hkl]
      rw [no2 hlast (by rw [hsc]; simp)]
      exact ⟨_, rfl, tm⟩
    | false =>
      simp (decide := true) only [go_sem, W_region, Wx_some, Nat.reduceAdd, Nat.reduceMul, Nat.reduceEqDiff, Int.reduceAdd, Int.reduceSub, Int.reduceMul, Int.reduceNeg, Int.reduceToNat, hsz, e0, e4, e26, e27, e28, hkl, i1, f1]
      refine W_call Kok (Nat.le_refl _) (trim_run D h tk (by omega)) fun r w x hr => ?_
      obtain ⟨hw, tr⟩ := hr
      have hw := hw.symm
      subst hw
      simp (decide := true) only [go_sem, W_region, Wx_some, Nat.reduceAdd, Nat.reduceMul, Nat.reduceEqDiff, Int.reduceAdd, Int.reduceSub, Int.reduceMul, Int.reduceNeg, Int.reduceToNat, hsz]
      rw [yes hlast hsc]
      exact ⟨_, rfl, tr⟩
  obtain ⟨y, hy⟩ : ∃ y, D[k]? = some y := ⟨_, List.getElem?_eq_getElem (by omega)⟩
  have tk' := tk
  rw [← hDl] at tk'
  obtain ⟨b2, o2, cs2, hq, p2, p3, p4⟩ := tk'.one hy
  cases hq
  have j0 : (0 : Int) ≤ (k : Int) := by omega
  have j1 : IntKind.i64.wrap ((k : Int) + 1) = ((k + 1 : Nat) : Int) := by rw [wrap_i64 (by omega) (by omega)]; omega
  rw [scan_step hy] at hsc
  by_cases h39 : y = 39
  · rw [if_pos h39] at hsc
    simp (decide := true) only [go_sem, W_region, Wx_some, Nat.reduceAdd, Nat.reduceMul, Nat.reduceEqDiff, Int.reduceAdd, Int.reduceSub, Int.reduceMul, Int.reduceNeg, Int.reduceToNat, hsz, e0, e4, e26, e27, e28, hkl, j0, Int.toNat_natCast, p3, p4, h39, j1]
    exact next (k + 1, !q) _ _ ⟨by simp only; omega, by simp (decide := true) only [go_sem, hsz], rfl, by simp (decide := true) only [go_sem, hsz, e0], by simp (decide := true) only [go_sem, hsz], by simp (decide := true) only [go_sem, hsz, e26], by simp (decide := true) only [go_sem, hsz, e27], by simp (decide := true) only [go_sem, hsz], hsc⟩ (by simp only; omega)
  rw [if_neg h39] at hsc
  by_cases hl : y = 9053
  · cases q with
    | false =>
      rw [if_pos ⟨hl, rfl⟩] at hsc
      simp (decide := true) only [go_sem, W_region, Wx_some, Nat.reduceAdd, Nat.reduceMul, Nat.reduceEqDiff, Int.reduceAdd, Int.reduceSub, Int.reduceMul, Int.reduceNeg, Int.reduceToNat, hsz, e0, e4, e26, e27, e28, hkl, j0, Int.toNat_natCast, p3, p4, h39, hl]
      rw [no2 hlast (by rw [hsc]; simp)]
      exact ⟨_, rfl, tm⟩
    | true =>
      rw [if_neg (by simp)] at hsc
      simp (decide := true) only [go_sem, W_region, Wx_some, Nat.reduceAdd, Nat.reduceMul, Nat.reduceEqDiff, Int.reduceAdd, Int.reduceSub, Int.reduceMul, Int.reduceNeg, Int.reduceToNat, hsz, e0, e4, e26, e27, e28, hkl, j0, Int.toNat_natCast, p3, p4, h39, hl, j1]
      exact next (k + 1, true) _ _ ⟨by simp only; omega, by simp (decide := true) only [go_sem, hsz], rfl, by simp (decide := true) only [go_sem, hsz, e0], by simp (decide := true) only [go_sem, hsz, e4], by simp (decide := true) only [go_sem, hsz, e26], by simp (decide := true) only [go_sem, hsz, e27], by simp (decide := true) only [go_sem, hsz], hsc⟩ (by simp only; omega)
  · rw [if_neg (fun hh => hl hh.1)] at hsc
    simp (decide := true) only [go_sem, W_region, Wx_some, Nat.reduceAdd, Nat.reduceMul, Nat.reduceEqDiff, Int.reduceAdd, Int.reduceSub, Int.reduceMul, Int.reduceNeg, Int.reduceToNat, hsz, e0, e4, e26, e27, e28, hkl, j0, Int.toNat_natCast, p3, p4, h39, hl, j1]
    exact next (k + 1, q) _ _ ⟨by simp only; omega, by simp (decide := true) only [go_sem, hsz], rfl, by simp (decide := true) only [go_sem, hsz, e0], by simp (decide := true) only [go_sem, hsz, e4], by simp (decide := true) only [go_sem, hsz, e26], by simp (decide := true) only [go_sem, hsz, e27], by simp (decide := true) only [go_sem, hsz], hsc⟩ (by simp only; omega)

theorem rends_run (l : List Int) (h : Heap) {tv : Value} (t : Ln h tv l) (hm : l.length ≤ 1000000) : Runs K f_ref28_Ends #[tv] h fun r w => w = h ∧ ∃ v, r = .tuple #[v, .bool (endsS l).2] ∧ Ln h v (endsS l).1 := by
  refine Runs.of Kok (Does.intro rfl (by decide +kernel) F_ref28_Ends rfl ?_)
  simp (decide := true) only [go_sem, W_region, Wx_some, Nat.reduceAdd, Nat.reduceMul, Nat.reduceEqDiff, Int.reduceAdd, Int.reduceSub, Int.reduceMul, Int.reduceNeg, Int.reduceToNat]
  refine W_call Kok (Nat.le_refl _) (rtrim_run l h t hm) fun r w x hr => ?_
  obtain ⟨hw, tm⟩ := hr
  have hw := hw.symm
  subst hw
  obtain ⟨m, hm'⟩ : ∃ m, m = trimS l := ⟨_, rfl⟩
  rw [← hm'] at tm
  have hml : m.length ≤ l.length := by rw [hm']; exact trim_len l
  obtain ⟨a, c, rfl⟩ := tm.open
  have no : m.getLast? ≠ some 8711 → endsS l = (m, false) := fun hh => by rw [hm'] at hh ⊢; exact ends_a hh
  have no2 : m.getLast? = some 8711 → scanQ false m.dropLast ≠ some false → endsS l = (m, false) := fun h1 h2 => by rw [hm'] at h1 h2 ⊢; exact ends_b h1 h2
  have yes : m.getLast? = some 8711 → scanQ false m.dropLast = some false → endsS l = (trimS m.dropLast, true) := fun h1 h2 => by rw [hm'] at h1 h2 ⊢; exact ends_c h1 h2
  by_cases h0 : m.length = 0
  · have : m = [] := List.eq_nil_of_length_eq_zero h0
    have i1 : IntKind.i64.wrap (((m.length : Nat) : Int) - 1) = -1 := by rw [wrap_i64 (by omega) (by omega)]; omega
    simp (decide := true) only [go_sem, W_region, Wx_some, Nat.reduceAdd, Nat.reduceMul, Nat.reduceEqDiff, Int.reduceAdd, Int.reduceSub, Int.reduceMul, Int.reduceNeg, Int.reduceToNat, i1]
    rw [no (by rw [this]; simp)]
    exact ⟨_, rfl, tm⟩
  obtain ⟨x, hx⟩ : ∃ x, m[m.length - 1]? = some x := ⟨_, List.getElem?_eq_getElem (by omega)⟩
  have hlast := last_at hx
  obtain ⟨b, o, cs, hq, q2, q3, q4⟩ := tm.one hx
  cases hq
  have i1 : IntKind.i64.wrap (((m.length : Nat) : Int) - 1) = ((m.length - 1 : Nat) : Int) := by rw [wrap_i64 (by omega) (by omega)]; omega
  have c0 : (0 : Int) ≤ ((m.length - 1 : Nat) : Int) := by omega
  have c00 : ¬ ((m.length - 1 : Nat) : Int) < 0 := by omega
  have c1 : ((m.length - 1 : Nat) : Int) < ((m.length : Nat) : Int) := by omega
  by_cases hd : x = 8711
  case neg =>
    simp (decide := true) only [go_sem, W_region, Wx_some, Nat.reduceAdd, Nat.reduceMul, Nat.reduceEqDiff, Int.reduceAdd, Int.reduceSub, Int.reduceMul, Int.reduceNeg, Int.reduceToNat, i1, c0, c00, c1, Int.toNat_natCast, q3, q4, hd]
    rw [no (by rw [hlast]; simp [hd])]
    exact ⟨_, rfl, tm⟩
  rw [hd] at hlast
  obtain ⟨a', c', f1, tk⟩ := tm.cut (lo := none) (hi := some (.int .i64 ((m.length - 1 : Nat) : Int))) (x := 0) (y := m.length - 1) rfl (by simp [boundOf]) (Nat.zero_le _) (by omega)
  rw [List.drop_zero, Nat.sub_zero, ← List.dropLast_eq_take] at tk
  rw [Nat.sub_zero] at f1
  obtain ⟨D, hD⟩ : ∃ D, D = m.dropLast := ⟨_, rfl⟩
  rw [← hD] at tk no2 yes
  have hDl : D.length = m.length - 1 := by rw [hD]; simp
  have hDm : ∀ {k y}, D[k]? = some y → m[k]? = some y := fun hy => by
    rw [hD, List.getElem?_dropLast] at hy
    split at hy
    · exact hy
    · cases hy
  simp (decide := true) only [go_sem, W_region, Wx_some, Nat.reduceAdd, Nat.reduceMul, Nat.reduceEqDiff, Int.reduceAdd, Int.reduceSub, Int.reduceMul, Int.reduceNeg, Int.reduceToNat, i1, c0, c00, c1, Int.toNat_natCast, q3, q4, hd]
  refine W_loop (α := Nat × Nat) (fun k e w => k.1 ≤ D.length ∧ k.2 ≤ k.1 ∧ e.size = 53 ∧ h = w ∧ e.get 0 = .slice (some ⟨b, o, none⟩) m.length big ∧ e.get 4 = .int .i64 ((m.length - 1 : Nat) : Int) ∧ e.get 5 = .int .i64 (k.2 : Int) ∧ e.get 6 = .int .i64 (k.1 : Int) ∧ scanQ false D = scanQ (decide (k.2 % 2 = 1)) (D.drop k.1)) (fun k => D.length - k.1) (0, 0) ?_ ?_
  · exact ⟨Nat.zero_le _, Nat.le_refl _, by simp (decide := true) only [go_sem], rfl, by simp (decide := true) only [go_sem], by simp (decide := true) only [go_sem], by simp (decide := true) only [go_sem]; rfl, by simp (decide := true) only [go_sem]; rfl, by simp⟩
  rintro ⟨k, q⟩ e w ⟨hk, hq', hsz, hw, e0, e4, e5, e6, hsc⟩ next
  subst hw
  simp only at hk hq' e5 e6 hsc
  have two : (2 : Int) ≠ 0 := by decide
  have hmod : ((q : Nat) : Int).tmod 2 = ((q % 2 : Nat) : Int) := by rw [Int.tmod_eq_emod_of_nonneg (by omega)]; omega
  by_cases hkl : (k : Int) < ((m.length - 1 : Nat) : Int)
  case neg =>
    have hke : k = D.length := by omega
    rw [hke, List.drop_of_length_le (Nat.le_refl _), scanQ] at hsc
    by_cases hq1 : ((q % 2 : Nat) : Int) = 1
    · have : q % 2 = 1 := by omega
      simp (decide := true) only [go_sem, W_region, Wx_some, Nat.reduceAdd, Nat.reduceMul, Nat.reduceEqDiff, Int.reduceAdd, Int.reduceSub, Int.reduceMul, Int.reduceNeg, Int.reduceToNat, hsz, e0, e4, e5, e6, hkl, two, hmod, hq1]
      rw [no2 hlast (by rw [hsc, this]; simp)]
      exact ⟨_, rfl, tm⟩
    · have : ¬ q % 2 = 1 := by omega
      simp (decide := true) only [go_sem, W_region, Wx_some, Nat.reduceAdd, Nat.reduceMul, Nat.reduceEqDiff, Int.reduceAdd, Int.reduceSub, Int.reduceMul, Int.reduceNeg, Int.reduceToNat, hsz, e0, e4, e5, e6, hkl, two, hmod, hq1, f1]
      refine W_call Kok (Nat.le_refl _) (rtrim_run D h tk (by omega)) fun r w x hr => ?_
      obtain ⟨hw, tr⟩ := hr
      have hw := hw.symm
      subst hw
      simp (decide := true) only [go_sem, W_region, Wx_some, Nat.reduceAdd, Nat.reduceMul, Nat.reduceEqDiff, Int.reduceAdd, Int.reduceSub, Int.reduceMul, Int.reduceNeg, Int.reduceToNat, hsz]
      rw [yes hlast (by rw [hsc]; simp [this])]
      exact ⟨_, rfl, tr⟩
  obtain ⟨y, hy⟩ : ∃ y, D[k]? = some y := ⟨_, List.getElem?_eq_getElem (by omega)⟩
  obtain ⟨b2, o2, cs2, hq, p2, p3, p4⟩ := tm.one (hDm hy)
  cases hq
  rw [q3] at p3
  cases p3
  have j0 : (0 : Int) ≤ (k : Int) := by omega
  have j2 : (k : Int) < ((m.length : Nat) : Int) := by omega
  have j1 : IntKind.i64.wrap ((k : Int) + 1) = ((k + 1 : Nat) : Int) := by rw [wrap_i64 (by omega) (by omega)]; omega
  have j3 : IntKind.i64.wrap ((q : Int) + 1) = ((q + 1 : Nat) : Int) := by rw [wrap_i64 (by omega) (by omega)]; omega
  rw [scan_step hy] at hsc
  by_cases h39 : y = 39
  · rw [if_pos h39] at hsc
    have hne : ¬ (39 : Int) = 9053 := by decide
    simp (decide := true) only [go_sem, W_region, Wx_some, Nat.reduceAdd, Nat.reduceMul, Nat.reduceEqDiff, Int.reduceAdd, Int.reduceSub, Int.reduceMul, Int.reduceNeg, Int.reduceToNat, hsz, e0, e4, e5, e6, hkl, j0, j2, Int.toNat_natCast, q3, p4, h39, j3, j1]
    refine next (k + 1, q + 1) _ _ ⟨by simp only; omega, by simp only; omega, by simp (decide := true) only [go_sem, hsz], rfl, by simp (decide := true) only [go_sem, hsz, e0], by simp (decide := true) only [go_sem, hsz, e4], by simp (decide := true) only [go_sem, hsz], by simp (decide := true) only [go_sem, hsz], ?_⟩ (by simp only; omega)
    rw [hsc]
    congr 1
    by_cases hh : q % 2 = 1
    · have : ¬ (q + 1) % 2 = 1 := by omega
      simp [hh, this]
    · have : (q + 1) % 2 = 1 := by omega
      simp [hh, this]
  rw [if_neg h39] at hsc
  by_cases hl : y = 9053
  · by_cases hq0 : ((q % 2 : Nat) : Int) = 0
    · have : ¬ q % 2 = 1 := by omega
      rw [if_pos ⟨hl, by simp [this]⟩] at hsc
      simp (decide := true) only [go_sem, W_region, Wx_some, Nat.reduceAdd, Nat.reduceMul, Nat.reduceEqDiff, Int.reduceAdd, Int.reduceSub, Int.reduceMul, Int.reduceNeg, Int.reduceToNat, hsz, e0, e4, e5, e6, hkl, j0, j2, Int.toNat_natCast, q3, p4, h39, hl, two, hmod, hq0]
      rw [no2 hlast (by rw [hsc]; simp)]
      exact ⟨_, rfl, tm⟩
    · have : q % 2 = 1 := by omega
      rw [if_neg (by simp [this])] at hsc
      simp (decide := true) only [go_sem, W_region, Wx_some, Nat.reduceAdd, Nat.reduceMul, Nat.reduceEqDiff, Int.reduceAdd, Int.reduceSub, Int.reduceMul, Int.reduceNeg, Int.reduceToNat, hsz, e0, e4, e5, e6, hkl, j0, j2, Int.toNat_natCast, q3, p4, h39, hl, two, hmod, hq0, j1]
      exact next (k + 1, q) _ _ ⟨by simp only; omega, by simp only; omega, by simp (decide := true) only [go_sem, hsz], rfl, by simp (decide := true) only [go_sem, hsz, e0], by simp (decide := true) only [go_sem, hsz, e4], by simp (decide := true) only [go_sem, hsz, e5], by simp (decide := true) only [go_sem, hsz], hsc⟩ (by simp only; omega)
  · rw [if_neg (fun hh => hl hh.1)] at hsc
    simp (decide := true) only [go_sem, W_region, Wx_some, Nat.reduceAdd, Nat.reduceMul, Nat.reduceEqDiff, Int.reduceAdd, Int.reduceSub, Int.reduceMul, Int.reduceNeg, Int.reduceToNat, hsz, e0, e4, e5, e6, hkl, j0, j2, Int.toNat_natCast, q3, p4, h39, hl, j1]
    exact next (k + 1, q) _ _ ⟨by simp only; omega, by simp only; omega, by simp (decide := true) only [go_sem, hsz], rfl, by simp (decide := true) only [go_sem, hsz, e0], by simp (decide := true) only [go_sem, hsz, e4], by simp (decide := true) only [go_sem, hsz, e5], by simp (decide := true) only [go_sem, hsz], hsc⟩ (by simp only; omega)

theorem law_run (l : List Int) (h : Heap) {a : Option Addr} {c : Nat} (sl : Sl h 1 a l.length c (rv l)) (hc : c = 0 ∨ c = big) :
    Runs K f_law28_EditEnds #[.slice a l.length c] h fun r _ => r = .bool true := by
  have t := Ln.of sl hc
  refine Runs.of Kok (Does.intro rfl (by decide +kernel) F_law28_EditEnds rfl ?_)
  by_cases h3 : (300 : Int) < ((l.length : Nat) : Int)
  · simp (decide := true) only [go_sem, W_region, Wx_some, Nat.reduceAdd, Nat.reduceMul, Nat.reduceEqDiff, Int.reduceAdd, Int.reduceSub, Int.reduceMul, Int.reduceNeg, Int.reduceToNat, h3]
    refine W_call Kok (Nat.le_refl _) (law28_awake_runs h) fun r w x hr => ?_
    subst hr
    simp (decide := true) only [go_sem, W_region, Wx_some, Nat.reduceAdd, Nat.reduceMul, Nat.reduceEqDiff, Int.reduceAdd, Int.reduceSub, Int.reduceMul, Int.reduceNeg, Int.reduceToNat]
  simp (decide := true) only [go_sem, W_region, Wx_some, Nat.reduceAdd, Nat.reduceMul, Nat.reduceEqDiff, Int.reduceAdd, Int.reduceSub, Int.reduceMul, Int.reduceNeg, Int.reduceToNat, h3]
  refine W_call Kok (Nat.le_refl _) (ends_run l h t (by omega)) fun r w x hr => ?_
  obtain ⟨hw, v, rfl, t1⟩ := hr
  have hw := hw.symm
  subst hw
  simp (decide := true) only [go_sem, W_region, Wx_some, Nat.reduceAdd, Nat.reduceMul, Nat.reduceEqDiff, Int.reduceAdd, Int.reduceSub, Int.reduceMul, Int.reduceNeg, Int.reduceToNat]
  refine W_call Kok (Nat.le_refl _) (rends_run l h t (by omega)) fun r w x hr => ?_
  obtain ⟨hw, v2, rfl, t2⟩ := hr
  have hw := hw.symm
  subst hw
  simp (decide := true) only [go_sem, W_region, Wx_some, Nat.reduceAdd, Nat.reduceMul, Nat.reduceEqDiff, Int.reduceAdd, Int.reduceSub, Int.reduceMul, Int.reduceNeg, Int.reduceToNat]
  refine W_call Kok (Nat.le_refl _) (runes_run _ h t1 t2 (by have := ends_len l; omega)) fun r w x hr => ?_
  obtain ⟨hw, rfl⟩ := hr
  have hw := hw.symm
  subst hw
  simp (decide := true) only [go_sem, W_region, Wx_some, Nat.reduceAdd, Nat.reduceMul, Nat.reduceEqDiff, Int.reduceAdd, Int.reduceSub, Int.reduceMul, Int.reduceNeg, Int.reduceToNat]
  refine W_call Kok (Nat.le_refl _) (law28_awake_runs h) fun r w x hr => ?_
  subst hr
  simp (decide := true) only [go_sem, W_region, Wx_some, Nat.reduceAdd, Nat.reduceMul, Nat.reduceEqDiff, Int.reduceAdd, Int.reduceSub, Int.reduceMul, Int.reduceNeg, Int.reduceToNat]
end Go.Proofs.YtachkofbmodnnaaGreat.E3
