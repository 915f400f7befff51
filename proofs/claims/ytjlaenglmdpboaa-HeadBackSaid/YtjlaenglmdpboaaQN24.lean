/- Proved here: a line's tokens, in plain words: what a remark behind a line changes (nothing), and where tokens begin; no condition. -/
import Derived.Test.YtjlaenglmdpboaaQN23
set_option linter.unusedSimpArgs false
set_option linter.unusedVariables false
namespace Go.Im.Lexing
/-- A line with a remark behind it. -/
abbrev rem (m s : List Int) : List Int := s ++ 9053 :: m
theorem tw_rem {p : Int → Bool} (hp : p 9053 = false) (m : List Int) : ∀ s : List Int, (rem m s).takeWhile p = s.takeWhile p
  | [] => by simp [rem, hp]
  | c :: s => by
    simp only [rem, List.cons_append, List.takeWhile_cons]
    split
    · congr 1
      exact tw_rem hp m s
    · rfl
theorem drop_rem {m s : List Int} {k : Nat} (h : k ≤ s.length) : (rem m s).drop k = rem m (s.drop k) := by
  unfold rem
  rw [List.drop_append_of_le_length h]
theorem get_rem {m s : List Int} {k : Nat} (h : k < s.length) : (rem m s)[k]? = s[k]? := List.getElem?_append_left h
theorem get_rem_end (m s : List Int) : (rem m s)[s.length]? = some 9053 := by simp [rem]
/-- A sign that is looked at, if it is another one than the remark's. -/
theorem look_rem {m s : List Int} {k : Nat} (h : k ≤ s.length) {c : Int} (hc : c ≠ 9053) : ((rem m s)[k]? = some c) = (s[k]? = some c) := by
  by_cases hk : k < s.length
  · rw [get_rem hk]
  · have : k = s.length := by omega
    subst this
    rw [get_rem_end, List.getElem?_eq_none (Nat.le_refl _)]
    simp
    exact fun hh => hc hh.symm
theorem digs_rem (m s : List Int) : digs (rem m s) = digs s := tw_rem rfl m s
theorem blanks_rem (m s : List Int) : blanks (rem m s) = blanks s := by
  unfold blanks
  rw [tw_rem (by decide) m s]
theorem hi_rem (m s : List Int) : hi (rem m s) = hi s := by
  unfold hi
  simp only [look_rem (m := m) (Nat.zero_le s.length) (show (175 : Int) ≠ 9053 by decide)]
theorem pt_rem (m s : List Int) : pt (rem m s) = pt s := by
  unfold pt
  simp only [look_rem (m := m) (Nat.zero_le s.length) (show (46 : Int) ≠ 9053 by decide)]
theorem hi_le' (s : List Int) : hi s ≤ s.length := by
  unfold hi
  split
  · rename_i h
    exact (List.getElem?_eq_some_iff.1 h).1
  · omega
theorem digs_le (s : List Int) : (digs s).length ≤ s.length := tw_le s
theorem expoS_rem (m s : List Int) : expoS (rem m s) = expoS s := by
  unfold expoS
  simp only [look_rem (m := m) (Nat.zero_le s.length) (show (69 : Int) ≠ 9053 by decide)]
  by_cases h : s[0]? = some 69
  · have h1 := (List.getElem?_eq_some_iff.1 h).1
    have h2 := hi_le' (s.drop 1)
    rw [List.length_drop] at h2
    rw [drop_rem (show 1 ≤ s.length by omega), hi_rem, drop_rem (show 1 + hi (s.drop 1) ≤ s.length by omega), digs_rem]
  · rw [if_neg h, if_neg h]
theorem expoS_le {s : List Int} {k : Nat} (h : expoS s = some k) : k ≤ s.length := by
  unfold expoS at h
  split at h
  · rename_i h0
    have h1 := (List.getElem?_eq_some_iff.1 h0).1
    have h2 := hi_le' (s.drop 1)
    have h3 := digs_le (s.drop (1 + hi (s.drop 1)))
    rw [List.length_drop] at h2 h3
    split at h
    · cases h
    · cases h
      omega
  · cases h
    omega
theorem begins_rem (m s : List Int) : begins (rem m s) = begins s := by
  cases s with
  | nil => rfl
  | cons c s => cases s with
    | nil => simp [begins, rem, show isD 9053 = false from rfl]
    | cons d s => simp [begins, rem]
theorem pt_le (s : List Int) : pt s ≤ 1 ∧ pt s ≤ s.length := by
  unfold pt
  split
  · rename_i h
    exact ⟨Nat.le_refl _, (List.getElem?_eq_some_iff.1 h).1⟩
  · omega
theorem readS_le {s : List Int} {k : Nat} (h : readS s = some k) : 1 ≤ k ∧ k ≤ s.length := by
  unfold readS at h
  have h1 := hi_le' s
  have h2 := digs_le (s.drop (hi s))
  have h3 := pt_le (s.drop (hi s + (digs (s.drop (hi s))).length))
  rw [List.length_drop] at h2 h3
  simp only at h
  by_cases hp : pt (s.drop (hi s + (digs (s.drop (hi s))).length)) = 1
  · rw [hp] at h h3
    have h4 := digs_le (s.drop (hi s + (digs (s.drop (hi s))).length + 1))
    rw [List.length_drop] at h4
    simp only [if_true] at h
    split at h
    · cases h
    · split at h
      · cases h
      · rename_i k' hk
        have h5 := expoS_le hk
        rw [List.length_drop] at h5
        split at h
        · cases h
        · cases h
          omega
  · have hp0 : pt (s.drop (hi s + (digs (s.drop (hi s))).length)) = 0 := by omega
    rw [hp0] at h
    simp only [Nat.zero_ne_one, if_false, false_and, Nat.add_zero] at h
    split at h
    · cases h
    · rename_i k' hk
      have h5 := expoS_le hk
      rw [List.length_drop] at h5
      split at h
      · cases h
      · cases h
        omega
theorem readS_rem (m s : List Int) : readS (rem m s) = readS s := by
  have h1 := hi_le' s
  have h2 := digs_le (s.drop (hi s))
  have h3 := pt_le (s.drop (hi s + (digs (s.drop (hi s))).length))
  rw [List.length_drop] at h2 h3
  unfold readS
  simp only [hi_rem]
  rw [drop_rem h1, digs_rem, drop_rem (show hi s + (digs (s.drop (hi s))).length ≤ s.length by omega), pt_rem]
  by_cases hp : pt (s.drop (hi s + (digs (s.drop (hi s))).length)) = 1
  · rw [hp] at h3 ⊢
    have h4 := digs_le (s.drop (hi s + (digs (s.drop (hi s))).length + 1))
    rw [List.length_drop] at h4
    simp only [if_true]
    rw [drop_rem (show hi s + (digs (s.drop (hi s))).length + 1 ≤ s.length by omega), digs_rem, drop_rem (show hi s + (digs (s.drop (hi s))).length + 1 + (digs (s.drop (hi s + (digs (s.drop (hi s))).length + 1))).length ≤ s.length by omega), expoS_rem]
  · have hp0 : pt (s.drop (hi s + (digs (s.drop (hi s))).length)) = 0 := by omega
    rw [hp0]
    simp only [Nat.zero_ne_one, if_false, false_and, Nat.add_zero]
    rw [drop_rem (show hi s + (digs (s.drop (hi s))).length ≤ s.length by omega), expoS_rem]
theorem blanks_le (s : List Int) : blanks s ≤ s.length := tw_le s
theorem numsF_s (f : Nat) (s : List Int) : numsF (f + 1) s = if begins s then match readS s with
      | none => none
      | some k => match numsF f (s.drop (k + blanks (s.drop k))) with
        | none => none
        | some (0, _) => some (1, k)
        | some (n + 1, m) => some (n + 2, k + blanks (s.drop k) + m)
    else some (0, 0) := rfl
theorem numsF_le : ∀ (f : Nat) {s : List Int} {n m : Nat}, numsF f s = some (n, m) → m ≤ s.length ∧ (begins s = true → 1 ≤ m)
  | 0, s, n, m, h => by cases h
  | f + 1, s, n, m, h => by
    rw [numsF_s] at h
    split at h
    · rename_i hb
      split at h
      · cases h
      · rename_i k hk
        have h1 := readS_le hk
        have h2 := blanks_le (s.drop k)
        rw [List.length_drop] at h2
        split at h
        · cases h
        · cases h
          exact ⟨h1.2, fun _ => h1.1⟩
        · rename_i n' m' hq
          have h3 := (numsF_le f hq).1
          rw [List.length_drop] at h3
          cases h
          exact ⟨by omega, fun _ => by omega⟩
    · rename_i hb
      cases h
      exact ⟨by omega, fun hh => absurd hh hb⟩
theorem numsF_rem (m : List Int) : ∀ (f : Nat) (s : List Int), numsF f (rem m s) = numsF f s
  | 0, s => rfl
  | f + 1, s => by
    rw [numsF_s, numsF_s, begins_rem, readS_rem]
    cases hr : readS s with
    | none => rfl
    | some k =>
      have h1 := readS_le hr
      have h2 := blanks_le (s.drop k)
      rw [List.length_drop] at h2
      simp only
      rw [drop_rem h1.2, blanks_rem, drop_rem (show k + blanks (s.drop k) ≤ s.length by omega), numsF_rem m f]
theorem textF_rem (m : List Int) : ∀ {s : List Int} {k : Nat}, textF s = some k → textF (rem m s) = some k := by
  intro s
  induction s using textF.induct with
  | case1 => intro k h; simp [textF] at h
  | case2 s ih =>
    intro k h
    simp only [textF, Option.map_eq_some_iff] at h
    obtain ⟨j, h1, rfl⟩ := h
    simp only [rem, List.cons_append, textF]
    have := ih h1
    simp only [rem] at this
    rw [this]
    rfl
  | case3 s h' =>
    intro k h
    rw [textF] at h
    · cases h
      cases s with
      | nil => rfl
      | cons d s =>
        simp only [rem, List.cons_append]
        rw [textF]
        intro z hz
        simp only [List.cons.injEq] at hz
        exact h' s (by rw [hz.1])
    · exact h'
  | case4 c s h1 h2 ih =>
    intro k h
    rw [textF] at h
    · simp only [Option.map_eq_some_iff] at h
      obtain ⟨j, h3, rfl⟩ := h
      have := ih h3
      simp only [rem, List.cons_append] at this ⊢
      rw [textF, this]
      · rfl
      · intro z hz _
        exact h2 hz
      · exact h2
    · exact h1
    · exact h2
theorem textF_le {s : List Int} {k : Nat} (h : textF s = some k) : 1 ≤ k ∧ k ≤ s.length := Go.Proofs.Ytjlaenglmdpboaa.N20.textF_len h
theorem wordS_rem (m s : List Int) (k : Nat) : wordS k (rem m s) = wordS k s := by
  unfold wordS
  rw [tw_rem (by decide) m s]
theorem wordS_le {k : Nat} {s : List Int} {x : Tk × Nat} (h : wordS k s = some x) : 1 ≤ x.2 ∧ x.2 ≤ s.length := by
  unfold wordS at h
  split at h
  · rename_i hn
    cases h
    exact ⟨Go.Proofs.Ytjlaenglmdpboaa.N20.nameOK_len hn, tw_le s⟩
  · cases h
end Go.Im.Lexing
