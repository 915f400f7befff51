/- Proved here: a remark behind a line changes none of its tokens, which begin at rising places, at no blank; no condition. -/
import Derived.Test.YtjlaenglmdpboaaQN24
set_option linter.unusedSimpArgs false
set_option linter.unusedVariables false
namespace Go.Im.Lexing
open Go.Proofs.Ytjlaenglmdpboaa.N23
theorem quad_rem (m s : List Int) (c : Int) : quadS (rem m (c :: s)) 0 c = quadS (c :: s) 0 c := by
  unfold quadS
  cases s with
  | nil => simp [rem, show ¬ kindOf 9053 = 2 by decide]
  | cons d s => simp [rem]
theorem tokS_cons (c : Int) (s : List Int) : tokS (c :: s) = if kindOf c = 1 then some (none, 1)
    else if begins (c :: s) then (numsF 600 (c :: s)).map fun x => (some ⟨1, [], 0⟩, x.2)
    else if kindOf c = 2 then (wordS 2 (c :: s)).map fun x => (some x.1, x.2)
    else if c = 39 then (textF s).map fun k => (some ⟨1, [], 0⟩, 1 + k)
    else if quadS (c :: s) 0 c = true then (wordS 3 s).map fun x => (some x.1, 1 + x.2)
    else if kindOf c = 4 ∨ kindOf c = 5 then some (some ⟨4, [], c⟩, 1)
    else if kindOf c = 6 then some (some ⟨5, [], c⟩, 1)
    else if kindOf c = 7 then some (some ⟨6, [], c⟩, 1)
    else none := by
  have := tokS_at (l := c :: s) (i := 0) (c := c) rfl
  simpa using this
theorem tokS_le {s : List Int} {t : Option Tk} {k : Nat} (h : tokS s = some (t, k)) : 1 ≤ k ∧ k ≤ s.length := by
  cases s with
  | nil => cases h
  | cons c s =>
    rw [tokS_cons] at h
    simp only [List.length_cons]
    split at h
    · cases h; omega
    · split at h
      · rename_i hb
        simp only [Option.map_eq_some_iff, Prod.mk.injEq] at h
        obtain ⟨⟨n, m⟩, h1, _, rfl⟩ := h
        have := numsF_le 600 h1
        simp only [List.length_cons] at this
        exact ⟨this.2 hb, this.1⟩
      · split at h
        · simp only [Option.map_eq_some_iff, Prod.mk.injEq] at h
          obtain ⟨x, h1, _, rfl⟩ := h
          exact wordS_le h1
        · split at h
          · simp only [Option.map_eq_some_iff, Prod.mk.injEq] at h
            obtain ⟨x, h1, _, rfl⟩ := h
            have := textF_le h1
            omega
          · split at h
            · simp only [Option.map_eq_some_iff, Prod.mk.injEq] at h
              obtain ⟨x, h1, _, rfl⟩ := h
              have := wordS_le h1
              omega
            · split at h
              · cases h; omega
              · split at h
                · cases h; omega
                · split at h
                  · cases h; omega
                  · cases h
theorem tokS_rem (m : List Int) {s : List Int} {t : Option Tk} {k : Nat} (h : tokS s = some (t, k)) : tokS (rem m s) = some (t, k) := by
  cases s with
  | nil => cases h
  | cons c s =>
    have e : rem m (c :: s) = c :: rem m s := rfl
    have hb := begins_rem m (c :: s)
    have hn := numsF_rem m 600 (c :: s)
    have hw := wordS_rem m (c :: s) 2
    have hq := quad_rem m s c
    rw [e] at hb hn hw hq ⊢
    rw [tokS_cons] at h ⊢
    rw [hb, hn, hw, hq, wordS_rem]
    by_cases h1 : kindOf c = 1
    · rw [if_pos h1] at h ⊢
      exact h
    rw [if_neg h1] at h ⊢
    by_cases h2 : begins (c :: s) = true
    · rw [if_pos h2] at h ⊢
      exact h
    rw [if_neg h2] at h ⊢
    by_cases h3 : kindOf c = 2
    · rw [if_pos h3] at h ⊢
      exact h
    rw [if_neg h3] at h ⊢
    by_cases h4 : c = 39
    · rw [if_pos h4] at h ⊢
      simp only [Option.map_eq_some_iff] at h
      obtain ⟨j, hj, h5⟩ := h
      rw [textF_rem m hj]
      simpa using h5
    rw [if_neg h4] at h ⊢
    exact h
theorem lexF_s (f at' : Nat) (c : Int) (s : List Int) : lexF (f + 1) at' (c :: s) = if c = 9053 then some [] else match tokS (c :: s) with
      | none => none
      | some (none, k) => lexF f (at' + k) ((c :: s).drop k)
      | some (some t, k) => (lexF f (at' + k) ((c :: s).drop k)).map ((at', t) :: ·) := rfl
theorem lexF_rem (m : List Int) : ∀ (f at' : Nat) {s : List Int} {ts : List (Nat × Tk)}, lexF f at' s = some ts → lexF f at' (rem m s) = some ts
  | 0, _, _, _, h => by cases h
  | f + 1, at', [], ts, h => by
    cases h
    simp only [rem, List.nil_append]
    rw [lexF_s, if_pos rfl]
  | f + 1, at', c :: s, ts, h => by
    have e : rem m (c :: s) = c :: rem m s := rfl
    rw [lexF_s] at h
    rw [e, lexF_s]
    by_cases hc : c = 9053
    · rw [if_pos hc] at h ⊢
      exact h
    rw [if_neg hc] at h ⊢
    cases ht : tokS (c :: s) with
    | none => rw [ht] at h; cases h
    | some x =>
      obtain ⟨t, k⟩ := x
      have h1 := tokS_le ht
      rw [← e, tokS_rem m ht]
      rw [ht] at h
      cases t with
      | none =>
        simp only at h ⊢
        rw [drop_rem h1.2]
        exact lexF_rem m f _ h
      | some t =>
        simp only [Option.map_eq_some_iff] at h ⊢
        obtain ⟨ts', h2, rfl⟩ := h
        rw [drop_rem h1.2]
        exact ⟨ts', lexF_rem m f _ h2, rfl⟩
theorem lex_rem {l m : List Int} {ts : List (Nat × Tk)} (h : lex l = some ts) (hl : (rem m l).length ≤ 512) : lex (rem m l) = some ts := by
  unfold lex at h ⊢
  rw [if_neg (by omega)]
  split at h
  · cases h
  · exact lexF_rem m 600 0 h
theorem kindOf_32 : kindOf 32 = 1 := by decide
/-- Where tokens begin. -/
def Rising (l : List Int) : Nat → List (Nat × Tk) → Prop
  | _, [] => True
  | p, t :: ts => p ≤ t.1 ∧ (∃ c, l[t.1]? = some c ∧ c ≠ 32) ∧ Rising l (t.1 + 1) ts
theorem Rising.mono {l : List Int} {p q : Nat} (hpq : p ≤ q) : ∀ {ts : List (Nat × Tk)}, Rising l q ts → Rising l p ts
  | [], _ => trivial
  | t :: ts, h => ⟨Nat.le_trans hpq h.1, h.2⟩
theorem lexF_rising (l : List Int) : ∀ (f p : Nat) {ts : List (Nat × Tk)}, lexF f p (l.drop p) = some ts → Rising l p ts
  | 0, _, _, h => by cases h
  | f + 1, p, ts, h => by
    cases hc : l[p]? with
    | none =>
      rw [List.drop_of_length_le (by simpa using hc)] at h
      cases h
      trivial
    | some c =>
      have hp := (List.getElem?_eq_some_iff.1 hc).1
      have e1 : l.drop p = c :: l.drop (p + 1) := by
        rw [List.drop_eq_getElem_cons hp, (List.getElem?_eq_some_iff.1 hc).2]
      have hd : ∀ k, (c :: l.drop (p + 1)).drop k = l.drop (p + k) := fun k => by rw [← e1, List.drop_drop]
      rw [e1, lexF_s] at h
      split at h
      · cases h
        trivial
      · split at h
        · cases h
        · rename_i k ht
          have h1 := tokS_le ht
          rw [hd] at h
          exact (lexF_rising l f (p + k) h).mono (by omega)
        · rename_i t k ht
          have h1 := tokS_le ht
          rw [hd] at h
          simp only [Option.map_eq_some_iff] at h
          obtain ⟨ts', h2, rfl⟩ := h
          refine ⟨Nat.le_refl _, ⟨c, hc, ?_⟩, (lexF_rising l f (p + k) h2).mono (by simp only; omega)⟩
          rintro rfl
          rw [tokS_cons, if_pos kindOf_32] at ht
          cases ht
theorem lex_rising {l : List Int} {ts : List (Nat × Tk)} (h : lex l = some ts) : Rising l 0 ts := by
  unfold lex at h
  split at h
  · cases h
  · exact lexF_rising l 600 0 h
theorem Rising.at {l : List Int} : ∀ {p : Nat} {ts : List (Nat × Tk)} {i : Nat} {t : Nat × Tk}, Rising l p ts → ts[i]? = some t → p ≤ t.1 ∧ (∃ c, l[t.1]? = some c ∧ c ≠ 32) ∧ (∀ u, 0 < i → ts[i - 1]? = some u → u.1 < t.1)
  | p, [], i, t, _, h => by simp at h
  | p, u :: ts, 0, t, hr, h => by
    cases h
    exact ⟨hr.1, hr.2.1, fun _ h0 => by omega⟩
  | p, u :: ts, i + 1, t, hr, h => by
    have h1 := Rising.at hr.2.2 (i := i) (by simpa using h)
    have h2 := hr.1
    refine ⟨by omega, h1.2.1, fun v _ hv => ?_⟩
    cases i with
    | zero =>
      cases hv
      omega
    | succ i => exact h1.2.2 v (by omega) (by simpa using hv)
end Go.Im.Lexing
