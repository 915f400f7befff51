/- Proved here: in plain Lean, how a line's number is read and written, and that what is written is read; no condition beyond those that each rule names, no program. -/
import Derived.Test.YtachkofbmodnnaaGreatEE1
import Derived.Test.YtachkofbmodnnaaGreatEV1
set_option linter.unusedSimpArgs false
set_option linter.unusedVariables false
namespace Go.Im.Editing
open Go Go.Im Go.Im.Lexing Go.Im.Heads
theorem digs_pre {l : List Int} {i : Nat} (h1 : (l.take i).all isD = true) (h2 : ∀ c, l[i]? = some c → isD c = false) : digs l = l.take i := by
  unfold digs
  have : ∀ (a r : List Int), a.all isD = true → (∀ c, r[0]? = some c → isD c = false) → (a ++ r).takeWhile isD = a := by
    intro a
    induction a with
    | nil =>
      intro r _ hr
      cases r with
      | nil => rfl
      | cons c r =>
        rw [List.nil_append, List.takeWhile_cons_of_neg]
        have := hr c rfl
        simp [this]
    | cons x a ih =>
      intro r ha hr
      simp only [List.all_cons, Bool.and_eq_true] at ha
      rw [List.cons_append, List.takeWhile_cons_of_pos ha.1, ih r ha.2 hr]
  have h := this (l.take i) (l.drop i) h1 (fun c hc => h2 c (by rw [List.getElem?_drop] at hc; exact hc))
  rwa [List.take_append_drop] at h
theorem digs_more {l : List Int} {i : Nat} (h1 : (l.take i).all isD = true) : i ≤ l.length → i ≤ (digs l).length := by
  intro hi
  have : ∀ (a r : List Int), a.all isD = true → a.length ≤ ((a ++ r).takeWhile isD).length := by
    intro a
    induction a with
    | nil => intro r _; simp
    | cons x a ih =>
      intro r ha
      simp only [List.all_cons, Bool.and_eq_true] at ha
      rw [List.cons_append, List.takeWhile_cons_of_pos ha.1, List.length_cons, List.length_cons]
      have := ih r ha.2
      omega
  have h := this (l.take i) (l.drop i) h1
  rw [List.take_append_drop, List.length_take] at h
  unfold digs
  omega
theorem all_snoc {l : List Int} {i : Nat} {c : Int} (h : l[i]? = some c) (h1 : (l.take i).all isD = true) (h2 : isD c = true) : (l.take (i + 1)).all isD = true := by
  rw [List.take_add_one, h, List.all_append, h1]
  simp [h2]
/-- Ahead of a point. -/
def RA (l : List Int) (i : Nat) (n part : Nat) : Prop := i ≤ 3 ∧ i ≤ l.length ∧ (l.take i).all isD = true ∧ n = decI (l.take i) ∧ part = 10000
/-- Behind the point at j. -/
def RB' (l : List Int) (j i : Nat) (n part : Nat) : Prop := 1 ≤ j ∧ j ≤ 3 ∧ (l.take j).all isD = true ∧ l[j]? = some 46 ∧ j + 1 < l.length ∧ j + 1 ≤ i ∧ i ≤ l.length ∧ i - (j + 1) ≤ 4 ∧ ((l.drop (j + 1)).take (i - (j + 1))).all isD = true ∧
  n = decI (l.take j) * 10000 + frac 1000 ((l.drop (j + 1)).take (i - (j + 1))) ∧ part = 1000 / 10 ^ (i - (j + 1))
theorem not46 : isD 46 = false := by decide
theorem ra_zero (l : List Int) : RA l 0 0 10000 := ⟨by omega, by omega, by simp, by simp [decI], rfl⟩
theorem ra_digit {l : List Int} {i n part : Nat} {c : Int} (H : RA l i n part) (h : l[i]? = some c) (hd : isD c = true) (hi : i ≤ 2) : RA l (i + 1) (10 * n + (c.toNat - 48)) 10000 := by
  obtain ⟨h1, h2, h3, h4, h5⟩ := H
  have := (List.getElem?_eq_some_iff.1 h).1
  refine ⟨by omega, by omega, all_snoc h h3 hd, ?_, rfl⟩
  rw [List.take_add_one, h, Option.toList_some, decI_snoc, h4]
theorem ra_point {l : List Int} {i n part : Nat} (H : RA l i n part) (h : l[i]? = some 46) (h0 : 0 < i) (h1 : i + 1 < l.length) : RB' l i (i + 1) (n * 10000) 1000 := by
  obtain ⟨q1, q2, q3, q4, q5⟩ := H
  exact ⟨h0, q1, q3, h, h1, by omega, by omega, by omega, by simp, by simp [frac, q4], by simp⟩
theorem ra_bad {l : List Int} {i n part : Nat} {c : Int} (H : RA l i n part) (h : l[i]? = some c) (hd : isD c = false) (hp : ¬ (c = 46 ∧ 0 < i ∧ i + 1 < l.length)) : readE l = none := by
  obtain ⟨h1, h2, h3, h4, h5⟩ := H
  have hlt := (List.getElem?_eq_some_iff.1 h).1
  have e : digs l = l.take i := digs_pre h3 fun d hh => by rw [h] at hh; cases hh; exact hd
  have el : (digs l).length = i := by rw [e, List.length_take]; omega
  unfold readE
  rw [el]
  by_cases h0 : i = 0
  · rw [if_pos (.inl h0)]
  rw [if_neg (by omega), if_neg (by omega), if_neg]
  rintro ⟨g1, g2, g3, g4⟩
  rw [h] at g1
  cases g1
  rw [List.length_drop] at g2
  exact hp ⟨rfl, by omega, by omega⟩
theorem ra_long {l : List Int} {i n part : Nat} {c : Int} (H : RA l i n part) (h : l[i]? = some c) (hd : isD c = true) (hi : 2 < i) : readE l = none := by
  obtain ⟨h1, h2, h3, h4, h5⟩ := H
  have hlt := (List.getElem?_eq_some_iff.1 h).1
  have := digs_more (all_snoc h h3 hd) (by omega)
  unfold readE
  rw [if_pos (.inr (by omega))]
theorem ra_end {l : List Int} {i n part : Nat} (H : RA l i n part) (h : i = l.length) : readE l = if l = [] then none else some (n * 10000) := by
  obtain ⟨h1, h2, h3, h4, h5⟩ := H
  subst h
  rw [List.take_length] at h3 h4
  have e : digs l = l := by
    have := digs_pre (l := l) (i := l.length) (by rw [List.take_length]; exact h3) (fun c hc => by simp at hc)
    rwa [List.take_length] at this
  unfold readE
  rw [e]
  by_cases h0 : l = []
  · subst h0
    rfl
  · have : l.length ≠ 0 := fun hh => h0 (List.eq_nil_of_length_eq_zero hh)
    rw [if_neg (by omega), if_pos rfl, if_neg h0, h4]
theorem rb_of {l : List Int} {j i n part : Nat} (H : RB' l j i n part) : readE l = if (l.drop (j + 1)).length ≤ 4 ∧ (l.drop (j + 1)).all isD = true then some (decI (l.take j) * 10000 + frac 1000 (l.drop (j + 1))) else none := by
  obtain ⟨h1, h2, h3, h4, h5, h6, h7, h8, h9, h10, h11⟩ := H
  have e : digs l = l.take j := digs_pre h3 fun d hh => by rw [h4] at hh; cases hh; exact not46
  have el : (digs l).length = j := by rw [e, List.length_take]; omega
  unfold readE
  rw [el, if_neg (by omega), if_neg (by omega), e]
  by_cases hc : (l.drop (j + 1)).length ≤ 4 ∧ (l.drop (j + 1)).all isD = true
  · rw [if_pos ⟨h4, by rw [List.length_drop]; omega, hc.1, hc.2⟩, if_pos hc]
  · rw [if_neg (fun hh => hc ⟨hh.2.2.1, hh.2.2.2⟩), if_neg hc]
theorem drop_at {l : List Int} {j i : Nat} {c : Int} (h : l[i]? = some c) (hj : j + 1 ≤ i) : (l.drop (j + 1))[i - (j + 1)]? = some c := by
  rw [List.getElem?_drop, show j + 1 + (i - (j + 1)) = i by omega]
  exact h
theorem rb_digit {l : List Int} {j i n part : Nat} {c : Int} (H : RB' l j i n part) (h : l[i]? = some c) (hd : isD c = true) (hp : part ≠ 0) : RB' l j (i + 1) (n + (c.toNat - 48) * part) (part / 10) := by
  obtain ⟨h1, h2, h3, h4, h5, h6, h7, h8, h9, h10, h11⟩ := H
  have hlt := (List.getElem?_eq_some_iff.1 h).1
  have h4' : i - (j + 1) ≠ 4 := by
    intro hh
    rw [hh] at h11
    simp at h11
    omega
  have e1 : i + 1 - (j + 1) = (i - (j + 1)) + 1 := by omega
  have hc := drop_at h h6
  refine ⟨h1, h2, h3, h4, h5, by omega, by omega, by omega, ?_, ?_, ?_⟩
  · rw [e1]
    exact all_snoc hc h9 hd
  · rw [e1, List.take_add_one, hc, Option.toList_some, frac_snoc, h10, h11, List.length_take, List.length_drop, Nat.min_eq_left (by omega)]
    omega
  · rw [e1, h11, Nat.pow_succ, Nat.div_div_eq_div_mul]
theorem rb_bad {l : List Int} {j i n part : Nat} {c : Int} (H : RB' l j i n part) (h : l[i]? = some c) (hd : isD c = false) : readE l = none := by
  rw [rb_of H, if_neg]
  rintro ⟨_, g⟩
  obtain ⟨h1, h2, h3, h4, h5, h6, h7, h8, h9, h10, h11⟩ := H
  have := List.all_eq_true.1 g c (List.mem_of_getElem? (drop_at h h6))
  rw [hd] at this
  cases this
theorem rb_long {l : List Int} {j i n : Nat} {c : Int} (H : RB' l j i n 0) (h : l[i]? = some c) : readE l = none := by
  rw [rb_of H, if_neg]
  rintro ⟨g, _⟩
  obtain ⟨h1, h2, h3, h4, h5, h6, h7, h8, h9, h10, h11⟩ := H
  have hlt := (List.getElem?_eq_some_iff.1 h).1
  rw [List.length_drop] at g
  have h12 : i - (j + 1) = 0 ∨ i - (j + 1) = 1 ∨ i - (j + 1) = 2 ∨ i - (j + 1) = 3 := by omega
  rcases h12 with hh | hh | hh | hh <;> (rw [hh] at h11; simp at h11)
theorem rb_end {l : List Int} {j i n part : Nat} (H : RB' l j i n part) (h : i = l.length) : readE l = some n := by
  have H' := H
  obtain ⟨h1, h2, h3, h4, h5, h6, h7, h8, h9, h10, h11⟩ := H
  have e : (l.drop (j + 1)).take (i - (j + 1)) = l.drop (j + 1) := List.take_of_length_le (by rw [List.length_drop]; omega)
  rw [e] at h9 h10
  rw [rb_of H', if_pos ⟨by rw [List.length_drop]; omega, h9⟩, h10]
theorem decI_le : ∀ {l : List Int}, l.all isD = true → decI l < 10 ^ l.length := by
  intro l
  have : ∀ (l : List Int) (n : Nat), l.all isD = true → l.foldl (fun n c => 10 * n + (c.toNat - 48)) n < (n + 1) * 10 ^ l.length := by
    intro l
    induction l with
    | nil => intro n _; simp
    | cons c l ih =>
      intro n h
      simp only [List.all_cons, Bool.and_eq_true] at h
      have hc : c.toNat - 48 ≤ 9 := by
        have := h.1
        simp only [isD, Bool.and_eq_true, decide_eq_true_eq] at this
        omega
      have := ih (10 * n + (c.toNat - 48)) h.2
      rw [List.foldl_cons, List.length_cons, Nat.pow_succ]
      refine Nat.lt_of_lt_of_le this ?_
      have : (n + 1) * (10 ^ l.length * 10) = (10 * n + 10) * 10 ^ l.length := by
        rw [Nat.mul_comm (10 ^ l.length) 10, ← Nat.mul_assoc]
        congr 1
        omega
      rw [this]
      exact Nat.mul_le_mul_right _ (by omega)
  intro h
  have := this l 0 h
  rw [Nat.zero_add, Nat.one_mul] at this
  exact this
theorem ra_le {l : List Int} {i n part : Nat} (H : RA l i n part) : n < 1000 := by
  obtain ⟨h1, h2, h3, h4, h5⟩ := H
  have := decI_le h3
  rw [List.length_take, Nat.min_eq_left h2, ← h4] at this
  have : n < 10 ^ 3 := Nat.lt_of_lt_of_le this (Nat.pow_le_pow_right (by omega) h1)
  omega
theorem frac_le : ∀ {l : List Int} {p : Nat}, l.all isD = true → frac p l ≤ 10 * p
  | [], p, _ => by simp [frac]
  | c :: l, p, h => by
    simp only [List.all_cons, Bool.and_eq_true] at h
    have hc : c.toNat - 48 ≤ 9 := by
      have := h.1
      simp only [isD, Bool.and_eq_true, decide_eq_true_eq] at this
      omega
    have h1 := frac_le (p := p / 10) h.2
    have h2 : (c.toNat - 48) * p ≤ 9 * p := Nat.mul_le_mul_right _ hc
    rw [frac]
    omega
theorem rb_le {l : List Int} {j i n part : Nat} (H : RB' l j i n part) : n ≤ 10000000 ∧ part ≤ 1000 := by
  obtain ⟨h1, h2, h3, h4, h5, h6, h7, h8, h9, h10, h11⟩ := H
  have q1 := decI_le h3
  rw [List.length_take, Nat.min_eq_left (by omega)] at q1
  have q2 : decI (l.take j) < 10 ^ 3 := Nat.lt_of_lt_of_le q1 (Nat.pow_le_pow_right (by omega) h2)
  have q3 := frac_le (p := 1000) h9
  refine ⟨by omega, ?_⟩
  rw [h11]
  exact Nat.div_le_self _ _

/-! ### The numbers of lines, written -/
/-- A number's digits, the last one first. -/
def rdF : Nat → Nat → List UInt8
  | 0, _ => []
  | f + 1, n => if n = 0 then [] else UInt8.ofNat (48 + n % 10) :: rdF f (n / 10)
theorem rdF_more : ∀ {f g n : Nat}, n < 10 ^ f → f ≤ g → rdF g n = rdF f n
  | 0, g, n, h, _ => by
    have : n = 0 := by simpa using h
    subst this
    cases g <;> simp [rdF]
  | f + 1, 0, n, h, hg => by omega
  | f + 1, g + 1, n, h, hg => by
    rw [rdF, rdF]
    by_cases h0 : n = 0
    · simp [h0]
    · rw [if_neg h0, if_neg h0, rdF_more (f := f) (by rw [Nat.pow_succ] at h; omega) (by omega)]
/-- The digits behind the point. -/
def frF : Nat → Nat → Nat → List UInt8
  | 0, _, _ => []
  | f + 1, r, p => if r = 0 then [] else UInt8.ofNat (48 + r / p) :: frF f (r % p) (p / 10)
def wholeT (w : Nat) : List UInt8 := if w = 0 then [48] else (rdF 5 w).reverse
def fracT (r : Nat) : List UInt8 := if r = 0 then [] else 46 :: frF 4 r 1000
/-- A line's number. -/
def numT (n : Nat) : List UInt8 := wholeT (n / 10000) ++ fracT (n % 10000)
def rt0 (l : List UInt8) : List UInt8 := (l.reverse.dropWhile fun c => c == 48).reverse
def okW (w : Nat) : Bool := (I8 (wholeT w)).all isD && decide (1 ≤ (wholeT w).length) && decide ((wholeT w).length ≤ 3) && decide (decI (I8 (wholeT w)) = w)
def okF (r : Nat) : Bool := (I8 (frF 4 r 1000)).all isD && decide (1 ≤ (frF 4 r 1000).length) && decide ((frF 4 r 1000).length ≤ 4) && decide (frac 1000 (I8 (frF 4 r 1000)) = r) && ((frF 4 r 1000) == rt0 ((rdF 5 (10000 + r)).reverse.drop 1))
set_option maxRecDepth 1000000 in
theorem allW : (List.range 1000).all okW = true := by decide +kernel
set_option maxRecDepth 1000000 in
theorem allF : (List.range 10000).all (fun r => r == 0 || okF r) = true := by decide +kernel
theorem okW_of {w : Nat} (h : w < 1000) : (I8 (wholeT w)).all isD = true ∧ 1 ≤ (wholeT w).length ∧ (wholeT w).length ≤ 3 ∧ decI (I8 (wholeT w)) = w := by
  have := List.all_eq_true.1 allW w (List.mem_range.2 h)
  simpa [okW, and_assoc] using this
theorem okF_of {r : Nat} (h : r < 10000) (h0 : r ≠ 0) : (I8 (frF 4 r 1000)).all isD = true ∧ 1 ≤ (frF 4 r 1000).length ∧ (frF 4 r 1000).length ≤ 4 ∧ frac 1000 (I8 (frF 4 r 1000)) = r ∧ frF 4 r 1000 = rt0 ((rdF 5 (10000 + r)).reverse.drop 1) := by
  have := List.all_eq_true.1 allF r (List.mem_range.2 h)
  simpa [okF, h0, and_assoc] using this
theorem zero_rt : rt0 ((rdF 5 10000).reverse.drop 1) = [] := by decide +kernel
/-- What is written is read. -/
theorem read_num {n : Nat} (h : n ≤ 9999999) : readE (I8 (numT n)) = some n := by
  have hw : n / 10000 < 1000 := by omega
  have hr : n % 10000 < 10000 := by omega
  obtain ⟨w1, w2, w3, w4⟩ := okW_of hw
  obtain ⟨D, hD⟩ : ∃ D, D = I8 (wholeT (n / 10000)) := ⟨_, rfl⟩
  have hDl : D.length = (wholeT (n / 10000)).length := by rw [hD, I8_len]
  rw [← hD] at w1 w4
  unfold numT
  rw [I8_append, ← hD]
  by_cases h0 : n % 10000 = 0
  · rw [fracT, if_pos h0]
    have H : RA (D ++ I8 []) (D.length) (decI D) 10000 := ⟨by omega, by simp [I8], by simp [I8, w1], by simp [I8], rfl⟩
    rw [ra_end H (by simp [I8]), if_neg (by intro hh; have := congrArg List.length hh; simp [I8] at this; rw [this] at hDl; simp at hDl; omega), w4]
    congr 1
    omega
  · obtain ⟨f1, f2, f3, f4, f5⟩ := okF_of hr h0
    obtain ⟨T, hT⟩ : ∃ T, T = I8 (frF 4 (n % 10000) 1000) := ⟨_, rfl⟩
    have hTl : T.length = (frF 4 (n % 10000) 1000).length := by rw [hT, I8_len]
    rw [← hT] at f1 f4
    rw [fracT, if_neg h0]
    have e : I8 (46 :: frF 4 (n % 10000) 1000) = 46 :: T := by rw [hT]; rfl
    rw [e]
    have ed : (D ++ 46 :: T).drop (D.length + 1) = T := by simp
    have et : (D ++ 46 :: T).take D.length = D := by simp
    have H : RB' (D ++ 46 :: T) D.length (D.length + 1 + T.length) (decI D * 10000 + frac 1000 T) (1000 / 10 ^ T.length) := by
      refine ⟨by omega, by omega, by rw [et]; exact w1, by simp, by simp; omega, by omega, by simp; omega, by omega, ?_, ?_, ?_⟩
      · rw [ed, show D.length + 1 + T.length - (D.length + 1) = T.length by omega, List.take_length]
        exact f1
      · rw [et, ed, show D.length + 1 + T.length - (D.length + 1) = T.length by omega, List.take_length]
      · rw [show D.length + 1 + T.length - (D.length + 1) = T.length by omega]
    rw [rb_end H (by simp; omega), w4, f4]
    congr 1
    omega
end Go.Im.Editing
