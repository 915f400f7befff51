/- Proved here: in plain Lean, how lines end an edit, and how the numbers of lines are read and written; no condition beyond those that each rule names, no program. -/
import Derived.Test.YtachkofbmodnnaaGreatIm4
set_option linter.unusedSimpArgs false
set_option linter.unusedVariables false
namespace Go.Im.Editing
open Go Go.Im Go.Im.Lexing
/-! ### Blanks at both ends -/
def isB (c : Int) : Bool := decide (c = 32)
def rtrim (l : List Int) : List Int := (l.reverse.dropWhile isB).reverse
def trimS (l : List Int) : List Int := rtrim (l.dropWhile isB)
theorem dw_all {p : Int → Bool} : ∀ {a r : List Int}, a.all p = true → (a ++ r).dropWhile p = r.dropWhile p
  | [], r, _ => rfl
  | x :: a, r, h => by
    simp only [List.all_cons, Bool.and_eq_true] at h
    rw [List.cons_append, List.dropWhile_cons_of_pos h.1, dw_all h.2]
theorem dw_stop {p : Int → Bool} {l : List Int} (h : ∀ c, l[0]? = some c → p c = false) : l.dropWhile p = l := by
  cases l with
  | nil => rfl
  | cons c l =>
    rw [List.dropWhile_cons_of_neg]
    have := h c rfl
    simp [this]
theorem ltrim_of {l : List Int} {k : Nat} (h1 : (l.take k).all isB = true) (h2 : ∀ c, l[k]? = some c → isB c = false) : l.dropWhile isB = l.drop k := by
  have e := dw_all (r := l.drop k) h1
  rw [List.take_append_drop] at e
  rw [e]
  exact dw_stop fun c hc => h2 c (by rw [List.getElem?_drop] at hc; exact hc)
theorem rtrim_of {m : List Int} {k : Nat} (h0 : k ≤ m.length) (h1 : (m.drop k).all isB = true) (h2 : 0 < k → ∀ c, m[k - 1]? = some c → isB c = false) : rtrim m = m.take k := by
  unfold rtrim
  have e : m.reverse = (m.drop k).reverse ++ (m.take k).reverse := by rw [← List.reverse_append, List.take_append_drop]
  rw [e, dw_all (by rw [List.all_reverse]; exact h1), dw_stop, List.reverse_reverse]
  intro c hc
  by_cases hk : k = 0
  · subst hk
    simp at hc
  · refine h2 (by omega) c ?_
    rw [List.getElem?_reverse (by simp; omega), List.length_take, List.getElem?_take] at hc
    rw [if_pos (by omega)] at hc
    rw [← hc]
    congr 1
    omega
theorem rtrim_len (m : List Int) : (rtrim m).length ≤ m.length := by
  unfold rtrim
  rw [List.length_reverse]
  have := (List.dropWhile_suffix isB (l := m.reverse)).length_le
  simpa using this
theorem trim_len (l : List Int) : (trimS l).length ≤ l.length := by
  have h1 := rtrim_len (l.dropWhile isB)
  have h2 := (List.dropWhile_suffix isB (l := l)).length_le
  unfold trimS
  omega

/-! ### Ends -/
def scanQ : Bool → List Int → Option Bool
  | q, [] => some q
  | q, c :: l => if c = 39 then scanQ (!q) l else if c = 9053 ∧ q = false then none else scanQ q l
def endsS (l : List Int) : List Int × Bool := match (trimS l).getLast? with
  | some 8711 => match scanQ false (trimS l).dropLast with
    | some false => (trimS (trimS l).dropLast, true)
    | _ => (trimS l, false)
  | _ => (trimS l, false)
theorem ends_len (l : List Int) : (endsS l).1.length ≤ l.length := by
  have h1 := trim_len l
  unfold endsS
  split
  · split
    · have h2 := trim_len (trimS l).dropLast
      rw [List.length_dropLast] at h2
      simp only
      omega
    · exact h1
  · exact h1
theorem ends_a {l : List Int} (h : (trimS l).getLast? ≠ some 8711) : endsS l = (trimS l, false) := by
  unfold endsS
  split
  · rename_i hh
    exact absurd hh h
  · rfl
theorem ends_b {l : List Int} (h : (trimS l).getLast? = some 8711) (h2 : scanQ false (trimS l).dropLast ≠ some false) : endsS l = (trimS l, false) := by
  unfold endsS
  rw [h]
  cases hs : scanQ false (trimS l).dropLast with
  | none => rfl
  | some q =>
    cases q with
    | true => rfl
    | false => exact absurd hs h2
theorem ends_c {l : List Int} (h : (trimS l).getLast? = some 8711) (h2 : scanQ false (trimS l).dropLast = some false) : endsS l = (trimS (trimS l).dropLast, true) := by
  unfold endsS
  rw [h, h2]
  rfl

/-! ### The numbers of lines, read -/
def decI (l : List Int) : Nat := l.foldl (fun n c => 10 * n + (c.toNat - 48)) 0
theorem decI_snoc (l : List Int) (c : Int) : decI (l ++ [c]) = 10 * decI l + (c.toNat - 48) := by simp [decI]
def frac : Nat → List Int → Nat
  | _, [] => 0
  | p, c :: l => (c.toNat - 48) * p + frac (p / 10) l
theorem frac_snoc : ∀ (l : List Int) (p : Nat) (c : Int), frac p (l ++ [c]) = frac p l + (c.toNat - 48) * (p / 10 ^ l.length)
  | [], p, c => by simp [frac]
  | d :: l, p, c => by
    rw [List.cons_append, frac, frac, frac_snoc l, List.length_cons, Nat.pow_succ', Nat.div_div_eq_div_mul]
    omega
/-- A line's number, in parts of ten thousand. -/
def readE (l : List Int) : Option Nat :=
  if (digs l).length = 0 ∨ 3 < (digs l).length then none
  else if (digs l).length = l.length then some (decI (digs l) * 10000)
  else if l[(digs l).length]? = some 46 ∧ 1 ≤ (l.drop ((digs l).length + 1)).length ∧ (l.drop ((digs l).length + 1)).length ≤ 4 ∧ (l.drop ((digs l).length + 1)).all isD = true then some (decI (digs l) * 10000 + frac 1000 (l.drop ((digs l).length + 1)))
  else none
end Go.Im.Editing
