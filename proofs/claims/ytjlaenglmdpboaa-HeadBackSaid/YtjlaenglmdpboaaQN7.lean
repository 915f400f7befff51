/- Proved here: a digit of a quotient, guessed by two limbs and put right, is right; plain numbers. -/
import Derived.Test.YtjlaenglmdpboaaQN6
namespace Go.Proofs.Ytjlaenglmdpboaa.N7
open Go Go.Im Go.Im.Limbs Go.Proofs Go.RowKit
set_option linter.unusedVariables false
section
variable {top next vlow u0 ulow head M V U : Nat}
/-- A divisor of two greatest limbs, and what is divided by it. -/
structure Div (top next vlow u0 ulow head M V U : Nat) : Prop where
  hV : V = (top * B + next) * M + vlow
  hU : U = (head * B + u0) * M + ulow
  vl : vlow < M
  ul : ulow < M
  t1 : 2147483648 ≤ top
  t2 : top < B
  n1 : next < B
  u1 : u0 < B
  lt : U < V * B
  hd : head < (top + 1) * B
variable (D : Div top next vlow u0 ulow head M V U)
include D
theorem Div.M_pos : 0 < M := Nat.lt_of_le_of_lt (Nat.zero_le _) D.vl
theorem Div.V_ge : B * M ≤ V := by
  have h1 : 1 * B * M ≤ top * B * M := Nat.mul_le_mul_right _ (Nat.mul_le_mul_right _ (by have := D.t1; omega))
  have h2 : (top * B + next) * M = top * B * M + next * M := by grind
  have := D.hV
  rw [Nat.one_mul] at h1
  omega
theorem Div.V_pos : 0 < V := by
  have h1 := D.V_ge
  have h2 : 0 < B * M := Nat.mul_pos B_pos D.M_pos
  omega
theorem Div.q_lt : U / V < B := by
  rw [Nat.div_lt_iff_lt_mul D.V_pos, Nat.mul_comm]
  exact D.lt
theorem Div.q_mul : U / V * V ≤ U := by
  have _ := D.hV
  exact Nat.div_mul_le_self U V
/-- No guess is less than the digit. -/
theorem Div.start : U / V ≤ head / top := by
  rw [Nat.le_div_iff_mul_le (by have := D.t1; omega)]
  have h1 := D.q_mul
  have h2 : U / V * (top * B * M) ≤ U / V * V := by
    apply Nat.mul_le_mul_left
    have : (top * B + next) * M = top * B * M + next * M := by grind
    have := D.hV
    omega
  have h3 : U < (head + 1) * B * M := by
    have h4 : (head * B + u0 + 1) * M ≤ (head + 1) * B * M := by
      apply Nat.mul_le_mul_right
      have : (head + 1) * B = head * B + B := by grind
      have := D.u1
      omega
    have h5 : (head * B + u0 + 1) * M = (head * B + u0) * M + M := by grind
    have := D.hU
    have := D.ul
    omega
  have h6 : U / V * top * (B * M) < (head + 1) * (B * M) := by
    have e1 : U / V * top * (B * M) = U / V * (top * B * M) := by grind
    have e2 : (head + 1) * (B * M) = (head + 1) * B * M := by grind
    omega
  have := Nat.lt_of_mul_lt_mul_right h6
  omega
theorem Div.first : head / top ≤ B + 1 := by
  have ht : 0 < top := by have := D.t1; omega
  have h1 : head / top < B + 2 := by
    rw [Nat.div_lt_iff_lt_mul ht]
    have h2 : (B + 2) * top = top * B + 2 * top := by grind
    have h3 : (top + 1) * B = top * B + B := by grind
    have := D.hd
    have h4 := D.t1
    rw [B_eq] at *
    omega
  omega
/-- A guess that is more. -/
theorem Div.more {guess rest : Nat} (h1 : guess * top + rest = head) (h2 : rest * B + u0 < guess * next) : U / V < guess := by
  rw [Nat.div_lt_iff_lt_mul D.V_pos]
  have h3 : head * B + u0 + 1 ≤ guess * (top * B + next) := by
    have e1 : guess * (top * B + next) = guess * top * B + guess * next := by grind
    have e2 : head * B = guess * top * B + rest * B := by rw [← h1]; grind
    omega
  have h4 : (head * B + u0 + 1) * M ≤ guess * (top * B + next) * M := Nat.mul_le_mul_right _ h3
  have h5 : guess * (top * B + next) * M ≤ guess * V := by
    have : guess * V = guess * (top * B + next) * M + guess * vlow := by rw [D.hV]; grind
    omega
  have h6 : (head * B + u0 + 1) * M = (head * B + u0) * M + M := by grind
  have := D.hU
  have := D.ul
  omega
/-- A guess that is near. -/
theorem Div.near {guess rest : Nat} (h1 : guess * top + rest = head) (h2 : guess * next ≤ rest * B + u0) (h3 : guess ≤ B) : guess ≤ U / V + 1 := by
  have h4 : guess * (top * B + next) ≤ head * B + u0 := by
    have e1 : guess * (top * B + next) = guess * top * B + guess * next := by grind
    have e2 : head * B = guess * top * B + rest * B := by rw [← h1]; grind
    omega
  have h5 : guess * (top * B + next) * M ≤ (head * B + u0) * M := Nat.mul_le_mul_right _ h4
  have h6 : guess * vlow ≤ B * M := Nat.mul_le_mul h3 (by have := D.vl; omega)
  have h7 := D.V_ge
  have h8 : guess * V = guess * (top * B + next) * M + guess * vlow := by rw [D.hV]; grind
  have h9 : guess * V ≤ U + V := by
    have := D.hU
    omega
  have h10 : (guess - 1) * V ≤ U := by
    rw [Nat.sub_mul, Nat.one_mul]
    omega
  have := (Nat.le_div_iff_mul_le D.V_pos).2 h10
  omega
end
/-- What is left, when the guess was right, or one more. -/
theorem settle {U V g bw s1 N : Nat} (hV : 0 < V) (h1 : s1 + g * V = U + bw * N) (h2 : s1 < N) (h3 : bw ≤ 1) (h4 : U / V ≤ g) (h5 : g ≤ U / V + 1) :
    (bw = 0 → g = U / V ∧ s1 = U % V) ∧ (bw = 1 → g = U / V + 1 ∧ ∀ s2 c, s2 < N → V ≤ N → s2 + c * N = s1 + V → s2 = U % V) := by
  have hdm := Nat.div_add_mod U V
  have hmod := Nat.mod_lt U hV
  constructor
  · intro hb
    subst hb
    have hg : g * V ≤ U := by omega
    have := (Nat.le_div_iff_mul_le hV).2 hg
    have e : g = U / V := by omega
    refine ⟨e, ?_⟩
    rw [e, Nat.mul_comm] at h1
    omega
  · intro hb
    subst hb
    have hg : U < g * V := by omega
    have := (Nat.div_lt_iff_lt_mul hV).2 hg
    have e : g = U / V + 1 := by omega
    refine ⟨e, fun s2 c hs hN hc => ?_⟩
    have e2 : g * V = V * (U / V) + V := by rw [e, Nat.add_mul, Nat.one_mul, Nat.mul_comm]
    have h6 : s2 + c * N = U % V + N := by omega
    have hc1 : c = 1 := by
      rcases Nat.lt_trichotomy c 1 with h | h | h
      · have : c = 0 := by omega
        subst this
        omega
      · exact h
      · have : 2 * N ≤ c * N := Nat.mul_le_mul_right _ h
        omega
    subst hc1
    omega
end Go.Proofs.Ytjlaenglmdpboaa.N7
