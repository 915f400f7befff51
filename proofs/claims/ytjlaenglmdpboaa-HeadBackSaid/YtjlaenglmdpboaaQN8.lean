/- Proved here: the quotient and the rest of numbers of two limbs or more; of every two numbers of few enough limbs. -/
import Derived.Test.YtjlaenglmdpboaaQN7
namespace Go.Proofs.Ytjlaenglmdpboaa.N8
open Go Go.Im Go.Im.Limbs Go.Proofs Go.RowKit Go.Proofs.Ytjlaenglmdpboaa.Hd Go.Proofs.Ytjlaenglmdpboaa.N1 Go.Proofs.Ytjlaenglmdpboaa.N2 Go.Proofs.Ytjlaenglmdpboaa.N3 Go.Proofs.Ytjlaenglmdpboaa.N4 Go.Proofs.Ytjlaenglmdpboaa.N5 Go.Proofs.Ytjlaenglmdpboaa.N6 Go.Proofs.Ytjlaenglmdpboaa.N7
set_option maxRecDepth 100000
set_option linter.unusedSimpArgs false
set_option linter.unusedVariables false

theorem top1 {l : List Nat} {k a : Nat} (hl : l.length = k + 1) (h0 : l[k]? = some a) : val l = val (l.take k) + B ^ k * a := by
  have := val_at h0
  rw [List.drop_of_length_le (by omega), val_nil, Nat.mul_zero, Nat.add_zero] at this
  exact this
theorem top2 {l : List Nat} {k a b : Nat} (hl : l.length = k + 2) (h0 : l[k]? = some a) (h1 : l[k + 1]? = some b) : val l = val (l.take k) + B ^ k * (a + B * b) := by
  have q := val_at h0
  have h2 : l.drop (k + 1) = [b] := by
    rw [List.drop_eq_getElem_cons (by omega), List.drop_of_length_le (by omega), (List.getElem?_eq_some_iff.1 h1).2]
  rw [h2] at q
  simpa [val_cons, val_nil] using q
theorem top3 {l : List Nat} {k a b c : Nat} (hl : l.length = k + 3) (h0 : l[k]? = some a) (h1 : l[k + 1]? = some b) (h2 : l[k + 2]? = some c) : val l = val (l.take k) + B ^ k * (a + B * (b + B * c)) := by
  have q := val_at h0
  have h3 : l.drop (k + 1) = [b, c] := by
    rw [List.drop_eq_getElem_cons (by omega), List.drop_eq_getElem_cons (by omega), List.drop_of_length_le (by omega), (List.getElem?_eq_some_iff.1 h1).2, (List.getElem?_eq_some_iff.1 h2).2]
  rw [h3] at q
  simpa [val_cons, val_nil] using q

/-- The divisor, shifted: its greatest limb has its first bit. -/
theorem divisor {y lb tb s : Nat} (hlb : (dig y).length = lb + 1) (ht : (dig y)[lb]? = some tb) (hs : s = 32 - bl tb) :
    s < 32 ∧ (dig (y * 2 ^ s)).length = lb + 1 ∧ 2147483648 * B ^ lb ≤ y * 2 ^ s ∧ y * 2 ^ s < B ^ (lb + 1) := by
  have htB : tb < 4294967296 := dig_small y tb (List.mem_of_getElem? ht)
  have ht0 : tb ≠ 0 := by
    have := dig_top y
    unfold Top at this
    rw [List.getLast?_eq_getElem?, hlb, Nat.add_sub_cancel, ht] at this
    exact fun h => this (by rw [h])
  obtain ⟨n1, n2, n3⟩ := norm htB ht0
  rw [← hs] at n1 n2 n3
  have hv := top1 hlb ht
  rw [val_dig] at hv
  have hlt := val_lt ((dig_small y).take lb)
  rw [List.length_take, Nat.min_eq_left (by omega)] at hlt
  have e32 : (4294967296 : Nat) = 2 ^ (32 - s) * 2 ^ s := by rw [← Nat.pow_add, show 32 - s + s = 32 by omega]
  have n4 : tb + 1 ≤ 2 ^ (32 - s) := by
    have : tb < 2 ^ (32 - s) := by
      apply Nat.lt_of_mul_lt_mul_right (a := 2 ^ s)
      rw [← e32]
      exact n3
    omega
  have h1 : 2147483648 * B ^ lb ≤ y * 2 ^ s := by
    have h2 : 2147483648 * B ^ lb ≤ tb * 2 ^ s * B ^ lb := Nat.mul_le_mul_right _ n2
    have h3 : tb * 2 ^ s * B ^ lb ≤ y * 2 ^ s := by
      have e : tb * 2 ^ s * B ^ lb = B ^ lb * tb * 2 ^ s := by grind
      rw [e]
      exact Nat.mul_le_mul_right _ (by omega)
    omega
  have h2 : y * 2 ^ s < B ^ (lb + 1) := by
    have h3 : y + 1 ≤ (tb + 1) * B ^ lb := by
      have e : (tb + 1) * B ^ lb = B ^ lb * tb + B ^ lb := by grind
      omega
    have h4 : (y + 1) * 2 ^ s ≤ (tb + 1) * B ^ lb * 2 ^ s := Nat.mul_le_mul_right _ h3
    have h5 : (tb + 1) * B ^ lb * 2 ^ s ≤ 2 ^ (32 - s) * B ^ lb * 2 ^ s := Nat.mul_le_mul_right _ (Nat.mul_le_mul_right _ n4)
    have e : 2 ^ (32 - s) * B ^ lb * 2 ^ s = B ^ (lb + 1) := by
      rw [Nat.pow_succ, B_eq, Nat.mul_right_comm, ← e32, Nat.mul_comm]
    have h6 : (y + 1) * 2 ^ s = y * 2 ^ s + 2 ^ s := by grind
    have := Nat.two_pow_pos s
    omega
  refine ⟨n1, ?_, h1, h2⟩
  have h7 := dig_length.2 h2
  have h8 : ¬ (dig (y * 2 ^ s)).length ≤ lb := by
    rw [dig_length]
    have : 0 < B ^ lb := Nat.pow_pos B_pos
    omega
  omega

/-- A piece of what is divided, and the divisor. -/
theorem mkDiv {seg vs : List Nat} {k u0 u1 u2 next top : Nat} (hs : seg.length = k + 3) (hv : vs.length = k + 2) (ss : Small seg) (sv : Small vs) (h0 : seg[k]? = some u0) (h1 : seg[k + 1]? = some u1) (h2 : seg[k + 2]? = some u2)
    (g0 : vs[k]? = some next) (g1 : vs[k + 1]? = some top) (hbig : 2147483648 * B ^ (k + 1) ≤ val vs) (hlt : val seg < val vs * B) :
    Div top next (val (vs.take k)) u0 (val (seg.take k)) (u2 * B + u1) (B ^ k) (val vs) (val seg) ∧ u2 ≤ top := by
  have e1 := top3 hs h0 h1 h2
  have e2 := top2 hv g0 g1
  have l1 := val_lt (ss.take k)
  rw [List.length_take, Nat.min_eq_left (by omega)] at l1
  have l2 := val_lt (sv.take k)
  rw [List.length_take, Nat.min_eq_left (by omega)] at l2
  have hnB : next < B := sv.get g0
  have htB : top < B := sv.get g1
  have hM : 0 < B ^ k := Nat.pow_pos B_pos
  have ht : 2147483648 ≤ top := by
    rw [Nat.pow_succ] at hbig
    have h3 : val vs < (top + 1) * (B ^ k * B) := by
      have e : (top + 1) * (B ^ k * B) = B ^ k * (B * top) + B ^ k * B := by grind
      have e3 : B ^ k * (next + B * top) = B ^ k * next + B ^ k * (B * top) := by grind
      have h4 : B ^ k * (next + 1) ≤ B ^ k * B := Nat.mul_le_mul_left _ hnB
      have e4 : B ^ k * (next + 1) = B ^ k * next + B ^ k := by grind
      omega
    have h5 : 2147483648 * (B ^ k * B) < (top + 1) * (B ^ k * B) := by omega
    have := Nat.lt_of_mul_lt_mul_right h5
    omega
  have hu : u2 ≤ top := by
    by_cases hc : u2 ≤ top
    · exact hc
    · exfalso
      have h3 : B ^ k * (B * (B * (top + 1))) ≤ val seg := by
        have h4 : B ^ k * (B * (B * (top + 1))) ≤ B ^ k * (u0 + B * (u1 + B * u2)) := by
          apply Nat.mul_le_mul_left
          have h6 : B * (B * (top + 1)) ≤ B * (u1 + B * u2) := by
            apply Nat.mul_le_mul_left
            have : B * (top + 1) ≤ B * u2 := Nat.mul_le_mul_left _ (by omega)
            omega
          omega
        omega
      have h5 : val vs * B ≤ B ^ k * (B * (B * (top + 1))) := by
        have h6 : val vs ≤ B ^ k * (B * (top + 1)) := by
          have h7 : B ^ k * (next + B * top + 1) ≤ B ^ k * (B * (top + 1)) := by
            apply Nat.mul_le_mul_left
            have : B * (top + 1) = B * top + B := by grind
            omega
          have e4 : B ^ k * (next + B * top + 1) = B ^ k * (next + B * top) + B ^ k := by grind
          omega
        have h8 := Nat.mul_le_mul_right B h6
        have e5 : B ^ k * (B * (top + 1)) * B = B ^ k * (B * (B * (top + 1))) := by grind
        omega
      omega
  refine ⟨⟨by rw [e2]; grind, by rw [e1]; grind, l2, l1, ht, htB, hnB, ss.get h0, hlt, ?_⟩, hu⟩
  have h3 : u2 * B ≤ top * B := Nat.mul_le_mul_right _ hu
  have h4 : (top + 1) * B = top * B + B := by grind
  have := ss.get h1
  omega

/-- What is divided, as it lies. -/
theorem below {l : List Nat} {i N : Nat} (hl : i ≤ l.length) (h : val l < N * B ^ i) : val (l.drop i) < N := by
  rw [val_split l i hl] at h
  have h1 : B ^ i * val (l.drop i) < B ^ i * N := by
    rw [Nat.mul_comm (B ^ i) N]
    omega
  exact Nat.lt_of_mul_lt_mul_left h1
end Go.Proofs.Ytjlaenglmdpboaa.N8
