/- Proved here: numbers of limbs: divided by a limb, shifted by less than a limb; bits counted; of every number of few enough limbs. -/
import Derived.Test.YtjlaenglmdpboaaGreatQN2
namespace Go.Proofs.YtjlaenglmdpboaaGreat.N3
open Go Go.Im Go.Im.Limbs Go.Proofs Go.RowKit Go.Proofs.YtjlaenglmdpboaaGreat.Hd Go.Proofs.YtjlaenglmdpboaaGreat.N1 Go.Proofs.YtjlaenglmdpboaaGreat.N2
set_option maxRecDepth 100000
set_option linter.unusedSimpArgs false
set_option linter.unusedVariables false

/-- How many bits. -/
def bl (x : Nat) : Nat := if h : x = 0 then 0 else bl (x / 2) + 1
termination_by x
decreasing_by exact Nat.div_lt_self (by omega) (by decide)
theorem bl_zero : bl 0 = 0 := by rw [bl]; simp
theorem bl_pos {x : Nat} (h : x ≠ 0) : bl x = bl (x / 2) + 1 := by rw [bl]; simp [h]
theorem bl_div : ∀ (k x : Nat), 2 ^ k ≤ x → bl x = bl (x / 2 ^ k) + k
  | 0, x, h => by simp
  | k + 1, x, h => by
    have h0 : x ≠ 0 := by
      have : 0 < 2 ^ (k + 1) := Nat.two_pow_pos _
      omega
    rw [bl_pos h0]
    have h1 : 2 ^ k ≤ x / 2 := by
      rw [Nat.le_div_iff_mul_le (by omega)]
      rwa [Nat.pow_succ] at h
    rw [bl_div k (x / 2) h1, Nat.div_div_eq_div_mul, Nat.pow_succ, Nat.mul_comm 2]
    omega
theorem bl_bounds (x : Nat) : x < 2 ^ bl x ∧ (x ≠ 0 → 2 ^ (bl x - 1) ≤ x) := by
  induction x using Nat.strongRecOn with
  | ind x ih =>
    by_cases h : x = 0
    · subst h; rw [bl_zero]; simp
    · rw [bl_pos h]
      have := ih (x / 2) (Nat.div_lt_self (by omega) (by decide))
      rw [Nat.pow_succ]
      refine ⟨by omega, fun _ => ?_⟩
      simp only [Nat.add_sub_cancel]
      by_cases h2 : x / 2 = 0
      · rw [h2, bl_zero]; simp; omega
      · have h3 := this.2 h2
        have h4 : bl (x / 2) = bl (x / 2) - 1 + 1 := by
          rw [bl_pos h2]
          omega
        rw [h4, Nat.pow_succ]
        omega
def chk (s : ByteArray) : Bool := (List.range 256).all fun n => decide (s.data.toList[n]? = some (UInt8.ofNat (bl n)))
theorem tab (s : ByteArray) (hs : chk s = true) {n : Nat} (hn : n < 256) : ichar s n = some (.int .u8 ((bl n : Nat) : Int)) := by
  have h1 := List.all_eq_true.1 hs n (List.mem_range.2 hn)
  have h2 : s.data.toList[n]? = some (UInt8.ofNat (bl n)) := by simpa using h1
  have h3 : bl n ≤ 8 := by
    have := (bl_bounds n).2
    by_cases h0 : n = 0
    · subst h0; rw [bl_zero]; omega
    · have h4 := this h0
      by_cases h5 : bl n ≤ 8
      · exact h5
      · have : 2 ^ 8 ≤ 2 ^ (bl n - 1) := Nat.pow_le_pow_right (by omega) (by omega)
        omega
  have h4 : (UInt8.ofNat (bl n)).toNat = bl n := by
    rw [UInt8.toNat_ofNat']
    exact Nat.mod_eq_of_lt (by omega)
  have h5 : (0 : Int) ≤ (n : Int) := by omega
  simp only [ichar, h5, if_true, Int.toNat_natCast, h2, h4]

theorem len32_run (x : Nat) (h : Heap) (hx : x < 4294967296) : Runs K f_bits_Len32 #[.int .u32 (x : Int)] h fun v _ => v = .int .i64 ((bl x : Nat) : Int) := by
  refine Runs.of Kok (Does.intro rfl (by decide +kernel) F_bits_Len32 rfl ?_)
  have c16 : (65536 : Int) ≤ (x : Int) ∨ ¬ (65536 : Int) ≤ (x : Int) := by omega
  have q1 : (65536 : Int) ≤ (x : Int) → bl x = bl (x / 65536) + 16 := fun hh => bl_div 16 x (by omega)
  have fin : ∀ y k : Nat, y < 256 → bl x = bl y + k → k ≤ 24 → IntKind.i64.wrap ((k : Int) + ((bl y : Nat) : Int)) = ((bl x : Nat) : Int) := by
    intro y k hy hb hk
    have h3 : bl y ≤ 32 := by
      have := (bl_bounds y).2
      by_cases h0 : y = 0
      · subst h0; rw [bl_zero]; omega
      · have h4 := this h0
        by_cases h5 : bl y ≤ 32
        · exact h5
        · have : 2 ^ 32 ≤ 2 ^ (bl y - 1) := Nat.pow_le_pow_right (by omega) (by omega)
          omega
    rw [wrap_i64 (by omega) (by omega), hb]
    omega
  have cv : ∀ y : Nat, y < 256 → IntKind.u8.wrap (y : Int) = (y : Int) := fun y hy => wrap_u8 (by omega) (by omega)
  have bl32 : ∀ y : Nat, y < 256 → bl y ≤ 8 := by
    intro y hy
    have := (bl_bounds y).2
    by_cases h0 : y = 0
    · subst h0; rw [bl_zero]; omega
    · have h4 := this h0
      by_cases h5 : bl y ≤ 8
      · exact h5
      · have : 2 ^ 8 ≤ 2 ^ (bl y - 1) := Nat.pow_le_pow_right (by omega) (by omega)
        omega
  have cvi : ∀ y : Nat, y < 256 → IntKind.i64.wrap ((bl y : Nat) : Int) = ((bl y : Nat) : Int) := fun y hy => wrap_i64 (by omega) (by have := bl32 y hy; omega)
  have w24 : IntKind.i64.wrap 24 = 24 := wrap_i64 (by omega) (by omega)
  have w8 : IntKind.i64.wrap 8 = 8 := wrap_i64 (by omega) (by omega)
  rcases c16 with h1 | h1
  · by_cases h2 : (256 : Int) ≤ ((x / 65536 : Nat) : Int)
    · have hy : x / 65536 / 256 < 256 := by omega
      have hb : bl x = bl (x / 65536 / 256) + 24 := by rw [q1 h1, bl_div 8 (x / 65536) (by omega)]
      have f : IntKind.i64.wrap (24 + ((bl (x / 65536 / 256) : Nat) : Int)) = ((bl x : Nat) : Int) := fin _ 24 hy hb (by omega)
      simp +decide only [go_sem, W_region, Wx_some, Nat.reduceAdd, Nat.reduceMul, Nat.reduceEqDiff, Int.reduceAdd, Int.reduceSub, Int.reduceMul, Int.reduceNeg, Int.reduceToNat, h1, h2, ishru16, ishru8, cv _ hy, w24]
      rw [tab _ (by decide +kernel) hy]
      simp +decide only [go_sem, W_region, Wx_some, Nat.reduceAdd, Nat.reduceMul, Nat.reduceEqDiff, Int.reduceAdd, Int.reduceSub, Int.reduceMul, Int.reduceNeg, Int.reduceToNat, icvi_int, cvi _ hy, f]
    · have hy : x / 65536 < 256 := by omega
      have f : IntKind.i64.wrap (16 + ((bl (x / 65536) : Nat) : Int)) = ((bl x : Nat) : Int) := fin _ 16 hy (q1 h1) (by omega)
      simp +decide only [go_sem, W_region, Wx_some, Nat.reduceAdd, Nat.reduceMul, Nat.reduceEqDiff, Int.reduceAdd, Int.reduceSub, Int.reduceMul, Int.reduceNeg, Int.reduceToNat, h1, h2, ishru16, ishru8, cv _ hy]
      rw [tab _ (by decide +kernel) hy]
      simp +decide only [go_sem, W_region, Wx_some, Nat.reduceAdd, Nat.reduceMul, Nat.reduceEqDiff, Int.reduceAdd, Int.reduceSub, Int.reduceMul, Int.reduceNeg, Int.reduceToNat, icvi_int, cvi _ hy, f]
  · by_cases h2 : (256 : Int) ≤ (x : Int)
    · have hy : x / 256 < 256 := by omega
      have hb : bl x = bl (x / 256) + 8 := bl_div 8 x (by omega)
      have f : IntKind.i64.wrap (8 + ((bl (x / 256) : Nat) : Int)) = ((bl x : Nat) : Int) := fin _ 8 hy hb (by omega)
      simp +decide only [go_sem, W_region, Wx_some, Nat.reduceAdd, Nat.reduceMul, Nat.reduceEqDiff, Int.reduceAdd, Int.reduceSub, Int.reduceMul, Int.reduceNeg, Int.reduceToNat, h1, h2, ishru16, ishru8, cv _ hy, w8]
      rw [tab _ (by decide +kernel) hy]
      simp +decide only [go_sem, W_region, Wx_some, Nat.reduceAdd, Nat.reduceMul, Nat.reduceEqDiff, Int.reduceAdd, Int.reduceSub, Int.reduceMul, Int.reduceNeg, Int.reduceToNat, icvi_int, cvi _ hy, f]
    · have hy : x < 256 := by omega
      have f : IntKind.i64.wrap (0 + ((bl x : Nat) : Int)) = ((bl x : Nat) : Int) := fin _ 0 hy (by omega) (by omega)
      simp +decide only [go_sem, W_region, Wx_some, Nat.reduceAdd, Nat.reduceMul, Nat.reduceEqDiff, Int.reduceAdd, Int.reduceSub, Int.reduceMul, Int.reduceNeg, Int.reduceToNat, h1, h2, ishru16, ishru8, cv _ hy]
      rw [tab _ (by decide +kernel) hy]
      simp +decide only [go_sem, W_region, Wx_some, Nat.reduceAdd, Nat.reduceMul, Nat.reduceEqDiff, Int.reduceAdd, Int.reduceSub, Int.reduceMul, Int.reduceNeg, Int.reduceToNat, icvi_int, cvi _ hy, f]

theorem bl_word {x : Nat} (hx : x < 4294967296) : bl x ≤ 32 := by
  have := (bl_bounds x).2
  by_cases h0 : x = 0
  · subst h0; rw [bl_zero]; omega
  · have h4 := this h0
    by_cases h5 : bl x ≤ 32
    · exact h5
    · have : 2 ^ 32 ≤ 2 ^ (bl x - 1) := Nat.pow_le_pow_right (by omega) (by omega)
      omega
theorem lz_run (x : Nat) (h : Heap) (hx : x < 4294967296) : Runs K f_bits_LeadingZeros32 #[.int .u32 (x : Int)] h fun v _ => v = .int .i64 ((32 - bl x : Nat) : Int) := by
  have hb := bl_word hx
  have q : IntKind.i64.wrap (32 - ((bl x : Nat) : Int)) = ((32 - bl x : Nat) : Int) := by rw [wrap_i64 (by omega) (by omega)]; omega
  refine Runs.of Kok (Does.intro rfl (by decide +kernel) F_bits_LeadingZeros32 rfl ?_)
  simp +decide only [go_sem, W_region, Wx_some, Nat.reduceAdd, Nat.reduceMul, Nat.reduceEqDiff, Int.reduceAdd, Int.reduceSub, Int.reduceMul, Int.reduceNeg, Int.reduceToNat]
  refine W_call Kok (by omega) (len32_run x h hx) fun v w hx1 hv => ?_
  subst hv
  simp +decide only [go_sem, W_region, Wx_some, Nat.reduceAdd, Nat.reduceMul, Nat.reduceEqDiff, Int.reduceAdd, Int.reduceSub, Int.reduceMul, Int.reduceNeg, Int.reduceToNat, q]
/-- The greatest limb, shifted until its first bit is set. -/
theorem norm {x : Nat} (hx : x < 4294967296) (h0 : x ≠ 0) : 32 - bl x < 32 ∧ 2147483648 ≤ x * 2 ^ (32 - bl x) ∧ x * 2 ^ (32 - bl x) < 4294967296 := by
  have h1 := bl_bounds x
  have h2 := h1.2 h0
  have h3 := bl_word hx
  have h4 : bl x ≠ 0 := by rw [bl_pos h0]; omega
  have e1 : 2 ^ (bl x - 1) * 2 ^ (32 - bl x) = 2 ^ 31 := by rw [← Nat.pow_add]; congr 1; omega
  have e2 : 2 ^ bl x * 2 ^ (32 - bl x) = 2 ^ 32 := by rw [← Nat.pow_add]; congr 1; omega
  have h5 : 2 ^ (bl x - 1) * 2 ^ (32 - bl x) ≤ x * 2 ^ (32 - bl x) := Nat.mul_le_mul_right _ h2
  have h6 : x * 2 ^ (32 - bl x) < 2 ^ bl x * 2 ^ (32 - bl x) := Nat.mul_lt_mul_of_pos_right h1.1 (Nat.two_pow_pos _)
  omega
end Go.Proofs.YtjlaenglmdpboaaGreat.N3
