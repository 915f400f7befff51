/- Proved here: rows of decimal digits, in plain arithmetic: a number's digits; what a row without noughts ahead is; one digit of a number; the order of rows; no condition beyond those that each rule names. -/
import Derived.Test.YtjlaenglmdpboaaGreatQN12
namespace Go.Im.Dec
open Go Go.Im Go.Im.Limbs Go.Proofs.YtjlaenglmdpboaaGreat.N12
set_option linter.unusedSimpArgs false
set_option linter.unusedVariables false

/-- The digits of a number. -/
def ds (n : Nat) : List UInt8 := if h : n < 10 then [UInt8.ofNat (48 + n)] else ds (n / 10) ++ [UInt8.ofNat (48 + n % 10)]
termination_by n
decreasing_by omega
theorem ds_lt {n : Nat} (h : n < 10) : ds n = [UInt8.ofNat (48 + n)] := by rw [ds, dif_pos h]
theorem ds_ge {n : Nat} (h : 10 ≤ n) : ds n = ds (n / 10) ++ [UInt8.ofNat (48 + n % 10)] := by rw [ds, dif_neg (by omega)]
theorem of48 {d : Nat} (h : d ≤ 9) : (UInt8.ofNat (48 + d)).toNat = 48 + d := by
  have e : 48 + d < 256 := by omega
  rw [UInt8.toNat_ofNat_of_lt' (by simpa using e)]
theorem of48_sub {b : UInt8} (h : 48 ≤ b.toNat) : UInt8.ofNat (48 + (b.toNat - 48)) = b := by
  apply UInt8.toNat_inj.1
  have := b.toNat_lt
  have e : 48 + (b.toNat - 48) < 256 := by omega
  rw [UInt8.toNat_ofNat_of_lt' (by simpa using e)]
  omega
theorem ds_ne (n : Nat) : ds n ≠ [] := by
  by_cases h : n < 10
  · rw [ds_lt h]; simp
  · rw [ds_ge (by omega)]; simp
theorem ds_pos (n : Nat) : 1 ≤ (ds n).length := by
  have := List.length_pos_iff.2 (ds_ne n)
  omega
theorem ds_digs (n : Nat) : Digs (ds n) := by
  induction n using Nat.strongRecOn with
  | ind n ih =>
    by_cases h : n < 10
    · rw [ds_lt h]
      intro b hb
      rw [List.mem_singleton] at hb
      subst hb
      rw [of48 (by omega)]
      omega
    · rw [ds_ge (by omega)]
      intro b hb
      rcases List.mem_append.1 hb with hb | hb
      · exact ih _ (by omega) b hb
      · rw [List.mem_singleton] at hb
        subst hb
        rw [of48 (by omega)]
        omega
theorem dec_ds (n : Nat) : dec (ds n) = n := by
  induction n using Nat.strongRecOn with
  | ind n ih =>
    by_cases h : n < 10
    · rw [ds_lt h, show [UInt8.ofNat (48 + n)] = [] ++ [UInt8.ofNat (48 + n)] from rfl, dec_snoc, of48 (by omega), dec_nil]
      omega
    · rw [ds_ge (by omega), dec_snoc, ih _ (by omega), of48 (by omega)]
      omega
theorem ds_inj {m n : Nat} : ds m = ds n ↔ m = n := ⟨fun h => by rw [← dec_ds m, ← dec_ds n, h], fun h => by rw [h]⟩
theorem ds_zero : ds 0 = [48] := ds_lt (by omega)
theorem ds_one : ds 1 = [49] := ds_lt (by omega)
theorem ds_lt_pow (n : Nat) : n < 10 ^ (ds n).length := by
  have := dec_lt (ds_digs n)
  rwa [dec_ds] at this
theorem ds_len {n : Nat} : ∀ {k : Nat}, n < 10 ^ k → 1 ≤ k → (ds n).length ≤ k := by
  induction n using Nat.strongRecOn with
  | ind n ih =>
    intro k h hk
    by_cases hn : n < 10
    · rw [ds_lt hn]; simpa using hk
    · rw [ds_ge (by omega)]
      obtain ⟨j, rfl⟩ : ∃ j, k = j + 1 := ⟨k - 1, by omega⟩
      have h1 : n / 10 < 10 ^ j := by rw [Nat.pow_succ] at h; omega
      have h2 : 1 ≤ j := by
        rcases Nat.eq_zero_or_pos j with h0 | h0
        · subst h0
          simp at h
          omega
        · exact h0
      have := ih (n / 10) (by omega) h1 h2
      simp
      omega
theorem ds_pow_le {n : Nat} (h : n ≠ 0) : 10 ^ ((ds n).length - 1) ≤ n := by
  refine Nat.le_of_not_lt fun hh => ?_
  by_cases h1 : (ds n).length = 1
  · rw [h1] at hh
    simp at hh
    exact h hh
  · have := ds_len hh (by have := ds_pos n; omega)
    have := ds_pos n
    omega
theorem ds_mono {m n : Nat} (h : m ≤ n) : (ds m).length ≤ (ds n).length := ds_len (Nat.lt_of_le_of_lt h (ds_lt_pow n)) (ds_pos n)
theorem lt_of_ds {m n : Nat} (h : (ds m).length < (ds n).length) : m < n := by
  refine Nat.lt_of_not_le fun hh => ?_
  have := ds_mono hh
  omega

/-- Digits without noughts ahead. -/
def trimF : List UInt8 → List UInt8
  | b :: c :: t => if b.toNat = 48 then trimF (c :: t) else b :: c :: t
  | t => t
theorem trimF_snoc : ∀ {s : List UInt8} (b : UInt8), Digs s → s ≠ [] → trimF (s ++ [b]) = if dec s = 0 then [b] else trimF s ++ [b]
  | [], b, _, h => absurd rfl h
  | [c], b, hd, _ => by
    have h1 := hd c (by simp)
    have e : dec [c] = c.toNat - 48 := by rw [show [c] = [] ++ [c] from rfl, dec_snoc, dec_nil]; omega
    rw [e]
    by_cases hc : c.toNat = 48
    · rw [if_pos (by omega)]
      simp [trimF, hc]
    · rw [if_neg (by omega)]
      simp [trimF, hc]
  | c :: d :: s, b, hd, _ => by
    have h1 := hd c (by simp)
    have hs : Digs (d :: s) := fun x hx => hd x (by simp at hx ⊢; exact .inr hx)
    by_cases hc : c.toNat = 48
    · have e : dec (c :: d :: s) = dec (d :: s) := by rw [dec_cons, hc]; simp
      have t1 : trimF (c :: d :: s ++ [b]) = trimF (d :: s ++ [b]) := by
        show trimF (c :: d :: (s ++ [b])) = _
        rw [trimF, if_pos hc]
        rfl
      have t2 : trimF (c :: d :: s) = trimF (d :: s) := by rw [trimF, if_pos hc]
      rw [t1, t2, e]
      exact trimF_snoc b hs (by simp)
    · have e : dec (c :: d :: s) ≠ 0 := by
        rw [dec_cons]
        have : 0 < (c.toNat - 48) * 10 ^ (d :: s).length := Nat.mul_pos (by omega) (Nat.pow_pos (by omega))
        omega
      have t1 : trimF (c :: d :: s ++ [b]) = c :: d :: s ++ [b] := by
        show trimF (c :: d :: (s ++ [b])) = _
        rw [trimF, if_neg hc]
        rfl
      have t2 : trimF (c :: d :: s) = c :: d :: s := by rw [trimF, if_neg hc]
      rw [t1, t2, if_neg e]
theorem snoc_of {α : Type} {l : List α} (h : l ≠ []) : ∃ s b, l = s ++ [b] := ⟨l.dropLast, l.getLast h, (List.dropLast_concat_getLast h).symm⟩
theorem trimF_ds : ∀ (k : Nat) {t : List UInt8}, t.length = k → Digs t → t ≠ [] → trimF t = ds (dec t)
  | 0, t, hk, _, h => absurd (List.eq_nil_of_length_eq_zero hk) h
  | k + 1, t, hk, hd, h => by
    obtain ⟨s, b, rfl⟩ := snoc_of h
    have hb := hd b (by simp)
    have hs : Digs s := fun x hx => hd x (by simp [hx])
    have he : UInt8.ofNat (48 + (b.toNat - 48)) = b := of48_sub hb.1
    rw [dec_snoc]
    by_cases h0 : s = []
    · subst h0
      rw [dec_nil, ds_lt (by omega)]
      simp only [Nat.zero_mul, Nat.zero_add, List.nil_append, he]
      rfl
    · rw [trimF_snoc b hs h0]
      have hk' : s.length = k := by simp at hk; omega
      by_cases hz : dec s = 0
      · rw [if_pos hz, hz, ds_lt (by omega)]
        simp only [Nat.zero_mul, Nat.zero_add, he]
      · rw [if_neg hz, trimF_ds k hk' hs h0, ds_ge (n := dec s * 10 + (b.toNat - 48)) (by omega)]
        have e1 : (dec s * 10 + (b.toNat - 48)) / 10 = dec s := by omega
        have e2 : (dec s * 10 + (b.toNat - 48)) % 10 = b.toNat - 48 := by omega
        rw [e1, e2, he]
theorem trim_ds {t : List UInt8} (hd : Digs t) (h : t ≠ []) : trimF t = ds (dec t) := trimF_ds _ rfl hd h

/-- A digit from the end on. -/
def dgt (t : List UInt8) (i : Nat) : Nat := if t.length ≤ i then 0 else (t.getD (t.length - 1 - i) 48).toNat - 48
theorem dgt_dec : ∀ (i : Nat) {t : List UInt8}, Digs t → dgt t i = dec t / 10 ^ i % 10
  | i, t, hd => by
    by_cases h : t = []
    · subst h
      simp [dgt, dec_nil]
    obtain ⟨s, b, rfl⟩ := snoc_of h
    have hb := hd b (by simp)
    have hs : Digs s := fun x hx => hd x (by simp [hx])
    rw [dec_snoc]
    cases i with
    | zero =>
      have e : dgt (s ++ [b]) 0 = b.toNat - 48 := by
        unfold dgt
        rw [if_neg (by simp)]
        simp [List.getD]
      rw [e]
      simp
      omega
    | succ i =>
      have e : dgt (s ++ [b]) (i + 1) = dgt s i := by
        unfold dgt
        by_cases hl : s.length ≤ i
        · rw [if_pos hl, if_pos (by simp; omega)]
        · rw [if_neg hl, if_neg (by simp; omega)]
          have : (s ++ [b]).length - 1 - (i + 1) = s.length - 1 - i := by simp; omega
          rw [this, List.getD, List.getD, List.getElem?_append_left (by omega)]
      rw [e, dgt_dec i hs, Nat.pow_succ, Nat.mul_comm (10 ^ i) 10, ← Nat.div_div_eq_div_mul]
      congr 2
      omega
theorem dgt_ds (n i : Nat) : dgt (ds n) i = n / 10 ^ i % 10 := by rw [dgt_dec i (ds_digs n), dec_ds]
theorem dgt_le {t : List UInt8} (h : Digs t) (i : Nat) : dgt t i ≤ 9 := by
  rw [dgt_dec i h]
  omega

/-- Rows of the same length: as texts, and as numbers. -/
theorem less_dec : ∀ {s t : List UInt8}, s.length = t.length → Digs s → Digs t → (Op.bytesLess s t = true ↔ dec s < dec t)
  | [], [], _, _, _ => by simp [Op.bytesLess]
  | [], _ :: _, h, _, _ => by simp at h
  | _ :: _, [], h, _, _ => by simp at h
  | a :: s, b :: t, h, hs, ht => by
    have ha := hs a (by simp)
    have hb := ht b (by simp)
    have hs' : Digs s := fun x hx => hs x (by simp [hx])
    have ht' : Digs t := fun x hx => ht x (by simp [hx])
    have hl : s.length = t.length := by simpa using h
    have ih := less_dec hl hs' ht'
    rw [dec_cons, dec_cons, ← hl]
    have l1 := dec_lt hs'
    have l2 := dec_lt ht'
    rw [← hl] at l2
    generalize 10 ^ s.length = P at *
    have key : ∀ {x y p q : Nat}, p < P → q < P → x < y → x * P + p < y * P + q := by
      intro x y p q hp hq hxy
      have : (x + 1) * P ≤ y * P := Nat.mul_le_mul_right _ hxy
      rw [Nat.add_mul] at this
      omega
    simp only [Op.bytesLess]
    by_cases h1 : a < b
    · have h1' := UInt8.lt_iff_toNat_lt.1 h1
      have := key (x := a.toNat - 48) (y := b.toNat - 48) l1 l2 (by omega)
      simp [h1, this]
    · by_cases h2 : b < a
      · have h2' := UInt8.lt_iff_toNat_lt.1 h2
        have := key (x := b.toNat - 48) (y := a.toNat - 48) l2 l1 (by omega)
        have h3 : ¬ a = b := fun hh => by subst hh; exact h1 h2
        have h4 : ¬ ((a.toNat - 48) * P + dec s < (b.toNat - 48) * P + dec t) := by omega
        simp [h1, h3, h4]
      · have he : a = b := by
          apply UInt8.toNat_inj.1
          have h1' : ¬ a.toNat < b.toNat := fun hh => h1 (UInt8.lt_iff_toNat_lt.2 hh)
          have h2' : ¬ b.toNat < a.toNat := fun hh => h2 (UInt8.lt_iff_toNat_lt.2 hh)
          omega
        subst he
        simp [h1, ih]

/-- Digits, the least one first. -/
def v10 : List Nat → Nat
  | [] => 0
  | d :: l => d + 10 * v10 l
theorem v10_append : ∀ (l m : List Nat), v10 (l ++ m) = v10 l + 10 ^ l.length * v10 m
  | [], m => by simp [v10]
  | d :: l, m => by
    simp only [List.cons_append, v10, v10_append l m, List.length_cons, Nat.pow_succ, Nat.mul_add]
    rw [Nat.mul_comm (10 ^ l.length) 10, Nat.mul_assoc]
    omega
theorem v10_snoc (l : List Nat) (d : Nat) : v10 (l ++ [d]) = v10 l + d * 10 ^ l.length := by
  rw [v10_append]
  simp [v10, Nat.mul_comm]
theorem v10_set : ∀ {l : List Nat} {i o : Nat} (d : Nat), l[i]? = some o → v10 (l.set i d) + o * 10 ^ i = v10 l + d * 10 ^ i
  | [], i, o, d, h => by simp at h
  | x :: l, 0, o, d, h => by
    simp at h
    subst h
    simp [v10]
    omega
  | x :: l, i + 1, o, d, h => by
    have := v10_set (l := l) (i := i) d (by simpa using h)
    simp only [List.set_cons_succ, v10, Nat.pow_succ]
    generalize 10 ^ i = P at *
    have e1 : o * (P * 10) = 10 * (o * P) := by rw [← Nat.mul_assoc, Nat.mul_comm]
    have e2 : d * (P * 10) = 10 * (d * P) := by rw [← Nat.mul_assoc, Nat.mul_comm]
    rw [e1, e2]
    omega
theorem v10_zero : ∀ (k : Nat), v10 (List.replicate k 0) = 0
  | 0 => rfl
  | k + 1 => by simp [List.replicate_succ, v10, v10_zero k]
/-- Digits, the least one first, as a row. -/
def wr (l : List Nat) : List UInt8 := if l = [] then [48] else trimF (l.reverse.map fun d => UInt8.ofNat (48 + d))
theorem rev_digs {l : List Nat} (h : ∀ d ∈ l, d ≤ 9) : Digs (l.reverse.map fun d => UInt8.ofNat (48 + d)) := by
  intro b hb
  simp only [List.mem_map, List.mem_reverse] at hb
  obtain ⟨d, hd, rfl⟩ := hb
  have := h d hd
  rw [of48 this]
  omega
theorem dec_rev : ∀ {l : List Nat}, (∀ d ∈ l, d ≤ 9) → dec (l.reverse.map fun d => UInt8.ofNat (48 + d)) = v10 l
  | [], _ => rfl
  | d :: l, h => by
    simp only [List.reverse_cons, List.map_append, List.map_cons, List.map_nil]
    rw [dec_snoc, dec_rev (fun x hx => h x (by simp [hx])), of48 (h d (by simp)), v10]
    omega
theorem wr_ds {l : List Nat} (h : ∀ d ∈ l, d ≤ 9) : wr l = ds (v10 l) := by
  unfold wr
  split
  · rename_i h0
    subst h0
    rw [v10, ds_zero]
  · rename_i h0
    rw [trim_ds (rev_digs h) (by simpa using h0), dec_rev h]
theorem v10_lt : ∀ {l : List Nat}, (∀ d ∈ l, d ≤ 9) → v10 l < 10 ^ l.length
  | [], _ => by simp [v10]
  | d :: l, h => by
    have h1 := v10_lt (l := l) fun x hx => h x (by simp [hx])
    have h2 := h d (by simp)
    simp only [v10, List.length_cons, Nat.pow_succ]
    omega
/-- A digit more. -/
theorem mod_step (n i : Nat) : n % 10 ^ (i + 1) = n % 10 ^ i + n / 10 ^ i % 10 * 10 ^ i := by
  rw [Nat.pow_succ, Nat.mod_mul, Nat.mul_comm (10 ^ i)]
theorem mod_full {n i : Nat} (h : (ds n).length ≤ i) : n % 10 ^ i = n := Nat.mod_eq_of_lt (Nat.lt_of_lt_of_le (ds_lt_pow n) (Nat.pow_le_pow_right (by omega) h))
theorem digit_off {n i : Nat} (h : (ds n).length ≤ i) : n / 10 ^ i % 10 = 0 := by
  rw [Nat.div_eq_of_lt (Nat.lt_of_lt_of_le (ds_lt_pow n) (Nat.pow_le_pow_right (by omega) h))]
end Go.Im.Dec
