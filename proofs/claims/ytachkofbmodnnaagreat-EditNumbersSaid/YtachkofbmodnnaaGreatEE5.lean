/- Proved here: how a line's number is read, in the program and in the document; of every line in memory. -/
import Derived.Test.YtachkofbmodnnaaGreatEE2
import Derived.Test.YtachkofbmodnnaaGreatEE4
set_option linter.unusedSimpArgs false
set_option linter.unusedVariables false
namespace Go.Proofs.YtachkofbmodnnaaGreat.E5
open Go Go.Im Go.Im.Lexing Go.Im.Editing Go.Proofs Go.RowKit Go.Proofs.YtachkofbmodnnaaGreat.Hd Go.Proofs.YtachkofbmodnnaaGreat.E2
set_option maxRecDepth 100000

/-- What reading a line's number comes to. -/
def Rd (l : List Int) (r : Value) : Prop := ∃ x : Int, r = .tuple #[.int .i64 x, .bool (readE l).isSome] ∧ ∀ n, readE l = some n → x = (n : Int)
theorem Rd.no {l : List Int} (h : readE l = none) (x : Int) : Rd l (.tuple #[.int .i64 x, .bool false]) := ⟨x, by rw [h]; rfl, fun n hn => by rw [h] at hn; cases hn⟩
theorem Rd.yes {l : List Int} {n : Nat} (h : readE l = some n) : Rd l (.tuple #[.int .i64 (n : Int), .bool true]) := ⟨n, by rw [h]; rfl, fun m hm => by rw [h] at hm; cases hm; rfl⟩
theorem dig_of {c : Int} (h1 : ¬ c < 48) (h2 : ¬ 57 < c) : isD c = true ∧ IntKind.i32.wrap (c - 48) = ((c.toNat - 48 : Nat) : Int) ∧ IntKind.i64.wrap ((c.toNat - 48 : Nat) : Int) = ((c.toNat - 48 : Nat) : Int) ∧ c.toNat - 48 ≤ 9 := by
  refine ⟨by simp [isD]; omega, ?_, ?_, by omega⟩
  · rw [wrap_i32 (by omega) (by omega)]
    omega
  · rw [wrap_i64 (by omega) (by omega)]
theorem not_dig {c : Int} (h : c < 48 ∨ 57 < c) : isD c = false := by
  simp only [isD, Bool.and_eq_false_iff, decide_eq_false_iff_not]
  omega
def PP (l : List Int) (j : Option Nat) (i n part : Nat) : Prop := match j with
  | none => RA l i n part
  | some j => RB' l j i n part

set_option maxHeartbeats 1000000 in
theorem read_run (l : List Int) (h : Heap) {tv : Value} (t : Ln h tv l) (hm : l.length ≤ 1000000) : Runs K f_edit_Read #[tv] h fun r w => w = h ∧ Rd l r := by
  refine Runs.of Kok (Does.intro rfl (by decide +kernel) F_edit_Read rfl ?_)
  obtain ⟨a, c, rfl⟩ := t.open
  simp (decide := true) only [go_sem, W_region, Wx_some, Nat.reduceAdd, Nat.reduceMul, Nat.reduceEqDiff, Int.reduceAdd, Int.reduceSub, Int.reduceMul, Int.reduceNeg, Int.reduceToNat]
  refine W_loop (α := Nat × Option Nat × Nat × Nat) (fun k e w => k.1 ≤ l.length ∧ e.size = 84 ∧ h = w ∧ e.get 0 = .slice a l.length c ∧ e.get 9 = .slice a l.length c ∧ e.get 10 = .int .i64 ((l.length : Nat) : Int) ∧ e.get 11 = .int .i64 (k.1 : Int) ∧ e.get 4 = .int .i64 (k.2.2.1 : Int) ∧ e.get 5 = .int .i64 (k.2.2.2 : Int) ∧ e.get 6 = .bool k.2.1.isSome ∧ PP l k.2.1 k.1 k.2.2.1 k.2.2.2) (fun k => l.length - k.1) (0, none, 0, 10000) ?_ ?_
  · exact ⟨Nat.zero_le _, by simp (decide := true) only [go_sem], rfl, by simp (decide := true) only [go_sem], by simp (decide := true) only [go_sem], by simp (decide := true) only [go_sem], by simp (decide := true) only [go_sem]; rfl, by simp (decide := true) only [go_sem]; rfl, by simp (decide := true) only [go_sem]; rfl, by simp (decide := true) only [go_sem]; rfl, ra_zero l⟩
  rintro ⟨i, j, n, part⟩ e w ⟨hk, hsz, hw, e0, e9, e10, e11, e4, e5, e6, hp⟩ next
  subst hw
  simp only at hk e11 e4 e5 e6 hp
  by_cases hil : (i : Int) < ((l.length : Nat) : Int)
  case neg =>
    have hie : i = l.length := by omega
    cases j with
    | none =>
      have hn := ra_le hp
      have i1 : IntKind.i64.wrap ((n : Int) * 10000) = ((n * 10000 : Nat) : Int) := by rw [wrap_i64 (by omega) (by omega)]; omega
      have hr := ra_end hp hie
      by_cases h0 : (0 : Int) < ((l.length : Nat) : Int)
      · rw [if_neg (by intro hh; subst hh; simp at h0)] at hr
        simp (decide := true) only [go_sem, W_region, Wx_some, Nat.reduceAdd, Nat.reduceMul, Nat.reduceEqDiff, Int.reduceAdd, Int.reduceSub, Int.reduceMul, Int.reduceNeg, Int.reduceToNat, hsz, e0, e9, e10, e11, e4, e5, e6, hil, i1, h0, Option.isSome_none]
        exact Rd.yes hr
      · have : l = [] := List.eq_nil_of_length_eq_zero (by omega)
        rw [if_pos this] at hr
        simp (decide := true) only [go_sem, W_region, Wx_some, Nat.reduceAdd, Nat.reduceMul, Nat.reduceEqDiff, Int.reduceAdd, Int.reduceSub, Int.reduceMul, Int.reduceNeg, Int.reduceToNat, hsz, e0, e9, e10, e11, e4, e5, e6, hil, i1, h0, Option.isSome_none]
        exact Rd.no hr _
    | some j =>
      have hr := rb_end hp hie
      obtain ⟨g1, g2, g3, g4, g5, _⟩ := hp
      have h0 : (0 : Int) < ((l.length : Nat) : Int) := by omega
      simp (decide := true) only [go_sem, W_region, Wx_some, Nat.reduceAdd, Nat.reduceMul, Nat.reduceEqDiff, Int.reduceAdd, Int.reduceSub, Int.reduceMul, Int.reduceNeg, Int.reduceToNat, hsz, e0, e9, e10, e11, e4, e5, e6, hil, h0, Option.isSome_some]
      exact Rd.yes hr
  obtain ⟨x, hx⟩ : ∃ x, l[i]? = some x := ⟨_, List.getElem?_eq_getElem (by omega)⟩
  obtain ⟨b, o, cs, hq, q2, q3, q4⟩ := t.one hx
  cases hq
  have j0 : (0 : Int) ≤ (i : Int) := by omega
  have j1 : IntKind.i64.wrap ((i : Int) + 1) = ((i + 1 : Nat) : Int) := by rw [wrap_i64 (by omega) (by omega)]; omega
  have j2 : IntKind.i64.wrap (((l.length : Nat) : Int) - 1) = ((l.length : Nat) : Int) - 1 := by rw [wrap_i64 (by omega) (by omega)]
  by_cases h48 : x < 48
  · have hnd := not_dig (.inl h48)
    by_cases h46 : x = 46
    · cases j with
      | some j =>
        simp (decide := true) only [go_sem, W_region, Wx_some, Nat.reduceAdd, Nat.reduceMul, Nat.reduceEqDiff, Int.reduceAdd, Int.reduceSub, Int.reduceMul, Int.reduceNeg, Int.reduceToNat, hsz, e0, e9, e10, e11, e4, e5, e6, hil, j0, Int.toNat_natCast, q3, q4, h46, Option.isSome_some]
        exact Rd.no (rb_bad hp hx hnd) _
      | none =>
        subst h46
        have hn := ra_le hp
        have i1 : IntKind.i64.wrap ((n : Int) * 10000) = ((n * 10000 : Nat) : Int) := by rw [wrap_i64 (by omega) (by omega)]; omega
        by_cases hi0 : (0 : Int) < (i : Int)
        case neg =>
          simp (decide := true) only [go_sem, W_region, Wx_some, Nat.reduceAdd, Nat.reduceMul, Nat.reduceEqDiff, Int.reduceAdd, Int.reduceSub, Int.reduceMul, Int.reduceNeg, Int.reduceToNat, hsz, e0, e9, e10, e11, e4, e5, e6, hil, j0, Int.toNat_natCast, q3, q4, hi0, Option.isSome_none]
          exact Rd.no (ra_bad hp hx hnd (by omega)) _
        by_cases hi1 : (i : Int) < ((l.length : Nat) : Int) - 1
        case neg =>
          simp (decide := true) only [go_sem, W_region, Wx_some, Nat.reduceAdd, Nat.reduceMul, Nat.reduceEqDiff, Int.reduceAdd, Int.reduceSub, Int.reduceMul, Int.reduceNeg, Int.reduceToNat, hsz, e0, e9, e10, e11, e4, e5, e6, hil, j0, Int.toNat_natCast, q3, q4, hi0, j2, hi1, Option.isSome_none]
          exact Rd.no (ra_bad hp hx hnd (by omega)) _
        simp (decide := true) only [go_sem, W_region, Wx_some, Nat.reduceAdd, Nat.reduceMul, Nat.reduceEqDiff, Int.reduceAdd, Int.reduceSub, Int.reduceMul, Int.reduceNeg, Int.reduceToNat, hsz, e0, e9, e10, e11, e4, e5, e6, hil, j0, j1, Int.toNat_natCast, q3, q4, hi0, j2, hi1, i1, Option.isSome_none]
        exact next (i + 1, some i, n * 10000, 1000) _ _ ⟨by simp only; omega, by simp (decide := true) only [go_sem, hsz], rfl, by simp (decide := true) only [go_sem, hsz, e0], by simp (decide := true) only [go_sem, hsz, e9], by simp (decide := true) only [go_sem, hsz, e10], by simp (decide := true) only [go_sem, hsz], by simp (decide := true) only [go_sem, hsz], by simp (decide := true) only [go_sem, hsz]; rfl, by simp (decide := true) only [go_sem, hsz, Option.isSome_some], ra_point hp hx (by omega) (by omega)⟩ (by simp only; omega)
    · cases j with
      | some j =>
        simp (decide := true) only [go_sem, W_region, Wx_some, Nat.reduceAdd, Nat.reduceMul, Nat.reduceEqDiff, Int.reduceAdd, Int.reduceSub, Int.reduceMul, Int.reduceNeg, Int.reduceToNat, hsz, e0, e9, e10, e11, e4, e5, e6, hil, j0, Int.toNat_natCast, q3, q4, h46, h48, Option.isSome_some]
        exact Rd.no (rb_bad hp hx hnd) _
      | none =>
        simp (decide := true) only [go_sem, W_region, Wx_some, Nat.reduceAdd, Nat.reduceMul, Nat.reduceEqDiff, Int.reduceAdd, Int.reduceSub, Int.reduceMul, Int.reduceNeg, Int.reduceToNat, hsz, e0, e9, e10, e11, e4, e5, e6, hil, j0, Int.toNat_natCast, q3, q4, h46, h48, Option.isSome_none]
        exact Rd.no (ra_bad hp hx hnd (fun hh => h46 hh.1)) _
  have h46 : ¬ x = 46 := by omega
  by_cases h57 : 57 < x
  · have hnd := not_dig (.inr h57)
    cases j with
    | some j =>
      simp (decide := true) only [go_sem, W_region, Wx_some, Nat.reduceAdd, Nat.reduceMul, Nat.reduceEqDiff, Int.reduceAdd, Int.reduceSub, Int.reduceMul, Int.reduceNeg, Int.reduceToNat, hsz, e0, e9, e10, e11, e4, e5, e6, hil, j0, Int.toNat_natCast, q3, q4, h46, h48, h57, Option.isSome_some]
      exact Rd.no (rb_bad hp hx hnd) _
    | none =>
      simp (decide := true) only [go_sem, W_region, Wx_some, Nat.reduceAdd, Nat.reduceMul, Nat.reduceEqDiff, Int.reduceAdd, Int.reduceSub, Int.reduceMul, Int.reduceNeg, Int.reduceToNat, hsz, e0, e9, e10, e11, e4, e5, e6, hil, j0, Int.toNat_natCast, q3, q4, h46, h48, h57, Option.isSome_none]
      exact Rd.no (ra_bad hp hx hnd (fun hh => h46 hh.1)) _
  obtain ⟨d1, d2, d3, d4⟩ := dig_of h48 h57
  obtain ⟨d, hd⟩ : ∃ d, d = x.toNat - 48 := ⟨_, rfl⟩
  cases j with
  | none =>
    have hn := ra_le hp
    by_cases h2 : (2 : Int) < (i : Int)
    · simp (decide := true) only [go_sem, W_region, Wx_some, Nat.reduceAdd, Nat.reduceMul, Nat.reduceEqDiff, Int.reduceAdd, Int.reduceSub, Int.reduceMul, Int.reduceNeg, Int.reduceToNat, hsz, e0, e9, e10, e11, e4, e5, e6, hil, j0, Int.toNat_natCast, q3, q4, h46, h48, h57, h2, Option.isSome_none]
      exact Rd.no (ra_long hp hx d1 (by omega)) _
    have hnx := ra_digit hp hx d1 (by omega)
    rw [← hd] at d2 d3 d4 hnx
    have i1 : IntKind.i64.wrap (10 * (n : Int)) = ((10 * n : Nat) : Int) := by rw [wrap_i64 (by omega) (by omega)]; omega
    have i2 : IntKind.i64.wrap (((10 * n : Nat) : Int) + ((d : Nat) : Int)) = ((10 * n + d : Nat) : Int) := by rw [wrap_i64 (by omega) (by omega)]; omega
    simp (decide := true) only [go_sem, W_region, Wx_some, Nat.reduceAdd, Nat.reduceMul, Nat.reduceEqDiff, Int.reduceAdd, Int.reduceSub, Int.reduceMul, Int.reduceNeg, Int.reduceToNat, hsz, e0, e9, e10, e11, e4, e5, e6, hil, j0, j1, Int.toNat_natCast, q3, q4, h46, h48, h57, h2, d2, d3, i1, i2, Option.isSome_none]
    exact next (i + 1, none, 10 * n + d, 10000) _ _ ⟨by simp only; omega, by simp (decide := true) only [go_sem, hsz], rfl, by simp (decide := true) only [go_sem, hsz, e0], by simp (decide := true) only [go_sem, hsz, e9], by simp (decide := true) only [go_sem, hsz, e10], by simp (decide := true) only [go_sem, hsz], by simp (decide := true) only [go_sem, hsz], by simp (decide := true) only [go_sem, hsz, e5, hp.2.2.2.2], by simp (decide := true) only [go_sem, hsz, e6], hnx⟩ (by simp only; omega)
  | some j =>
    have hn := rb_le hp
    by_cases hp0 : ((part : Nat) : Int) = 0
    · have hp0' : part = 0 := by omega
      subst hp0'
      simp (decide := true) only [go_sem, W_region, Wx_some, Nat.reduceAdd, Nat.reduceMul, Nat.reduceEqDiff, Int.reduceAdd, Int.reduceSub, Int.reduceMul, Int.reduceNeg, Int.reduceToNat, hsz, e0, e9, e10, e11, e4, e5, e6, hil, j0, Int.toNat_natCast, q3, q4, h46, h48, h57, hp0, Option.isSome_some]
      exact Rd.no (rb_long hp hx) _
    have hnx := rb_digit hp hx d1 (by omega)
    rw [← hd] at d2 d3 d4 hnx
    have hmul : d * part ≤ 9 * 1000 := Nat.mul_le_mul d4 hn.2
    have i1 : IntKind.i64.wrap (((d : Nat) : Int) * ((part : Nat) : Int)) = ((d * part : Nat) : Int) := by rw [← Int.natCast_mul, wrap_i64 (by omega) (by omega)]
    have i2 : IntKind.i64.wrap (((n : Nat) : Int) + ((d * part : Nat) : Int)) = ((n + d * part : Nat) : Int) := by rw [wrap_i64 (by omega) (by omega)]; omega
    have ten : (10 : Int) ≠ 0 := by decide
    have i3 : IntKind.i64.wrap (((part : Nat) : Int).tdiv 10) = ((part / 10 : Nat) : Int) := by
      have : ((part : Nat) : Int).tdiv 10 = ((part / 10 : Nat) : Int) := by rw [Int.tdiv_eq_ediv_of_nonneg (by omega)]; omega
      rw [this, wrap_i64 (by omega) (by omega)]
    simp (decide := true) only [go_sem, W_region, Wx_some, Nat.reduceAdd, Nat.reduceMul, Nat.reduceEqDiff, Int.reduceAdd, Int.reduceSub, Int.reduceMul, Int.reduceNeg, Int.reduceToNat, hsz, e0, e9, e10, e11, e4, e5, e6, hil, j0, j1, Int.toNat_natCast, q3, q4, h46, h48, h57, hp0, d2, d3, i1, i2, ten, i3, Option.isSome_some]
    exact next (i + 1, some j, n + d * part, part / 10) _ _ ⟨by simp only; omega, by simp (decide := true) only [go_sem, hsz], rfl, by simp (decide := true) only [go_sem, hsz, e0], by simp (decide := true) only [go_sem, hsz, e9], by simp (decide := true) only [go_sem, hsz, e10], by simp (decide := true) only [go_sem, hsz], by simp (decide := true) only [go_sem, hsz], by simp (decide := true) only [go_sem, hsz], by simp (decide := true) only [go_sem, hsz, e6], hnx⟩ (by simp only; omega)

theorem digit_run (c : Int) (h : Heap) : Runs K f_ref28_digit #[.int .i32 c] h fun r w => w = h ∧ r = .bool (isD c) := by
  refine Runs.of Kok (Does.intro rfl (by decide +kernel) F_ref28_digit rfl ?_)
  by_cases h1 : 48 ≤ c
  · by_cases h2 : c ≤ 57
    · simp (decide := true) only [go_sem, W_region, Wx_some, Nat.reduceAdd, Nat.reduceMul, Nat.reduceEqDiff, Int.reduceAdd, Int.reduceSub, Int.reduceMul, Int.reduceNeg, Int.reduceToNat, h1, h2]
      simp [isD, h1, h2]
    · simp (decide := true) only [go_sem, W_region, Wx_some, Nat.reduceAdd, Nat.reduceMul, Nat.reduceEqDiff, Int.reduceAdd, Int.reduceSub, Int.reduceMul, Int.reduceNeg, Int.reduceToNat, h1, h2]
      simp [isD, h1, h2]
  · simp (decide := true) only [go_sem, W_region, Wx_some, Nat.reduceAdd, Nat.reduceMul, Nat.reduceEqDiff, Int.reduceAdd, Int.reduceSub, Int.reduceMul, Int.reduceNeg, Int.reduceToNat, h1]
    simp [isD, h1]

set_option maxHeartbeats 1000000 in
theorem rread_run (l : List Int) (h : Heap) {tv : Value} (t : Ln h tv l) (hm : l.length ≤ 1000000) : Runs K f_ref28_Read #[tv] h fun r w => w = h ∧ Rd l r := by
  refine Runs.of Kok (Does.intro rfl (by decide +kernel) F_ref28_Read rfl ?_)
  obtain ⟨a, c, rfl⟩ := t.open
  have ten : (10 : Int) ≠ 0 := by decide
  apply W_join (α := Nat × Nat) (fun k e w => e.size = 87 ∧ h = w ∧ e.get 0 = .slice a l.length c ∧ e.get 4 = .int .i64 (k.1 : Int) ∧ e.get 5 = .int .i64 (k.2 : Int) ∧ RA l k.1 k.2 10000 ∧ (∀ c, l[k.1]? = some c → isD c = false))
  · intro cont
    simp (decide := true) only [go_sem, W_region, Wx_some, Nat.reduceAdd, Nat.reduceMul, Nat.reduceEqDiff, Int.reduceAdd, Int.reduceSub, Int.reduceMul, Int.reduceNeg, Int.reduceToNat]
    refine W_loop (α := Nat × Nat) (fun k e w => e.size = 87 ∧ h = w ∧ e.get 0 = .slice a l.length c ∧ e.get 4 = .int .i64 (k.1 : Int) ∧ e.get 5 = .int .i64 (k.2 : Int) ∧ RA l k.1 k.2 10000) (fun k => l.length - k.1) (0, 0) ?_ ?_
    · exact ⟨by simp (decide := true) only [go_sem], rfl, by simp (decide := true) only [go_sem], by simp (decide := true) only [go_sem]; rfl, by simp (decide := true) only [go_sem]; rfl, ra_zero l⟩
    rintro ⟨i, n⟩ e w ⟨hsz, hw, e0, e4, e5, hp⟩ next
    subst hw
    simp only at e4 e5 hp
    have hn := ra_le hp
    by_cases hil : (i : Int) < ((l.length : Nat) : Int)
    case neg =>
      simp (decide := true) only [go_sem, Wx_some, Nat.reduceAdd, Nat.reduceMul, Nat.reduceEqDiff, Int.reduceAdd, Int.reduceSub, Int.reduceMul, Int.reduceNeg, Int.reduceToNat]
      (rw [W_region]; simp (decide := true) only [go_sem, Wx_some, Nat.reduceAdd, Nat.reduceMul, Nat.reduceEqDiff, Int.reduceAdd, Int.reduceSub, Int.reduceMul, Int.reduceNeg, Int.reduceToNat, hsz, e0, e4, e5, hil])
      exact cont (i, n) _ _ ⟨by simp (decide := true) only [go_sem, hsz], rfl, by simp (decide := true) only [go_sem, hsz, e0], by simp (decide := true) only [go_sem, hsz, e4], by simp (decide := true) only [go_sem, hsz, e5], hp, fun c hc => by simp [List.getElem?_eq_none (show l.length ≤ i by omega)] at hc⟩
    obtain ⟨x, hx⟩ : ∃ x, l[i]? = some x := ⟨_, List.getElem?_eq_getElem (by omega)⟩
    obtain ⟨b, o, cs, hq, q2, q3, q4⟩ := t.one hx
    cases hq
    have j0 : (0 : Int) ≤ (i : Int) := by omega
    have j1 : IntKind.i64.wrap ((i : Int) + 1) = ((i + 1 : Nat) : Int) := by rw [wrap_i64 (by omega) (by omega)]; omega
    simp (decide := true) only [go_sem, Wx_some, Nat.reduceAdd, Nat.reduceMul, Nat.reduceEqDiff, Int.reduceAdd, Int.reduceSub, Int.reduceMul, Int.reduceNeg, Int.reduceToNat]
    (rw [W_region]; simp (decide := true) only [go_sem, Wx_some, Nat.reduceAdd, Nat.reduceMul, Nat.reduceEqDiff, Int.reduceAdd, Int.reduceSub, Int.reduceMul, Int.reduceNeg, Int.reduceToNat, hsz, e0, e4, e5, hil, j0, Int.toNat_natCast, q3, q4])
    refine W_call Kok (Nat.le_refl _) (digit_run x h) fun r w hx' hr => ?_
    obtain ⟨hw, rfl⟩ := hr
    have hw := hw.symm
    subst hw
    cases hdx : isD x with
    | false =>
      simp (decide := true) only [go_sem, Wx_some, Nat.reduceAdd, Nat.reduceMul, Nat.reduceEqDiff, Int.reduceAdd, Int.reduceSub, Int.reduceMul, Int.reduceNeg, Int.reduceToNat, hsz, e0, e4, e5]
      exact cont (i, n) _ _ ⟨by simp (decide := true) only [go_sem, hsz], rfl, by simp (decide := true) only [go_sem, hsz, e0], by simp (decide := true) only [go_sem, hsz, e4], by simp (decide := true) only [go_sem, hsz, e5], hp, fun c hc => by rw [hx] at hc; cases hc; exact hdx⟩
    | true =>
      have hb : ¬ x < 48 ∧ ¬ 57 < x := by
        simp only [isD, Bool.and_eq_true, decide_eq_true_eq] at hdx
        omega
      obtain ⟨d1, d2, d3, d4⟩ := dig_of hb.1 hb.2
      obtain ⟨d, hd⟩ : ∃ d, d = x.toNat - 48 := ⟨_, rfl⟩
      by_cases h2 : (2 : Int) < (i : Int)
      · have i1 : IntKind.i64.wrap ((n : Int) * 10) = ((10 * n : Nat) : Int) := by rw [wrap_i64 (by omega) (by omega)]; omega
        rw [← hd] at d2 d3 d4
        have i2 : IntKind.i64.wrap (((10 * n : Nat) : Int) + ((d : Nat) : Int)) = ((10 * n + d : Nat) : Int) := by rw [wrap_i64 (by omega) (by omega)]; omega
        have h3 : (3 : Int) < ((i + 1 : Nat) : Int) := by omega
        simp (decide := true) only [go_sem, W_region, Wx_some, Nat.reduceAdd, Nat.reduceMul, Nat.reduceEqDiff, Int.reduceAdd, Int.reduceSub, Int.reduceMul, Int.reduceNeg, Int.reduceToNat, hsz, e0, e4, e5, hil, j0, Int.toNat_natCast, q3, q4, d2, d3, i1, i2, j1, h3]
        exact Rd.no (ra_long hp hx d1 (by omega)) _
      have hnx := ra_digit hp hx d1 (by omega)
      rw [← hd] at d2 d3 d4 hnx
      have i1 : IntKind.i64.wrap ((n : Int) * 10) = ((10 * n : Nat) : Int) := by rw [wrap_i64 (by omega) (by omega)]; omega
      have i2 : IntKind.i64.wrap (((10 * n : Nat) : Int) + ((d : Nat) : Int)) = ((10 * n + d : Nat) : Int) := by rw [wrap_i64 (by omega) (by omega)]; omega
      have h3 : ¬ (3 : Int) < ((i + 1 : Nat) : Int) := by omega
      simp (decide := true) only [go_sem, W_region, Wx_some, Nat.reduceAdd, Nat.reduceMul, Nat.reduceEqDiff, Int.reduceAdd, Int.reduceSub, Int.reduceMul, Int.reduceNeg, Int.reduceToNat, hsz, e0, e4, e5, hil, j0, Int.toNat_natCast, q3, q4, d2, d3, i1, i2, j1, h3]
      exact next (i + 1, 10 * n + d) _ _ ⟨by simp (decide := true) only [go_sem, hsz], rfl, by simp (decide := true) only [go_sem, hsz, e0], by simp (decide := true) only [go_sem, hsz], by simp (decide := true) only [go_sem, hsz], hnx⟩ (by simp only; omega)
  rintro ⟨i, n⟩ e w ⟨hsz, hw, e0, e4, e5, hp, hend⟩
  subst hw
  simp only at e4 e5 hp hend
  have hn := ra_le hp
  have hil := hp.2.1
  have hi3 := hp.1
  by_cases hi0 : (i : Int) = 0
  · have hi0' : i = 0 := by omega
    subst hi0'
    simp (decide := true) only [go_sem, W_region, Wx_some, Nat.reduceAdd, Nat.reduceMul, Nat.reduceEqDiff, Int.reduceAdd, Int.reduceSub, Int.reduceMul, Int.reduceNeg, Int.reduceToNat, hsz, e0, e4, e5, hi0]
    by_cases h0 : l.length = 0
    · have hr := ra_end hp h0.symm
      rw [if_pos (List.eq_nil_of_length_eq_zero h0)] at hr
      exact Rd.no hr _
    · obtain ⟨x, hx⟩ : ∃ x, l[0]? = some x := ⟨_, List.getElem?_eq_getElem (by omega)⟩
      exact Rd.no (ra_bad hp hx (hend x hx) (by omega)) _
  have i1 : IntKind.i64.wrap ((n : Int) * 10000) = ((n * 10000 : Nat) : Int) := by rw [wrap_i64 (by omega) (by omega)]; omega
  by_cases hie : (i : Int) = ((l.length : Nat) : Int)
  · have hr := ra_end hp (by omega)
    rw [if_neg (by intro hh; rw [hh] at hie; simp at hie; omega)] at hr
    have hl0 : ¬ ((l.length : Nat) : Int) = 0 := by omega
    simp (decide := true) only [go_sem, W_region, Wx_some, Nat.reduceAdd, Nat.reduceMul, Nat.reduceEqDiff, Int.reduceAdd, Int.reduceSub, Int.reduceMul, Int.reduceNeg, Int.reduceToNat, hsz, e0, e4, e5, hi0, i1, hie, hl0]
    exact Rd.yes hr
  obtain ⟨x, hx⟩ : ∃ x, l[i]? = some x := ⟨_, List.getElem?_eq_getElem (by omega)⟩
  obtain ⟨b, o, cs, hq, q2, q3, q4⟩ := t.one hx
  cases hq
  have j0 : (0 : Int) ≤ (i : Int) := by omega
  have jl : (i : Int) < ((l.length : Nat) : Int) := by omega
  have j1 : IntKind.i64.wrap ((i : Int) + 1) = ((i + 1 : Nat) : Int) := by rw [wrap_i64 (by omega) (by omega)]; omega
  have j5 : IntKind.i64.wrap ((i : Int) + 5) = ((i + 5 : Nat) : Int) := by rw [wrap_i64 (by omega) (by omega)]; omega
  by_cases h46 : x = 46
  case neg =>
    simp (decide := true) only [go_sem, W_region, Wx_some, Nat.reduceAdd, Nat.reduceMul, Nat.reduceEqDiff, Int.reduceAdd, Int.reduceSub, Int.reduceMul, Int.reduceNeg, Int.reduceToNat, hsz, e0, e4, e5, hi0, i1, hie, j0, jl, Int.toNat_natCast, q3, q4, h46]
    exact Rd.no (ra_bad hp hx (hend x hx) (fun hh => h46 hh.1)) _
  subst h46
  by_cases hl1 : ((l.length : Nat) : Int) = ((i + 1 : Nat) : Int)
  · have hl2 : ¬ ((i : Nat) : Int) = ((i + 1 : Nat) : Int) := by omega
    have hl3 : ((i : Nat) : Int) < ((i + 1 : Nat) : Int) := by omega
    simp (decide := true) only [go_sem, W_region, Wx_some, Nat.reduceAdd, Nat.reduceMul, Nat.reduceEqDiff, Int.reduceAdd, Int.reduceSub, Int.reduceMul, Int.reduceNeg, Int.reduceToNat, hsz, e0, e4, e5, hi0, i1, hie, j0, jl, Int.toNat_natCast, q3, q4, j1, hl1, hl2, hl3]
    exact Rd.no (ra_bad hp hx (hend _ hx) (by omega)) _
  have hb0 := ra_point hp hx (by omega) (by omega)
  by_cases hl5 : ((i + 5 : Nat) : Int) < ((l.length : Nat) : Int)
  · simp (decide := true) only [go_sem, W_region, Wx_some, Nat.reduceAdd, Nat.reduceMul, Nat.reduceEqDiff, Int.reduceAdd, Int.reduceSub, Int.reduceMul, Int.reduceNeg, Int.reduceToNat, hsz, e0, e4, e5, hi0, i1, hie, j0, jl, Int.toNat_natCast, q3, q4, j1, hl1, j5, hl5]
    refine Rd.no ?_ _
    rw [rb_of hb0, if_neg]
    rintro ⟨g, _⟩
    rw [List.length_drop] at g
    omega
  simp (decide := true) only [go_sem, W_region, Wx_some, Nat.reduceAdd, Nat.reduceMul, Nat.reduceEqDiff, Int.reduceAdd, Int.reduceSub, Int.reduceMul, Int.reduceNeg, Int.reduceToNat, hsz, e0, e4, e5, hi0, i1, hie, j0, jl, Int.toNat_natCast, q3, q4, j1, hl1, j5, hl5]
  refine W_loop (α := Nat × Nat × Nat) (fun k e w => e.size = 87 ∧ h = w ∧ e.get 0 = .slice (some ⟨b, o, none⟩) l.length big ∧ e.get 7 = .int .i64 (k.1 : Int) ∧ e.get 5 = .int .i64 (k.2.1 : Int) ∧ e.get 6 = .int .i64 (k.2.2 : Int) ∧ RB' l i k.1 k.2.1 k.2.2) (fun k => l.length - k.1) (i + 1, n * 10000, 1000) ?_ ?_
  · exact ⟨by simp (decide := true) only [go_sem, hsz], rfl, by simp (decide := true) only [go_sem, hsz, e0], by simp (decide := true) only [go_sem, hsz], by simp (decide := true) only [go_sem, hsz], by simp (decide := true) only [go_sem, hsz]; rfl, hb0⟩
  clear e0 e4 e5 hsz
  rintro ⟨k, m, part⟩ e w ⟨hsz, hw, e0, e7, e5, e6, hq⟩ next
  subst hw
  simp only at e7 e5 e6 hq
  have hmn := rb_le hq
  by_cases hkl : (k : Int) < ((l.length : Nat) : Int)
  case neg =>
    have hr := rb_end hq (by have := hq.2.2.2.2.2.2.1; omega)
    simp (decide := true) only [go_sem, W_region, Wx_some, Nat.reduceAdd, Nat.reduceMul, Nat.reduceEqDiff, Int.reduceAdd, Int.reduceSub, Int.reduceMul, Int.reduceNeg, Int.reduceToNat, hsz, e0, e7, e5, e6, hkl]
    exact Rd.yes hr
  obtain ⟨y, hy⟩ : ∃ y, l[k]? = some y := ⟨_, List.getElem?_eq_getElem (by omega)⟩
  obtain ⟨b2, o2, cs2, hq2, p2, p3, p4⟩ := t.one hy
  cases hq2
  have k0 : (0 : Int) ≤ (k : Int) := by omega
  have k1 : IntKind.i64.wrap ((k : Int) + 1) = ((k + 1 : Nat) : Int) := by rw [wrap_i64 (by omega) (by omega)]; omega
  simp (decide := true) only [go_sem, W_region, Wx_some, Nat.reduceAdd, Nat.reduceMul, Nat.reduceEqDiff, Int.reduceAdd, Int.reduceSub, Int.reduceMul, Int.reduceNeg, Int.reduceToNat, hsz, e0, e7, e5, e6, hkl, k0, Int.toNat_natCast, p3, p4]
  refine W_call Kok (Nat.le_refl _) (digit_run y h) fun r w hx' hr => ?_
  obtain ⟨hw, rfl⟩ := hr
  have hw := hw.symm
  subst hw
  cases hdy : isD y with
  | false =>
    simp (decide := true) only [go_sem, W_region, Wx_some, Nat.reduceAdd, Nat.reduceMul, Nat.reduceEqDiff, Int.reduceAdd, Int.reduceSub, Int.reduceMul, Int.reduceNeg, Int.reduceToNat, hsz, e0, e7, e5, e6]
    exact Rd.no (rb_bad hq hy hdy) _
  | true =>
    have hb : ¬ y < 48 ∧ ¬ 57 < y := by
      simp only [isD, Bool.and_eq_true, decide_eq_true_eq] at hdy
      omega
    obtain ⟨d1, d2, d3, d4⟩ := dig_of hb.1 hb.2
    obtain ⟨d, hd⟩ : ∃ d, d = y.toNat - 48 := ⟨_, rfl⟩
    have hp0 : part ≠ 0 := by
      intro hh
      have := rb_long (by rw [hh] at hq; exact hq) hy
      obtain ⟨g1, g2, g3, g4, g5, g6, g7, g8, g9, g10, g11⟩ := hq
      have : k - (i + 1) = 0 ∨ k - (i + 1) = 1 ∨ k - (i + 1) = 2 ∨ k - (i + 1) = 3 := by omega
      rcases this with hh' | hh' | hh' | hh' <;> (rw [hh'] at g11; simp at g11; omega)
    have hnx := rb_digit hq hy d1 hp0
    rw [← hd] at d2 d3 d4 hnx
    have hmul : d * part ≤ 9 * 1000 := Nat.mul_le_mul d4 hmn.2
    have i1 : IntKind.i64.wrap (((part : Nat) : Int) * ((d : Nat) : Int)) = ((d * part : Nat) : Int) := by rw [← Int.natCast_mul, Nat.mul_comm, wrap_i64 (by omega) (by omega)]
    have i2 : IntKind.i64.wrap (((m : Nat) : Int) + ((d * part : Nat) : Int)) = ((m + d * part : Nat) : Int) := by rw [wrap_i64 (by omega) (by omega)]; omega
    have i3 : IntKind.i64.wrap (((part : Nat) : Int).tdiv 10) = ((part / 10 : Nat) : Int) := by
      have : ((part : Nat) : Int).tdiv 10 = ((part / 10 : Nat) : Int) := by rw [Int.tdiv_eq_ediv_of_nonneg (by omega)]; omega
      rw [this, wrap_i64 (by omega) (by omega)]
    simp (decide := true) only [go_sem, W_region, Wx_some, Nat.reduceAdd, Nat.reduceMul, Nat.reduceEqDiff, Int.reduceAdd, Int.reduceSub, Int.reduceMul, Int.reduceNeg, Int.reduceToNat, hsz, e0, e7, e5, e6, hkl, k0, k1, Int.toNat_natCast, p3, p4, d2, d3, i1, i2, ten, i3]
    exact next (k + 1, m + d * part, part / 10) _ _ ⟨by simp (decide := true) only [go_sem, hsz], rfl, by simp (decide := true) only [go_sem, hsz, e0], by simp (decide := true) only [go_sem, hsz], by simp (decide := true) only [go_sem, hsz], by simp (decide := true) only [go_sem, hsz], hnx⟩ (by simp only; omega)
end Go.Proofs.YtachkofbmodnnaaGreat.E5
