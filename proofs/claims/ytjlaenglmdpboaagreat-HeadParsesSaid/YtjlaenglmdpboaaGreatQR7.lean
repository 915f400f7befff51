/- Proved here: the document's kinds of signs, names, blanks and words; of every sign, and every line. -/
import Derived.Test.YtjlaenglmdpboaaGreatQR6
set_option linter.unusedSimpArgs false
set_option linter.unusedVariables false
namespace Go.Im.Lexing
/-- The document's tables. -/
def rtab : Nat → List Int
  | 1 => [32]
  | 4 => t4
  | 5 => t5
  | 6 => t6
  | 7 => t7
  | 8 => [34, 35, 36, 37, 38, 64, 94, 96, 123, 125, 168, 8746, 8745, 8801, 8802, 8834, 8835, 8866, 8867, 9077, 9082, 9066, 9080, 9674]
  | _ => []
theorem rtab8 (c : Int) : (rtab 8).elem c = t8.elem c := by
  simp only [rtab, t8, List.elem_cons, List.elem_nil, Bool.or_assoc]
  cases c == 9080 <;> simp
/-- A sign's kind, by the tables. -/
theorem kind_at {c : Int} (hl : isL c = false) (hd : (isD c || decide (c = 175)) = false) {k : Nat} (h1 : 1 ≤ k) (h8 : k ≤ 8) (hn : ∀ j, 1 ≤ j → j < k → (rtab j).elem c = false) (hk : (rtab k).elem c = true) : kindOf c = k := by
  have hx : ∀ {d : Bool}, (if d = true then (0 : Nat) else 0) = 0 := fun {d} => by split <;> rfl
  unfold kindOf
  rw [hl, hd]
  have hc : k = 1 ∨ k = 2 ∨ k = 3 ∨ k = 4 ∨ k = 5 ∨ k = 6 ∨ k = 7 ∨ k = 8 := by omega
  have n1 := fun h => hn 1 (by omega) h
  have n4 := fun h => hn 4 (by omega) h
  have n5 := fun h => hn 5 (by omega) h
  have n6 := fun h => hn 6 (by omega) h
  have n7 := fun h => hn 7 (by omega) h
  have e1 : (rtab 1).elem c = decide (c = 32) := by
    show (c == 32 || false) = _
    rw [Bool.or_false]
    rfl
  rw [e1] at n1
  rcases hc with rfl | rfl | rfl | rfl | rfl | rfl | rfl | rfl
  · rw [e1] at hk
    rw [if_pos (by simpa using hk)]
  · cases hk
  · cases hk
  · have hk' : t4.elem c = true := hk
    have h32 : ¬ c = 32 := by simpa using n1 (by omega)
    simp only [h32, hk', if_false, if_true, Bool.false_eq_true]
  · have hk' : t5.elem c = true := hk
    have m4 : t4.elem c = false := n4 (by omega)
    have h32 : ¬ c = 32 := by simpa using n1 (by omega)
    simp only [h32, hk', m4, if_false, if_true, Bool.false_eq_true]
  · have hk' : t6.elem c = true := hk
    have m4 : t4.elem c = false := n4 (by omega)
    have m5 : t5.elem c = false := n5 (by omega)
    have h32 : ¬ c = 32 := by simpa using n1 (by omega)
    simp only [h32, hk', m4, m5, if_false, if_true, Bool.false_eq_true]
  · have hk' : t7.elem c = true := hk
    have m4 : t4.elem c = false := n4 (by omega)
    have m5 : t5.elem c = false := n5 (by omega)
    have m6 : t6.elem c = false := n6 (by omega)
    have h32 : ¬ c = 32 := by simpa using n1 (by omega)
    simp only [h32, hk', m4, m5, m6, if_false, if_true, Bool.false_eq_true]
  · have hk' : t8.elem c = true := by rw [← rtab8]; exact hk
    have m4 : t4.elem c = false := n4 (by omega)
    have m5 : t5.elem c = false := n5 (by omega)
    have m6 : t6.elem c = false := n6 (by omega)
    have m7 : t7.elem c = false := n7 (by omega)
    have h32 : ¬ c = 32 := by simpa using n1 (by omega)
    simp only [h32, hk', m4, m5, m6, m7, if_false, if_true, Bool.false_eq_true]
theorem kind_none {c : Int} (hl : isL c = false) (hd : (isD c || decide (c = 175)) = false) (hn : ∀ j, 1 ≤ j → j < 9 → (rtab j).elem c = false) : kindOf c = 0 := by
  unfold kindOf
  rw [hl, hd]
  have e1 : (rtab 1).elem c = decide (c = 32) := by
    show (c == 32 || false) = _
    rw [Bool.or_false]
    rfl
  have n1 := hn 1 (by omega) (by omega)
  rw [e1] at n1
  have h32 : ¬ c = 32 := by simpa using n1
  have m4 : t4.elem c = false := hn 4 (by omega) (by omega)
  have m5 : t5.elem c = false := hn 5 (by omega) (by omega)
  have m6 : t6.elem c = false := hn 6 (by omega) (by omega)
  have m7 : t7.elem c = false := hn 7 (by omega) (by omega)
  have m8 : t8.elem c = false := by rw [← rtab8]; exact hn 8 (by omega) (by omega)
  simp only [h32, m4, m5, m6, m7, m8, if_false, if_true, Bool.false_eq_true]
theorem elem_at {l : List Int} {c : Int} {i : Nat} (h : l[i]? = some c) : l.elem c = true := List.elem_eq_true_of_mem (List.mem_of_getElem? h)
theorem elem_not {l : List Int} {c : Int} (h : ∀ i, i < l.length → l[i]? ≠ some c) : l.elem c = false := by
  cases he : l.elem c with
  | false => rfl
  | true =>
    obtain ⟨i, hi, hg⟩ := List.getElem_of_mem (List.mem_of_elem_eq_true he)
    exact absurd (by rw [List.getElem?_eq_getElem hi, hg]) (h i hi)
end Go.Im.Lexing
namespace Go.Proofs.YtjlaenglmdpboaaGreat.R7
open Go Go.Im Go.Im.Limbs Go.Im.Lexing Go.Im.Dec Go.Proofs Go.RowKit Go.Proofs.YtjlaenglmdpboaaGreat.Hd Go.Proofs.YtjlaenglmdpboaaGreat.N16
set_option maxRecDepth 100000

theorem table_run (k : Nat) (h : Heap) (h1 : 1 ≤ k) (h8 : k ≤ 8) : Runs K f_ref05_Table #[.int .i64 (k : Int)] h fun r w => ∃ a n c, r = .slice a n c ∧ Sl w 1 a n c (rv (rtab k)) := by
  refine Runs.of Kok (Does.intro rfl (by decide +kernel) F_ref05_Table rfl ?_)
  have hc : k = 1 ∨ k = 2 ∨ k = 3 ∨ k = 4 ∨ k = 5 ∨ k = 6 ∨ k = 7 ∨ k = 8 := by omega
  rcases hc with rfl | rfl | rfl | rfl | rfl | rfl | rfl | rfl
  · simp +decide only [go_sem, W_region, Wx_some, Nat.reduceAdd, Nat.reduceMul, Nat.reduceEqDiff, Int.reduceAdd, Int.reduceSub, Int.reduceMul, Int.reduceNeg, Int.reduceToNat, Int.natCast_one, Int.cast_ofNat_Int]
    exact ⟨_, _, _, rfl, Sl.made (by simp) (push_self _ _) rfl (by simp [big])⟩
  · simp +decide only [go_sem, W_region, Wx_some, Nat.reduceAdd, Nat.reduceMul, Nat.reduceEqDiff, Int.reduceAdd, Int.reduceSub, Int.reduceMul, Int.reduceNeg, Int.reduceToNat, Int.natCast_one, Int.cast_ofNat_Int]
    exact ⟨_, _, _, rfl, Sl.nil _ _⟩
  · simp +decide only [go_sem, W_region, Wx_some, Nat.reduceAdd, Nat.reduceMul, Nat.reduceEqDiff, Int.reduceAdd, Int.reduceSub, Int.reduceMul, Int.reduceNeg, Int.reduceToNat, Int.natCast_one, Int.cast_ofNat_Int]
    exact ⟨_, _, _, rfl, Sl.nil _ _⟩
  · simp +decide only [go_sem, W_region, Wx_some, Nat.reduceAdd, Nat.reduceMul, Nat.reduceEqDiff, Int.reduceAdd, Int.reduceSub, Int.reduceMul, Int.reduceNeg, Int.reduceToNat, Int.natCast_one, Int.cast_ofNat_Int]
    exact ⟨_, _, _, rfl, Sl.made (by simp) (push_self _ _) rfl (by simp [big])⟩
  · simp +decide only [go_sem, W_region, Wx_some, Nat.reduceAdd, Nat.reduceMul, Nat.reduceEqDiff, Int.reduceAdd, Int.reduceSub, Int.reduceMul, Int.reduceNeg, Int.reduceToNat, Int.natCast_one, Int.cast_ofNat_Int]
    exact ⟨_, _, _, rfl, Sl.made (by simp) (push_self _ _) rfl (by simp [big])⟩
  · simp +decide only [go_sem, W_region, Wx_some, Nat.reduceAdd, Nat.reduceMul, Nat.reduceEqDiff, Int.reduceAdd, Int.reduceSub, Int.reduceMul, Int.reduceNeg, Int.reduceToNat, Int.natCast_one, Int.cast_ofNat_Int]
    exact ⟨_, _, _, rfl, Sl.made (by simp) (push_self _ _) rfl (by simp [big])⟩
  · simp +decide only [go_sem, W_region, Wx_some, Nat.reduceAdd, Nat.reduceMul, Nat.reduceEqDiff, Int.reduceAdd, Int.reduceSub, Int.reduceMul, Int.reduceNeg, Int.reduceToNat, Int.natCast_one, Int.cast_ofNat_Int]
    exact ⟨_, _, _, rfl, Sl.made (by simp) (push_self _ _) rfl (by simp [big])⟩
  · simp +decide only [go_sem, W_region, Wx_some, Nat.reduceAdd, Nat.reduceMul, Nat.reduceEqDiff, Int.reduceAdd, Int.reduceSub, Int.reduceMul, Int.reduceNeg, Int.reduceToNat, Int.natCast_one, Int.cast_ofNat_Int]
    exact ⟨_, _, _, rfl, Sl.made (by simp) (push_self _ _) rfl (by simp [big])⟩

theorem Sl.at_int {h : Heap} {a : Option Addr} {n c i : Nat} {l : List Int} {x : Int} (s : Sl h 1 a n c (rv l)) (hx : l[i]? = some x) : ∃ b o cs, a = some ⟨b, o, none⟩ ∧ b < h.size ∧ (h.get b).read = .cells cs 1 ∧ cs[o + i]? = some (.int .i32 x) := s.one (rv_get hx)
theorem rkind_run (c : Int) (h : Heap) : Runs K f_ref05_Kind #[.int .i32 c] h fun r _ => r = .int .i64 (kindOf c) := by
  refine Runs.of Kok (Does.intro rfl (by decide +kernel) F_ref05_Kind rfl ?_)
  simp +decide only [go_sem, Wx_some, Nat.reduceAdd, Nat.reduceMul, Nat.reduceEqDiff, Int.reduceAdd, Int.reduceSub, Int.reduceMul, Int.reduceNeg, Int.reduceToNat]
  (rw [W_region]; simp +decide only [go_sem, Wx_some, Nat.reduceAdd, Nat.reduceMul, Nat.reduceEqDiff, Int.reduceAdd, Int.reduceSub, Int.reduceMul, Int.reduceNeg, Int.reduceToNat])
  refine W_cut (J := fun e w => e.size = 57 ∧ e.get 0 = .int .i32 c ∧ e.get 27 = .bool (isL c) ∧ w = h) (by simp only [straight, KD]; rfl) ?_ ?_
  · by_cases a1 : 97 ≤ c
    · by_cases a2 : c ≤ 122
      · have il : isL c = true := by simp [isL]; omega
        simp +decide only [go_sem, W_region, Wx_some, Nat.reduceAdd, Nat.reduceMul, Nat.reduceEqDiff, Int.reduceAdd, Int.reduceSub, Int.reduceMul, Int.reduceNeg, Int.reduceToNat, a1, a2, il]
      · have a3 : 65 ≤ c := by omega
        have a4 : ¬ c ≤ 90 := by omega
        have a5 : ¬ c = 95 := by omega
        have il : isL c = decide (c = 8710) := by simp [isL, a2, a4, a5]
        by_cases a6 : c = 8710
        · simp +decide only [go_sem, W_region, Wx_some, Nat.reduceAdd, Nat.reduceMul, Nat.reduceEqDiff, Int.reduceAdd, Int.reduceSub, Int.reduceMul, Int.reduceNeg, Int.reduceToNat, a1, a2, a3, a4, a5, a6, il]
          rfl
        · simp +decide only [go_sem, W_region, Wx_some, Nat.reduceAdd, Nat.reduceMul, Nat.reduceEqDiff, Int.reduceAdd, Int.reduceSub, Int.reduceMul, Int.reduceNeg, Int.reduceToNat, a1, a2, a3, a4, a5, a6, il]
    · by_cases a3 : 65 ≤ c
      · by_cases a4 : c ≤ 90
        · have il : isL c = true := by simp [isL]; omega
          simp +decide only [go_sem, W_region, Wx_some, Nat.reduceAdd, Nat.reduceMul, Nat.reduceEqDiff, Int.reduceAdd, Int.reduceSub, Int.reduceMul, Int.reduceNeg, Int.reduceToNat, a1, a3, a4, il]
        · have a6 : ¬ c = 8710 := by omega
          have il : isL c = decide (c = 95) := by simp [isL, a1, a4, a6]
          by_cases a5 : c = 95
          · simp +decide only [go_sem, W_region, Wx_some, Nat.reduceAdd, Nat.reduceMul, Nat.reduceEqDiff, Int.reduceAdd, Int.reduceSub, Int.reduceMul, Int.reduceNeg, Int.reduceToNat, a1, a3, a4, a5, il]
            rfl
          · simp +decide only [go_sem, W_region, Wx_some, Nat.reduceAdd, Nat.reduceMul, Nat.reduceEqDiff, Int.reduceAdd, Int.reduceSub, Int.reduceMul, Int.reduceNeg, Int.reduceToNat, a1, a3, a4, a5, a6, il]
      · have a5 : ¬ c = 95 := by omega
        have a6 : ¬ c = 8710 := by omega
        have il : isL c = false := by simp [isL, a1, a3, a5, a6]
        simp +decide only [go_sem, W_region, Wx_some, Nat.reduceAdd, Nat.reduceMul, Nat.reduceEqDiff, Int.reduceAdd, Int.reduceSub, Int.reduceMul, Int.reduceNeg, Int.reduceToNat, a1, a3, a5, a6, il]
  rintro e w ⟨hsz, e0, e27, rfl⟩
  have h32 : isL c = true → ¬ c = 32 := by
    intro hl hh
    subst hh
    cases hl
  cases hl : isL c with
  | true =>
    rw [hl] at e27
    simp +decide only [go_sem, W_region, Wx_some, Nat.reduceAdd, Nat.reduceMul, Nat.reduceEqDiff, Int.reduceAdd, Int.reduceSub, Int.reduceMul, Int.reduceNeg, Int.reduceToNat, hsz, e0, e27]
    simp only [kindOf, h32 hl, hl, if_true, if_false]
    rfl
  | false =>
  rw [hl] at e27
  simp +decide only [go_sem, Wx_some, Nat.reduceAdd, Nat.reduceMul, Nat.reduceEqDiff, Int.reduceAdd, Int.reduceSub, Int.reduceMul, Int.reduceNeg, Int.reduceToNat, hsz, e27]
  refine W_cut (J := fun e w' => e.size = 57 ∧ e.get 0 = .int .i32 c ∧ e.get 37 = .bool (isD c || decide (c = 175)) ∧ w' = w) (by simp only [straight, KD]; rfl) ?_ ?_
  · by_cases a1 : 48 ≤ c
    · by_cases a2 : c ≤ 57
      · have il : isD c = true := by simp [isD, a1, a2]
        simp +decide only [go_sem, W_region, Wx_some, Nat.reduceAdd, Nat.reduceMul, Nat.reduceEqDiff, Int.reduceAdd, Int.reduceSub, Int.reduceMul, Int.reduceNeg, Int.reduceToNat, hsz, e0, a1, a2, il]
      · have il : isD c = false := by simp [isD, a2]
        by_cases a3 : c = 175
        · simp +decide only [go_sem, W_region, Wx_some, Nat.reduceAdd, Nat.reduceMul, Nat.reduceEqDiff, Int.reduceAdd, Int.reduceSub, Int.reduceMul, Int.reduceNeg, Int.reduceToNat, hsz, e0, a1, a2, il, a3]
        · simp +decide only [go_sem, W_region, Wx_some, Nat.reduceAdd, Nat.reduceMul, Nat.reduceEqDiff, Int.reduceAdd, Int.reduceSub, Int.reduceMul, Int.reduceNeg, Int.reduceToNat, hsz, e0, a1, a2, il, a3]
    · have il : isD c = false := by simp [isD, a1]
      have a3 : ¬ c = 175 := by omega
      simp +decide only [go_sem, W_region, Wx_some, Nat.reduceAdd, Nat.reduceMul, Nat.reduceEqDiff, Int.reduceAdd, Int.reduceSub, Int.reduceMul, Int.reduceNeg, Int.reduceToNat, hsz, e0, a1, il, a3]
  rintro e w' ⟨hsz, e0, e37, rfl⟩
  cases hd : (isD c || decide (c = 175)) with
  | true =>
    have h32' : ¬ c = 32 := by
      intro hh
      subst hh
      cases hd
    rw [hd] at e37
    simp +decide only [go_sem, W_region, Wx_some, Nat.reduceAdd, Nat.reduceMul, Nat.reduceEqDiff, Int.reduceAdd, Int.reduceSub, Int.reduceMul, Int.reduceNeg, Int.reduceToNat, hsz, e0, e37]
    simp only [kindOf, h32', hl, hd, if_true, if_false, Bool.false_eq_true]
    rfl
  | false =>
  rw [hd] at e37
  simp +decide only [go_sem, W_region, Wx_some, Nat.reduceAdd, Nat.reduceMul, Nat.reduceEqDiff, Int.reduceAdd, Int.reduceSub, Int.reduceMul, Int.reduceNeg, Int.reduceToNat, hsz, e0, e37]
  refine W_loop (α := Nat) (fun k e w => 1 ≤ k ∧ k ≤ 9 ∧ e.size = 57 ∧ Ext w' w ∧ e.get 0 = .int .i32 c ∧ e.get 3 = .int .i64 (k : Int) ∧ ∀ j, 1 ≤ j → j < k → (rtab j).elem c = false) (fun k => 9 - k) 1 ?_ ?_
  · exact ⟨Nat.le_refl _, by omega, by simp +decide only [go_sem, hsz], Ext.refl _, by simp +decide only [go_sem, hsz, e0], by simp +decide only [go_sem, hsz]; rfl, fun j h1 h2 => by omega⟩
  · rintro k e w ⟨hk1, hk9, hsz, hxw, e0, e3, hnot⟩ next
    by_cases hk : (k : Int) ≤ 8
    · simp +decide only [go_sem, W_region, Wx_some, Nat.reduceAdd, Nat.reduceMul, Nat.reduceEqDiff, Int.reduceAdd, Int.reduceSub, Int.reduceMul, Int.reduceNeg, Int.reduceToNat, hsz, e0, e3, hk]
      refine W_call Kok hxw.1 (table_run k w hk1 (by omega)) fun r w1 x1 hr => ?_
      obtain ⟨a, n, cc, rfl, s⟩ := hr
      have hn : (rtab k).length = n := by have := s.length; rw [rv_length] at this; omega
      have hnb : (rtab k).length ≤ 30 := by
        rcases (show k = 1 ∨ k = 2 ∨ k = 3 ∨ k = 4 ∨ k = 5 ∨ k = 6 ∨ k = 7 ∨ k = 8 by omega) with rfl | rfl | rfl | rfl | rfl | rfl | rfl | rfl <;> decide
      simp +decide only [go_sem, W_region, Wx_some, Nat.reduceAdd, Nat.reduceMul, Nat.reduceEqDiff, Int.reduceAdd, Int.reduceSub, Int.reduceMul, Int.reduceNeg, Int.reduceToNat, hsz, e0, e3]
      refine W_loop (α := Nat) (fun j e w => j ≤ n ∧ e.size = 57 ∧ w = w1 ∧ e.get 0 = .int .i32 c ∧ e.get 3 = .int .i64 (k : Int) ∧ e.get 4 = .slice a n cc ∧ e.get 5 = .int .i64 (j : Int) ∧ ∀ i, i < j → (rtab k)[i]? ≠ some c) (fun j => n - j) 0 ?_ ?_
      · exact ⟨Nat.zero_le _, by simp +decide only [go_sem, hsz], rfl, by simp +decide only [go_sem, hsz, e0], by simp +decide only [go_sem, hsz, e3], by simp +decide only [go_sem, hsz], by simp +decide only [go_sem, hsz]; rfl, fun i hi => by omega⟩
      · rintro j e w2 ⟨hj, hsz, rfl, e0, e3, e4, e5, hno⟩ next2
        by_cases hjn : (j : Int) < (n : Int)
        · obtain ⟨x, hx⟩ : ∃ x, (rtab k)[j]? = some x := ⟨_, List.getElem?_eq_getElem (by omega)⟩
          obtain ⟨b, o, cs, rfl, hb, hg, hcs⟩ := s.one (rv_get hx)
          have j0 : (0 : Int) ≤ (j : Int) := by omega
          by_cases hxc : x = c
          · simp +decide only [go_sem, W_region, Wx_some, Nat.reduceAdd, Nat.reduceMul, Nat.reduceEqDiff, Int.reduceAdd, Int.reduceSub, Int.reduceMul, Int.reduceNeg, Int.reduceToNat, hsz, e0, e3, e4, e5, hjn, j0, Int.toNat_natCast, Nat.mul_one, hg, hcs, hxc]
            rw [kind_at hl hd hk1 (by omega) hnot (elem_at (by rw [hx, hxc]))]
          · have i2 : IntKind.i64.wrap ((j : Int) + 1) = ((j + 1 : Nat) : Int) := by rw [wrap_i64 (by omega) (by omega)]; omega
            simp +decide only [go_sem, W_region, Wx_some, Nat.reduceAdd, Nat.reduceMul, Nat.reduceEqDiff, Int.reduceAdd, Int.reduceSub, Int.reduceMul, Int.reduceNeg, Int.reduceToNat, hsz, e0, e3, e4, e5, hjn, j0, Int.toNat_natCast, Nat.mul_one, hg, hcs, hxc, i2]
            refine next2 (j + 1) _ _ ⟨by omega, by simp +decide only [go_sem, hsz], rfl, by simp +decide only [go_sem, hsz, e0], by simp +decide only [go_sem, hsz, e3], by simp +decide only [go_sem, hsz, e4], by simp +decide only [go_sem, hsz], ?_⟩ (by omega)
            intro i hi
            by_cases hij : i = j
            · subst hij
              rw [hx]
              intro hh
              cases hh
              exact hxc rfl
            · exact hno i (by omega)
        · have i2 : IntKind.i64.wrap ((k : Int) + 1) = ((k + 1 : Nat) : Int) := by rw [wrap_i64 (by omega) (by omega)]; omega
          simp +decide only [go_sem, W_region, Wx_some, Nat.reduceAdd, Nat.reduceMul, Nat.reduceEqDiff, Int.reduceAdd, Int.reduceSub, Int.reduceMul, Int.reduceNeg, Int.reduceToNat, hsz, e0, e3, e4, e5, hjn, i2]
          refine next (k + 1) _ _ ⟨by omega, by omega, by simp +decide only [go_sem, hsz], hxw.trans x1, by simp +decide only [go_sem, hsz, e0], by simp +decide only [go_sem, hsz], ?_⟩ (by omega)
          intro i h1 h2
          by_cases hik : i = k
          · subst hik
            exact elem_not fun q hq => hno q (by omega)
          · exact hnot i h1 (by omega)
    · have : k = 9 := by omega
      subst this
      simp +decide only [go_sem, W_region, Wx_some, Nat.reduceAdd, Nat.reduceMul, Nat.reduceEqDiff, Int.reduceAdd, Int.reduceSub, Int.reduceMul, Int.reduceNeg, Int.reduceToNat, hsz, e0, e3, hk]
      rw [kind_none hl hd hnot]
      rfl

theorem rword_run (c : Int) (h : Heap) : Runs K f_ref05_Word #[.int .i32 c] h fun r _ => r = .bool (isW c) := by
  refine Runs.of Kok (Does.intro rfl (by decide +kernel) F_ref05_Word rfl ?_)
  simp +decide only [go_sem, W_region, Wx_some, Nat.reduceAdd, Nat.reduceMul, Nat.reduceEqDiff, Int.reduceAdd, Int.reduceSub, Int.reduceMul, Int.reduceNeg, Int.reduceToNat]
  refine W_call Kok (Nat.le_refl _) (rkind_run c h) fun r w x hr => ?_
  subst hr
  by_cases h2 : kindOf c = 2
  · have h2' : ((kindOf c : Nat) : Int) = 2 := by omega
    simp +decide only [go_sem, W_region, Wx_some, Nat.reduceAdd, Nat.reduceMul, Nat.reduceEqDiff, Int.reduceAdd, Int.reduceSub, Int.reduceMul, Int.reduceNeg, Int.reduceToNat, h2']
    simp [isW, h2]
  · have h2' : ¬ ((kindOf c : Nat) : Int) = 2 := by omega
    by_cases a1 : 48 ≤ c
    · simp +decide only [go_sem, W_region, Wx_some, Nat.reduceAdd, Nat.reduceMul, Nat.reduceEqDiff, Int.reduceAdd, Int.reduceSub, Int.reduceMul, Int.reduceNeg, Int.reduceToNat, h2', a1]
      simp [isW, h2, isD, a1]
    · simp +decide only [go_sem, W_region, Wx_some, Nat.reduceAdd, Nat.reduceMul, Nat.reduceEqDiff, Int.reduceAdd, Int.reduceSub, Int.reduceMul, Int.reduceNeg, Int.reduceToNat, h2', a1]
      simp [isW, h2, isD, a1]

theorem rname_run (l : List Int) {v : Value} (h : Heap) (t : Tx h v l) (hm : l.length ≤ 1099511627776) : Runs K f_ref05_Name #[v] h fun r _ => r = .bool (nameOK l) := by
  obtain ⟨a, c, rfl⟩ := t.open
  refine Runs.of Kok (Does.intro rfl (by decide +kernel) F_ref05_Name rfl ?_)
  simp +decide only [go_sem, W_region, Wx_some, Nat.reduceAdd, Nat.reduceMul, Nat.reduceEqDiff, Int.reduceAdd, Int.reduceSub, Int.reduceMul, Int.reduceNeg, Int.reduceToNat]
  refine W_loop (α := Nat) (fun i e w => i ≤ l.length ∧ e.size = 31 ∧ Ext h w ∧ e.get 0 = .slice a l.length c ∧ e.get 3 = .int .i64 (i : Int) ∧ (l.take i).all isW = true) (fun i => l.length - i) 0 ?_ ?_
  · exact ⟨Nat.zero_le _, by simp +decide only [go_sem], Ext.refl _, by simp +decide only [go_sem], by simp +decide only [go_sem]; rfl, by simp⟩
  · rintro i e w ⟨hi, hsz, hxw, e0, e3, hall⟩ next
    by_cases hil : (i : Int) < ((l.length : Nat) : Int)
    · obtain ⟨y, hy⟩ : ∃ y, l[i]? = some y := ⟨_, List.getElem?_eq_getElem (by omega)⟩
      obtain ⟨b, o, cs, q1, q2, q3, q4⟩ := (t.ext hxw).one hy
      cases q1
      have i0 : (0 : Int) ≤ (i : Int) := by omega
      simp +decide only [go_sem, W_region, Wx_some, Nat.reduceAdd, Nat.reduceMul, Nat.reduceEqDiff, Int.reduceAdd, Int.reduceSub, Int.reduceMul, Int.reduceNeg, Int.reduceToNat, hsz, e0, e3, hil, i0, Int.toNat_natCast, Nat.mul_one, q3, q4]
      refine W_call Kok hxw.1 (rword_run y w) fun r w1 x1 hr => ?_
      subst hr
      have i2 : IntKind.i64.wrap ((i : Int) + 1) = ((i + 1 : Nat) : Int) := by rw [wrap_i64 (by omega) (by omega)]; omega
      cases hyw : isW y with
      | true =>
        simp +decide only [go_sem, W_region, Wx_some, Nat.reduceAdd, Nat.reduceMul, Nat.reduceEqDiff, Int.reduceAdd, Int.reduceSub, Int.reduceMul, Int.reduceNeg, Int.reduceToNat, hsz, e0, e3, hyw, i2]
        refine next (i + 1) _ _ ⟨by omega, by simp +decide only [go_sem, hsz], hxw.trans x1, by simp +decide only [go_sem, hsz, e0], by simp +decide only [go_sem, hsz], ?_⟩ (by omega)
        obtain ⟨hg, hyg⟩ := List.getElem?_eq_some_iff.1 hy
        rw [List.take_succ_eq_append_getElem hg, hyg, List.all_append, hall]
        simp [hyw]
      | false =>
        have : nameOK l = false := by
          have h1 : l.all isW = false := by
            rw [List.all_eq_false]
            exact ⟨y, List.mem_of_getElem? hy, by simp [hyw]⟩
          simp [nameOK, h1]
        simp +decide only [go_sem, W_region, Wx_some, Nat.reduceAdd, Nat.reduceMul, Nat.reduceEqDiff, Int.reduceAdd, Int.reduceSub, Int.reduceMul, Int.reduceNeg, Int.reduceToNat, hsz, e0, e3, hyw, this]
    · have hall' : l.all isW = true := by rw [List.take_of_length_le (by omega)] at hall; exact hall
      by_cases h1 : (1 : Int) ≤ ((l.length : Nat) : Int)
      case neg =>
        have h1' : ¬ 1 ≤ l.length := by omega
        simp +decide only [go_sem, W_region, Wx_some, Nat.reduceAdd, Nat.reduceMul, Nat.reduceEqDiff, Int.reduceAdd, Int.reduceSub, Int.reduceMul, Int.reduceNeg, Int.reduceToNat, hsz, e0, e3, hil, h1]
        simp [nameOK, h1']
      by_cases h24 : ((l.length : Nat) : Int) ≤ 24
      case neg =>
        have h1' : ¬ l.length ≤ 24 := by omega
        simp +decide only [go_sem, W_region, Wx_some, Nat.reduceAdd, Nat.reduceMul, Nat.reduceEqDiff, Int.reduceAdd, Int.reduceSub, Int.reduceMul, Int.reduceNeg, Int.reduceToNat, hsz, e0, e3, hil, h1, h24]
        simp [nameOK, h1']
      obtain ⟨y, hy⟩ : ∃ y, l[0]? = some y := ⟨_, List.getElem?_eq_getElem (by omega)⟩
      obtain ⟨b, o, cs, q1, q2, q3, q4⟩ := (t.ext hxw).one hy
      cases q1
      have q4' : cs[o]? = some (.int .i32 y) := q4
      have p0 : (0 : Int) < ((l.length : Nat) : Int) := by omega
      simp +decide only [go_sem, W_region, Wx_some, Nat.reduceAdd, Nat.reduceMul, Nat.reduceEqDiff, Int.reduceAdd, Int.reduceSub, Int.reduceMul, Int.reduceNeg, Int.reduceToNat, hsz, e0, e3, hil, h1, h24, p0, q3, q4']
      refine W_call Kok hxw.1 (rkind_run y w) fun r w1 x1 hr => ?_
      subst hr
      simp +decide only [go_sem, W_region, Wx_some, Nat.reduceAdd, Nat.reduceMul, Nat.reduceEqDiff, Int.reduceAdd, Int.reduceSub, Int.reduceMul, Int.reduceNeg, Int.reduceToNat, hsz]
      have n1 : 1 ≤ l.length := by omega
      have n2 : l.length ≤ 24 := by omega
      have n3 : decide (((kindOf y : Nat) : Int) = 2) = decide (kindOf y = 2) := decide_eq_decide.2 (by omega)
      simp only [nameOK, hy, n1, n2, hall', n3, decide_true, Bool.true_and, Bool.and_true]

theorem rblanks_run (l : List Int) (i : Nat) {v : Value} (h : Heap) (t : Tx h v l) (hm : l.length ≤ 1099511627776) (hi : i ≤ l.length) :
    Runs K f_ref22_blanks #[v, .int .i64 (i : Int)] h fun r w => r = .int .i64 ((i + blanks (l.drop i) : Nat) : Int) ∧ w = h := by
  obtain ⟨a, c, rfl⟩ := t.open
  refine Runs.of Kok (Does.intro rfl (by decide +kernel) F_ref22_blanks rfl ?_)
  obtain ⟨D, hD⟩ : ∃ D, D = blanks (l.drop i) := ⟨_, rfl⟩
  rw [← hD]
  have hDl : i + D ≤ l.length := by
    have := tw_le (p := fun c => decide (c = 32)) (l.drop i)
    rw [List.length_drop] at this
    rw [hD]
    unfold blanks
    omega
  simp +decide only [go_sem, W_region, Wx_some, Nat.reduceAdd, Nat.reduceMul, Nat.reduceEqDiff, Int.reduceAdd, Int.reduceSub, Int.reduceMul, Int.reduceNeg, Int.reduceToNat]
  refine W_loop (α := Nat) (fun k e w => k ≤ D ∧ e.size = 19 ∧ w = h ∧ e.get 0 = .slice a l.length c ∧ e.get 1 = .int .i64 ((i + k : Nat) : Int)) (fun k => D - k) 0 ?_ ?_
  · exact ⟨Nat.zero_le _, by simp +decide only [go_sem], rfl, by simp +decide only [go_sem], by simp +decide only [go_sem, Nat.add_zero]⟩
  · rintro k e w ⟨hk, hsz, rfl, e0, e1⟩ next
    have i2 : IntKind.i64.wrap (((i + k : Nat) : Int) + 1) = ((i + (k + 1) : Nat) : Int) := by rw [wrap_i64 (by omega) (by omega)]; omega
    have i0 : (0 : Int) ≤ ((i + k : Nat) : Int) := by omega
    by_cases hkl : k < D
    · obtain ⟨x, hx, hdx⟩ := tw_lt (p := fun c => decide (c = 32)) (l := l.drop i) (k := k) (by rw [hD] at hkl; exact hkl)
      rw [List.getElem?_drop] at hx
      have hx32 : x = 32 := by simpa using hdx
      have hil' : ((i + k : Nat) : Int) < ((l.length : Nat) : Int) := by omega
      obtain ⟨b, o, cs, q1, q2, q3, q4⟩ := t.one hx
      cases q1
      simp +decide only [go_sem, W_region, Wx_some, Nat.reduceAdd, Nat.reduceMul, Nat.reduceEqDiff, Int.reduceAdd, Int.reduceSub, Int.reduceMul, Int.reduceNeg, Int.reduceToNat, hsz, e0, e1, hil', i0, Int.toNat_natCast, Nat.mul_one, q3, q4, hx32, i2]
      exact next (k + 1) _ _ ⟨by omega, by simp +decide only [go_sem, hsz], rfl, by simp +decide only [go_sem, hsz, e0], by simp +decide only [go_sem, hsz]⟩ (by omega)
    · have hkD : k = D := by omega
      subst hkD
      by_cases hil : ((i + k : Nat) : Int) < ((l.length : Nat) : Int)
      case neg =>
        simp +decide only [go_sem, W_region, Wx_some, Nat.reduceAdd, Nat.reduceMul, Nat.reduceEqDiff, Int.reduceAdd, Int.reduceSub, Int.reduceMul, Int.reduceNeg, Int.reduceToNat, hsz, e0, e1, hil]
      obtain ⟨x, hx⟩ : ∃ x, l[i + k]? = some x := ⟨_, List.getElem?_eq_getElem (by omega)⟩
      have hdx : ¬ x = 32 := by
        have := tw_end (p := fun c => decide (c = 32)) (l := l.drop i) (c := x) (by rw [List.getElem?_drop, ← hx, hD]; rfl)
        simpa using this
      obtain ⟨b, o, cs, q1, q2, q3, q4⟩ := t.one hx
      cases q1
      simp +decide only [go_sem, W_region, Wx_some, Nat.reduceAdd, Nat.reduceMul, Nat.reduceEqDiff, Int.reduceAdd, Int.reduceSub, Int.reduceMul, Int.reduceNeg, Int.reduceToNat, hsz, e0, e1, hil, i0, Int.toNat_natCast, Nat.mul_one, q3, q4, hdx]

theorem rword22_run (l : List Int) (i : Nat) {v : Value} (h : Heap) (t : Tx h v l) (hne : l ≠ []) (hm : l.length ≤ 1099511627776) (hi : i ≤ l.length) :
    Runs K f_ref22_word #[v, .int .i64 (i : Int)] h fun r w => Tx w r ((l.drop i).takeWhile isW) ∧ ∃ a, r = .slice a ((l.drop i).takeWhile isW).length big := by
  obtain ⟨a, c, rfl⟩ := t.open
  refine Runs.of Kok (Does.intro rfl (by decide +kernel) F_ref22_word rfl ?_)
  obtain ⟨D, hD⟩ : ∃ D, D = (l.drop i).takeWhile isW := ⟨_, rfl⟩
  rw [← hD]
  have hDl : i + D.length ≤ l.length := by
    have := tw_le (p := isW) (l.drop i)
    rw [List.length_drop, ← hD] at this
    omega
  simp +decide only [go_sem, W_region, Wx_some, Nat.reduceAdd, Nat.reduceMul, Nat.reduceEqDiff, Int.reduceAdd, Int.reduceSub, Int.reduceMul, Int.reduceNeg, Int.reduceToNat]
  refine W_loop (α := Nat) (fun k e w => k ≤ D.length ∧ e.size = 24 ∧ Ext h w ∧ e.get 0 = .slice a l.length c ∧ e.get 1 = .int .i64 (i : Int) ∧ e.get 5 = .int .i64 ((i + k : Nat) : Int)) (fun k => D.length - k) 0 ?_ ?_
  · exact ⟨Nat.zero_le _, by simp +decide only [go_sem], Ext.refl h, by simp +decide only [go_sem], by simp +decide only [go_sem], by simp +decide only [go_sem, Nat.add_zero]⟩
  · rintro k e w ⟨hk, hsz, hxw, e0, e1, e5⟩ next
    have i2 : IntKind.i64.wrap (((i + k : Nat) : Int) + 1) = ((i + (k + 1) : Nat) : Int) := by rw [wrap_i64 (by omega) (by omega)]; omega
    have i0 : (0 : Int) ≤ ((i + k : Nat) : Int) := by omega
    by_cases hkl : k < D.length
    · obtain ⟨x, hx, hdx⟩ := tw_lt (p := isW) (l := l.drop i) (k := k) (by rw [← hD]; exact hkl)
      rw [List.getElem?_drop] at hx
      have hil' : ((i + k : Nat) : Int) < ((l.length : Nat) : Int) := by omega
      obtain ⟨b, o, cs, q1, q2, q3, q4⟩ := (t.ext hxw).one hx
      cases q1
      simp +decide only [go_sem, W_region, Wx_some, Nat.reduceAdd, Nat.reduceMul, Nat.reduceEqDiff, Int.reduceAdd, Int.reduceSub, Int.reduceMul, Int.reduceNeg, Int.reduceToNat, hsz, e0, e1, e5, hil', i0, Int.toNat_natCast, Nat.mul_one, q3, q4]
      refine W_call Kok hxw.1 (rword_run x w) fun r w2 x2 hr => ?_
      subst hr
      simp +decide only [go_sem, W_region, Wx_some, Nat.reduceAdd, Nat.reduceMul, Nat.reduceEqDiff, Int.reduceAdd, Int.reduceSub, Int.reduceMul, Int.reduceNeg, Int.reduceToNat, hsz, e0, e1, e5, hdx, i2]
      exact next (k + 1) _ _ ⟨by omega, by simp +decide only [go_sem, hsz], hxw.trans x2, by simp +decide only [go_sem, hsz, e0], by simp +decide only [go_sem, hsz, e1], by simp +decide only [go_sem, hsz]⟩ (by omega)
    · have hkD : k = D.length := by omega
      subst hkD
      have hcut : (l.drop i).take (i + D.length - i) = D := by
        rw [Nat.add_sub_cancel_left]
        have := tw_take (p := isW) (l.drop i)
        rw [← hD] at this
        exact this
      by_cases hil : ((i + D.length : Nat) : Int) < ((l.length : Nat) : Int)
      case neg =>
        obtain ⟨a', c1, c2, c3⟩ := (t.ext hxw).cut hne (lo := i) (hi := i + D.length) (by omega) hDl
        rw [hcut] at c2
        simp +decide only [go_sem, W_region, Wx_some, Nat.reduceAdd, Nat.reduceMul, Nat.reduceEqDiff, Int.reduceAdd, Int.reduceSub, Int.reduceMul, Int.reduceNeg, Int.reduceToNat, hsz, e0, e1, e5, hil, c1]
        rw [Nat.add_sub_cancel_left] at c2 ⊢
        exact ⟨c2, _, rfl⟩
      obtain ⟨x, hx⟩ : ∃ x, l[i + D.length]? = some x := ⟨_, List.getElem?_eq_getElem (by omega)⟩
      have hdx : isW x = false := by
        refine tw_end (l := l.drop i) ?_
        rw [List.getElem?_drop, ← hD]
        exact hx
      obtain ⟨b, o, cs, q1, q2, q3, q4⟩ := (t.ext hxw).one hx
      cases q1
      simp +decide only [go_sem, W_region, Wx_some, Nat.reduceAdd, Nat.reduceMul, Nat.reduceEqDiff, Int.reduceAdd, Int.reduceSub, Int.reduceMul, Int.reduceNeg, Int.reduceToNat, hsz, e0, e1, e5, hil, i0, Int.toNat_natCast, Nat.mul_one, q3, q4]
      refine W_call Kok hxw.1 (rword_run x w) fun r w2 x2 hr => ?_
      subst hr
      obtain ⟨a', c1, c2, c3⟩ := (t.ext (hxw.trans x2)).cut hne (lo := i) (hi := i + D.length) (by omega) hDl
      rw [hcut] at c2
      simp +decide only [go_sem, W_region, Wx_some, Nat.reduceAdd, Nat.reduceMul, Nat.reduceEqDiff, Int.reduceAdd, Int.reduceSub, Int.reduceMul, Int.reduceNeg, Int.reduceToNat, hsz, e0, e1, e5, hdx, c1]
      rw [Nat.add_sub_cancel_left] at c2 ⊢
      exact ⟨c2, _, rfl⟩
end Go.Proofs.YtjlaenglmdpboaaGreat.R7
