/- Proved here: HeadSames answers true, at any two headers laid in memory that is only read; no condition. -/
import Derived.Test.YtjlaenglmdpboaaA23
namespace Go.Proofs.Ytjlaenglmdpboaa.H23
open Go Go.Im Go.Proofs Go.RowKit
set_option maxRecDepth 100000
set_option linter.unusedSimpArgs false
set_option linter.unusedVariables false
noncomputable def K : Cfg := cfg Try.prog [5, 15, 16, 17, 25] [(5, 3)] [] [A23.awake]
theorem KP : K.P = Try.prog := rfl
theorem KD {f r : Nat} : K.dy f r = [] := rfl
theorem Kok : CfgOK K := cfg_ok (by decide +kernel) (by decide +kernel)
attribute [local go_sem] KD
@[local go_sem] theorem ts_49 : tsize Try.prog 49 = some 5 := by kernel_rfl
@[local go_sem] theorem fo_49_4 : foff Try.prog 49 4 = some 4 := by kernel_rfl
@[local go_sem] theorem tc_47 : tcell Try.prog 47 = some none := by kernel_rfl
attribute [local go_sem] Try.underlying47
@[local go_sem] theorem tc_49 : tcell Try.prog 49 = some (some 5) := by kernel_rfl
attribute [local go_sem] Try.underlying4
@[local go_sem] theorem ts_51 : tsize Try.prog 51 = some 5 := by kernel_rfl
@[local go_sem] theorem fo_51_0 : foff Try.prog 51 0 = some 0 := by kernel_rfl
@[local go_sem] theorem tc_9 : tcell Try.prog 9 = some none := by kernel_rfl
@[local go_sem] theorem fo_51_1 : foff Try.prog 51 1 = some 1 := by kernel_rfl
@[local go_sem] theorem fo_51_2 : foff Try.prog 51 2 = some 2 := by kernel_rfl
@[local go_sem] theorem fo_51_3 : foff Try.prog 51 3 = some 3 := by kernel_rfl
@[local go_sem] theorem fo_51_4 : foff Try.prog 51 4 = some 4 := by kernel_rfl
@[local go_sem] theorem ac_51 : acells Try.prog 51 = some ([.string ByteArray.empty, .string ByteArray.empty, .string ByteArray.empty, .string ByteArray.empty, .slice none 0 0], 5) := by kernel_rfl
@[local go_sem] theorem fo_49_0 : foff Try.prog 49 0 = some 0 := by kernel_rfl
@[local go_sem] theorem fo_49_1 : foff Try.prog 49 1 = some 1 := by kernel_rfl
@[local go_sem] theorem fo_49_2 : foff Try.prog 49 2 = some 2 := by kernel_rfl
@[local go_sem] theorem fo_49_3 : foff Try.prog 49 3 = some 3 := by kernel_rfl
@[local go_sem] theorem bd_51 {ps : List (Nat × Value)} : ibuild Try.prog 51 ps = blt [(0, 1), (1, 1), (2, 1), (3, 1), (4, 1)] [.string ByteArray.empty, .string ByteArray.empty, .string ByteArray.empty, .string ByteArray.empty, .slice none 0 0] ps := ibuild_of (by kernel_rfl)
@[local go_sem] theorem tc_51 : tcell Try.prog 51 = some (some 5) := by kernel_rfl
@[local go_sem] theorem el_47 : elts Try.prog 47 = some (.slice 1) := by kernel_rfl

theorem awake_runs (h : Heap) : Runs K 14 #[] h fun v _ => v = .bool true := ⟨1, .bool true, h, rfl, Ext.refl h, rfl⟩
abbrev hd (n r l g : ByteArray) (a : Option Addr) (k c : Nat) : Value := .agg #[.string n, .string r, .string l, .string g, .slice a k c]

theorem to_run (n r l g : ByteArray) (a : Option Addr) (k c : Nat) (h : Heap) : Runs K 16 #[hd n r l g a k c] h fun v _ => v = hd n r l g a k c := by
  refine Runs.of Kok (Does.intro rfl (by decide +kernel) Try.func16 rfl ?_)
  simp (decide := true) only [go_sem, KP, Nat.reduceAdd, Nat.reduceMul, Nat.reduceEqDiff, Nat.add_eq_left, Nat.left_eq_add, Int.reduceAdd, Int.reduceSub, Int.reduceMul, Int.reduceNeg, Int.reduceToNat, Try.f16, KP]

def strs (xs : List ByteArray) : List Value := xs.map .string

theorem equal_run (xs ys : List ByteArray) (h : Heap) {a b : Option Addr} {k c m d : Nat} (sa : Sl h 1 a k c (strs xs)) (sb : Sl h 1 b m d (strs ys)) (hk : k ≤ maxLen) :
    Runs K 25 #[.slice a k c, .slice b m d] h fun v _ => v = .bool (decide (xs = ys)) := by
  have lx : xs.length = k := by have := sa.length; simpa [strs] using this
  have ly : ys.length = m := by have := sb.length; simpa [strs] using this
  refine Runs.of Kok (Does.intro rfl (by decide +kernel) Try.func25 rfl ?_)
  by_cases hkm : (k : Int) = (m : Int)
  · have hkm' : k = m := by omega
    subst hkm'
    simp (decide := true) only [go_sem, KP, Nat.reduceAdd, Nat.reduceMul, Nat.reduceEqDiff, Nat.add_eq_left, Nat.left_eq_add, Int.reduceAdd, Int.reduceSub, Int.reduceMul, Int.reduceNeg, Int.reduceToNat, Try.f25, KP]
    refine W_loop (α := Nat) (fun i e w => i ≤ k ∧ e.size = 26 ∧ e.get 0 = .slice a k c ∧ e.get 1 = .slice b k d ∧ e.get 12 = .int .i64 k ∧ e.get 13 = .int .i64 i ∧ Ext h w ∧ xs.take i = ys.take i) (fun i => k - i) 0 ?_ ?_
    · simp (decide := true) only [go_sem, KP, Nat.reduceAdd, Nat.reduceMul, Nat.reduceEqDiff, Nat.add_eq_left, Nat.left_eq_add, Int.reduceAdd, Int.reduceSub, Int.reduceMul, Int.reduceNeg, Int.reduceToNat, KP]
      exact ⟨Nat.zero_le _, rfl, Ext.refl h⟩
    · rintro i e w ⟨hi, hsz, g0, g1, g12, g13, hx, heq⟩ next
      by_cases hik : (i : Int) < (k : Int)
      · have hik' : i < k := by omega
        obtain ⟨x, hxi⟩ : ∃ x, xs[i]? = some x := ⟨_, List.getElem?_eq_getElem (by omega)⟩
        obtain ⟨y, hyi⟩ : ∃ y, ys[i]? = some y := ⟨_, List.getElem?_eq_getElem (by omega)⟩
        obtain ⟨b1, o1, cs1, rfl, hb1, hg1, hc1⟩ := (sa.ext hx).one (i := i) (x := .string x) (by simp [strs, hxi])
        obtain ⟨b2, o2, cs2, rfl, hb2, hg2, hc2⟩ := (sb.ext hx).one (i := i) (x := .string y) (by simp [strs, hyi])
        have i1 : (0 : Int) ≤ (i : Int) := by omega
        have i2 : ((i : Int)).toNat = i := by omega
        have i3 : IntKind.i64.wrap ((i : Int) + 1) = (i : Int) + 1 := wrap_i64 (by simp only [maxLen] at hk; omega) (by simp only [maxLen] at hk; omega)
        by_cases hxy : x = y
        · subst hxy
          simp (decide := true) only [go_sem, KP, Nat.reduceAdd, Nat.reduceMul, Nat.reduceEqDiff, Nat.add_eq_left, Nat.left_eq_add, Int.reduceAdd, Int.reduceSub, Int.reduceMul, Int.reduceNeg, Int.reduceToNat, hsz, g0, g1, g12, g13, hik, i1, i2, Nat.mul_one, hg1, hg2, hc1, hc2, i3]
          refine next (i + 1) _ _ ?_ (by omega)
          simp (decide := true) only [go_sem, KP, Nat.reduceAdd, Nat.reduceMul, Nat.reduceEqDiff, Nat.add_eq_left, Nat.left_eq_add, Int.reduceAdd, Int.reduceSub, Int.reduceMul, Int.reduceNeg, Int.reduceToNat, hsz, g0, g1, g12]
          refine ⟨by omega, rfl, hx, ?_⟩
          rw [List.take_add_one, List.take_add_one, heq, hxi, hyi]
        · simp (decide := true) only [go_sem, KP, Nat.reduceAdd, Nat.reduceMul, Nat.reduceEqDiff, Nat.add_eq_left, Nat.left_eq_add, Int.reduceAdd, Int.reduceSub, Int.reduceMul, Int.reduceNeg, Int.reduceToNat, hsz, g0, g1, g12, g13, hik, i1, i2, Nat.mul_one, hg1, hg2, hc1, hc2, hxy]
          have : ¬ xs = ys := by
            rintro rfl
            rw [hxi] at hyi
            cases hyi
            exact hxy rfl
          simp [this]
      · simp (decide := true) only [go_sem, KP, Nat.reduceAdd, Nat.reduceMul, Nat.reduceEqDiff, Nat.add_eq_left, Nat.left_eq_add, Int.reduceAdd, Int.reduceSub, Int.reduceMul, Int.reduceNeg, Int.reduceToNat, hsz, g0, g1, g12, g13, hik]
        have : xs = ys := by
          rw [List.take_of_length_le (by omega), List.take_of_length_le (by omega)] at heq
          exact heq
        simp [this]
  · simp (decide := true) only [go_sem, KP, Nat.reduceAdd, Nat.reduceMul, Nat.reduceEqDiff, Nat.add_eq_left, Nat.left_eq_add, Int.reduceAdd, Int.reduceSub, Int.reduceMul, Int.reduceNeg, Int.reduceToNat, Try.f25, KP, hkm]
    have : ¬ xs = ys := by
      rintro rfl
      omega
    simp [this]

theorem Ext.push2 (h : Heap) (x y : Blk) : Ext h ((h.push x).push y) := ((Ext.refl h).push x).push y

theorem same_run (n r l g n' r' l' g' : ByteArray) (xs ys : List ByteArray) (h : Heap) {a b : Option Addr} {k c m d : Nat} (sa : Sl h 1 a k c (strs xs)) (sb : Sl h 1 b m d (strs ys)) (hk : k ≤ maxLen) :
    Runs K 15 #[hd n r l g a k c, hd n' r' l' g' b m d] h fun v _ => v = .bool (decide (n = n' ∧ r = r' ∧ l = l' ∧ g = g' ∧ xs = ys)) := by
  refine Runs.of Kok (Does.intro rfl (by decide +kernel) Try.func15 rfl ?_)
  by_cases h1 : n = n'
  case neg => simp (decide := true) only [go_sem, KP, Nat.reduceAdd, Nat.reduceMul, Nat.reduceEqDiff, Nat.add_eq_left, Nat.left_eq_add, Int.reduceAdd, Int.reduceSub, Int.reduceMul, Int.reduceNeg, Int.reduceToNat, Try.f15, h1, false_and]
  by_cases h2 : r = r'
  case neg => simp (decide := true) only [go_sem, KP, Nat.reduceAdd, Nat.reduceMul, Nat.reduceEqDiff, Nat.add_eq_left, Nat.left_eq_add, Int.reduceAdd, Int.reduceSub, Int.reduceMul, Int.reduceNeg, Int.reduceToNat, Try.f15, h1, h2, false_and, and_false]
  by_cases h3 : l = l'
  case neg => simp (decide := true) only [go_sem, KP, Nat.reduceAdd, Nat.reduceMul, Nat.reduceEqDiff, Nat.add_eq_left, Nat.left_eq_add, Int.reduceAdd, Int.reduceSub, Int.reduceMul, Int.reduceNeg, Int.reduceToNat, Try.f15, h1, h2, h3, false_and, and_false]
  by_cases h4 : g = g'
  case neg => simp (decide := true) only [go_sem, KP, Nat.reduceAdd, Nat.reduceMul, Nat.reduceEqDiff, Nat.add_eq_left, Nat.left_eq_add, Int.reduceAdd, Int.reduceSub, Int.reduceMul, Int.reduceNeg, Int.reduceToNat, Try.f15, h1, h2, h3, h4, false_and, and_false]
  simp (decide := true) only [go_sem, KP, Nat.reduceAdd, Nat.reduceMul, Nat.reduceEqDiff, Nat.add_eq_left, Nat.left_eq_add, Int.reduceAdd, Int.reduceSub, Int.reduceMul, Int.reduceNeg, Int.reduceToNat, Try.f15, h1, h2, h3, h4]
  refine W_call Kok (by simp; omega) (equal_run xs ys _ (sa.ext (Ext.push2 _ _ _)) (sb.ext (Ext.push2 _ _ _)) hk) fun v w hx hv => ?_
  subst hv
  simp (decide := true) only [go_sem, KP, Nat.reduceAdd, Nat.reduceMul, Nat.reduceEqDiff, Nat.add_eq_left, Nat.left_eq_add, Int.reduceAdd, Int.reduceSub, Int.reduceMul, Int.reduceNeg, Int.reduceToNat, true_and]

theorem rsame_run (n r l g n' r' l' g' : ByteArray) (xs ys : List ByteArray) (h : Heap) {a b : Option Addr} {k c m d : Nat} (sa : Sl h 1 a k c (strs xs)) (sb : Sl h 1 b m d (strs ys)) (hk : k ≤ maxLen) :
    Runs K 17 #[hd n r l g a k c, hd n' r' l' g' b m d] h fun v _ => v = .bool (decide (n = n' ∧ r = r' ∧ l = l' ∧ g = g' ∧ xs = ys)) := by
  have lx : xs.length = k := by have := sa.length; simpa [strs] using this
  have ly : ys.length = m := by have := sb.length; simpa [strs] using this
  refine Runs.of Kok (Does.intro rfl (by decide +kernel) Try.func17 rfl ?_)
  by_cases hkm : (k : Int) = (m : Int)
  case neg =>
    have : ¬ xs = ys := by
      rintro rfl
      omega
    simp (decide := true) only [go_sem, KP, Nat.reduceAdd, Nat.reduceMul, Nat.reduceEqDiff, Nat.add_eq_left, Nat.left_eq_add, Int.reduceAdd, Int.reduceSub, Int.reduceMul, Int.reduceNeg, Int.reduceToNat, Try.f17, hkm, this, and_false]
  have hkm' : k = m := by omega
  subst hkm'
  simp (decide := true) only [go_sem, KP, Nat.reduceAdd, Nat.reduceMul, Nat.reduceEqDiff, Nat.add_eq_left, Nat.left_eq_add, Int.reduceAdd, Int.reduceSub, Int.reduceMul, Int.reduceNeg, Int.reduceToNat, Try.f17]
  refine W_loop (α := Nat) (fun i e w => i ≤ k ∧ e.size = 57 ∧ e.get 2 = .pointer (some ⟨h.size, 0, none⟩) ∧ e.get 3 = .pointer (some ⟨h.size + 1, 0, none⟩) ∧ e.get 5 = .int .i64 i ∧ Ext h w ∧ h.size + 2 ≤ w.size ∧
    w.get h.size = .cells [.string n, .string r, .string l, .string g, .slice a k c] 5 ∧ w.get (h.size + 1) = .cells [.string n', .string r', .string l', .string g', .slice b k d] 5 ∧ xs.take i = ys.take i) (fun i => k - i) 0 ?_ ?_
  · simp (decide := true) only [go_sem, KP, Nat.reduceAdd, Nat.reduceMul, Nat.reduceEqDiff, Nat.add_eq_left, Nat.left_eq_add, Int.reduceAdd, Int.reduceSub, Int.reduceMul, Int.reduceNeg, Int.reduceToNat, KP]
    exact ⟨Nat.zero_le _, rfl, Ext.push2 _ _ _⟩
  · rintro i e w ⟨hi, hsz, g2, g3, g5, hx, hw, gb1, gb2, heq⟩ next
    by_cases hik : (i : Int) < (k : Int)
    · have hik' : i < k := by omega
      obtain ⟨x, hxi⟩ : ∃ x, xs[i]? = some x := ⟨_, List.getElem?_eq_getElem (by omega)⟩
      obtain ⟨y, hyi⟩ : ∃ y, ys[i]? = some y := ⟨_, List.getElem?_eq_getElem (by omega)⟩
      obtain ⟨b1, o1, cs1, rfl, hb1, hg1, hc1⟩ := (sa.ext hx).one (i := i) (x := .string x) (by simp [strs, hxi])
      obtain ⟨b2, o2, cs2, rfl, hb2, hg2, hc2⟩ := (sb.ext hx).one (i := i) (x := .string y) (by simp [strs, hyi])
      have i1 : (0 : Int) ≤ (i : Int) := by omega
      have i2 : ((i : Int)).toNat = i := by omega
      have i3 : IntKind.i64.wrap ((i : Int) + 1) = (i : Int) + 1 := wrap_i64 (by simp only [maxLen] at hk; omega) (by simp only [maxLen] at hk; omega)
      by_cases hxy : x = y
      · subst hxy
        simp (decide := true) only [go_sem, KP, Nat.reduceAdd, Nat.reduceMul, Nat.reduceEqDiff, Nat.add_eq_left, Nat.left_eq_add, Int.reduceAdd, Int.reduceSub, Int.reduceMul, Int.reduceNeg, Int.reduceToNat, hsz, g2, g3, g5, gb1, gb2, hik, i1, i2, Nat.mul_one, hg1, hg2, hc1, hc2, i3]
        refine next (i + 1) _ _ ?_ (by omega)
        simp (decide := true) only [go_sem, KP, Nat.reduceAdd, Nat.reduceMul, Nat.reduceEqDiff, Nat.add_eq_left, Nat.left_eq_add, Int.reduceAdd, Int.reduceSub, Int.reduceMul, Int.reduceNeg, Int.reduceToNat, hsz, g2, g3, gb1, gb2]
        refine ⟨by omega, rfl, hx, hw, ?_⟩
        rw [List.take_add_one, List.take_add_one, heq, hxi, hyi]
      · have : ¬ xs = ys := by
          rintro rfl
          rw [hxi] at hyi
          cases hyi
          exact hxy rfl
        simp (decide := true) only [go_sem, KP, Nat.reduceAdd, Nat.reduceMul, Nat.reduceEqDiff, Nat.add_eq_left, Nat.left_eq_add, Int.reduceAdd, Int.reduceSub, Int.reduceMul, Int.reduceNeg, Int.reduceToNat, hsz, g2, g3, g5, gb1, gb2, hik, i1, i2, Nat.mul_one, hg1, hg2, hc1, hc2, hxy, this, and_false]
    · have hxs : xs = ys := by
        rw [List.take_of_length_le (by omega), List.take_of_length_le (by omega)] at heq
        exact heq
      clear next
      by_cases h1 : n = n'
      case neg => simp (decide := true) only [go_sem, KP, Nat.reduceAdd, Nat.reduceMul, Nat.reduceEqDiff, Nat.add_eq_left, Nat.left_eq_add, Int.reduceAdd, Int.reduceSub, Int.reduceMul, Int.reduceNeg, Int.reduceToNat, hsz, g2, g3, g5, gb1, gb2, hik, h1, false_and]
      by_cases h2 : r = r'
      case neg => simp (decide := true) only [go_sem, KP, Nat.reduceAdd, Nat.reduceMul, Nat.reduceEqDiff, Nat.add_eq_left, Nat.left_eq_add, Int.reduceAdd, Int.reduceSub, Int.reduceMul, Int.reduceNeg, Int.reduceToNat, hsz, g2, g3, g5, gb1, gb2, hik, h1, h2, false_and, and_false]
      by_cases h3 : l = l'
      case neg => simp (decide := true) only [go_sem, KP, Nat.reduceAdd, Nat.reduceMul, Nat.reduceEqDiff, Nat.add_eq_left, Nat.left_eq_add, Int.reduceAdd, Int.reduceSub, Int.reduceMul, Int.reduceNeg, Int.reduceToNat, hsz, g2, g3, g5, gb1, gb2, hik, h1, h2, h3, false_and, and_false]
      by_cases h4 : g = g'
      case neg => simp (decide := true) only [go_sem, KP, Nat.reduceAdd, Nat.reduceMul, Nat.reduceEqDiff, Nat.add_eq_left, Nat.left_eq_add, Int.reduceAdd, Int.reduceSub, Int.reduceMul, Int.reduceNeg, Int.reduceToNat, hsz, g2, g3, g5, gb1, gb2, hik, h1, h2, h3, h4, false_and, and_false]
      simp (decide := true) only [go_sem, KP, Nat.reduceAdd, Nat.reduceMul, Nat.reduceEqDiff, Nat.add_eq_left, Nat.left_eq_add, Int.reduceAdd, Int.reduceSub, Int.reduceMul, Int.reduceNeg, Int.reduceToNat, hsz, g2, g3, g5, gb1, gb2, hik, h1, h2, h3, h4, hxs]

theorem sames_run (n r l g n' r' l' g' : ByteArray) (xs ys : List ByteArray) (h : Heap) {a b : Option Addr} {k c m d : Nat} (sa : Sl h 1 a k c (strs xs)) (sb : Sl h 1 b m d (strs ys)) (hk : k ≤ maxLen) (hm : m ≤ maxLen) :
    Runs K 5 #[hd n r l g a k c, hd n' r' l' g' b m d] h fun v _ => v = .bool true := by
  refine Runs.of Kok (Does.intro rfl (by decide +kernel) Try.func5 rfl ?_)
  have e0 : Ext h ((h.push (.cells [.string n, .string r, .string l, .string g, .slice a k c] 5)).push (.cells [.string n', .string r', .string l', .string g', .slice b m d] 5)) := Ext.push2 _ _ _
  generalize hh : ((h.push (.cells [.string n, .string r, .string l, .string g, .slice a k c] 5)).push (.cells [.string n', .string r', .string l', .string g', .slice b m d] 5)) = h2 at e0
  have z1 : h2.get h.size = .cells [.string n, .string r, .string l, .string g, .slice a k c] 5 := by rw [← hh]; simp [Heap.get_push]
  have z2 : h2.get (h.size + 1) = .cells [.string n', .string r', .string l', .string g', .slice b m d] 5 := by rw [← hh]; simp [Heap.get_push]
  have z3 : h2.size = h.size + 2 := by rw [← hh]; simp
  by_cases c1 : (60 : Int) < (k : Int)
  · simp (decide := true) only [go_sem, KP, Nat.reduceAdd, Nat.reduceMul, Nat.reduceEqDiff, Nat.add_eq_left, Nat.left_eq_add, Int.reduceAdd, Int.reduceSub, Int.reduceMul, Int.reduceNeg, Int.reduceToNat, Try.f5, hh, z1, z2, c1]
    refine W_call Kok (by omega) (awake_runs _) fun v w hx hv => ?_
    subst hv
    simp (decide := true) only [go_sem, KP, Nat.reduceAdd, Nat.reduceMul, Nat.reduceEqDiff, Nat.add_eq_left, Nat.left_eq_add, Int.reduceAdd, Int.reduceSub, Int.reduceMul, Int.reduceNeg, Int.reduceToNat, KP]
  by_cases c2 : (60 : Int) < (m : Int)
  · simp (decide := true) only [go_sem, KP, Nat.reduceAdd, Nat.reduceMul, Nat.reduceEqDiff, Nat.add_eq_left, Nat.left_eq_add, Int.reduceAdd, Int.reduceSub, Int.reduceMul, Int.reduceNeg, Int.reduceToNat, Try.f5, hh, z1, z2, c1, c2]
    refine W_call Kok (by omega) (awake_runs _) fun v w hx hv => ?_
    subst hv
    simp (decide := true) only [go_sem, KP, Nat.reduceAdd, Nat.reduceMul, Nat.reduceEqDiff, Nat.add_eq_left, Nat.left_eq_add, Int.reduceAdd, Int.reduceSub, Int.reduceMul, Int.reduceNeg, Int.reduceToNat, KP]
  simp (decide := true) only [go_sem, KP, Nat.reduceAdd, Nat.reduceMul, Nat.reduceEqDiff, Nat.add_eq_left, Nat.left_eq_add, Int.reduceAdd, Int.reduceSub, Int.reduceMul, Int.reduceNeg, Int.reduceToNat, Try.f5, hh, z1, z2, c1, c2]
  refine W_call Kok (by omega) (to_run _ _ _ _ _ _ _ _) fun v w1 hx1 hv => ?_
  subst hv
  have z1 : w1.get h.size = _ := (hx1.2 _ (by omega)).trans z1
  have z2 : w1.get (h.size + 1) = _ := (hx1.2 _ (by omega)).trans z2
  have z3 : h.size + 2 ≤ w1.size := by have := hx1.1; omega
  have e0 := e0.trans hx1
  simp (decide := true) only [go_sem, KP, Nat.reduceAdd, Nat.reduceMul, Nat.reduceEqDiff, Nat.add_eq_left, Nat.left_eq_add, Int.reduceAdd, Int.reduceSub, Int.reduceMul, Int.reduceNeg, Int.reduceToNat, z1, z2]
  refine W_call Kok (by omega) (to_run _ _ _ _ _ _ _ _) fun v w2 hx2 hv => ?_
  subst hv
  have z1 : w2.get h.size = _ := (hx2.2 _ (by omega)).trans z1
  have z2 : w2.get (h.size + 1) = _ := (hx2.2 _ (by omega)).trans z2
  have z3 : h.size + 2 ≤ w2.size := by have := hx2.1; omega
  have e0 := e0.trans hx2
  simp (decide := true) only [go_sem, KP, Nat.reduceAdd, Nat.reduceMul, Nat.reduceEqDiff, Nat.add_eq_left, Nat.left_eq_add, Int.reduceAdd, Int.reduceSub, Int.reduceMul, Int.reduceNeg, Int.reduceToNat, z1, z2]
  refine W_call Kok (by omega) (same_run _ _ _ _ _ _ _ _ xs ys _ (sa.ext e0) (sb.ext e0) hk) fun v w3 hx3 hv => ?_
  subst hv
  have z1 : w3.get h.size = _ := (hx3.2 _ (by omega)).trans z1
  have z2 : w3.get (h.size + 1) = _ := (hx3.2 _ (by omega)).trans z2
  have z3 : h.size + 2 ≤ w3.size := by have := hx3.1; omega
  have e0 := e0.trans hx3
  simp (decide := true) only [go_sem, KP, Nat.reduceAdd, Nat.reduceMul, Nat.reduceEqDiff, Nat.add_eq_left, Nat.left_eq_add, Int.reduceAdd, Int.reduceSub, Int.reduceMul, Int.reduceNeg, Int.reduceToNat, z1, z2]
  refine W_call Kok (by omega) (rsame_run _ _ _ _ _ _ _ _ xs ys _ (sa.ext e0) (sb.ext e0) hk) fun v w4 hx4 hv => ?_
  subst hv
  have z1 : w4.get h.size = _ := (hx4.2 _ (by omega)).trans z1
  have z2 : w4.get (h.size + 1) = _ := (hx4.2 _ (by omega)).trans z2
  have z3 : h.size + 2 ≤ w4.size := by have := hx4.1; omega
  have e0 := e0.trans hx4
  simp (decide := true) only [go_sem, KP, Nat.reduceAdd, Nat.reduceMul, Nat.reduceEqDiff, Nat.add_eq_left, Nat.left_eq_add, Int.reduceAdd, Int.reduceSub, Int.reduceMul, Int.reduceNeg, Int.reduceToNat, z1, z2]
  refine W_call Kok (by omega) (to_run _ _ _ _ _ _ _ _) fun v w5 hx5 hv => ?_
  subst hv
  have z1 : w5.get h.size = _ := (hx5.2 _ (by omega)).trans z1
  have z2 : w5.get (h.size + 1) = _ := (hx5.2 _ (by omega)).trans z2
  have z3 : h.size + 2 ≤ w5.size := by have := hx5.1; omega
  have e0 := e0.trans hx5
  simp (decide := true) only [go_sem, KP, Nat.reduceAdd, Nat.reduceMul, Nat.reduceEqDiff, Nat.add_eq_left, Nat.left_eq_add, Int.reduceAdd, Int.reduceSub, Int.reduceMul, Int.reduceNeg, Int.reduceToNat, z1, z2]
  refine W_call Kok (by omega) (to_run _ _ _ _ _ _ _ _) fun v w6 hx6 hv => ?_
  subst hv
  have z1 : w6.get h.size = _ := (hx6.2 _ (by omega)).trans z1
  have z2 : w6.get (h.size + 1) = _ := (hx6.2 _ (by omega)).trans z2
  have z3 : h.size + 2 ≤ w6.size := by have := hx6.1; omega
  have e0 := e0.trans hx6
  simp (decide := true) only [go_sem, KP, Nat.reduceAdd, Nat.reduceMul, Nat.reduceEqDiff, Nat.add_eq_left, Nat.left_eq_add, Int.reduceAdd, Int.reduceSub, Int.reduceMul, Int.reduceNeg, Int.reduceToNat, z1, z2]
  refine W_call Kok (by omega) (same_run _ _ _ _ _ _ _ _ xs xs _ (sa.ext e0) (sa.ext e0) hk) fun v w7 hx7 hv => ?_
  subst hv
  have z3 : h.size + 2 ≤ w7.size := by have := hx7.1; omega
  simp (decide := true) only [go_sem, KP, Nat.reduceAdd, Nat.reduceMul, Nat.reduceEqDiff, Nat.add_eq_left, Nat.left_eq_add, Int.reduceAdd, Int.reduceSub, Int.reduceMul, Int.reduceNeg, Int.reduceToNat, and_self]
  refine W_call Kok (by omega) (awake_runs _) fun v w hx hv => ?_
  subst hv
  simp (decide := true) only [go_sem, KP, Nat.reduceAdd, Nat.reduceMul, Nat.reduceEqDiff, Nat.add_eq_left, Nat.left_eq_add, Int.reduceAdd, Int.reduceSub, Int.reduceMul, Int.reduceNeg, Int.reduceToNat, KP]
end Go.Proofs.Ytjlaenglmdpboaa.H23
