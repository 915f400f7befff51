/- Proved here: parts of the way to SDefnSames (SM6 SM7 SM5); no condition beyond those that each theorem names. -/
import Derived.Test.YtachkofbmodnnaaGreatDoorQ21
import Derived.Test.YtachkofbmodnnaaGreatDoorQ5
set_option linter.unusedSimpArgs false
set_option linter.unusedVariables false
namespace Go.Proofs.YtachkofbmodnnaaGreatDoor.M6
open Go Go.Im Go.Im.Limbs Go.Im.Lexing Go.Im.Heads Go.Im.Editing Go.Im.Defn Go.Proofs Go.RowKit Hd N19 H2 H3 H4 H5 H7 D2 D3 D4
set_option maxRecDepth 100000
theorem take_eq {α : Type} {xs ys : List α} {i : Nat} {x y : α} (h : xs.take i = ys.take i) (hx : xs[i]? = some x) (hy : ys[i]? = some y) (e : x = y) : xs.take (i + 1) = ys.take (i + 1) := by
 rw [List.take_add_one, List.take_add_one, h, hx, hy, e]
theorem ne_at {α : Type} {xs ys : List α} {i : Nat} {x y : α} (hx : xs[i]? = some x) (hy : ys[i]? = some y) (e : ¬ x = y) : ¬ xs = ys := fun h => e (by rw [h, hy] at hx; exact (Option.some.inj hx).symm)
theorem all_eq {α : Type} {xs ys : List α} {i : Nat} (h : xs.take i = ys.take i) (hx : xs.length ≤ i) (hy : ys.length ≤ i) : xs = ys := by rwa [List.take_of_length_le hx, List.take_of_length_le hy] at h
theorem equal_run (xs ys : List ByteArray) (h : Heap) {a a2 : Option Addr} {c c2 : Nat} (s : Sl h 1 a xs.length c (sv xs)) (t : Sl h 1 a2 ys.length c2 (sv ys)) (hm : xs.length ≤ 1000000) :
  Runs K f_slices_Equal_string_string #[.slice a xs.length c, .slice a2 ys.length c2] h fun r w => h = w ∧ r = .bool (decide (xs = ys)) := by
 refine Runs.of Kok (Does.intro rfl (by decide +kernel) F_slices_Equal_string_string rfl ?_)
 by_cases hl : xs.length = ys.length
 ·have hl' : ((xs.length : Nat) : Int) = ((ys.length : Nat) : Int) := by omega
  simp +decide only [go_sem, W_region, Wx_some, hl']
  refine W_loop (α := Nat) (fun i e w => i ≤ xs.length ∧ e.size = 26 ∧ h = w ∧ e.get 0 = .slice a xs.length c ∧ e.get 1 = .slice a2 ys.length c2 ∧ e.get 12 = .int .i64 ((ys.length : Nat) : Int) ∧ e.get 13 = .int .i64 (i : Int) ∧ xs.take i = ys.take i) (fun i => xs.length - i) 0 ?_ ?_
  ·exact ⟨Nat.zero_le _, by simp +decide only [go_sem], rfl, by simp +decide only [go_sem], by simp +decide only [go_sem], by simp +decide only [go_sem, hl'], by simp +decide only [go_sem]; rfl, rfl⟩
  rintro i e w ⟨hi, hsz, hw, e0, e1, e12, e13, ht⟩ next
  subst hw
  by_cases hil : (i : Int) < ((ys.length : Nat) : Int)
  ·obtain ⟨b, o, cs, rfl, q2, q3, q4⟩ := text_at s (i := i) (by omega)
   obtain ⟨b2, o2, cs2, rfl, p2, p3, p4⟩ := text_at t (i := i) (by omega)
   have hx : xs[i]? = some xs[i] := List.getElem?_eq_getElem (by omega)
   have hy : ys[i]? = some ys[i] := List.getElem?_eq_getElem (by omega)
   have c0 : (0 : Int) ≤ (i : Int) := by omega
   have c1 : (i : Int) < ((xs.length : Nat) : Int) := by omega
   have i1 : IntKind.i64.wrap ((i : Int) + 1) = ((i + 1 : Nat) : Int) := by rw [wrap_i64 (by omega) (by omega)]; omega
   generalize xs[i] = x at q4 hx
   generalize ys[i] = y at p4 hy
   by_cases hs : x = y
   ·rw [hs] at q4
    simp +decide only [go_sem, W_region, Wx_some, hsz, e0, e1, e12, e13, hil, c0, c1, Int.toNat_natCast, q3, q4, p3, p4, i1]
    exact next (i + 1) _ _ ⟨by omega, by simp +decide only [go_sem, hsz], rfl, by simp +decide only [go_sem, hsz, e0], by simp +decide only [go_sem, hsz, e1], by simp +decide only [go_sem, hsz, e12], by simp +decide only [go_sem, hsz], take_eq ht hx hy hs⟩ (by omega)
   ·simp +decide only [go_sem, W_region, Wx_some, hsz, e0, e1, e12, e13, hil, c0, c1, Int.toNat_natCast, q3, q4, p3, p4, hs]
    simp [ne_at hx hy hs]
  ·simp +decide only [go_sem, W_region, Wx_some, hsz, e0, e1, e12, e13, hil]
   simp [all_eq ht (by omega) (by omega)]
 ·have hl' : ¬ ((xs.length : Nat) : Int) = ((ys.length : Nat) : Int) := by omega
  simp +decide only [go_sem, W_region, Wx_some, hl']
  have : ¬ xs = ys := fun hh => hl (by rw [hh])
  simp [this]
theorem texts2_run (xs ys : List ByteArray) (h : Heap) {a a2 : Option Addr} {c c2 : Nat} (s : Sl h 1 a xs.length c (sv xs)) (t : Sl h 1 a2 ys.length c2 (sv ys)) (hm : xs.length ≤ 1000000) :
  Runs K f_ref05_Texts #[.slice a xs.length c, .slice a2 ys.length c2] h fun r w => h = w ∧ r = .bool (decide (xs = ys)) := by
 refine Runs.of Kok (Does.intro rfl (by decide +kernel) F_ref05_Texts rfl ?_)
 by_cases hl : xs.length = ys.length
 ·have hl' : ((xs.length : Nat) : Int) = ((ys.length : Nat) : Int) := by omega
  simp +decide only [go_sem, W_region, Wx_some, hl']
  refine W_loop (α := Nat) (fun i e w => i ≤ xs.length ∧ e.size = 26 ∧ h = w ∧ e.get 0 = .slice a xs.length c ∧ e.get 1 = .slice a2 ys.length c2 ∧ e.get 5 = .int .i64 (i : Int) ∧ xs.take i = ys.take i) (fun i => xs.length - i) 0 ?_ ?_
  ·exact ⟨Nat.zero_le _, by simp +decide only [go_sem], rfl, by simp +decide only [go_sem], by simp +decide only [go_sem], by simp +decide only [go_sem]; rfl, rfl⟩
  rintro i e w ⟨hi, hsz, hw, e0, e1, e5, ht⟩ next
  subst hw
  by_cases hil : (i : Int) < ((xs.length : Nat) : Int)
  ·obtain ⟨b, o, cs, rfl, q2, q3, q4⟩ := text_at s (i := i) (by omega)
   obtain ⟨b2, o2, cs2, rfl, p2, p3, p4⟩ := text_at t (i := i) (by omega)
   have hx : xs[i]? = some xs[i] := List.getElem?_eq_getElem (by omega)
   have hy : ys[i]? = some ys[i] := List.getElem?_eq_getElem (by omega)
   have c0 : (0 : Int) ≤ (i : Int) := by omega
   have c1 : (i : Int) < ((ys.length : Nat) : Int) := by omega
   have i1 : IntKind.i64.wrap ((i : Int) + 1) = ((i + 1 : Nat) : Int) := by rw [wrap_i64 (by omega) (by omega)]; omega
   generalize xs[i] = x at q4 hx
   generalize ys[i] = y at p4 hy
   by_cases hs : x = y
   ·rw [hs] at q4
    simp +decide only [go_sem, W_region, Wx_some, hsz, e0, e1, e5, hil, c0, c1, Int.toNat_natCast, q3, q4, p3, p4, i1]
    exact next (i + 1) _ _ ⟨by omega, by simp +decide only [go_sem, hsz], rfl, by simp +decide only [go_sem, hsz, e0], by simp +decide only [go_sem, hsz, e1], by simp +decide only [go_sem, hsz], take_eq ht hx hy hs⟩ (by omega)
   ·simp +decide only [go_sem, W_region, Wx_some, hsz, e0, e1, e5, hil, c0, c1, Int.toNat_natCast, q3, q4, p3, p4, hs]
    simp [ne_at hx hy hs]
  ·simp +decide only [go_sem, W_region, Wx_some, hsz, e0, e1, e5, hil]
   simp [all_eq ht (by omega) (by omega)]
 ·have hl' : ¬ ((xs.length : Nat) : Int) = ((ys.length : Nat) : Int) := by omega
  simp +decide only [go_sem, W_region, Wx_some, hl']
  have : ¬ xs = ys := fun hh => hl (by rw [hh])
  simp [this]
def hEq (x y : HdT) : Bool := decide (x.nm = y.nm) && (decide (x.re = y.re) && (decide (x.le = y.le) && (decide (x.ri = y.ri) && decide (x.ls = y.ls))))
theorem hEq_self (x : HdT) : hEq x x = true := by simp [hEq]
theorem hsame_run (x y : HdT) (h : Heap) {a b : Option Addr} {c d : Nat} (sa : Sl h 1 a x.ls.length c (sv x.ls)) (sb : Sl h 1 b y.ls.length d (sv y.ls)) (hk : x.ls.length ≤ 1000000) :
  Runs K f_head_Same #[.agg (hl x (.slice a x.ls.length c)).toArray, .agg (hl y (.slice b y.ls.length d)).toArray] h fun v _ => v = .bool (hEq x y) := by
 refine Runs.of Kok (Does.intro rfl (by decide +kernel) F_head_Same rfl ?_)
 obtain ⟨w1, e1, x1, hs1, z1⟩ := lay1 h (.cells [.string x.nm, .string x.re, .string x.le, .string x.ri, .slice a x.ls.length c] 5)
 obtain ⟨w2, e2, x2, hs2, z2⟩ := lay1 w1 (.cells [.string y.nm, .string y.re, .string y.le, .string y.ri, .slice b y.ls.length d] 5)
 have z1' : w2.get h.size = _ := (x2.2 _ (by omega)).trans z1
 unfold hEq
 by_cases h1 : x.nm = y.nm
 case neg => simp +decide only [go_sem, W_region, Wx_some, hl, e1, e2, z1', z2, h1]
 by_cases h2 : x.re = y.re
 case neg => simp +decide only [go_sem, W_region, Wx_some, hl, e1, e2, z1', z2, eq_true h1, h2]
 by_cases h3 : x.le = y.le
 case neg => simp +decide only [go_sem, W_region, Wx_some, hl, e1, e2, z1', z2, eq_true h1, eq_true h2, h3]
 by_cases h4 : x.ri = y.ri
 case neg => simp +decide only [go_sem, W_region, Wx_some, hl, e1, e2, z1', z2, eq_true h1, eq_true h2, eq_true h3, h4]
 simp +decide only [go_sem, W_region, Wx_some, hl, e1, e2, z1', z2, eq_true h1, eq_true h2, eq_true h3, eq_true h4]
 refine W_call Kok (x1.trans x2).1 (equal_run x.ls y.ls w2 (sa.ext (x1.trans x2)) (sb.ext (x1.trans x2)) hk) fun v w hx hv => ?_
 obtain ⟨_, rfl⟩ := hv
 simp +decide only [go_sem, W_region, Wx_some]
theorem rsame2_run (x y : HdT) (h : Heap) {a a2 : Option Addr} {c c2 : Nat} (s : Sl h 1 a x.ls.length c (sv x.ls)) (t : Sl h 1 a2 y.ls.length c2 (sv y.ls)) (hm : x.ls.length ≤ 1000000) :
  Runs K f_ref23_Same #[.agg (hl x (.slice a x.ls.length c)).toArray, .agg (hl y (.slice a2 y.ls.length c2)).toArray] h fun r w => r = .bool (hEq x y) := by
 refine Runs.of Kok (Does.intro rfl (by decide +kernel) F_ref23_Same rfl ?_)
 obtain ⟨w0, e0, x0, hs0, z0, z1⟩ := lay2 h (.cells [.string x.nm, .string x.re, .string x.le, .string x.ri, .slice a x.ls.length c] 5) (.cells [.string y.nm, .string y.re, .string y.le, .string y.ri, .slice a2 y.ls.length c2] 5)
 by_cases hln : x.ls.length = y.ls.length
 case neg =>
  have hl' : ¬ ((x.ls.length : Nat) : Int) = ((y.ls.length : Nat) : Int) := by omega
  simp +decide only [go_sem, W_region, Wx_some, hl, e0, z0, z1, hl']
  have : ¬ x.ls = y.ls := fun hh => hln (by rw [hh])
  simp [hEq, this]
 have hl' : ((x.ls.length : Nat) : Int) = ((y.ls.length : Nat) : Int) := by omega
 simp +decide only [go_sem, W_region, Wx_some, hl, e0, z0, z1, hl']
 refine W_loop (α := Nat) (fun i e w => i ≤ x.ls.length ∧ e.size = 57 ∧ w0 = w ∧ e.get 2 = .pointer (some ⟨h.size, 0, none⟩) ∧ e.get 3 = .pointer (some ⟨h.size + 1, 0, none⟩) ∧ e.get 5 = .int .i64 (i : Int) ∧ x.ls.take i = y.ls.take i) (fun i => x.ls.length - i) 0 ?_ ?_
 ·exact ⟨Nat.zero_le _, by simp +decide only [go_sem], rfl, by simp +decide only [go_sem], by simp +decide only [go_sem], by simp +decide only [go_sem]; rfl, rfl⟩
 rintro i e w ⟨hi, hsz, hw, g0, g1, g5, ht⟩ next
 subst hw
 by_cases hc : (i : Int) < ((x.ls.length : Nat) : Int)
 ·obtain ⟨b, o, cs, rfl, p2, p3, p4⟩ := text_at (s.ext x0) (i := i) (by omega)
  obtain ⟨b2, o2, cs2, rfl, _, q3, q4⟩ := text_at (t.ext x0) (i := i) (by omega)
  have hx : x.ls[i]? = some x.ls[i] := List.getElem?_eq_getElem (by omega)
  have hy : y.ls[i]? = some y.ls[i] := List.getElem?_eq_getElem (by omega)
  have c0 : (0 : Int) ≤ (i : Int) := by omega
  have c1 : (i : Int) < ((y.ls.length : Nat) : Int) := by omega
  have i1 : IntKind.i64.wrap ((i : Int) + 1) = ((i + 1 : Nat) : Int) := by rw [wrap_i64 (by omega) (by omega)]; omega
  generalize x.ls[i] = xi at p4 hx
  generalize y.ls[i] = yi at q4 hy
  by_cases hs : xi = yi
  ·rw [hs] at p4
   simp +decide only [go_sem, W_region, Wx_some, hsz, g0, g1, g5, z0, z1, c0, c1, hc, Int.toNat_natCast, p3, p4, q3, q4, Nat.mul_one, i1]
   exact next (i + 1) _ _ ⟨by omega, by simp +decide only [go_sem, hsz], rfl, by simp +decide only [go_sem, hsz, g0], by simp +decide only [go_sem, hsz, g1], by simp +decide only [go_sem, hsz], take_eq ht hx hy hs⟩ (by omega)
  ·simp +decide only [go_sem, W_region, Wx_some, hsz, g0, g1, g5, z0, z1, c0, c1, hc, Int.toNat_natCast, p3, p4, q3, q4, Nat.mul_one, hs]
   simp [hEq, ne_at hx hy hs]
 ·have he : x.ls = y.ls := all_eq ht (by omega) (by omega)
  simp only [hEq, he, decide_true, Bool.and_true]
  by_cases h1 : x.nm = y.nm
  case neg => simp +decide only [go_sem, W_region, Wx_some, hsz, g0, g1, g5, z0, z1, hc, h1]
  by_cases h2 : x.re = y.re
  case neg => simp +decide only [go_sem, W_region, Wx_some, hsz, g0, g1, g5, z0, z1, hc, eq_true h1, h2]
  by_cases h3 : x.le = y.le
  case neg => simp +decide only [go_sem, W_region, Wx_some, hsz, g0, g1, g5, z0, z1, hc, eq_true h1, eq_true h2, h3]
  simp +decide only [go_sem, W_region, Wx_some, hsz, g0, g1, g5, z0, z1, hc, eq_true h1, eq_true h2, eq_true h3]
theorem lbv_at : ∀ {lb : List (ByteArray × Nat)} {i : Nat} {p : ByteArray × Nat}, lb[i]? = some p → (lbv lb)[i * 2]? = some (.string p.1) ∧ (lbv lb)[i * 2 + 1]? = some (.int .i64 (p.2 : Int))
 | [], i, p, h => by simp at h
 | q :: rows, 0, p, h => by
   cases h
   exact ⟨rfl, rfl⟩
 | q :: rows, i + 1, p, h => by
   have e : lbv (q :: rows) = .string q.1 :: .int .i64 (q.2 : Int) :: lbv rows := rfl
   obtain ⟨h1, h2⟩ := lbv_at (lb := rows) (i := i) (by simpa using h)
   rw [e, show (i + 1) * 2 = i * 2 + 2 by omega]
   exact ⟨h1, by rw [show i * 2 + 2 + 1 = i * 2 + 1 + 2 by omega]; exact h2⟩
theorem sl_label {h : Heap} {a : Option Addr} {c i : Nat} {lb : List (ByteArray × Nat)} (s : Sl h 2 a lb.length c (lbv lb)) {p : ByteArray × Nat} (hp : lb[i]? = some p) :
  ∃ b o cs, a = some ⟨b, o, none⟩ ∧ b < h.size ∧ (h.get b).read = .cells cs 2 ∧ (cs.drop (o + i * 2)).take 2 = [.string p.1, .int .i64 (p.2 : Int)] ∧ o + i * 2 + 2 ≤ cs.length := by
 have hi : i < lb.length := (List.getElem?_eq_some_iff.1 hp).1
 obtain ⟨b, o, cs, h1, h2, h3, h4, h5⟩ := s.at hi
 obtain ⟨g1, g2⟩ := lbv_at hp
 have get : ∀ j, j < lb.length * 2 → cs[o + j]? = (lbv lb)[j]? := fun j hj => by rw [h5, List.getElem?_take, if_pos hj, List.getElem?_drop]
 have c1 := (get (i * 2) (by omega)).trans g1
 have c2 := (get (i * 2 + 1) (by omega)).trans g2
 have hle : o + i * 2 + 2 ≤ cs.length := by omega
 refine ⟨b, o, cs, h1, h2, h3, ?_, hle⟩
 obtain ⟨k1, e1⟩ := List.getElem?_eq_some_iff.1 c1
 obtain ⟨k2, e2⟩ := List.getElem?_eq_some_iff.1 c2
 rw [List.drop_eq_getElem_cons k1, e1]
 have k2' : o + i * 2 + 1 < cs.length := k2
 rw [List.drop_eq_getElem_cons k2']
 have e2' : cs[o + i * 2 + 1] = .int .i64 (p.2 : Int) := e2
 rw [e2']
 rfl
theorem lay84 : eqlay Tryz.prog 84 = some [(.string, 0), (.int .i64, 1)] := by kernel_rfl
theorem ne84 {x y : Array Value} : ibinop Tryz.prog .neq 84 (.agg x) (.agg y) = eqst (some [(.string, 0), (.int .i64, 1)]) .neq x y := ibinop_agg lay84 fun _ _ => rfl
theorem lay91 : eqlay Tryz.prog 91 = some [(.string, 0), (.int .i64, 1)] := by kernel_rfl
theorem ne91 {x y : Array Value} : ibinop Tryz.prog .neq 91 (.agg x) (.agg y) = eqst (some [(.string, 0), (.int .i64, 1)]) .neq x y := ibinop_agg lay91 fun _ _ => rfl
theorem lequal_run (xs ys : List (ByteArray × Nat)) (h : Heap) {a a2 : Option Addr} {c c2 : Nat} (s : Sl h 2 a xs.length c (lbv xs)) (t : Sl h 2 a2 ys.length c2 (lbv ys)) (hm : xs.length ≤ 1000000) :
  Runs K f_slices_Equal_defn_Label_defn_Label #[.slice a xs.length c, .slice a2 ys.length c2] h fun r w => h = w ∧ r = .bool (decide (xs = ys)) := by
 refine Runs.of Kok (Does.intro rfl (by decide +kernel) F_slices_Equal_defn_Label_defn_Label rfl ?_)
 by_cases hl : xs.length = ys.length
 ·have hl' : ((xs.length : Nat) : Int) = ((ys.length : Nat) : Int) := by omega
  simp +decide only [go_sem, W_region, Wx_some, hl']
  refine W_loop (α := Nat) (fun i e w => i ≤ xs.length ∧ e.size = 26 ∧ h = w ∧ e.get 0 = .slice a xs.length c ∧ e.get 1 = .slice a2 ys.length c2 ∧ e.get 12 = .int .i64 ((ys.length : Nat) : Int) ∧ e.get 13 = .int .i64 (i : Int) ∧ xs.take i = ys.take i) (fun i => xs.length - i) 0 ?_ ?_
  ·exact ⟨Nat.zero_le _, by simp +decide only [go_sem], rfl, by simp +decide only [go_sem], by simp +decide only [go_sem], by simp +decide only [go_sem, hl'], by simp +decide only [go_sem]; rfl, rfl⟩
  rintro i e w ⟨hi, hsz, hw, e0, e1, e12, e13, ht⟩ next
  subst hw
  by_cases hil : (i : Int) < ((ys.length : Nat) : Int)
  ·obtain ⟨⟨x1, x2⟩, hx⟩ : ∃ p, xs[i]? = some p := ⟨_, List.getElem?_eq_getElem (by omega)⟩
   obtain ⟨⟨y1, y2⟩, hy⟩ : ∃ p, ys[i]? = some p := ⟨_, List.getElem?_eq_getElem (by omega)⟩
   obtain ⟨b, o, cs, rfl, q2, q3, q4, q5⟩ := sl_label s hx
   obtain ⟨b2, o2, cs2, rfl, p2, p3, p4, p5⟩ := sl_label t hy
   have c0 : (0 : Int) ≤ (i : Int) := by omega
   have c1 : (i : Int) < ((xs.length : Nat) : Int) := by omega
   have i1 : IntKind.i64.wrap ((i : Int) + 1) = ((i + 1 : Nat) : Int) := by rw [wrap_i64 (by omega) (by omega)]; omega
   simp only at q4 p4
   by_cases hs : x1 = y1
   ·by_cases hn : x2 = y2
    ·simp +decide only [go_sem, W_region, Wx_some, hsz, e0, e1, e12, e13, hil, c0, c1, Int.toNat_natCast, q3, q4, q5, p3, p4, p5, ne84, eq_true hs, hn, i1]
     exact next (i + 1) _ _ ⟨by omega, by simp +decide only [go_sem, hsz], rfl, by simp +decide only [go_sem, hsz, e0], by simp +decide only [go_sem, hsz, e1], by simp +decide only [go_sem, hsz, e12], by simp +decide only [go_sem, hsz], take_eq ht hx hy (by rw [hs, hn])⟩ (by omega)
    ·have hn' : ¬ (x2 : Int) = (y2 : Int) := by omega
     simp +decide only [go_sem, W_region, Wx_some, hsz, e0, e1, e12, e13, hil, c0, c1, Int.toNat_natCast, q3, q4, q5, p3, p4, p5, ne84, eq_true hs, hn']
     simp [ne_at hx hy (fun hh => hn (Prod.ext_iff.1 hh).2)]
   ·simp +decide only [go_sem, W_region, Wx_some, hsz, e0, e1, e12, e13, hil, c0, c1, Int.toNat_natCast, q3, q4, q5, p3, p4, p5, ne84, hs]
    simp [ne_at hx hy (fun hh => hs (Prod.ext_iff.1 hh).1)]
  ·simp +decide only [go_sem, W_region, Wx_some, hsz, e0, e1, e12, e13, hil]
   simp [all_eq ht (by omega) (by omega)]
 ·have hl' : ¬ ((xs.length : Nat) : Int) = ((ys.length : Nat) : Int) := by omega
  simp +decide only [go_sem, W_region, Wx_some, hl']
  have : ¬ xs = ys := fun hh => hl (by rw [hh])
  simp [this]
theorem lsame_run (xs ys : List (ByteArray × Nat)) (h : Heap) {a a2 : Option Addr} {c c2 : Nat} (s : Sl h 2 a xs.length c (lbv xs)) (t : Sl h 2 a2 ys.length c2 (lbv ys)) (hm : xs.length ≤ 1000000) :
  Runs K f_ref24_LabelsSame #[.slice a xs.length c, .slice a2 ys.length c2] h fun r w => h = w ∧ r = .bool (decide (xs = ys)) := by
 refine Runs.of Kok (Does.intro rfl (by decide +kernel) F_ref24_LabelsSame rfl ?_)
 by_cases hl : xs.length = ys.length
 ·have hl' : ((xs.length : Nat) : Int) = ((ys.length : Nat) : Int) := by omega
  simp +decide only [go_sem, W_region, Wx_some, hl']
  refine W_loop (α := Nat) (fun i e w => i ≤ xs.length ∧ e.size = 26 ∧ h = w ∧ e.get 0 = .slice a xs.length c ∧ e.get 1 = .slice a2 ys.length c2 ∧ e.get 5 = .int .i64 (i : Int) ∧ xs.take i = ys.take i) (fun i => xs.length - i) 0 ?_ ?_
  ·exact ⟨Nat.zero_le _, by simp +decide only [go_sem], rfl, by simp +decide only [go_sem], by simp +decide only [go_sem], by simp +decide only [go_sem]; rfl, rfl⟩
  rintro i e w ⟨hi, hsz, hw, e0, e1, e5, ht⟩ next
  subst hw
  by_cases hil : (i : Int) < ((xs.length : Nat) : Int)
  ·obtain ⟨⟨x1, x2⟩, hx⟩ : ∃ p, xs[i]? = some p := ⟨_, List.getElem?_eq_getElem (by omega)⟩
   obtain ⟨⟨y1, y2⟩, hy⟩ : ∃ p, ys[i]? = some p := ⟨_, List.getElem?_eq_getElem (by omega)⟩
   obtain ⟨b, o, cs, rfl, q2, q3, q4, q5⟩ := sl_label s hx
   obtain ⟨b2, o2, cs2, rfl, p2, p3, p4, p5⟩ := sl_label t hy
   have c0 : (0 : Int) ≤ (i : Int) := by omega
   have c1 : (i : Int) < ((ys.length : Nat) : Int) := by omega
   have i1 : IntKind.i64.wrap ((i : Int) + 1) = ((i + 1 : Nat) : Int) := by rw [wrap_i64 (by omega) (by omega)]; omega
   simp only at q4 p4
   by_cases hs : x1 = y1
   ·by_cases hn : x2 = y2
    ·simp +decide only [go_sem, W_region, Wx_some, hsz, e0, e1, e5, hil, c0, c1, Int.toNat_natCast, q3, q4, q5, p3, p4, p5, ne91, eq_true hs, hn, i1]
     exact next (i + 1) _ _ ⟨by omega, by simp +decide only [go_sem, hsz], rfl, by simp +decide only [go_sem, hsz, e0], by simp +decide only [go_sem, hsz, e1], by simp +decide only [go_sem, hsz], take_eq ht hx hy (by rw [hs, hn])⟩ (by omega)
    ·have hn' : ¬ (x2 : Int) = (y2 : Int) := by omega
     simp +decide only [go_sem, W_region, Wx_some, hsz, e0, e1, e5, hil, c0, c1, Int.toNat_natCast, q3, q4, q5, p3, p4, p5, ne91, eq_true hs, hn']
     simp [ne_at hx hy (fun hh => hn (Prod.ext_iff.1 hh).2)]
   ·simp +decide only [go_sem, W_region, Wx_some, hsz, e0, e1, e5, hil, c0, c1, Int.toNat_natCast, q3, q4, q5, p3, p4, p5, ne91, hs]
    simp [ne_at hx hy (fun hh => hs (Prod.ext_iff.1 hh).1)]
  ·simp +decide only [go_sem, W_region, Wx_some, hsz, e0, e1, e5, hil]
   simp [all_eq ht (by omega) (by omega)]
 ·have hl' : ¬ ((xs.length : Nat) : Int) = ((ys.length : Nat) : Int) := by omega
  simp +decide only [go_sem, W_region, Wx_some, hl']
  have : ¬ xs = ys := fun hh => hl (by rw [hh])
  simp [this]
def dSame (d e : DefT) : Bool := decide (rowsT d = rowsT e)
def dSteady (d e : DefT) : Bool := hEq d.hd e.hd && decide (d.labels = e.labels)
theorem dSteady_self (d : DefT) : dSteady d d = true := by simp [dSteady, hEq_self]
theorem dsame_run (d e : DefT) (h : Heap) {v u : Value} (V : DV h v d) (U : DV h u e) (G : Heads.Good d.hd) (G2 : Heads.Good e.hd) (hm : d.lines.length ≤ 100000) (hm2 : e.lines.length ≤ 100000) : Runs K f_defn_Same #[v, u] h fun r w => r = .bool (dSame d e) := by
 have V0 := V
 have U0 := U
 obtain ⟨a, c, a1, c1, a2, c2, rfl, s1, s2, s3⟩ := V0
 obtain ⟨b, k, b1, k1, b2, k2, rfl, t1, t2, t3⟩ := U0
 refine Runs.of Kok (Does.intro rfl (by decide +kernel) F_defn_Same rfl ?_)
 obtain ⟨w0, e0, x0, hs0, z0, y0⟩ := lay2 h (.cells (dl d.hd (.slice a d.hd.ls.length c) (.slice a1 d.lines.length c1) (.slice a2 d.labels.length c2)) 7) (.cells (dl e.hd (.slice b e.hd.ls.length k) (.slice b1 e.lines.length k1) (.slice b2 e.labels.length k2)) 7)
 have dr1 := drows_run d w0 (V.ext x0) G hm
 have dr2 := fun (w : Heap) (k : Ext w0 w) => drows_run e w (U.ext (x0.trans k)) G2 hm2
 simp only [dl] at e0 z0 y0 dr1 dr2
 simp +decide only [go_sem, W_region, Wx_some, dl, e0, z0]
 refine W_call Kok x0.1 dr1 fun r w1 x1 hr => ?_
 obtain ⟨ra, rc, rfl, s⟩ := hr
 have y1 : w1.get (h.size + 1) = _ := (x1.2 _ (by omega)).trans y0
 simp +decide only [go_sem, W_region, Wx_some, y1]
 refine W_call Kok (x0.trans x1).1 (dr2 w1 x1) fun r w2 x2 hr => ?_
 obtain ⟨rb, rd, rfl, t⟩ := hr
 simp +decide only [go_sem, W_region, Wx_some]
 refine W_call Kok (x0.trans (x1.trans x2)).1 (equal_run (rowsT d) (rowsT e) w2 (s.ext x2) t (by rw [rows_len]; omega)) fun r w3 x3 hr => ?_
 obtain ⟨_, rfl⟩ := hr
 simp +decide only [go_sem, W_region, Wx_some]
 rfl
theorem rdsame_run (d e : DefT) (h : Heap) {v u : Value} (V : DV h v d) (U : DV h u e) (G : Heads.Good d.hd) (G2 : Heads.Good e.hd) (hm : d.lines.length ≤ 100000) (hm2 : e.lines.length ≤ 100000) : Runs K f_ref24_Same #[v, u] h fun r w => r = .bool (dSame d e) := by
 have V0 := V
 have U0 := U
 obtain ⟨a, c, a1, c1, a2, c2, rfl, s1, s2, s3⟩ := V0
 obtain ⟨b, k, b1, k1, b2, k2, rfl, t1, t2, t3⟩ := U0
 refine Runs.of Kok (Does.intro rfl (by decide +kernel) F_ref24_Same rfl ?_)
 obtain ⟨w0, e0, x0, hs0, z0, y0⟩ := lay2 h (.cells (dl d.hd (.slice a d.hd.ls.length c) (.slice a1 d.lines.length c1) (.slice a2 d.labels.length c2)) 7) (.cells (dl e.hd (.slice b e.hd.ls.length k) (.slice b1 e.lines.length k1) (.slice b2 e.labels.length k2)) 7)
 have dr1 := rdrows_run d w0 (V.ext x0) G hm
 have dr2 := fun (w : Heap) (k : Ext w0 w) => rdrows_run e w (U.ext (x0.trans k)) G2 hm2
 simp only [dl] at e0 z0 y0 dr1 dr2
 simp +decide only [go_sem, W_region, Wx_some, dl, e0, z0]
 refine W_call Kok x0.1 dr1 fun r w1 x1 hr => ?_
 obtain ⟨ra, rc, rfl, s⟩ := hr
 have y1 : w1.get (h.size + 1) = _ := (x1.2 _ (by omega)).trans y0
 simp +decide only [go_sem, W_region, Wx_some, y1]
 refine W_call Kok (x0.trans x1).1 (dr2 w1 x1) fun r w2 x2 hr => ?_
 obtain ⟨rb, rd, rfl, t⟩ := hr
 simp +decide only [go_sem, W_region, Wx_some]
 refine W_call Kok (x0.trans (x1.trans x2)).1 (texts2_run (rowsT d) (rowsT e) w2 (s.ext x2) t (by rw [rows_len]; omega)) fun r w3 x3 hr => ?_
 obtain ⟨_, rfl⟩ := hr
 simp +decide only [go_sem, W_region, Wx_some]
 rfl
theorem steady_run (d e : DefT) (h : Heap) {v u : Value} (V : DV h v d) (U : DV h u e) (hm : d.hd.ls.length ≤ 100000) (hm2 : d.labels.length ≤ 100000) : Runs K f_defn_Steady #[v, u] h fun r w => r = .bool (dSteady d e) := by
 obtain ⟨a, c, a1, c1, a2, c2, rfl, s1, s2, s3⟩ := V
 obtain ⟨b, k, b1, k1, b2, k2, rfl, t1, t2, t3⟩ := U
 refine Runs.of Kok (Does.intro rfl (by decide +kernel) F_defn_Steady rfl ?_)
 obtain ⟨w0, e0, x0, hs0, z0, y0⟩ := lay2 h (.cells (dl d.hd (.slice a d.hd.ls.length c) (.slice a1 d.lines.length c1) (.slice a2 d.labels.length c2)) 7) (.cells (dl e.hd (.slice b e.hd.ls.length k) (.slice b1 e.lines.length k1) (.slice b2 e.labels.length k2)) 7)
 have hs := hsame_run d.hd e.hd w0 (s1.ext x0) (t1.ext x0) (by omega)
 simp only [dl] at e0 z0 y0
 simp only [H2.hl] at hs
 simp +decide only [go_sem, W_region, Wx_some, dl, e0, z0, y0]
 refine W_call Kok x0.1 hs fun r w1 x1 hr => ?_
 subst hr
 have z1 : w1.get h.size = _ := (x1.2 _ (by omega)).trans z0
 have y1 : w1.get (h.size + 1) = _ := (x1.2 _ (by omega)).trans y0
 have K1 := x0.trans x1
 simp only [dSteady]
 cases hEq d.hd e.hd
 ·simp +decide only [go_sem, W_region, Wx_some]
 ·simp +decide only [go_sem, W_region, Wx_some, z1, y1]
  refine W_call Kok K1.1 (lequal_run d.labels e.labels w1 (s3.ext K1) (t3.ext K1) (by omega)) fun r w2 x2 hr => ?_
  obtain ⟨_, rfl⟩ := hr
  simp +decide only [go_sem, W_region, Wx_some]
theorem rsteady_run (d e : DefT) (h : Heap) {v u : Value} (V : DV h v d) (U : DV h u e) (hm : d.hd.ls.length ≤ 100000) (hm2 : d.labels.length ≤ 100000) : Runs K f_ref24_Steady #[v, u] h fun r w => r = .bool (dSteady d e) := by
 obtain ⟨a, c, a1, c1, a2, c2, rfl, s1, s2, s3⟩ := V
 obtain ⟨b, k, b1, k1, b2, k2, rfl, t1, t2, t3⟩ := U
 refine Runs.of Kok (Does.intro rfl (by decide +kernel) F_ref24_Steady rfl ?_)
 obtain ⟨w0, e0, x0, hs0, z0, y0⟩ := lay2 h (.cells (dl d.hd (.slice a d.hd.ls.length c) (.slice a1 d.lines.length c1) (.slice a2 d.labels.length c2)) 7) (.cells (dl e.hd (.slice b e.hd.ls.length k) (.slice b1 e.lines.length k1) (.slice b2 e.labels.length k2)) 7)
 have hs := rsame2_run d.hd e.hd w0 (s1.ext x0) (t1.ext x0) (by omega)
 simp only [dl] at e0 z0 y0
 simp only [H2.hl] at hs
 simp +decide only [go_sem, W_region, Wx_some, dl, e0, z0, y0]
 refine W_call Kok x0.1 hs fun r w1 x1 hr => ?_
 subst hr
 have z1 : w1.get h.size = _ := (x1.2 _ (by omega)).trans z0
 have y1 : w1.get (h.size + 1) = _ := (x1.2 _ (by omega)).trans y0
 have K1 := x0.trans x1
 simp only [dSteady]
 cases hEq d.hd e.hd
 ·simp +decide only [go_sem, W_region, Wx_some]
 ·simp +decide only [go_sem, W_region, Wx_some, z1, y1]
  refine W_call Kok K1.1 (lsame_run d.labels e.labels w1 (s3.ext K1) (t3.ext K1) (by omega)) fun r w2 x2 hr => ?_
  obtain ⟨_, rfl⟩ := hr
  simp +decide only [go_sem, W_region, Wx_some]
end Go.Proofs.YtachkofbmodnnaaGreatDoor.M6
namespace Go.Proofs.YtachkofbmodnnaaGreatDoor.M7
open Go Go.Im Go.Im.Limbs Go.Im.Lexing Go.Im.Heads Go.Im.Editing Go.Im.Defn Go.Proofs Go.RowKit Hd N19 H2 H3 H4 H5 H7 D2 D3 D4 M0 M6
set_option maxRecDepth 100000
theorem put7 {h w : Heap} (x : Ext h w) {d : DefT} {v : Value} (D : DV w v d) : ∃ (a0 : Option Addr) (c0 : Nat) (a1 : Option Addr) (c1 : Nat) (a2 : Option Addr) (c2 : Nat) (w2 w3 : Heap), v = .agg (dl d.hd (.slice a0 d.hd.ls.length c0) (.slice a1 d.lines.length c1) (.slice a2 d.labels.length c2)).toArray ∧
  w.push (.cells [.string ByteArray.empty, .string ByteArray.empty, .string ByteArray.empty, .string ByteArray.empty, .slice none 0 0, .slice none 0 0, .slice none 0 0] 7) = w2 ∧
  w2.get w.size = .cells [.string ByteArray.empty, .string ByteArray.empty, .string ByteArray.empty, .string ByteArray.empty, .slice none 0 0, .slice none 0 0, .slice none 0 0] 7 ∧ h.size ≤ w.size ∧ w2.set w.size (.cells (dl d.hd (.slice a0 d.hd.ls.length c0) (.slice a1 d.lines.length c1) (.slice a2 d.labels.length c2)) 7) = w3 ∧ Ext w w3 ∧ w3.size = w.size + 1 ∧
  w3.get w.size = .cells (dl d.hd (.slice a0 d.hd.ls.length c0) (.slice a1 d.lines.length c1) (.slice a2 d.labels.length c2)) 7 := by
 obtain ⟨a0, c0, a1, c1, a2, c2, rfl, -⟩ := D
 obtain ⟨w2, e2, x2, hs2, z2⟩ := lay1 w (.cells [.string ByteArray.empty, .string ByteArray.empty, .string ByteArray.empty, .string ByteArray.empty, .slice none 0 0, .slice none 0 0, .slice none 0 0] 7)
 obtain ⟨w3, e3, x3, hs3, z3, k3⟩ := put1 x2 (Nat.le_refl _) (.cells (dl d.hd (.slice a0 d.hd.ls.length c0) (.slice a1 d.lines.length c1) (.slice a2 d.labels.length c2)) 7)
 exact ⟨a0, c0, a1, c1, a2, c2, w2, w3, rfl, e2, z2, x.1, e3, x3, by omega, z3⟩
set_option maxHeartbeats 4000000 in
theorem sames_run (p q : List ByteArray) (h : Heap) {a b : Option Addr} {c k : Nat} (s : Sl h 1 a p.length c (sv p)) (t : Sl h 1 b q.length k (sv q)) (T : TabsAt h) :
  Runs K f_law24_DefnSames #[.slice a p.length c, .slice b q.length k] h fun r _ => r = .bool true := by
 refine Runs.of Kok (Does.intro rfl (by decide +kernel) F_law24_DefnSames rfl ?_)
 have wake := fun w : Heap => law24_awake_runs w
 simp +decide only [go_sem, W_region, Wx_some]
 refine W_call Kok (Nat.le_refl _) (short_run p h s T) fun r w x hr => ?_
 obtain ⟨hw, b1, rfl, hb⟩ := hr
 subst hw
 cases b1 with
 | false =>
   simp +decide only [go_sem, W_region, Wx_some]
   refine W_call Kok (Nat.le_refl _) (wake h) fun r w x hr => ?_
   subst hr
   simp +decide only [go_sem, W_region, Wx_some]
 | true =>
 simp +decide only [go_sem, W_region, Wx_some]
 refine W_call Kok (Nat.le_refl _) (short_run q h t T) fun r w x hr => ?_
 obtain ⟨hw, b2, rfl, hb'⟩ := hr
 subst hw
 cases b2 with
 | false =>
   simp +decide only [go_sem, W_region, Wx_some]
   refine W_call Kok (Nat.le_refl _) (wake h) fun r w x hr => ?_
   subst hr
   simp +decide only [go_sem, W_region, Wx_some]
 | true =>
 obtain ⟨hl, hz2⟩ := hb rfl
 obtain ⟨kl, kz2⟩ := hb' rfl
 have hz : ∀ y ∈ p, y.size ≤ 100000 := fun y hy => Nat.le_trans (hz2 y hy) (by decide)
 have kz : ∀ y ∈ q, y.size ≤ 100000 := fun y hy => Nat.le_trans (kz2 y hy) (by decide)
 have G := make_good p
 have few := make_few p
 have G2 := make_good q
 have few2 := make_few q
 have mk := make_run p h s (by omega) hz
 have mk2 := fun (w : Heap) (k : Ext h w) => make_run q w (t.ext k) (by omega) kz
 have rmk := fun (w : Heap) (k : Ext h w) => rmake_run p w (s.ext k) (by omega) hz
 have rmk2 := fun (w : Heap) (k : Ext h w) => rmake_run q w (t.ext k) (by omega) kz
 generalize makeS p = M at *
 obtain ⟨d, i⟩ := M
 generalize makeS q = M2 at *
 obtain ⟨e, j⟩ := M2
 simp only at G few mk rmk G2 few2 mk2 rmk2
 simp +decide only [go_sem, W_region, Wx_some]
 refine W_call Kok (Nat.le_refl _) mk fun r w1 x1 hr => ?_
 obtain ⟨u1, rfl, D1⟩ := hr
 obtain ⟨a0, ka0, a1, ka1, a2, ka2, w2, w3, rfl, e2, z2, j1, e3, x3, hs3, z3⟩ := put7 x1 D1
 simp only [dl] at e3 z3
 have K3 := x1.trans x3
 simp +decide only [go_sem, W_region, Wx_some, dl, e2, z2, j1, e3]
 refine W_call Kok K3.1 (mk2 w3 K3) fun r w4 x4 hr => ?_
 obtain ⟨u2, rfl, D2⟩ := hr
 have K4 := K3.trans x4
 obtain ⟨b0, kb0, b1, kb1, b2, kb2, w5, w6, rfl, e5, z5, j4, e6, x6, hs6, z6⟩ := put7 K4 D2
 simp only [dl] at e6 z6
 have K6 := K4.trans x6
 by_cases hi : 0 ≤ i
 ·simp +decide only [go_sem, W_region, Wx_some, dl, e5, z5, j4, e6, hi]
  refine W_call Kok K6.1 (wake w6) fun r w x hr => ?_
  subst hr
  simp +decide only [go_sem, W_region, Wx_some]
 by_cases hj : 0 ≤ j
 ·simp +decide only [go_sem, W_region, Wx_some, dl, e5, z5, j4, e6, hi, hj]
  refine W_call Kok K6.1 (wake w6) fun r w x hr => ?_
  subst hr
  simp +decide only [go_sem, W_region, Wx_some]
 simp +decide only [go_sem, W_region, Wx_some, dl, e5, z5, j4, e6, hi, hj]
 refine W_call Kok K6.1 (rmk w6 K6) fun r w7 x7 hr => ?_
 obtain ⟨u3, rfl, D3⟩ := hr
 have K7 := K6.trans x7
 obtain ⟨c0, kc0, c1, kc1, c2, kc2, w8, w9, rfl, e8, z8, j7, e9, x9, hs9, z9⟩ := put7 K7 D3
 simp only [dl] at e9 z9
 have K9 := K7.trans x9
 simp +decide only [go_sem, W_region, Wx_some, dl, e8, z8, j7, e9]
 refine W_call Kok K9.1 (rmk2 w9 K9) fun r w10 x10 hr => ?_
 obtain ⟨u4, rfl, D4⟩ := hr
 have K10 := K9.trans x10
 obtain ⟨d0, kd0, d1, kd1, d2, kd2, w11, w12, rfl, e11, z11, j10, e12, x12, hs12, z12⟩ := put7 K10 D4
 simp only [dl] at e12 z12
 have K12 := K10.trans x12
 have E3 := x10.trans x12
 have E2 := x7.trans (x9.trans E3)
 have E1 := x4.trans (x6.trans E2)
 have y1 : ∀ {w : Heap}, Ext w12 w → w.get w1.size = _ := fun k => ((E1.trans k).2 _ (by omega)).trans z3
 have y2 : ∀ {w : Heap}, Ext w12 w → w.get w4.size = _ := fun k => ((E2.trans k).2 _ (by omega)).trans z6
 have y3 : ∀ {w : Heap}, Ext w12 w → w.get w7.size = _ := fun k => ((E3.trans k).2 _ (by omega)).trans z9
 have y4 : ∀ {w : Heap}, Ext w12 w → w.get w10.size = _ := fun k => (k.2 _ (by omega)).trans z12
 have F1 := D1.ext (x3.trans E1)
 have F2 := D2.ext (x6.trans E2)
 have F3 := D3.ext (x9.trans E3)
 have F4 := D4.ext x12
 have r0 := Ext.refl w12
 have gl := G.few
 have ds := dsame_run d e w12 F1 F2 G G2 (by omega) (by omega)
 have rds := fun (w : Heap) (k : Ext w12 w) => rdsame_run d e w (F3.ext k) (F4.ext k) G G2 (by omega) (by omega)
 have ss := fun (w : Heap) (k : Ext w12 w) => steady_run d e w (F1.ext k) (F2.ext k) (by omega) (by omega)
 have rss := fun (w : Heap) (k : Ext w12 w) => rsteady_run d e w (F3.ext k) (F4.ext k) (by omega) (by omega)
 have sd := fun (w : Heap) (k : Ext w12 w) => steady_run d d w (F1.ext k) (F1.ext k) (by omega) (by omega)
 simp only [dl] at ds rds ss rss sd
 simp +decide only [go_sem, W_region, Wx_some, dl, e11, z11, j10, e12, y1 r0, y2 r0]
 refine W_call Kok K12.1 ds fun r w13 x13 hr => ?_
 subst hr
 simp +decide only [go_sem, W_region, Wx_some, y3 x13, y4 x13]
 refine W_call Kok (K12.trans x13).1 (rds w13 x13) fun r w14 x14 hr => ?_
 subst hr
 have K14 := x13.trans x14
 simp +decide only [go_sem, W_region, Wx_some, y1 K14, y2 K14]
 refine W_call Kok (K12.trans K14).1 (ss w14 K14) fun r w15 x15 hr => ?_
 subst hr
 have K15 := K14.trans x15
 simp +decide only [go_sem, W_region, Wx_some, y3 K15, y4 K15]
 refine W_call Kok (K12.trans K15).1 (rss w15 K15) fun r w16 x16 hr => ?_
 subst hr
 have K16 := K15.trans x16
 simp +decide only [go_sem, W_region, Wx_some, y1 K16]
 refine W_call Kok (K12.trans K16).1 (sd w16 K16) fun r w17 x17 hr => ?_
 subst hr
 rw [dSteady_self]
 simp +decide only [go_sem, W_region, Wx_some]
 refine W_call Kok (K12.trans (K16.trans x17)).1 (wake w17) fun r w x hr => ?_
 subst hr
 simp +decide only [go_sem, W_region, Wx_some]
end Go.Proofs.YtachkofbmodnnaaGreatDoor.M7
namespace Go.Im
open Go.RowKit Go.Proofs
theorem tab_view {W : World} {g : Nat} {cs : List Value} (φ : Places) (h0 : 0 < cs.length) (hc : ∀ i x, cs[i]? = some x → Im.atomic x = true ∧ W.cell? ⟨g, i, none⟩ = some x) : View.of φ W ⟨g, 0, cs.length, 1, cs⟩ := by
 have h1 := (hc 0 _ (List.getElem?_eq_getElem h0)).2
 cases ho : W.heap[g]? with
 | none => simp [World.cell?, ho] at h1
 | some o =>
   cases o with
   | cells c e fr =>
     have get : ∀ i x, cs[i]? = some x → c[i]? = some x := fun i x hx => by
      have := (hc i x hx).2
      simpa [World.cell?, ho] using this
     refine ⟨by simp, c, e, fr, ho, ?_, fun i x hx => ⟨?_, x, ?_, RV.atomic _ (hc i x hx).1⟩⟩
     ·have hl := get (cs.length - 1) _ (List.getElem?_eq_getElem (by omega))
      have := (Array.getElem?_eq_some_iff.1 hl).1
      simp only
      omega
     ·have := (hc i x hx).1
      cases x <;> simp_all [Im.atomic, cellOK]
     ·simp only [Nat.zero_add]
      exact get i x hx
   | _ => simp [World.cell?, ho] at h1
def tabViews (g3 g4 : Nat) : List View := [⟨g4, 0, accCs.length, 1, accCs⟩, ⟨g3, 0, firstCs.length, 1, firstCs⟩]
theorem tabs_laid {W : World} {g3 g4 : Nat} (T : Lib.Utf8Tabs g3 g4 W) : LaidOK W (tabViews g3 g4) := by
 have v3 : ∀ φ, View.of φ W ⟨g3, 0, firstCs.length, 1, firstCs⟩ := fun φ => tab_view φ (by simp [firstCs]) fun i x hx => by
  have hi : i < 256 := by have := (List.getElem?_eq_some_iff.1 hx).1; simpa [firstCs] using this
  have : x = Value.int .u8 (Lib.firstT i : Int) := by simpa [firstCs, hi] using hx.symm
  subst this
  exact ⟨rfl, T.1 i hi⟩
 have v4 : ∀ φ, View.of φ W ⟨g4, 0, accCs.length, 1, accCs⟩ := fun φ => tab_view φ (by rw [show accCs.length = 32 from rfl]; decide) fun i x hx => by
  have hi : i < 32 := (List.getElem?_eq_some_iff.1 hx).1
  obtain ⟨j, hj | hj⟩ : ∃ j, i = 2 * j ∨ i = 2 * j + 1 := ⟨i / 2, by omega⟩
  ·subst hj
   have h := (acc_at j (by omega)).1
   rw [hx] at h
   cases h
   exact ⟨rfl, (T.2 j (by omega)).1⟩
  ·subst hj
   have h := (acc_at j (by omega)).2
   rw [hx] at h
   cases h
   exact ⟨rfl, (T.2 j (by omega)).2⟩
 intro i v hv
 rw [tabViews, vAt_cons] at hv
 split at hv
 ·cases hv
  exact v4 _
 ·rw [vAt_cons] at hv
  split at hv
  ·cases hv
   exact v3 _
  ·simp [vAt] at hv
theorem tabs_tied (g3 g4 : Nat) : (tabT g3 g4).holds (vPlaces (tabViews g3 g4)) := ⟨⟨_, rfl, rfl, rfl⟩, ⟨_, rfl, rfl, rfl⟩⟩
theorem tabs_at (g3 g4 : Nat) : TabsAt (laid (tabViews g3 g4)) := ⟨laid_get (tabViews g3 g4) 0 ⟨g3, 0, firstCs.length, 1, firstCs⟩ rfl, laid_get (tabViews g3 g4) 1 ⟨g4, 0, accCs.length, 1, accCs⟩ rfl, by rw [laid_size]; exact Nat.le_refl _⟩
end Go.Im
