/- Proved here: parts of the way to BDefnBack (BM6 BM8 BM11 BM9); no condition beyond those that each theorem names. -/
import Derived.Test.YtachkofbmodnnaaGreatDoorW15
import Derived.Test.YtachkofbmodnnaaGreatDoorW12
import Derived.Laws.RangeAny
set_option linter.unusedSimpArgs false
set_option linter.unusedVariables false
namespace Go.Proofs.YtachkofbmodnnaaGreatDoor.M6
open Go Go.Im Go.Im.Limbs Go.Im.Lexing Go.Im.Heads Go.Im.Editing Go.Im.Defn Go.Proofs Go.RowKit Hd N19 H2 H3 H4 H5 H7 D2 D3 D4
set_option maxRecDepth 100000
theorem take_eq {α : Type} {xs ys : List α} {i : Nat} {x y : α} (h : xs.take i = ys.take i) (hx : xs[i]? = some x) (hy : ys[i]? = some y) (e : x = y) : xs.take (i + 1) = ys.take (i + 1) := by
 rw [List.take_add_one, List.take_add_one, h, hx, hy, e]
theorem ne_at {α : Type} {xs ys : List α} {i : Nat} {x y : α} (hx : xs[i]? = some x) (hy : ys[i]? = some y) (e : ¬ x = y) : ¬ xs = ys := fun h => e (by rw [h, hy] at hx; exact (Option.some.inj hx).symm)
theorem all_eq {α : Type} {xs ys : List α} {i : Nat} (h : xs.take i = ys.take i) (hx : xs.length ≤ i) (hy : ys.length ≤ i) : xs = ys := by rwa [List.take_of_length_le hx, List.take_of_length_le hy] at h
theorem equal_run (xs ys : List ByteArray) (h : Heap) {a a2 : Option Addr} {c c2 : Nat} (s : Sl h 1 a xs.length c (sv xs)) (t : Sl h 1 a2 ys.length c2 (sv ys)) (hm : xs.length ≤ 1000000) :
  Runs K f_slices_Equal_string_string #[.slice a xs.length c, .slice a2 ys.length c2] h fun r w => h = w ∧ r = .bool (decide (xs = ys)) := by
 refine Runs.of Kok (Does.intro rfl (by decide +kernel) F_slices_Equal_string_string rfl ?_)
 by_cases hl : xs.length = ys.length
 ·have hl' : ((xs.length : Nat) : Int) = ((ys.length : Nat) : Int) := by omega
  simp +decide only [go_sem, W_region, Wx_some, hl']
  refine W_loop (α := Nat) (fun i e w => i ≤ xs.length ∧ e.size = 26 ∧ h = w ∧ e.get 0 = .slice a xs.length c ∧ e.get 1 = .slice a2 ys.length c2 ∧ e.get 12 = .int .i64 ((ys.length : Nat) : Int) ∧ e.get 13 = .int .i64 (i : Int) ∧ xs.take i = ys.take i) (fun i => xs.length - i) 0 ?_ ?_
  ·exact ⟨Nat.zero_le _, by simp +decide only [go_sem], rfl, by simp +decide only [go_sem], by simp +decide only [go_sem], by simp +decide only [go_sem, hl'], by simp +decide only [go_sem]; rfl, rfl⟩
  rintro i e w ⟨hi, hsz, hw, e0, e1, e12, e13, ht⟩ next
  subst hw
  by_cases hil : (i : Int) < ((ys.length : Nat) : Int)
  ·obtain ⟨b, o, cs, rfl, q2, q3, q4⟩ := text_at s (i := i) (by omega)
   obtain ⟨b2, o2, cs2, rfl, p2, p3, p4⟩ := text_at t (i := i) (by omega)
   have hx : xs[i]? = some xs[i] := List.getElem?_eq_getElem (by omega)
   have hy : ys[i]? = some ys[i] := List.getElem?_eq_getElem (by omega)
   have c0 : (0 : Int) ≤ (i : Int) := by omega
   have c1 : (i : Int) < ((xs.length : Nat) : Int) := by omega
   have i1 : IntKind.i64.wrap ((i : Int) + 1) = ((i + 1 : Nat) : Int) := by rw [wrap_i64 (by omega) (by omega)]; omega
   generalize xs[i] = x at q4 hx
   generalize ys[i] = y at p4 hy
   by_cases hs : x = y
   ·rw [hs] at q4
    simp +decide only [go_sem, W_region, Wx_some, hsz, e0, e1, e12, e13, hil, c0, c1, Int.toNat_natCast, q3, q4, p3, p4, i1]
    exact next (i + 1) _ _ ⟨by omega, by simp +decide only [go_sem, hsz], rfl, by simp +decide only [go_sem, hsz, e0], by simp +decide only [go_sem, hsz, e1], by simp +decide only [go_sem, hsz, e12], by simp +decide only [go_sem, hsz], take_eq ht hx hy hs⟩ (by omega)
   ·simp +decide only [go_sem, W_region, Wx_some, hsz, e0, e1, e12, e13, hil, c0, c1, Int.toNat_natCast, q3, q4, p3, p4, hs]
    simp [ne_at hx hy hs]
  ·simp +decide only [go_sem, W_region, Wx_some, hsz, e0, e1, e12, e13, hil]
   simp [all_eq ht (by omega) (by omega)]
 ·have hl' : ¬ ((xs.length : Nat) : Int) = ((ys.length : Nat) : Int) := by omega
  simp +decide only [go_sem, W_region, Wx_some, hl']
  have : ¬ xs = ys := fun hh => hl (by rw [hh])
  simp [this]
def hEq (x y : HdT) : Bool := decide (x.nm = y.nm) && (decide (x.re = y.re) && (decide (x.le = y.le) && (decide (x.ri = y.ri) && decide (x.ls = y.ls))))
theorem hEq_self (x : HdT) : hEq x x = true := by simp [hEq]
theorem hsame_run (x y : HdT) (h : Heap) {a b : Option Addr} {c d : Nat} (sa : Sl h 1 a x.ls.length c (sv x.ls)) (sb : Sl h 1 b y.ls.length d (sv y.ls)) (hk : x.ls.length ≤ 1000000) :
  Runs K f_head_Same #[.agg (hl x (.slice a x.ls.length c)).toArray, .agg (hl y (.slice b y.ls.length d)).toArray] h fun v _ => v = .bool (hEq x y) := by
 refine Runs.of Kok (Does.intro rfl (by decide +kernel) F_head_Same rfl ?_)
 obtain ⟨w1, e1, x1, hs1, z1⟩ := lay1 h (.cells [.string x.nm, .string x.re, .string x.le, .string x.ri, .slice a x.ls.length c] 5)
 obtain ⟨w2, e2, x2, hs2, z2⟩ := lay1 w1 (.cells [.string y.nm, .string y.re, .string y.le, .string y.ri, .slice b y.ls.length d] 5)
 have z1' : w2.get h.size = _ := (x2.2 _ (by omega)).trans z1
 unfold hEq
 by_cases h1 : x.nm = y.nm
 case neg => simp +decide only [go_sem, W_region, Wx_some, hl, e1, e2, z1', z2, h1]
 by_cases h2 : x.re = y.re
 case neg => simp +decide only [go_sem, W_region, Wx_some, hl, e1, e2, z1', z2, eq_true h1, h2]
 by_cases h3 : x.le = y.le
 case neg => simp +decide only [go_sem, W_region, Wx_some, hl, e1, e2, z1', z2, eq_true h1, eq_true h2, h3]
 by_cases h4 : x.ri = y.ri
 case neg => simp +decide only [go_sem, W_region, Wx_some, hl, e1, e2, z1', z2, eq_true h1, eq_true h2, eq_true h3, h4]
 simp +decide only [go_sem, W_region, Wx_some, hl, e1, e2, z1', z2, eq_true h1, eq_true h2, eq_true h3, eq_true h4]
 refine W_call Kok (x1.trans x2).1 (equal_run x.ls y.ls w2 (sa.ext (x1.trans x2)) (sb.ext (x1.trans x2)) hk) fun v w hx hv => ?_
 obtain ⟨_, rfl⟩ := hv
 simp +decide only [go_sem, W_region, Wx_some]
theorem lbv_at : ∀ {lb : List (ByteArray × Nat)} {i : Nat} {p : ByteArray × Nat}, lb[i]? = some p → (lbv lb)[i * 2]? = some (.string p.1) ∧ (lbv lb)[i * 2 + 1]? = some (.int .i64 (p.2 : Int))
 | [], i, p, h => by simp at h
 | q :: rows, 0, p, h => by
   cases h
   exact ⟨rfl, rfl⟩
 | q :: rows, i + 1, p, h => by
   have e : lbv (q :: rows) = .string q.1 :: .int .i64 (q.2 : Int) :: lbv rows := rfl
   obtain ⟨h1, h2⟩ := lbv_at (lb := rows) (i := i) (by simpa using h)
   rw [e, show (i + 1) * 2 = i * 2 + 2 by omega]
   exact ⟨h1, by rw [show i * 2 + 2 + 1 = i * 2 + 1 + 2 by omega]; exact h2⟩
theorem sl_label {h : Heap} {a : Option Addr} {c i : Nat} {lb : List (ByteArray × Nat)} (s : Sl h 2 a lb.length c (lbv lb)) {p : ByteArray × Nat} (hp : lb[i]? = some p) :
  ∃ b o cs, a = some ⟨b, o, none⟩ ∧ b < h.size ∧ (h.get b).read = .cells cs 2 ∧ (cs.drop (o + i * 2)).take 2 = [.string p.1, .int .i64 (p.2 : Int)] ∧ o + i * 2 + 2 ≤ cs.length := by
 have hi : i < lb.length := (List.getElem?_eq_some_iff.1 hp).1
 obtain ⟨b, o, cs, h1, h2, h3, h4, h5⟩ := s.at hi
 obtain ⟨g1, g2⟩ := lbv_at hp
 have get : ∀ j, j < lb.length * 2 → cs[o + j]? = (lbv lb)[j]? := fun j hj => by rw [h5, List.getElem?_take, if_pos hj, List.getElem?_drop]
 have c1 := (get (i * 2) (by omega)).trans g1
 have c2 := (get (i * 2 + 1) (by omega)).trans g2
 have hle : o + i * 2 + 2 ≤ cs.length := by omega
 refine ⟨b, o, cs, h1, h2, h3, ?_, hle⟩
 obtain ⟨k1, e1⟩ := List.getElem?_eq_some_iff.1 c1
 obtain ⟨k2, e2⟩ := List.getElem?_eq_some_iff.1 c2
 rw [List.drop_eq_getElem_cons k1, e1]
 have k2' : o + i * 2 + 1 < cs.length := k2
 rw [List.drop_eq_getElem_cons k2']
 have e2' : cs[o + i * 2 + 1] = .int .i64 (p.2 : Int) := e2
 rw [e2']
 rfl
theorem lay84 : eqlay Tryz.prog 84 = some [(.string, 0), (.int .i64, 1)] := by kernel_rfl
theorem ne84 {x y : Array Value} : ibinop Tryz.prog .neq 84 (.agg x) (.agg y) = eqst (some [(.string, 0), (.int .i64, 1)]) .neq x y := ibinop_agg lay84 fun _ _ => rfl
theorem lequal_run (xs ys : List (ByteArray × Nat)) (h : Heap) {a a2 : Option Addr} {c c2 : Nat} (s : Sl h 2 a xs.length c (lbv xs)) (t : Sl h 2 a2 ys.length c2 (lbv ys)) (hm : xs.length ≤ 1000000) :
  Runs K f_slices_Equal_defn_Label_defn_Label #[.slice a xs.length c, .slice a2 ys.length c2] h fun r w => h = w ∧ r = .bool (decide (xs = ys)) := by
 refine Runs.of Kok (Does.intro rfl (by decide +kernel) F_slices_Equal_defn_Label_defn_Label rfl ?_)
 by_cases hl : xs.length = ys.length
 ·have hl' : ((xs.length : Nat) : Int) = ((ys.length : Nat) : Int) := by omega
  simp +decide only [go_sem, W_region, Wx_some, hl']
  refine W_loop (α := Nat) (fun i e w => i ≤ xs.length ∧ e.size = 26 ∧ h = w ∧ e.get 0 = .slice a xs.length c ∧ e.get 1 = .slice a2 ys.length c2 ∧ e.get 12 = .int .i64 ((ys.length : Nat) : Int) ∧ e.get 13 = .int .i64 (i : Int) ∧ xs.take i = ys.take i) (fun i => xs.length - i) 0 ?_ ?_
  ·exact ⟨Nat.zero_le _, by simp +decide only [go_sem], rfl, by simp +decide only [go_sem], by simp +decide only [go_sem], by simp +decide only [go_sem, hl'], by simp +decide only [go_sem]; rfl, rfl⟩
  rintro i e w ⟨hi, hsz, hw, e0, e1, e12, e13, ht⟩ next
  subst hw
  by_cases hil : (i : Int) < ((ys.length : Nat) : Int)
  ·obtain ⟨⟨x1, x2⟩, hx⟩ : ∃ p, xs[i]? = some p := ⟨_, List.getElem?_eq_getElem (by omega)⟩
   obtain ⟨⟨y1, y2⟩, hy⟩ : ∃ p, ys[i]? = some p := ⟨_, List.getElem?_eq_getElem (by omega)⟩
   obtain ⟨b, o, cs, rfl, q2, q3, q4, q5⟩ := sl_label s hx
   obtain ⟨b2, o2, cs2, rfl, p2, p3, p4, p5⟩ := sl_label t hy
   have c0 : (0 : Int) ≤ (i : Int) := by omega
   have c1 : (i : Int) < ((xs.length : Nat) : Int) := by omega
   have i1 : IntKind.i64.wrap ((i : Int) + 1) = ((i + 1 : Nat) : Int) := by rw [wrap_i64 (by omega) (by omega)]; omega
   simp only at q4 p4
   by_cases hs : x1 = y1
   ·by_cases hn : x2 = y2
    ·simp +decide only [go_sem, W_region, Wx_some, hsz, e0, e1, e12, e13, hil, c0, c1, Int.toNat_natCast, q3, q4, q5, p3, p4, p5, ne84, eq_true hs, hn, i1]
     exact next (i + 1) _ _ ⟨by omega, by simp +decide only [go_sem, hsz], rfl, by simp +decide only [go_sem, hsz, e0], by simp +decide only [go_sem, hsz, e1], by simp +decide only [go_sem, hsz, e12], by simp +decide only [go_sem, hsz], take_eq ht hx hy (by rw [hs, hn])⟩ (by omega)
    ·have hn' : ¬ (x2 : Int) = (y2 : Int) := by omega
     simp +decide only [go_sem, W_region, Wx_some, hsz, e0, e1, e12, e13, hil, c0, c1, Int.toNat_natCast, q3, q4, q5, p3, p4, p5, ne84, eq_true hs, hn']
     simp [ne_at hx hy (fun hh => hn (Prod.ext_iff.1 hh).2)]
   ·simp +decide only [go_sem, W_region, Wx_some, hsz, e0, e1, e12, e13, hil, c0, c1, Int.toNat_natCast, q3, q4, q5, p3, p4, p5, ne84, hs]
    simp [ne_at hx hy (fun hh => hs (Prod.ext_iff.1 hh).1)]
  ·simp +decide only [go_sem, W_region, Wx_some, hsz, e0, e1, e12, e13, hil]
   simp [all_eq ht (by omega) (by omega)]
 ·have hl' : ¬ ((xs.length : Nat) : Int) = ((ys.length : Nat) : Int) := by omega
  simp +decide only [go_sem, W_region, Wx_some, hl']
  have : ¬ xs = ys := fun hh => hl (by rw [hh])
  simp [this]
def dSame (d e : DefT) : Bool := decide (rowsT d = rowsT e)
def dSteady (d e : DefT) : Bool := hEq d.hd e.hd && decide (d.labels = e.labels)
theorem dSteady_self (d : DefT) : dSteady d d = true := by simp [dSteady, hEq_self]
theorem dsame_run (d e : DefT) (h : Heap) {v u : Value} (V : DV h v d) (U : DV h u e) (G : Heads.Good d.hd) (G2 : Heads.Good e.hd) (hm : d.lines.length ≤ 100000) (hm2 : e.lines.length ≤ 100000) : Runs K f_defn_Same #[v, u] h fun r w => r = .bool (dSame d e) := by
 have V0 := V
 have U0 := U
 obtain ⟨a, c, a1, c1, a2, c2, rfl, s1, s2, s3⟩ := V0
 obtain ⟨b, k, b1, k1, b2, k2, rfl, t1, t2, t3⟩ := U0
 refine Runs.of Kok (Does.intro rfl (by decide +kernel) F_defn_Same rfl ?_)
 obtain ⟨w0, e0, x0, hs0, z0, y0⟩ := lay2 h (.cells (dl d.hd (.slice a d.hd.ls.length c) (.slice a1 d.lines.length c1) (.slice a2 d.labels.length c2)) 7) (.cells (dl e.hd (.slice b e.hd.ls.length k) (.slice b1 e.lines.length k1) (.slice b2 e.labels.length k2)) 7)
 have dr1 := drows_run d w0 (V.ext x0) G hm
 have dr2 := fun (w : Heap) (k : Ext w0 w) => drows_run e w (U.ext (x0.trans k)) G2 hm2
 simp only [dl] at e0 z0 y0 dr1 dr2
 simp +decide only [go_sem, W_region, Wx_some, dl, e0, z0]
 refine W_call Kok x0.1 dr1 fun r w1 x1 hr => ?_
 obtain ⟨ra, rc, rfl, s⟩ := hr
 have y1 : w1.get (h.size + 1) = _ := (x1.2 _ (by omega)).trans y0
 simp +decide only [go_sem, W_region, Wx_some, y1]
 refine W_call Kok (x0.trans x1).1 (dr2 w1 x1) fun r w2 x2 hr => ?_
 obtain ⟨rb, rd, rfl, t⟩ := hr
 simp +decide only [go_sem, W_region, Wx_some]
 refine W_call Kok (x0.trans (x1.trans x2)).1 (equal_run (rowsT d) (rowsT e) w2 (s.ext x2) t (by rw [rows_len]; omega)) fun r w3 x3 hr => ?_
 obtain ⟨_, rfl⟩ := hr
 simp +decide only [go_sem, W_region, Wx_some]
 rfl
theorem steady_run (d e : DefT) (h : Heap) {v u : Value} (V : DV h v d) (U : DV h u e) (hm : d.hd.ls.length ≤ 100000) (hm2 : d.labels.length ≤ 100000) : Runs K f_defn_Steady #[v, u] h fun r w => r = .bool (dSteady d e) := by
 obtain ⟨a, c, a1, c1, a2, c2, rfl, s1, s2, s3⟩ := V
 obtain ⟨b, k, b1, k1, b2, k2, rfl, t1, t2, t3⟩ := U
 refine Runs.of Kok (Does.intro rfl (by decide +kernel) F_defn_Steady rfl ?_)
 obtain ⟨w0, e0, x0, hs0, z0, y0⟩ := lay2 h (.cells (dl d.hd (.slice a d.hd.ls.length c) (.slice a1 d.lines.length c1) (.slice a2 d.labels.length c2)) 7) (.cells (dl e.hd (.slice b e.hd.ls.length k) (.slice b1 e.lines.length k1) (.slice b2 e.labels.length k2)) 7)
 have hs := hsame_run d.hd e.hd w0 (s1.ext x0) (t1.ext x0) (by omega)
 simp only [dl] at e0 z0 y0
 simp only [H2.hl] at hs
 simp +decide only [go_sem, W_region, Wx_some, dl, e0, z0, y0]
 refine W_call Kok x0.1 hs fun r w1 x1 hr => ?_
 subst hr
 have z1 : w1.get h.size = _ := (x1.2 _ (by omega)).trans z0
 have y1 : w1.get (h.size + 1) = _ := (x1.2 _ (by omega)).trans y0
 have K1 := x0.trans x1
 simp only [dSteady]
 cases hEq d.hd e.hd
 ·simp +decide only [go_sem, W_region, Wx_some]
 ·simp +decide only [go_sem, W_region, Wx_some, z1, y1]
  refine W_call Kok K1.1 (lequal_run d.labels e.labels w1 (s3.ext K1) (t3.ext K1) (by omega)) fun r w2 x2 hr => ?_
  obtain ⟨_, rfl⟩ := hr
  simp +decide only [go_sem, W_region, Wx_some]
end Go.Proofs.YtachkofbmodnnaaGreatDoor.M6
namespace Go.Im.Arrays
open Go Go.Im Go.Im.Lexing
def iv (l : List Int) : List Value := l.map (Value.int .i64)
theorem icp_ok {low : Nat} {h : Heap} {b o n : Nat} {a : Option Addr} {m c : Nat} {cs new : List Value} (hg : h.get b = .cells cs 1) (hl : low ≤ b) (hi : islice h 1 (.slice a m c) = some new) (hm : new.length = m) (ho : o + n ≤ cs.length) :
  icp low h (some (.slice 1)) b o n (.slice a m c) = some (.int .i64 ((min m n : Nat) : Int), h.set b (.cells (splice cs o (new.take (min m n))) 1)) := by
 simp only [icp, hg, hi]
 rw [if_pos ⟨hl, trivial, by omega, by omega⟩]
 simp only [hm, Nat.div_one, Nat.mul_one]
theorem iand64 {P : Program} {t : TypeId} {x y : Nat} (hx : x < 18446744073709551616) (hy : y < 18446744073709551616) : ibinop P .and t (.int .u64 (x : Int)) (.int .u64 (y : Int)) = some (.int .u64 ((x &&& y : Nat) : Int)) := by
 have e : (BitVec.ofInt 64 (x : Int) &&& BitVec.ofInt 64 (y : Int)).toNat = x &&& y := by
  rw [BitVec.toNat_and, BitVec.ofInt_natCast, BitVec.ofInt_natCast, BitVec.toNat_ofNat, BitVec.toNat_ofNat, Nat.mod_eq_of_lt hx, Nat.mod_eq_of_lt hy]
 have l : x &&& y < 2 ^ 64 := Nat.lt_of_le_of_lt Nat.and_le_left hx
 have h : Op.intBits .and .u64 (x : Int) (y : Int) = .pure (.int .u64 (IntKind.u64.wrap (((BitVec.ofInt 64 (x : Int) &&& BitVec.ofInt 64 (y : Int)).toNat : Nat) : Int))) := rfl
 simp only [ibinop, ibin, if_true, h]
 rw [e, w64 l]
theorem imask {P : Program} {t : TypeId} {x : Nat} (hx : x < 4294967296) : ibinop P .and t (.int .u64 (x : Int)) (.int .u64 4294967295) = some (.int .u64 (x : Int)) := by
 have h := iand64 (P := P) (t := t) (x := x) (y := 4294967295) (by omega) (by omega)
 have e : x &&& 4294967295 = x := by
  have := Nat.and_two_pow_sub_one_eq_mod x 32
  rw [show (2 : Nat) ^ 32 - 1 = 4294967295 from rfl] at this
  rw [this]
  omega
 rw [e] at h
 exact h
theorem irsl_tail_own {w : Heap} {b N l : Nat} {cs : List Value} (hg : w.get b = .cells cs 1) (hl : l < N) (hN : N < big) :
  irsl (some (.slice 1)) w (some ⟨b, 0, none⟩) N N (some (.int .i64 (l : Int))) none none = some (.slice (some ⟨b, l, none⟩) (N - l) (N - l)) := by
 have h1 : boundOf 0 (some (.int .i64 (l : Int))) = some l := by simp [boundOf]
 have h2 : boundOf N none = some N := rfl
 have hin := iinds_of (n := N) (cap := N) h1 h2 (by omega) (Nat.le_refl _)
 simp only [irsl, hin, if_pos hN, if_neg (show ¬ N = 0 by omega), Heap.look, hg, Blk.read]
 rw [if_pos trivial, if_neg (show ¬ N = l by omega)]
 simp
theorem irsl_head_own {w : Heap} {b N u : Nat} {cs : List Value} (hg : w.get b = .cells cs 1) (hu : u ≤ N) (h0 : 0 < N) (hN : N < big) :
  irsl (some (.slice 1)) w (some ⟨b, 0, none⟩) N N none (some (.int .i64 (u : Int))) none = some (.slice (some ⟨b, 0, none⟩) u N) := by
 have h1 : boundOf 0 none = some 0 := rfl
 have h2 : boundOf N (some (.int .i64 (u : Int))) = some u := by simp [boundOf]
 have hin := iinds_of (n := N) (cap := N) h1 h2 (by omega) hu
 simp only [irsl, hin, if_pos hN, if_neg (show ¬ N = 0 by omega), Heap.look, hg, Blk.read]
 rw [if_pos trivial]
 simp
def bz (n k : Nat) : List Int := List.replicate k 32 ++ List.replicate (n - k) 0
theorem bz_length {n k : Nat} (h : k ≤ n) : (rv (bz n k)).length = n := by simp [bz, rv_length]; omega
theorem bz_more {n k m : Nat} (h : k + m ≤ n) : splice (rv (bz n k)) k (rv (List.replicate m 32)) = rv (bz n (k + m)) := by
 unfold splice
 rw [rv_take, rv_drop, ← rv_append, ← rv_append, rv_length, List.length_replicate]
 congr 1
 unfold bz
 rw [List.take_append_of_le_length (by simp), List.take_of_length_le (by simp), List.drop_append, List.drop_of_length_le (by simp), List.nil_append, List.length_replicate, List.drop_replicate, List.replicate_append_replicate]
 congr 2
 omega
def AV (w : Heap) (v : Value) (shape tx : List Int) : Prop := ∃ a c a1 c1, v = .agg #[.slice a shape.length c, .bool true, .slice a1 tx.length c1, .slice none 0 0, .bool true] ∧ Sl w 1 a shape.length c (iv shape) ∧ Sl w 1 a1 tx.length c1 (rv tx)
theorem AV.ext {w w' : Heap} (k : Ext w w') {v : Value} {shape tx : List Int} (H : AV w v shape tx) : AV w' v shape tx := by
 obtain ⟨a, c, a1, c1, h1, h2, h3⟩ := H
 exact ⟨a, c, a1, c1, h1, h2.ext k, h3.ext k⟩
def azero : Value := .agg #[.slice none 0 0, .bool false, .slice none 0 0, .slice none 0 0, .bool false]
def ok2 (x y : Nat) : Bool := decide (x ≤ 4096) && decide (y ≤ 4096 / x)
end Go.Im.Arrays
namespace Go.Proofs.YtachkofbmodnnaaGreatDoor.M8
open Go Go.Im Go.Im.Limbs Go.Im.Lexing Go.Im.Heads Go.Im.Editing Go.Im.Defn Go.Im.Arrays Go.Proofs Go.RowKit Hd H3
set_option maxRecDepth 100000
theorem cloner_run (h : Heap) {a : Option Addr} {n c : Nat} {xs : List Value} (s : Sl h 1 a n c xs) (hn : n ≤ 1000000) : Runs K f_slices_Clone_rune_rune #[.slice a n c] h fun r w => ∃ a' c', r = .slice a' n c' ∧ Sl w 1 a' n c' xs := by
 refine Runs.of Kok (Does.intro rfl (by decide +kernel) F_slices_Clone_rune_rune rfl ?_)
 cases a with
 | none =>
   have h0 : n = 0 := by
    rcases s with ⟨_, h0, _⟩ | ⟨_, _, hh, _⟩ | ⟨_, _, _, hh, _⟩
    ·exact h0
    ·cases hh
    ·cases hh
   subst h0
   have hx : xs = [] := List.eq_nil_of_length_eq_zero (by have := s.length; omega)
   subst hx
   simp +decide only [go_sem, W_region, Wx_some]
   exact ⟨_, _, rfl, Sl.nil _ _⟩
 | some ad =>
   obtain ⟨w1, e1, x1, hs1, g1⟩ := lay1 h (.cells [] 1)
   obtain ⟨a2, c2, w2, e2, x2, _, s2⟩ := app0 (low := h.size) (bytes := 4) (new := xs) (k := n) g1 (by omega) (by omega) (by have := s.length; omega) (by omega) (by omega)
   have hi := (s.ext x1).isl
   simp +decide only [go_sem, W_region, Wx_some, e1, hi, e2]
   exact ⟨_, _, rfl, s2⟩
theorem clonei_run (h : Heap) {a : Option Addr} {n c : Nat} {xs : List Value} (s : Sl h 1 a n c xs) (hn : n ≤ 1000000) : Runs K f_slices_Clone_int_int #[.slice a n c] h fun r w => ∃ a' c', r = .slice a' n c' ∧ Sl w 1 a' n c' xs := by
 refine Runs.of Kok (Does.intro rfl (by decide +kernel) F_slices_Clone_int_int rfl ?_)
 cases a with
 | none =>
   have h0 : n = 0 := by
    rcases s with ⟨_, h0, _⟩ | ⟨_, _, hh, _⟩ | ⟨_, _, _, hh, _⟩
    ·exact h0
    ·cases hh
    ·cases hh
   subst h0
   have hx : xs = [] := List.eq_nil_of_length_eq_zero (by have := s.length; omega)
   subst hx
   simp +decide only [go_sem, W_region, Wx_some]
   exact ⟨_, _, rfl, Sl.nil _ _⟩
 | some ad =>
   obtain ⟨w1, e1, x1, hs1, g1⟩ := lay1 h (.cells [] 1)
   obtain ⟨a2, c2, w2, e2, x2, _, s2⟩ := app0 (low := h.size) (bytes := 8) (new := xs) (k := n) g1 (by omega) (by omega) (by have := s.length; omega) (by omega) (by omega)
   have hi := (s.ext x1).isl
   simp +decide only [go_sem, W_region, Wx_some, e1, hi, e2]
   exact ⟨_, _, rfl, s2⟩
theorem mul64_run (n : Nat) (h : Heap) (hn : n ≤ 100000) : Runs K f_bits_Mul64 #[.int .u64 1, .int .u64 (n : Int)] h fun r w => h = w ∧ r = .tuple #[.int .u64 0, .int .u64 (n : Int)] := by
 refine Runs.of Kok (Does.intro rfl (by decide +kernel) F_bits_Mul64 rfl ?_)
 have m1 : ∀ t, ibinop Tryz.prog .and t (.int .u64 1) (.int .u64 4294967295) = some (.int .u64 1) := fun t => imask (P := Tryz.prog) (t := t) (x := 1) (by omega)
 have m2 : ∀ t, ibinop Tryz.prog .and t (.int .u64 (n : Int)) (.int .u64 4294967295) = some (.int .u64 (n : Int)) := fun t => imask (x := n) (by omega)
 have m0 : ∀ t, ibinop Tryz.prog .and t (.int .u64 0) (.int .u64 4294967295) = some (.int .u64 0) := fun t => imask (P := Tryz.prog) (t := t) (x := 0) (by omega)
 have s1 : ∀ t k, ibinop Tryz.prog .shr t (.int .u64 1) (.int k 32) = some (.int .u64 0) := fun t k => ishr32 (P := Tryz.prog) (t := t) (k := k) (n := 1)
 have s0 : ∀ t k, ibinop Tryz.prog .shr t (.int .u64 0) (.int k 32) = some (.int .u64 0) := fun t k => ishr32 (P := Tryz.prog) (t := t) (k := k) (n := 0)
 have s2 : ∀ t k, ibinop Tryz.prog .shr t (.int .u64 (n : Int)) (.int k 32) = some (.int .u64 0) := fun t k => by
  have := ishr32 (P := Tryz.prog) (t := t) (k := k) (n := n)
  rw [show n / 4294967296 = 0 by omega] at this
  exact this
 have wn : IntKind.u64.wrap (n : Int) = (n : Int) := w64 (by omega)
 have w0 : IntKind.u64.wrap 0 = 0 := rfl
 simp +decide only [go_sem, W_region, Wx_some, m1, m2, m0, s1, s0, s2, Int.one_mul, Int.zero_mul, Int.mul_zero, Int.add_zero, Int.zero_add, wn, w0]
theorem mul_run (n : Nat) (h : Heap) (hn : n ≤ 100000) : Runs K f_bits_Mul #[.int .u64 1, .int .u64 (n : Int)] h fun r w => h = w ∧ r = .tuple #[.int .u64 0, .int .u64 (n : Int)] := by
 refine Runs.of Kok (Does.intro rfl (by decide +kernel) F_bits_Mul rfl ?_)
 simp +decide only [go_sem, W_region, Wx_some]
 refine W_call Kok (Nat.le_refl _) (mul64_run n h hn) fun r w x hr => ?_
 obtain ⟨hw, rfl⟩ := hr
 subst hw
 simp +decide only [go_sem, W_region, Wx_some]
theorem rep_run (n : Nat) (h : Heap) {q : Nat} (hg : h.get q = .cells [.int .i32 32] 1) (hq : q < h.size) (hn : n ≤ 100000) : Runs K f_slices_Repeat_rune_rune #[.slice (some ⟨q, 0, none⟩) 1 1, .int .i64 (n : Int)] h fun r w => ∃ a c, r = .slice a n c ∧ Sl w 1 a n c (rv (List.replicate n 32)) := by
 refine Runs.of Kok (Does.intro rfl (by decide +kernel) F_slices_Repeat_rune_rune rfl ?_)
 have n0 : ¬ (n : Int) < 0 := by omega
 have c1 : IntKind.u64.wrap (n : Int) = (n : Int) := w64 (by omega)
 have c2 : IntKind.u64.wrap 1 = 1 := rfl
 have c3 : IntKind.i64.wrap (n : Int) = (n : Int) := wrap_i64 (by omega) (by omega)
 have c4 : ¬ (9223372036854775807 : Int) < (n : Int) := by omega
 obtain ⟨w1, e1, x1, hs1, z1⟩ := lay1 h (.cells (rv (bz n 0)) 1)
 have hfl : (List.replicate n [Value.int .i32 0]).flatten = rv (bz n 0) := by
  simp [bz, rv, intCells, List.flatten_replicate_singleton]
 have mk : imk h.size 1 4 [.int .i32 0] (n : Int) (n : Int) = some (.slice (some ⟨h.size, 0, none⟩) n n, some (.cells (rv (bz n 0)) 1)) := by
  rw [← hfl]
  exact imk_ok (by omega) (by omega) (by omega) (by omega)
 have gq : w1.get q = _ := (x1.2 q hq).trans hg
 have isq : islice w1 1 (.slice (some ⟨q, 0, none⟩) 1 1) = some [.int .i32 32] := by
  simp [islice, Heap.look, gq, Blk.read]
 have cp := icp_ok (low := h.size) (o := 0) (n := n) z1 (Nat.le_refl _) isq rfl (by rw [bz_length (by omega)]; omega)
 obtain ⟨w2, e2, x2, hs2, z2, k2⟩ := put1 x1 (Nat.le_refl _) (.cells (splice (rv (bz n 0)) 0 (([.int .i32 32] : List Value).take (min 1 n))) 1)
 have hsp : splice (rv (bz n 0)) 0 (([.int .i32 32] : List Value).take (min 1 n)) = rv (bz n (min 1 n)) := by
  by_cases hn0 : n = 0
  ·subst hn0
   rfl
  ·have : min 1 n = 1 := by omega
   rw [this]
   exact bz_more (n := n) (k := 0) (m := 1) (by omega)
 rw [hsp] at z2
 rw [e2] at cp
 simp +decide only [go_sem, W_region, Wx_some, n0, c1, c2]
 refine W_call Kok (Nat.le_refl _) (mul_run n h hn) fun r w x hr => ?_
 obtain ⟨hw, rfl⟩ := hr
 subst hw
 simp +decide only [go_sem, W_region, Wx_some, c4, c3, mk, e1, cp]
 refine W_loop (α := Nat) (fun k e W => k ≤ n ∧ (n ≠ 0 → 1 ≤ k) ∧ e.size = 48 ∧ Ext h W ∧ h.size < W.size ∧ W.get h.size = .cells (rv (bz n k)) 1 ∧ e.get 7 = .slice (some ⟨h.size, 0, none⟩) n n ∧ e.get 8 = .int .i64 (k : Int)) (fun k => n - k) (min 1 n) ?_ ?_
 ·exact ⟨by omega, by omega, by simp +decide only [go_sem], x2, by omega, z2, by simp +decide only [go_sem], by simp +decide only [go_sem]⟩
 rintro k e W ⟨hk, hk1, hsz, xW, hW, gW, e7, e8⟩ next
 by_cases hkn : (k : Int) < (n : Int)
 ·have hk0 := hk1 (by omega)
  have r1 := irsl_tail_own (l := k) (N := n) gW (by omega) (by simp [big]; omega)
  have r2 := irsl_head_own (u := k) (N := n) gW hk (by omega) (by simp [big]; omega)
  have isW : islice W 1 (.slice (some ⟨h.size, 0, none⟩) k n) = some (rv (List.replicate k 32)) := by
   have hl := bz_length hk
   simp only [islice, Heap.look, gW, Blk.read]
   rw [if_pos ⟨trivial, by omega⟩, List.drop_zero, Nat.mul_one, rv_take]
   unfold bz
   rw [List.take_append_of_le_length (by simp), List.take_of_length_le (by simp)]
  have cp2 := icp_ok (low := h.size) (o := k) (n := n - k) gW (Nat.le_refl _) isW (by simp [rv_length]) (by rw [bz_length hk]; omega)
  obtain ⟨w3, e3, x3, hs3, z3, k3⟩ := put1 xW (Nat.le_refl h.size) (.cells (splice (rv (bz n k)) k ((rv (List.replicate k 32)).take (min k (n - k)))) 1)
  rw [e3] at cp2
  rw [rv_take, List.take_replicate, show min (min k (n - k)) k = min k (n - k) by omega, bz_more (by omega)] at z3
  have i1 : IntKind.i64.wrap ((k : Int) + ((min k (n - k) : Nat) : Int)) = ((k + min k (n - k) : Nat) : Int) := iadd (by omega)
  simp +decide only [go_sem, W_region, Wx_some, hsz, e7, e8, hkn, r1, r2, cp2, i1]
  exact next (k + min k (n - k)) _ _ ⟨by omega, by omega, by simp +decide only [go_sem, hsz], x3, by omega, z3, by simp +decide only [go_sem, hsz, e7], by simp +decide only [go_sem, hsz]⟩ (by omega)
 ·have hkn' : k = n := by omega
  subst hkn'
  simp +decide only [go_sem, W_region, Wx_some, hsz, e7, e8, hkn]
  refine ⟨_, _, rfl, ?_⟩
  have e : bz k k = List.replicate k 32 := by simp [bz]
  rw [e] at gW
  exact Sl.made hW gW (by simp [rv_length]) (by simp [big]; omega)
theorem count2_run (x y : Nat) (h : Heap) {b : Nat} (hg : h.get b = .cells [.int .i64 (x : Int), .int .i64 (y : Int)] 1) (hb : b < h.size) (h1 : 1 ≤ x) (hx : x ≤ 100000) (hy : y ≤ 100000) :
  Runs K f_array_Count #[.slice (some ⟨b, 0, none⟩) 2 2] h fun r w => h = w ∧ r = .tuple #[.int .i64 (if ok2 x y = true then ((x * y : Nat) : Int) else 0), .bool (ok2 x y)] := by
 refine Runs.of Kok (Does.intro rfl (by decide +kernel) F_array_Count rfl ?_)
 have q1 : ¬ (x : Int) < 0 := by omega
 have q2 : IntKind.i64.wrap ((4096 : Int).tdiv 1) = 4096 := rfl
 have q4 : ¬ (x : Int) = 0 := by omega
 have q5 : max (1 : Int) (x : Int) = (x : Int) := by omega
 have q6 : IntKind.i64.wrap (1 * (x : Int)) = (x : Int) := by rw [wrap_i64 (by omega) (by omega)]; omega
 have q7 : IntKind.i64.wrap 1 = 1 := rfl
 have q8 : IntKind.i64.wrap 2 = 2 := rfl
 have p1 : ¬ (y : Int) < 0 := by omega
 have p2 : IntKind.i64.wrap ((4096 : Int).tdiv (x : Int)) = ((4096 / x : Nat) : Int) := by
  have hd : 4096 / x ≤ 4096 := Nat.div_le_self _ _
  have e : (4096 : Int).tdiv (x : Int) = ((4096 / x : Nat) : Int) := by
   rw [Int.tdiv_eq_ediv_of_nonneg (by omega), Int.natCast_ediv]
   rfl
  rw [e]
  generalize 4096 / x = q at *
  exact wrap_i64 (by omega) (by omega)
 have at1 : ([Value.int .i64 (x : Int), Value.int .i64 (y : Int)] : List Value)[1]? = some (.int .i64 (y : Int)) := rfl
 simp +decide only [go_sem, W_region, Wx_some]
 rw [W_round]
 by_cases c1 : (4096 : Int) < (x : Int)
 ·simp +decide only [go_sem, W_region, Wx_some, hg, q1, ibinop_quo (show (1 : Int) ≠ 0 by omega), q2, c1]
  have : ok2 x y = false := by
   simp only [ok2, Bool.and_eq_false_iff, decide_eq_false_iff_not]
   omega
  rw [this]
  simp
 simp +decide only [go_sem, W_region, Wx_some, hg, q1, ibinop_quo (show (1 : Int) ≠ 0 by omega), q2, c1, q4, q5, q6, q7]
 rw [W_round]
 by_cases c2 : ((4096 / x : Nat) : Int) < (y : Int)
 ·simp +decide only [go_sem, W_region, Wx_some, hg, at1, show Int.toNat 1 = 1 from rfl, p1, ibinop_quo (show (x : Int) ≠ 0 by omega), p2, c2]
  have : ok2 x y = false := by
   simp only [ok2, Bool.and_eq_false_iff, decide_eq_false_iff_not]
   omega
  rw [this]
  simp
 have ho : ok2 x y = true := by
  simp only [ok2, Bool.and_eq_true, decide_eq_true_eq]
  omega
 have hxy : x * y ≤ 4096 := by
  have h1 : y ≤ 4096 / x := by omega
  have := Nat.mul_le_mul_left x h1
  have h2 := Nat.mul_div_le 4096 x
  omega
 rw [ho]
 by_cases y0 : (y : Int) = 0
 ·have p5 : max (1 : Int) (y : Int) = 1 := by omega
  have p6 : IntKind.i64.wrap ((x : Int) * 1) = (x : Int) := by rw [wrap_i64 (by omega) (by omega)]; omega
  simp +decide only [go_sem, W_region, Wx_some, hg, at1, show Int.toNat 1 = 1 from rfl, p1, ibinop_quo (show (x : Int) ≠ 0 by omega), p2, c2, eq_true y0, p5, p6, q8]
  rw [W_round]
  simp +decide only [go_sem, W_region, Wx_some, hg]
  have : y = 0 := by omega
  subst this
  simp
 ·have p5 : max (1 : Int) (y : Int) = (y : Int) := by omega
  have p6 : IntKind.i64.wrap ((x : Int) * (y : Int)) = ((x * y : Nat) : Int) := by
   rw [← Int.natCast_mul]
   exact wrap_i64 (by omega) (by omega)
  simp +decide only [go_sem, W_region, Wx_some, hg, at1, show Int.toNat 1 = 1 from rfl, p1, ibinop_quo (show (x : Int) ≠ 0 by omega), p2, c2, y0, p5, p6, q8]
  rw [W_round]
  simp +decide only [go_sem, W_region, Wx_some, hg]
end Go.Proofs.YtachkofbmodnnaaGreatDoor.M8
namespace Go.Proofs.YtachkofbmodnnaaGreatDoor.M11
open Go Go.Im Go.Im.Limbs Go.Im.Lexing Go.Im.Heads Go.Im.Editing Go.Im.Defn Go.Proofs Go.RowKit Hd N19 H2 H3 H4 H5 H7 D2 D3 D4
set_option maxRecDepth 100000
theorem wide (s : ByteArray) (pos : Nat) (h : pos < s.size) : 1 ≤ (Utf8.decode s pos).2 := by
 by_cases ha : (s[pos]'h).toNat < 128
 ·rw [Go.decode_ascii s pos h ha]
  exact Nat.le_refl _
 ·exact (Go.decode_high s pos h (by omega)).2
theorem runesL_end (s : ByteArray) {f i : Nat} (h : s.size ≤ i) : runesL s f i = [] := by
 cases f with
 | zero => rfl
 | succ f => rw [runesL, if_neg (by omega)]
theorem runesL_more (s : ByteArray) {f i : Nat} (h : i < s.size) (hf : s.size ≤ i + f) : (runesL s f i).length = 1 + (runesL s (f - 1) (i + (Utf8.decode s i).2)).length := by
 obtain ⟨g, rfl⟩ : ∃ g, f = g + 1 := ⟨f - 1, by omega⟩
 rw [runesL, if_pos h, List.length_cons, Nat.add_sub_cancel]
 omega
theorem count_run (s : ByteArray) (h : Heap) (hm : s.size ≤ 1000000) : Runs K f_unicode_utf8_RuneCountInString #[.string s] h fun r w => r = .int .i64 (((runesI s).length : Nat) : Int) := by
 refine Runs.of Kok (Does.intro rfl (by decide +kernel) F_unicode_utf8_RuneCountInString rfl ?_)
 obtain ⟨w0, e0, x0, hs0, z0⟩ := lay1 h (.siter s 0)
 have hlen := runesI_len s
 simp +decide only [go_sem, W_region, Wx_some, e0]
 refine W_loop (α := Nat × Nat × Nat) (fun k e w => e.size = 10 ∧ Ext h w ∧ h.size < w.size ∧ w.get h.size = .siter s k.1 ∧ e.get 2 = .int .i64 (k.2.1 : Int) ∧ e.get 4 = .pointer (some ⟨h.size, 0, none⟩) ∧ s.size ≤ k.1 + k.2.2 ∧ (runesI s).length = k.2.1 + (runesL s k.2.2 k.1).length)
  (fun k => s.size - k.1) (0, 0, s.size) ?_ ?_
 ·exact ⟨by simp +decide only [go_sem], x0, by omega, z0, by simp +decide only [go_sem]; rfl, by simp +decide only [go_sem], by simp, by simp [runesI]⟩
 rintro ⟨pos, n, f⟩ e w ⟨hsz, hxw, hws, g0, e2, e4, hf, hn⟩ next
 simp only at g0 e2 hf hn
 by_cases hp : pos < s.size
 ·have hw := wide s pos hp
  obtain ⟨w1, e1', x1, hs1, g1, k1⟩ := put1 hxw (Nat.le_refl _) (.siter s (pos + (Utf8.decode s pos).2))
  rw [runesL_more s hp hf] at hn
  have n1 : IntKind.i64.wrap ((n : Int) + 1) = ((n + 1 : Nat) : Int) := by rw [wrap_i64 (by omega) (by omega)]; omega
  simp +decide only [go_sem, W_region, Wx_some, hsz, e2, e4, g0, inxt_more (Nat.le_refl _) hp, e1', n1]
  exact next (pos + (Utf8.decode s pos).2, n + 1, f - 1) _ _ ⟨by simp +decide only [go_sem, hsz], x1, by omega, g1, by simp +decide only [go_sem, hsz], by simp +decide only [go_sem, hsz, e4], by simp only; omega, by simp only; omega⟩ (by simp only; omega)
 ·have hpe : s.size ≤ pos := by omega
  rw [runesL_end s hpe] at hn
  simp +decide only [go_sem, W_region, Wx_some, hsz, e2, e4, g0, inxt_end (Nat.le_refl _) hpe]
  rw [hn]
  simp
end Go.Proofs.YtachkofbmodnnaaGreatDoor.M11
namespace Go.Im.Arrays
open Go Go.Im Go.Im.Lexing Go.Im.Defn
def wideT (l : List ByteArray) : Nat := l.foldl (fun m y => max m (runesI y).length) 0
theorem wideT_snoc (l : List ByteArray) (y : ByteArray) : wideT (l ++ [y]) = max (wideT l) (runesI y).length := by simp [wideT]
theorem fold_max : ∀ (l : List ByteArray) (m : Nat), m ≤ l.foldl (fun m y => max m (runesI y).length) m ∧ ∀ y ∈ l, (runesI y).length ≤ l.foldl (fun m y => max m (runesI y).length) m
 | [], m => ⟨Nat.le_refl _, by simp⟩
 | z :: l, m => by
   obtain ⟨h1, h2⟩ := fold_max l (max m (runesI z).length)
   refine ⟨by simp only [List.foldl_cons]; omega, fun y hy => ?_⟩
   simp only [List.foldl_cons]
   rcases List.mem_cons.1 hy with rfl | hy
   ·omega
   ·exact h2 y hy
theorem wideT_ge {l : List ByteArray} {y : ByteArray} (h : y ∈ l) : (runesI y).length ≤ wideT l := (fold_max l 0).2 y h
theorem fold_max_le {n : Nat} : ∀ (l : List ByteArray) (m : Nat), m ≤ n → (∀ y ∈ l, (runesI y).length ≤ n) → l.foldl (fun m y => max m (runesI y).length) m ≤ n
 | [], m, h, _ => h
 | z :: l, m, h, hz => fold_max_le l _ (Nat.max_le.2 ⟨h, hz z (by simp)⟩) fun y hy => hz y (by simp [hy])
theorem wideT_le {l : List ByteArray} {n : Nat} (h : ∀ y ∈ l, (runesI y).length ≤ n) : wideT l ≤ n := fold_max_le l 0 (Nat.zero_le _) h
def padI (W : Nat) (y : ByteArray) : List Int := runesI y ++ List.replicate (W - (runesI y).length) 32
theorem padI_length {W : Nat} {y : ByteArray} (h : (runesI y).length ≤ W) : (padI W y).length = W := by simp [padI]; omega
def charsT (W : Nat) (l : List ByteArray) : List Int := l.flatMap (padI W)
theorem charsT_snoc (W : Nat) (l : List ByteArray) (y : ByteArray) : charsT W (l ++ [y]) = charsT W l ++ padI W y := by simp [charsT]
theorem charsT_length {W : Nat} : ∀ {l : List ByteArray}, (∀ y ∈ l, (runesI y).length ≤ W) → (charsT W l).length = l.length * W
 | [], _ => by simp [charsT]
 | z :: l, h => by
   have h1 := charsT_length (l := l) fun y hy => h y (by simp [hy])
   have h2 := padI_length (h z (by simp))
   simp only [charsT, List.flatMap_cons, List.length_append, List.length_cons, Nat.add_mul, Nat.one_mul] at h1 ⊢
   omega
theorem charsT_row {W : Nat} : ∀ {l : List ByteArray} {i : Nat} {y : ByteArray}, (∀ y ∈ l, (runesI y).length ≤ W) → l[i]? = some y → ((charsT W l).drop (i * W)).take W = padI W y
 | [], i, y, _, h => by simp at h
 | z :: l, 0, y, hl, h => by
   cases h
   have h2 := padI_length (hl z (by simp))
   simp only [charsT, List.flatMap_cons, Nat.zero_mul, List.drop_zero]
   rw [List.take_append_of_le_length (by omega), List.take_of_length_le (by omega)]
 | z :: l, i + 1, y, hl, h => by
   have h1 := charsT_row (l := l) (i := i) (fun y hy => hl y (by simp [hy])) (by simpa using h)
   have h2 := padI_length (hl z (by simp))
   rw [← h1]
   simp only [charsT, List.flatMap_cons]
   rw [List.drop_append, List.drop_of_length_le (by rw [h2, Nat.add_mul]; omega), List.nil_append, h2, show (i + 1) * W - W = i * W by rw [Nat.add_mul]; omega]
def tcells (xs : List ByteArray) (i : Nat) : List Value := sv (xs.take i) ++ List.replicate (xs.length - i) (.string ByteArray.empty)
theorem tcells_put {xs : List ByteArray} {i : Nat} {x : ByteArray} (h : xs[i]? = some x) : (tcells xs i).take i ++ [.string x] ++ (tcells xs i).drop (i + 1) = tcells xs (i + 1) := by
 have hi := (List.getElem?_eq_some_iff.1 h).1
 have hl : (sv (xs.take i)).length = i := by simp [sv]; omega
 unfold tcells
 rw [List.take_append_of_le_length (by omega), List.take_of_length_le (by omega), List.drop_append, List.drop_of_length_le (by omega), hl, List.take_add_one, h, show i + 1 - i = 1 by omega, show xs.length - i = (xs.length - (i + 1)) + 1 by omega]
 simp [sv, List.replicate_succ]
theorem tcells_len (xs : List ByteArray) {i : Nat} (h : i ≤ xs.length) : (tcells xs i).length = xs.length := by simp [tcells, sv]; omega
end Go.Im.Arrays
namespace Go.Proofs.YtachkofbmodnnaaGreatDoor.M9
open Go Go.Im Go.Im.Limbs Go.Im.Lexing Go.Im.Heads Go.Im.Editing Go.Im.Defn Go.Im.Arrays Go.Proofs Go.RowKit Hd H2 H3 H5 D2 D4 M8 M11
set_option maxRecDepth 100000
theorem achars_run (x y : Nat) (tx : List Int) (h : Heap) {b : Nat} {a1 : Option Addr} {c1 : Nat} (hg : h.get b = .cells [.int .i64 (x : Int), .int .i64 (y : Int)] 1) (hb : b < h.size) (s : Sl h 1 a1 tx.length c1 (rv tx)) (h1 : 1 ≤ x) (hx : x ≤ 1000) (hy : y ≤ 1000) (hl : tx.length = x * y) :
  Runs K f_array_Chars #[.slice (some ⟨b, 0, none⟩) 2 2, .slice a1 tx.length c1] h fun r w => ∃ v, r = .tuple #[v, .bool (ok2 x y)] ∧ (ok2 x y = true → AV w v [(x : Int), (y : Int)] tx) ∧ (ok2 x y = false → v = azero) := by
 refine Runs.of Kok (Does.intro rfl (by decide +kernel) F_array_Chars rfl ?_)
 obtain ⟨w1, e1, x1, hs1, z1⟩ := lay1 h (.cells [.slice none 0 0, .bool false, .slice none 0 0, .slice none 0 0, .bool false] 5)
 have j0 : h.size ≤ h.size := Nat.le_refl _
 have hg1 : w1.get b = _ := (x1.2 _ hb).trans hg
 simp +decide only [go_sem, W_region, Wx_some, e1]
 refine W_call Kok x1.1 (count2_run x y w1 hg1 (by omega) h1 (by omega) (by omega)) fun r w x' hr => ?_
 obtain ⟨hw, rfl⟩ := hr
 subst hw
 have hxy : tx.length ≤ 1000000 := by
  rw [hl]
  exact Nat.le_trans (Nat.mul_le_mul hx hy) (by decide)
 cases ho : ok2 x y
 ·obtain ⟨w2, e2, x2, hs2, z2, k2⟩ := put1 x1 (Nat.le_refl h.size) (.cells [.slice none 0 0, .bool false, .slice none 0 0, .slice none 0 0, .bool false] 5)
  simp +decide only [go_sem, W_region, Wx_some, z1, j0, e2, z2]
  exact ⟨_, rfl, fun hh => (by cases hh), fun _ => rfl⟩
 ·have hn : ((tx.length : Nat) : Int) = ((x * y : Nat) : Int) := by rw [hl]
  simp +decide only [go_sem, W_region, Wx_some, hn]
  refine W_call Kok x1.1 (clonei_run w1 (n := 2) (xs := iv [(x : Int), (y : Int)]) (.inr (.inr ⟨b, 0, _, rfl, by omega, by omega, by rw [hg1]; rfl, by simp, by simp [iv], .inl ⟨Nat.le_refl _, by simp [big]⟩⟩)) (by omega)) fun r w2 x2 hr => ?_
  obtain ⟨sa, sc, rfl, ss⟩ := hr
  simp +decide only [go_sem, W_region, Wx_some]
  refine W_call Kok (x1.trans x2).1 (cloner_run w2 (s.ext (x1.trans x2)) hxy) fun r w3 x3 hr => ?_
  obtain ⟨ta, tc, rfl, ts⟩ := hr
  have x13 := x1.trans (x2.trans x3)
  have z3 : w3.get h.size = _ := ((x2.trans x3).2 _ (by omega)).trans z1
  obtain ⟨w4, e4, x4, hs4, z4, k4⟩ := put1 x13 (Nat.le_refl h.size) (.cells [.slice sa 2 sc, .bool true, .slice ta tx.length tc, .slice none 0 0, .bool true] 5)
  simp +decide only [go_sem, W_region, Wx_some, z3, j0, e4, z4]
  refine ⟨_, rfl, fun _ => ⟨sa, sc, ta, tc, rfl, ?_, ?_⟩, fun hh => (by cases hh)⟩
  ·exact sl_put (ss.ext x3) z3 (by omega) e4
  ·exact sl_put ts z3 (by omega) e4
theorem shape_run (shape tx : List Int) (h : Heap) {v : Value} (V : AV h v shape tx) (hn : shape.length ≤ 1000) : Runs K f_array_Array_Shape #[v] h fun r w => ∃ a c, r = .slice a shape.length c ∧ Sl w 1 a shape.length c (iv shape) := by
 obtain ⟨a, c, a1, c1, rfl, s1, s2⟩ := V
 refine Runs.of Kok (Does.intro rfl (by decide +kernel) F_array_Array_Shape rfl ?_)
 obtain ⟨w1, e1, x1, hs1, z1⟩ := lay1 h (.cells [.slice a shape.length c, .bool true, .slice a1 tx.length c1, .slice none 0 0, .bool true] 5)
 simp +decide only [go_sem, W_region, Wx_some, e1, z1]
 refine W_call Kok x1.1 (clonei_run w1 (s1.ext x1) (by omega)) fun r w2 x2 hr => ?_
 obtain ⟨sa, sc, rfl, ss⟩ := hr
 simp +decide only [go_sem, W_region, Wx_some]
 exact ⟨_, _, rfl, ss⟩
theorem shape0_run (h : Heap) : Runs K f_array_Array_Shape #[azero] h fun r w => ∃ b, r = .slice (some ⟨b, 0, none⟩) 1 1 ∧ b < w.size ∧ w.get b = .cells [.int .i64 0] 1 := by
 refine Runs.of Kok (Does.intro rfl (by decide +kernel) F_array_Array_Shape rfl ?_)
 obtain ⟨w1, e1, x1, hs1, z1⟩ := lay1 h (.cells [.slice none 0 0, .bool false, .slice none 0 0, .slice none 0 0, .bool false] 5)
 obtain ⟨w2, e2, x2, hs2, z2⟩ := lay1 w1 (.cells [.int .i64 0] 1)
 simp +decide only [go_sem, W_region, Wx_some, azero, e1, z1, e2]
 exact ⟨_, rfl, by omega, z2⟩
theorem rank_run (shape tx : List Int) (h : Heap) {v : Value} (V : AV h v shape tx) (hn : shape.length ≤ 1000) : Runs K f_array_Array_Rank #[v] h fun r w => r = .int .i64 ((shape.length : Nat) : Int) := by
 have V0 := V
 obtain ⟨a, c, a1, c1, rfl, s1, s2⟩ := V0
 refine Runs.of Kok (Does.intro rfl (by decide +kernel) F_array_Array_Rank rfl ?_)
 obtain ⟨w1, e1, x1, hs1, z1⟩ := lay1 h (.cells [.slice a shape.length c, .bool true, .slice a1 tx.length c1, .slice none 0 0, .bool true] 5)
 simp +decide only [go_sem, W_region, Wx_some, e1, z1]
 refine W_call Kok x1.1 (shape_run shape tx w1 (V.ext x1) hn) fun r w2 x2 hr => ?_
 obtain ⟨sa, sc, rfl, ss⟩ := hr
 simp +decide only [go_sem, W_region, Wx_some]
theorem ischar_run (shape tx : List Int) (h : Heap) {v : Value} (V : AV h v shape tx) : Runs K f_array_Array_IsChar #[v] h fun r w => r = .bool true := by
 obtain ⟨a, c, a1, c1, rfl, s1, s2⟩ := V
 refine Runs.of Kok (Does.intro rfl (by decide +kernel) F_array_Array_IsChar rfl ?_)
 obtain ⟨w1, e1, x1, hs1, z1⟩ := lay1 h (.cells [.slice a shape.length c, .bool true, .slice a1 tx.length c1, .slice none 0 0, .bool true] 5)
 simp +decide only [go_sem, W_region, Wx_some, e1, z1]
theorem alen_run (shape tx : List Int) (h : Heap) {v : Value} (V : AV h v shape tx) (hn : tx.length ≤ 1000000) : Runs K f_array_Array_Len #[v] h fun r w => r = .int .i64 ((tx.length : Nat) : Int) := by
 obtain ⟨a, c, a1, c1, rfl, s1, s2⟩ := V
 refine Runs.of Kok (Does.intro rfl (by decide +kernel) F_array_Array_Len rfl ?_)
 obtain ⟨w1, e1, x1, hs1, z1⟩ := lay1 h (.cells [.slice a shape.length c, .bool true, .slice a1 tx.length c1, .slice none 0 0, .bool true] 5)
 have i1 : IntKind.i64.wrap (((tx.length : Nat) : Int) + ((0 : Nat) : Int)) = ((tx.length : Nat) : Int) := by rw [wrap_i64 (by omega) (by omega)]; omega
 simp +decide only [go_sem, W_region, Wx_some, e1, z1, i1]
theorem arunes_run (shape tx : List Int) (h : Heap) {v : Value} (V : AV h v shape tx) (hn : tx.length ≤ 1000000) : Runs K f_array_Array_Runes #[v] h fun r w => ∃ a c, r = .slice a tx.length c ∧ Sl w 1 a tx.length c (rv tx) := by
 obtain ⟨a, c, a1, c1, rfl, s1, s2⟩ := V
 refine Runs.of Kok (Does.intro rfl (by decide +kernel) F_array_Array_Runes rfl ?_)
 obtain ⟨w1, e1, x1, hs1, z1⟩ := lay1 h (.cells [.slice a shape.length c, .bool true, .slice a1 tx.length c1, .slice none 0 0, .bool true] 5)
 simp +decide only [go_sem, W_region, Wx_some, e1, z1]
 refine W_call Kok x1.1 (cloner_run w1 (s2.ext x1) hn) fun r w2 x2 hr => ?_
 obtain ⟨sa, sc, rfl, ss⟩ := hr
 simp +decide only [go_sem, W_region, Wx_some]
 exact ⟨_, _, rfl, ss⟩
theorem iequal0_run (h : Heap) {b b2 : Nat} (hg : h.get b = .cells [.int .i64 0] 1) (hg2 : h.get b2 = .cells [.int .i64 0] 1) : Runs K f_slices_Equal_int_int #[.slice (some ⟨b, 0, none⟩) 1 1, .slice (some ⟨b2, 0, none⟩) 1 1] h fun r w => h = w ∧ r = .bool true := by
 refine Runs.of Kok (Does.intro rfl (by decide +kernel) F_slices_Equal_int_int rfl ?_)
 have q7 : IntKind.i64.wrap 1 = 1 := rfl
 simp +decide only [go_sem, W_region, Wx_some]
 rw [W_round]
 simp +decide only [go_sem, W_region, Wx_some, hg, hg2, q7]
 rw [W_round]
 simp +decide only [go_sem, W_region, Wx_some]
theorem requal0_run (h : Heap) : Runs K f_slices_Equal_rune_rune #[.slice none 0 0, .slice none 0 0] h fun r w => h = w ∧ r = .bool true := by
 refine Runs.of Kok (Does.intro rfl (by decide +kernel) F_slices_Equal_rune_rune rfl ?_)
 simp +decide only [go_sem, W_region, Wx_some]
 rw [W_round]
 simp +decide only [go_sem, W_region, Wx_some]
theorem fequal0_run (f : Value) (h : Heap) : Runs K f_slices_EqualFunc_ratio_Rat_ratio_Rat_ratio_Rat_ratio_Rat #[.slice none 0 0, .slice none 0 0, f] h fun r w => h = w ∧ r = .bool true := by
 refine Runs.of Kok (Does.intro rfl (by decide +kernel) F_slices_EqualFunc_ratio_Rat_ratio_Rat_ratio_Rat_ratio_Rat rfl ?_)
 simp +decide only [go_sem, W_region, Wx_some]
 rw [W_round]
 simp +decide only [go_sem, W_region, Wx_some]
theorem asame0_run (h : Heap) : Runs K f_array_Same #[azero, azero] h fun r w => r = .bool true := by
 refine Runs.of Kok (Does.intro rfl (by decide +kernel) F_array_Same rfl ?_)
 obtain ⟨w0, e0, x0, hs0, z0, y0⟩ := lay2 h (.cells [.slice none 0 0, .bool false, .slice none 0 0, .slice none 0 0, .bool false] 5) (.cells [.slice none 0 0, .bool false, .slice none 0 0, .slice none 0 0, .bool false] 5)
 have sh := fun w : Heap => shape0_run w
 simp only [azero] at sh
 simp +decide only [go_sem, W_region, Wx_some, azero, e0, z0, y0]
 refine W_call Kok x0.1 (sh w0) fun r w1 x1 hr => ?_
 obtain ⟨b1, rfl, hb1, g1⟩ := hr
 have y1 : w1.get (h.size + 1) = _ := (x1.2 _ (by omega)).trans y0
 simp +decide only [go_sem, W_region, Wx_some, y1]
 refine W_call Kok (x0.trans x1).1 (sh w1) fun r w2 x2 hr => ?_
 obtain ⟨b2, rfl, hb2, g2⟩ := hr
 simp +decide only [go_sem, W_region, Wx_some]
 refine W_call Kok (x0.trans (x1.trans x2)).1 (iequal0_run w2 ((x2.2 _ hb1).trans g1) g2) fun r w x hr => ?_
 obtain ⟨hw, rfl⟩ := hr
 subst hw
 have z2 : w2.get h.size = _ := ((x1.trans x2).2 _ (by omega)).trans z0
 have y2 : w2.get (h.size + 1) = _ := ((x1.trans x2).2 _ (by omega)).trans y0
 simp +decide only [go_sem, W_region, Wx_some, z2, y2]
 refine W_call Kok (x0.trans (x1.trans x2)).1 (requal0_run w2) fun r w x hr => ?_
 obtain ⟨hw, rfl⟩ := hr
 subst hw
 simp +decide only [go_sem, W_region, Wx_some, z2, y2]
 refine W_call Kok (x0.trans (x1.trans x2)).1 (fequal0_run _ w2) fun r w x hr => ?_
 obtain ⟨hw, rfl⟩ := hr
 subst hw
 simp +decide only [go_sem, W_region, Wx_some]
theorem dchars_run (d : DefT) (h : Heap) {v : Value} (V : DV h v d) (G : Heads.Good d.hd) (hm : d.lines.length ≤ 300) (hz : ∀ y ∈ rowsT d, y.size ≤ 100000) (hw : ∀ y ∈ rowsT d, (runesI y).length ≤ 512) :
  Runs K f_defn_Defn_Chars #[v] h fun r w => ∃ u, r = .tuple #[u, .bool (ok2 (rowsT d).length (wideT (rowsT d)))] ∧ (ok2 (rowsT d).length (wideT (rowsT d)) = true → AV w u [((rowsT d).length : Int), (wideT (rowsT d) : Int)] (charsT (wideT (rowsT d)) (rowsT d))) ∧ (ok2 (rowsT d).length (wideT (rowsT d)) = false → u = azero) := by
 have V0 := V
 obtain ⟨a, c, a1, c1, a2, c2, rfl, s1, s2, s3⟩ := V0
 refine Runs.of Kok (Does.intro rfl (by decide +kernel) F_defn_Defn_Chars rfl ?_)
 obtain ⟨w1, e1, x1, hs1, z1, y1⟩ := lay2 h (.cells (dl d.hd (.slice a d.hd.ls.length c) (.slice a1 d.lines.length c1) (.slice a2 d.labels.length c2)) 7) (.cells [.slice none 0 0, .bool false, .slice none 0 0, .slice none 0 0, .bool false] 5)
 have dr := fun (w : Heap) (k : Ext w1 w) => drows_run d w (V.ext (x1.trans k)) G (by omega)
 simp only [dl] at e1 z1 dr
 have hl := rows_len d
 generalize hR : rowsT d = R at *
 have hW512 : wideT R ≤ 512 := wideT_le hw
 simp +decide only [go_sem, W_region, Wx_some, dl, e1, z1]
 refine W_call Kok x1.1 (dr w1 (Ext.refl _)) fun r w2 x2 hr => ?_
 obtain ⟨ra, rc, rfl, s⟩ := hr
 simp +decide only [go_sem, W_region, Wx_some]
 refine W_loop (α := Nat) (fun i e w => i ≤ R.length ∧ e.size = 52 ∧ Ext w2 w ∧ e.get 1 = .pointer (some ⟨h.size, 0, none⟩) ∧ e.get 2 = .pointer (some ⟨h.size + 1, 0, none⟩) ∧ e.get 4 = .int .i64 ((wideT (R.take i) : Nat) : Int) ∧ e.get 12 = .slice ra R.length rc ∧ e.get 13 = .int .i64 ((R.length : Nat) : Int) ∧ e.get 14 = .int .i64 (i : Int)) (fun i => R.length - i) 0 ?_ ?_
 ·exact ⟨Nat.zero_le _, by simp +decide only [go_sem], Ext.refl _, by simp +decide only [go_sem], by simp +decide only [go_sem], by simp +decide only [go_sem]; rfl, by simp +decide only [go_sem], by simp +decide only [go_sem], by simp +decide only [go_sem]; rfl⟩
 rintro i e w ⟨hi, hsz, xw, e1', e2', e4, e12, e13, e14⟩ next
 by_cases hil : (i : Int) < ((R.length : Nat) : Int)
 ·obtain ⟨b, o, cs, rfl, q2, q3, q4⟩ := text_at (s.ext xw) (i := i) (by omega)
  obtain ⟨y, hy⟩ : ∃ y, y = R[i] := ⟨_, rfl⟩
  have hyi : R[i]? = some y := by rw [hy]; exact List.getElem?_eq_getElem (by omega)
  rw [← hy] at q4
  have hyz := hz y (List.mem_of_getElem? hyi)
  have hrl := runesI_len y
  have mx : max ((wideT (R.take i) : Nat) : Int) (((runesI y).length : Nat) : Int) = ((wideT (R.take (i + 1)) : Nat) : Int) := by
   rw [List.take_add_one, hyi, Option.toList_some, wideT_snoc]
   omega
  have c0 : (0 : Int) ≤ (i : Int) := by omega
  have i1 : IntKind.i64.wrap ((i : Int) + 1) = ((i + 1 : Nat) : Int) := by rw [wrap_i64 (by omega) (by omega)]; omega
  simp +decide only [go_sem, W_region, Wx_some, hsz, e4, e12, e13, e14, hil, c0, Int.toNat_natCast, q3, q4]
  refine W_call Kok ((x1.trans x2).trans xw).1 (count_run y w (by omega)) fun r w3 x3 hr => ?_
  subst hr
  simp +decide only [go_sem, W_region, Wx_some, hsz, e4, e12, e13, e14, mx, i1]
  exact next (i + 1) _ _ ⟨by omega, by simp +decide only [go_sem, hsz], xw.trans x3, by simp +decide only [go_sem, hsz, e1'], by simp +decide only [go_sem, hsz, e2'], by simp +decide only [go_sem, hsz], by simp +decide only [go_sem, hsz, e12], by simp +decide only [go_sem, hsz, e13], by simp +decide only [go_sem, hsz]⟩ (by omega)
 have hie : i = R.length := by omega
 subst hie
 rw [List.take_length] at e4
 have z2 : w.get h.size = _ := ((x2.trans xw).2 _ (by omega)).trans z1
 simp +decide only [go_sem, W_region, Wx_some, hsz, e1', e2', e4, e12, e13, e14, hil, z2]
 clear next
 refine W_call Kok ((x1.trans x2).trans xw).1 (dr w (x2.trans xw)) fun r wB xB hr => ?_
 obtain ⟨ua, uc, rfl, t⟩ := hr
 have K0 := (x1.trans x2).trans (xw.trans xB)
 have KB := x2.trans (xw.trans xB)
 obtain ⟨W, hWd⟩ : ∃ W, W = wideT R := ⟨_, rfl⟩
 rw [← hWd] at e4 hW512 ⊢
 have hwR : ∀ y ∈ R, (runesI y).length ≤ W := fun y hy => by rw [hWd]; exact wideT_ge hy
 simp +decide only [go_sem, W_region, Wx_some, hsz, e1', e2', e4]
 refine W_loop (α := Nat × Value) (fun k f w => k.1 ≤ R.length ∧ f.size = 52 ∧ Ext wB w ∧ f.get 1 = .pointer (some ⟨h.size, 0, none⟩) ∧ f.get 2 = .pointer (some ⟨h.size + 1, 0, none⟩) ∧ f.get 4 = .int .i64 ((W : Nat) : Int) ∧ f.get 7 = k.2 ∧ Own wB.size w 1 k.2 (charsT W (R.take k.1)).length (rv (charsT W (R.take k.1))) ∧
  f.get 24 = .slice ua R.length uc ∧ f.get 25 = .int .i64 ((R.length : Nat) : Int) ∧ f.get 26 = .int .i64 (k.1 : Int)) (fun k => R.length - k.1) (0, .slice none 0 0) ?_ ?_
 ·exact ⟨Nat.zero_le _, by simp +decide only [go_sem, hsz], Ext.refl _, by simp +decide only [go_sem, hsz, e1'], by simp +decide only [go_sem, hsz, e2'], by simp +decide only [go_sem, hsz, e4], by simp +decide only [go_sem, hsz], Own.nil _ _ _, by simp +decide only [go_sem, hsz], by simp +decide only [go_sem, hsz], by simp +decide only [go_sem, hsz]; rfl⟩
 clear e4 e12 e13 e14 e1' e2' hil hi hsz
 rintro ⟨i, tv⟩ f w' ⟨hi, hsz, xw', f1, f2, f4, f7, own, f24, f25, f26⟩ next
 simp only at hi f7 own f26
 have htl : (charsT W (R.take i)).length = (R.take i).length * W := charsT_length fun y hy => hwR y (List.mem_of_mem_take hy)
 have htb : (charsT W (R.take i)).length ≤ 301 * 512 := by
  rw [htl]
  exact Nat.mul_le_mul (by rw [List.length_take]; omega) hW512
 by_cases hil : (i : Int) < ((R.length : Nat) : Int)
 ·obtain ⟨b, o, cs, rfl, q2, q3, q4⟩ := text_at (t.ext xw') (i := i) (by omega)
  obtain ⟨y, hy⟩ : ∃ y, y = R[i] := ⟨_, rfl⟩
  have hyi : R[i]? = some y := by rw [hy]; exact List.getElem?_eq_getElem (by omega)
  rw [← hy] at q4
  have hyW := hwR y (List.mem_of_getElem? hyi)
  have hT : charsT W (R.take (i + 1)) = charsT W (R.take i) ++ padI W y := by rw [List.take_add_one, hyi, Option.toList_some, charsT_snoc]
  generalize charsT W (R.take i) = T at *
  have hpy : padI W y = runesI y ++ List.replicate (W - (runesI y).length) 32 := rfl
  obtain ⟨L, rfl⟩ := text_of y
  obtain ⟨l, hl'⟩ : ∃ l, l = runesI (text L) := ⟨_, rfl⟩
  rw [← hl'] at hyW hpy
  obtain ⟨u1, g1, k1, hsu1, zu1⟩ := lay1 w' (.cells (rv l) 1)
  have ic := icvt_all (l := L) (h := w')
  rw [← hl', g1] at ic
  have t1 : Ln u1 (.slice (some ⟨w'.size, 0, none⟩) l.length big) l := Ln.new (by omega) zu1
  have is1 := t1.islice
  have jlo : h.size ≤ wB.size := K0.1
  obtain ⟨ta, tc, rfl⟩ := own.shape
  obtain ⟨a3, c3, u2, g2, own2, k2, _⟩ := own_any (low := h.size) (bytes := 4) (k := l.length) (new := rv l) jlo (xw'.trans k1) (own.ext k1) (by omega) (by rw [rv_length]; omega) (by omega) (by omega)
  obtain ⟨u3, g3, k3, hsu3, zu3⟩ := lay1 u2 (.cells [.int .i32 32] 1)
  have sb : IntKind.i64.wrap ((W : Int) - ((l.length : Nat) : Int)) = ((W - l.length : Nat) : Int) := by rw [wrap_i64 (by omega) (by omega)]; omega
  have c0 : (0 : Int) ≤ (i : Int) := by omega
  have i1 : IntKind.i64.wrap ((i : Int) + 1) = ((i + 1 : Nat) : Int) := by rw [wrap_i64 (by omega) (by omega)]; omega
  simp +decide only [go_sem, W_region, Wx_some, hsz, f4, f7, f24, f25, f26, hil, c0, Int.toNat_natCast, q3, q4, ic, is1, g2, g3, sb]
  refine W_call Kok (K0.trans (k2.trans k3)).1 (rep_run (W - l.length) u3 zu3 (by omega) (by omega)) fun r u4 k4 hr => ?_
  obtain ⟨pa, pc, rfl, sp⟩ := hr
  have isp := sp.isl
  obtain ⟨a5, c5, u5, g5, own5, k5, _⟩ := own_any (low := h.size) (bytes := 4) (k := W - l.length) (new := rv (List.replicate (W - l.length) 32)) jlo (k2.trans (k3.trans k4)) (own2.ext (k3.trans k4)) (by omega) (by simp [rv_length]) (by omega) (by omega)
  have hlen : (T ++ padI W (text L)).length = T.length + l.length + (W - l.length) := by rw [hpy]; simp; omega
  have hcs : rv (T ++ padI W (text L)) = rv T ++ rv l ++ rv (List.replicate (W - l.length) 32) := by rw [hpy, rv_append, rv_append, List.append_assoc]
  rw [← hlen, ← hcs] at own5
  simp +decide only [go_sem, W_region, Wx_some, hsz, isp, g5, f26, i1]
  exact next (i + 1, .slice a5 (T.length + l.length + (W - l.length)) c5) _ _ ⟨by simp only; omega, by simp +decide only [go_sem, hsz], k5, by simp +decide only [go_sem, hsz, f1], by simp +decide only [go_sem, hsz, f2], by simp +decide only [go_sem, hsz, f4], by simp +decide only [go_sem, hsz], by simp only [hT]; rw [← hlen]; exact own5, by simp +decide only [go_sem, hsz, f24], by simp +decide only [go_sem, hsz, f25], by simp +decide only [go_sem, hsz]⟩ (by simp only; omega)
 have hie : i = R.length := by omega
 subst hie
 rw [List.take_length] at own htl htb
 have z3 : w'.get h.size = _ := ((KB.trans xw').2 _ (by omega)).trans z1
 obtain ⟨ta, tc, rfl⟩ := own.shape
 have K1 := K0.trans xw'
 simp +decide only [go_sem, W_region, Wx_some, hsz, f1, f2, f4, f7, f24, f25, f26, hil, z3]
 refine W_call Kok K1.1 (dr w' (KB.trans xw')) fun r w4 x4 hr => ?_
 obtain ⟨va, vc, rfl, _⟩ := hr
 obtain ⟨w5, e5, x5, hs5, z5⟩ := lay1 w4 (.cells [.int .i64 ((R.length : Nat) : Int), .int .i64 ((W : Nat) : Int)] 1)
 have K5 := K1.trans (x4.trans x5)
 simp +decide only [go_sem, W_region, Wx_some, hsz, f4, f7, e5]
 refine W_call Kok K5.1 (achars_run R.length W (charsT W R) w5 z5 (by omega) (own.sl.ext (x4.trans x5)) (by omega) (by omega) (by omega) htl) fun r w6 x6 hr => ?_
 obtain ⟨u, rfl, hu1, hu2⟩ := hr
 have K6 := K5.trans x6
 have y6 : w6.get (h.size + 1) = _ := ((KB.trans (xw'.trans (x4.trans (x5.trans x6)))).2 _ (by omega)).trans y1
 have jq : h.size ≤ h.size + 1 := by omega
 cases ho : ok2 R.length W
 ·have := hu2 ho
  subst this
  obtain ⟨w7, e7, x7, hs7, z7, k7⟩ := put1 K6 jq (.cells [.slice none 0 0, .bool false, .slice none 0 0, .slice none 0 0, .bool false] 5)
  simp +decide only [go_sem, W_region, Wx_some, hsz, f2, azero, y6, jq, e7, z7]
  exact ⟨_, rfl, fun hh => (by cases hh), fun _ => rfl⟩
 ·obtain ⟨a6, c6, a7, c7, rfl, p1, p2⟩ := hu1 ho
  obtain ⟨w7, e7, x7, hs7, z7, k7⟩ := put1 K6 jq (.cells [.slice a6 2 c6, .bool true, .slice a7 (charsT W R).length c7, .slice none 0 0, .bool true] 5)
  simp +decide only [go_sem, W_region, Wx_some, hsz, f2, y6, jq, e7, z7]
  exact ⟨_, rfl, fun _ => ⟨a6, c6, a7, c7, rfl, sl_put p1 y6 (by omega) e7, sl_put p2 y6 (by omega) e7⟩, fun hh => (by cases hh)⟩
end Go.Proofs.YtachkofbmodnnaaGreatDoor.M9
