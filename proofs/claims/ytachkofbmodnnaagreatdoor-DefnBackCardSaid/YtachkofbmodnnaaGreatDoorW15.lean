/- Proved here: parts of the way to BDefnBack (BD1 BD2 BD3 BD4 BM0); no condition beyond those that each theorem names. -/
import Derived.Test.YtachkofbmodnnaaGreatDoorW14
set_option linter.unusedSimpArgs false
set_option linter.unusedVariables false
namespace Go.Im.Defn
open Go Go.Im Go.Im.Lexing Go.Im.Heads Go.Im.Editing
theorem lex_512 {l : List Int} {ts : List (Nat × Tk)} (h : lex l = some ts) : l.length ≤ 512 := by
 unfold lex at h
 split at h
 ·cases h
 ·omega
def runesL (s : ByteArray) : Nat → Nat → List Int
 | 0, _ => []
 | f + 1, i => if i < s.size then ((Utf8.decode s i).1 : Int) :: runesL s f (i + (Utf8.decode s i).2) else []
def runesI (s : ByteArray) : List Int := runesL s s.size 0
theorem runesFrom_eq (s : ByteArray) : ∀ (f i : Nat) (acc : Array Value), Conv.runesFrom s f i acc = acc ++ (rv (runesL s f i)).toArray
 | 0, i, acc => by simp [Conv.runesFrom, runesL, rv, intCells]
 | f + 1, i, acc => by
   rw [Conv.runesFrom, runesL]
   by_cases h : i < s.size
   ·rw [if_pos h, if_pos h]
    simp only
    rw [runesFrom_eq s f]
    simp [rv, intCells]
   ·rw [if_neg h, if_neg h]
    simp [rv, intCells]
theorem runesL_len (s : ByteArray) : ∀ (f i : Nat), (runesL s f i).length ≤ f
 | 0, i => by simp [runesL]
 | f + 1, i => by
   rw [runesL]
   split
   ·have := runesL_len s f (i + (Utf8.decode s i).2)
    simp only [List.length_cons]
    omega
   ·simp
theorem runesI_len (s : ByteArray) : (runesI s).length ≤ s.size := runesL_len s s.size 0
theorem runes_all (s : ByteArray) : (Conv.runesFrom s s.size 0 #[]).toList = rv (runesI s) := by
 rw [runesFrom_eq]
 simp [runesI]
theorem icvt_all {l : List UInt8} {h : Heap} : icvt (some .i32) l h = some (.slice (some ⟨h.size, 0, none⟩) (runesI (text l)).length big, h.push (.cells (rv (runesI (text l))) 1)) := by
 simp only [icvt, runes_all, rv_length]
instance memB (s : ByteArray) (l : List ByteArray) : Decidable (s ∈ l) := @List.instDecidableMemOfLawfulBEq _ instBEqOfDecidableEq _ s l
structure DefT where
 hd : HdT
 lines : List ByteArray
 labels : List (ByteArray × Nat)
def dZ : DefT := ⟨hdZ, [], []⟩
def linesS (x : HdT) : List ByteArray → Nat → List ByteArray → List (ByteArray × Nat) → List ByteArray → DefT × Int
 | [], _, ls, lb, _ => (⟨x, ls, lb⟩, -1)
 | r :: rs, i, ls, lb, tk =>
   if (lex (trimS (runesI r))).isNone = true ∨ 200 < i then (dZ, (i : Int))
   else if (labelL (trimS (runesI r))).1 = E then linesS x rs (i + 1) (ls ++ [runesBytes (trimS (runesI r))]) lb tk
   else if (labelL (trimS (runesI r))).1 ∈ tk then (dZ, (i : Int))
   else linesS x rs (i + 1) (ls ++ [runesBytes (trimS (runesI r))]) (lb ++ [((labelL (trimS (runesI r))).1, i)]) (tk ++ [(labelL (trimS (runesI r))).1])
def makeS : List ByteArray → DefT × Int
 | [] => (dZ, 0)
 | r :: rs => if (hdp (runesI r)).2 = true then linesS (hdp (runesI r)).1 rs 1 [] [] (hdp (runesI r)).1.all else (dZ, 0)
theorem lines_bad {x : HdT} {r : ByteArray} {rs : List ByteArray} {i : Nat} {ls : List ByteArray} {lb : List (ByteArray × Nat)} {tk : List ByteArray} (h : (lex (trimS (runesI r))).isNone = true ∨ 200 < i) : linesS x (r :: rs) i ls lb tk = (dZ, (i : Int)) := by
 rw [linesS, if_pos h]
theorem lines_none {x : HdT} {r : ByteArray} {rs : List ByteArray} {i : Nat} {ls : List ByteArray} {lb : List (ByteArray × Nat)} {tk : List ByteArray} (h : ¬ ((lex (trimS (runesI r))).isNone = true ∨ 200 < i)) (h2 : (labelL (trimS (runesI r))).1 = E) :
  linesS x (r :: rs) i ls lb tk = linesS x rs (i + 1) (ls ++ [runesBytes (trimS (runesI r))]) lb tk := by
 rw [linesS, if_neg h, if_pos h2]
theorem lines_twice {x : HdT} {r : ByteArray} {rs : List ByteArray} {i : Nat} {ls : List ByteArray} {lb : List (ByteArray × Nat)} {tk : List ByteArray} (h : ¬ ((lex (trimS (runesI r))).isNone = true ∨ 200 < i)) (h2 : ¬ (labelL (trimS (runesI r))).1 = E) (h3 : (labelL (trimS (runesI r))).1 ∈ tk) :
  linesS x (r :: rs) i ls lb tk = (dZ, (i : Int)) := by
 rw [linesS, if_neg h, if_neg h2, if_pos h3]
theorem lines_more {x : HdT} {r : ByteArray} {rs : List ByteArray} {i : Nat} {ls : List ByteArray} {lb : List (ByteArray × Nat)} {tk : List ByteArray} (h : ¬ ((lex (trimS (runesI r))).isNone = true ∨ 200 < i)) (h2 : ¬ (labelL (trimS (runesI r))).1 = E) (h3 : ¬ (labelL (trimS (runesI r))).1 ∈ tk) :
  linesS x (r :: rs) i ls lb tk = linesS x rs (i + 1) (ls ++ [runesBytes (trimS (runesI r))]) (lb ++ [((labelL (trimS (runesI r))).1, i)]) (tk ++ [(labelL (trimS (runesI r))).1]) := by
 rw [linesS, if_neg h, if_neg h2, if_neg h3]
def lbv (lb : List (ByteArray × Nat)) : List Value := lb.flatMap fun p => [Value.string p.1, Value.int .i64 (p.2 : Int)]
theorem lbv_append (a b : List (ByteArray × Nat)) : lbv (a ++ b) = lbv a ++ lbv b := by simp [lbv]
def dl (x : HdT) (hv lv bv : Value) : List Value := [.string x.nm, .string x.re, .string x.le, .string x.ri, hv, lv, bv]
def DV (w : Heap) (v : Value) (d : DefT) : Prop := ∃ a c a1 c1 a2 c2, v = .agg (dl d.hd (.slice a d.hd.ls.length c) (.slice a1 d.lines.length c1) (.slice a2 d.labels.length c2)).toArray ∧
 Sl w 1 a d.hd.ls.length c (sv d.hd.ls) ∧ Sl w 1 a1 d.lines.length c1 (sv d.lines) ∧ Sl w 2 a2 d.labels.length c2 (lbv d.labels)
theorem DV.ext {w w' : Heap} (k : Ext w w') {v : Value} {d : DefT} (H : DV w v d) : DV w' v d := by
 obtain ⟨a, c, a1, c1, a2, c2, h1, h2, h3, h4⟩ := H
 exact ⟨a, c, a1, c1, a2, c2, h1, h2.ext k, h3.ext k, h4.ext k⟩
theorem DV.zero (w : Heap) : DV w (.agg (dl hdZ (.slice none 0 0) (.slice none 0 0) (.slice none 0 0)).toArray) dZ :=
 ⟨none, 0, none, 0, none, 0, rfl, Sl.nil _ _, Sl.nil _ _, Sl.nil _ _⟩
theorem own_lh {low : Nat} {h : Heap} {size n b : Nat} {v : Value} {xs : List Value} (H : Own low h size v n xs) (hv : vblk v = some b) : low ≤ b ∧ b < h.size := by
 rcases H with ⟨rfl, _⟩ | ⟨b', rfl, h1, h2, _⟩
 ·simp [vblk] at hv
 ·simp only [vblk, Option.some.injEq] at hv
  omega
theorem app_other {low : Nat} {B W : Heap} (hlow : low ≤ B.size) (x : Ext B W) {size bytes : Nat} {v : Value} {n k : Nat} {xs new : List Value} (H : Own B.size W size v n xs) (hs : 0 < size) (hk : 0 < k) (hn : new.length = k * size)
  (hb : 2 * (n + k) * bytes ≤ 140737488355328) (hc : n + k ≤ 4611686018427387904) :
  ∃ w', iapp low W size bytes v k (some new) = some (.slice (some ⟨W.size, 0, none⟩) (n + k) big, w') ∧ Own B.size w' size (.slice (some ⟨W.size, 0, none⟩) (n + k) big) (n + k) (xs ++ new) ∧ w'.size = W.size + 1 ∧ Ext B w' ∧ ∀ b, b < W.size → vblk v ≠ some b → w'.get b = W.get b := by
 obtain ⟨w', h1, h2, h3, h4⟩ := own_app (H.keep hlow fun b hb _ => ⟨rfl, hb⟩) (Nat.le_trans hlow x.1) hs hk hn hb hc
 refine ⟨w', h1, ?_, h3, ⟨by have := x.1; omega, fun b hb => ?_⟩, h4⟩
 ·rcases h2 with ⟨h5, _⟩ | ⟨b, h5, _, h6, h7, h8⟩
  ·cases h5
  ·cases h5
   exact .inr ⟨W.size, rfl, x.1, h6, h7, h8⟩
 ·rw [h4 b (by have := x.1; omega), x.2 b hb]
  intro hv
  have := (own_lh H hv).1
  omega
def RK (w w' : Heap) : Prop := w.size ≤ w'.size ∧ ∀ b, b < w.size → (∃ (cs : List Value) (i : Nat) (n : Int), (w.get b).read = .cells cs 1 ∧ cs[i]? = some (Value.int .i32 n)) → w'.get b = w.get b
theorem RK.of {w w' : Heap} (k : Ext w w') : RK w w' := ⟨k.1, fun b hb _ => k.2 b hb⟩
theorem RK.trans {w w' w'' : Heap} (h : RK w w') (k : RK w' w'') : RK w w'' :=
 ⟨Nat.le_trans h.1 k.1, fun b hb hc => by
   have e := h.2 b hb hc
   rw [k.2 b (by have := h.1; omega) (by rw [e]; exact hc), e]⟩
theorem sv_no {ls : List ByteArray} {i : Nat} {n : Int} (h : (sv ls)[i]? = some (.int .i32 n)) : False := by
 rw [sv, List.getElem?_map] at h
 cases hl : ls[i]? <;> simp [hl] at h
theorem RK.own {low : Nat} {w w' : Heap} {v : Value} {ls : List ByteArray} (H : Own low w 1 v ls.length (sv ls)) (hs : w.size ≤ w'.size) (k : ∀ b, b < w.size → vblk v ≠ some b → w'.get b = w.get b) : RK w w' :=
 ⟨hs, fun b hb ⟨cs, i, n, h1, h2⟩ => k b hb fun hv => by
   rcases H with ⟨rfl, _⟩ | ⟨b', rfl, _, _, h3, _⟩
   ·simp [vblk] at hv
   ·simp only [vblk, Option.some.injEq] at hv
    subst hv
    rw [h3] at h1
    cases h1
    exact sv_no h2⟩
theorem RK.other {low e : Nat} {w w' : Heap} {v : Value} {n : Nat} {xs : List Value} (H : Own low w e v n xs) (he : e ≠ 1) (hs : w.size ≤ w'.size) (k : ∀ b, b < w.size → vblk v ≠ some b → w'.get b = w.get b) : RK w w' :=
 ⟨hs, fun b hb ⟨cs, i, n, h1, h2⟩ => k b hb fun hv => by
   rcases H with ⟨rfl, _⟩ | ⟨b', rfl, _, _, h3, _⟩
   ·simp [vblk] at hv
   ·simp only [vblk, Option.some.injEq] at hv
    subst hv
    rw [h3] at h1
    simp only [Blk.read, Blk.cells.injEq] at h1
    exact he h1.2⟩
theorem RK.put {w : Heap} {q e : Nat} {C : List Value} {y : Blk} (hg : w.get q = .cells C e) (he : e ≠ 1) : RK w (w.set q y) :=
 ⟨by simp, fun b hb ⟨cs, i, n, h1, h2⟩ => by
   rw [Heap.get_set, if_neg]
   intro hh
   subst hh
   rw [hg] at h1
   simp only [Blk.read, Blk.cells.injEq] at h1
   exact he h1.2⟩
theorem RK.islice {w w' : Heap} (k : RK w w') {a : Option Addr} {n c : Nat} {l : List Int} (t : Ln w (.slice a n c) l) : Im.islice w' 1 (.slice a n c) = some (rv l) := by
 have t0 := t
 rcases t with ⟨rfl, hv | ⟨b, o, hv⟩⟩ | ⟨b, o, cs, hv, h2, h3, h4, h5⟩
 ·cases hv
  rfl
 ·cases hv
  simp only [Im.islice, rv, intCells, List.map_nil]
  split <;> simp
 ·by_cases h0 : l = []
  ·subst h0
   cases hv
   simp only [Im.islice, List.length_nil, rv, intCells, List.map_nil, Nat.zero_mul, Nat.add_zero, List.take_zero]
   split
   ·split <;> simp
   ·simp
  ·cases hv
   obtain ⟨x, hx⟩ : ∃ x, l[0]? = some x := ⟨_, List.getElem?_eq_getElem (List.length_pos_iff.2 h0)⟩
   have h6 := rv_get hx
   rw [h5, List.getElem?_take, if_pos (List.length_pos_iff.2 h0), List.getElem?_drop] at h6
   have e := k.2 b h2 ⟨cs, _, _, h3, h6⟩
   simp only [Im.islice, Heap.look, e, h3]
   rw [if_pos ⟨trivial, by omega⟩, h5, Nat.mul_one]
theorem sl_put {w w' : Heap} {size q e n c : Nat} {a : Option Addr} {C xs : List Value} {y : Blk} (s : Sl w size a n c xs) (hg : w.get q = .cells C e) (he : e ≠ size) (hw : w.set q y = w') : Sl w' size a n c xs := by
 rcases s with h1 | h1 | ⟨b, o, cs, h1, h2, h3, h4, h5⟩
 ·exact .inl h1
 ·exact .inr (.inl h1)
 ·refine .inr (.inr ⟨b, o, cs, h1, h2, by rw [← hw]; exact h3, ?_, h5⟩)
  rw [← hw, Heap.get_set, if_neg]
  ·exact h4
  ·intro hh
   subst hh
   rw [hg] at h4
   simp only [Blk.read, Blk.cells.injEq] at h4
   exact he h4.2
theorem DV.put {w w' : Heap} {q : Nat} {C : List Value} {y : Blk} {v : Value} {d : DefT} (H : DV w v d) (hg : w.get q = .cells C 7) (hw : w.set q y = w') : DV w' v d := by
 obtain ⟨a, c, a1, c1, a2, c2, h1, h2, h3, h4⟩ := H
 exact ⟨a, c, a1, c1, a2, c2, h1, sl_put h2 hg (by omega) hw, sl_put h3 hg (by omega) hw, sl_put h4 hg (by omega) hw⟩
structure DS (B : Heap) (q : Nat) (W : Heap) (x : HdT) (hv lv bv tv : Value) (ls : List ByteArray) (lb : List (ByteArray × Nat)) (tk : List ByteArray) : Prop where
 ext : Ext B W
 lq : B.size ≤ q
 hq : q < W.size
 g : W.get q = .cells (dl x hv lv bv) 7
 ol : Own B.size W 1 lv ls.length (sv ls)
 ob : Own B.size W 2 bv lb.length (lbv lb)
 ot : Own B.size W 1 tv tk.length (sv tk)
 dj : ∀ b, vblk lv = some b → vblk tv ≠ some b
theorem DS.more {B : Heap} {q : Nat} {W W' : Heap} {x : HdT} {hv lv bv tv : Value} {ls : List ByteArray} {lb : List (ByteArray × Nat)} {tk : List ByteArray} (S : DS B q W x hv lv bv tv ls lb tk) (k : Ext W W') : DS B q W' x hv lv bv tv ls lb tk :=
 ⟨S.ext.trans k, S.lq, by have := S.hq; have := k.1; omega, (k.2 _ S.hq).trans S.g, S.ol.ext k, S.ob.ext k, S.ot.ext k, S.dj⟩
theorem ne_size {low : Nat} {h : Heap} {s1 s2 n m b : Nat} {v u : Value} {xs ys : List Value} (H : Own low h s1 v n xs) (K : Own low h s2 u m ys) (hs : s1 ≠ s2) (hv : vblk v = some b) : vblk u ≠ some b := by
 rcases H with ⟨rfl, _⟩ | ⟨b', rfl, _, _, h3, _⟩
 ·simp [vblk] at hv
 ·simp only [vblk, Option.some.injEq] at hv
  subst hv
  exact K.ne h3 hs
theorem DS.take {B : Heap} {q : Nat} {W : Heap} {x : HdT} {hv lv bv tv : Value} {ls : List ByteArray} {lb : List (ByteArray × Nat)} {tk : List ByteArray} (S : DS B q W x hv lv bv tv ls lb tk) {low : Nat} (hlow : low ≤ B.size) (s : ByteArray) (hn : tk.length ≤ 100000) :
  ∃ w1 w2 : Heap, W.push (.cells [.string s] 1) = w1 ∧ w1.get W.size = .cells [.string s] 1 ∧ iapp low w1 1 16 tv 1 (some [.string s]) = some (.slice (some ⟨w1.size, 0, none⟩) (tk.length + 1) big, w2) ∧
    DS B q w2 x hv lv bv (.slice (some ⟨w1.size, 0, none⟩) (tk.length + 1) big) ls lb (tk ++ [s]) ∧ RK W w2 := by
 obtain ⟨w1, e1, x1, hs1, z1⟩ := lay1 W (.cells [.string s] 1)
 have S1 := S.more x1
 obtain ⟨w2, e2, o2, hs2, x2, k2⟩ := app_other (bytes := 16) (k := 1) (new := [.string s]) hlow S1.ext S1.ot (by omega) (by omega) rfl (by omega) (by omega)
 have hq1 := S1.hq
 refine ⟨w1, w2, e1, z1, e2, ⟨x2, S1.lq, by omega, (k2 q hq1 (S1.ot.ne S1.g (by omega))).trans S1.g, ?_, ?_, ?_, ?_⟩, (RK.of x1).trans (RK.own S1.ot (by omega) k2)⟩
 ·exact S1.ol.keep (Nat.le_refl _) fun b hb hv => ⟨k2 b hb (S1.dj b hv), by omega⟩
 ·exact S1.ob.keep (Nat.le_refl _) fun b hb hv => ⟨k2 b hb (ne_size S1.ob S1.ot (by omega) hv), by omega⟩
 ·rw [List.length_append, sv_append]
  exact o2
 ·intro b hb
  have := (own_lh S1.ol hb).2
  simp only [vblk, ne_eq, Option.some.injEq]
  omega
theorem own_put {low : Nat} {h w : Heap} {size n q e : Nat} {v : Value} {xs C : List Value} {y : Blk} (H : Own low h size v n xs) (hg : h.get q = .cells C e) (he : e ≠ size) (hw : h.set q y = w) : Own low w size v n xs :=
 H.keep (Nat.le_refl _) fun b hb hv => ⟨by rw [← hw, Heap.get_set, if_neg]; intro hh; subst hh; exact H.ne hg he hv, by rw [← hw]; exact hb⟩
theorem put_ext {B W w : Heap} {q : Nat} {y : Blk} (x : Ext B W) (hq : B.size ≤ q) (hw : W.set q y = w) : Ext B w := by
 rw [← hw]
 exact x.set hq y
theorem DS.line {B : Heap} {q : Nat} {W : Heap} {x : HdT} {hv lv bv tv : Value} {ls : List ByteArray} {lb : List (ByteArray × Nat)} {tk : List ByteArray} (S : DS B q W x hv lv bv tv ls lb tk) {low : Nat} (hlow : low ≤ B.size) (s : ByteArray) (hn : ls.length ≤ 100000) :
  ∃ w1 w2 w3 : Heap, W.push (.cells [.string s] 1) = w1 ∧ w1.get W.size = .cells [.string s] 1 ∧ iapp low w1 1 16 lv 1 (some [.string s]) = some (.slice (some ⟨w1.size, 0, none⟩) (ls.length + 1) big, w2) ∧ w2.get q = .cells (dl x hv lv bv) 7 ∧
    w2.set q (.cells (dl x hv (.slice (some ⟨w1.size, 0, none⟩) (ls.length + 1) big) bv) 7) = w3 ∧ DS B q w3 x hv (.slice (some ⟨w1.size, 0, none⟩) (ls.length + 1) big) bv tv (ls ++ [s]) lb tk := by
 obtain ⟨w1, e1, x1, hs1, z1⟩ := lay1 W (.cells [.string s] 1)
 have S1 := S.more x1
 obtain ⟨w2, e2, o2, hs2, x2, k2⟩ := app_other (bytes := 16) (k := 1) (new := [.string s]) hlow S1.ext S1.ol (by omega) (by omega) rfl (by omega) (by omega)
 have hq1 := S1.hq
 have g2 : w2.get q = _ := (k2 q hq1 (S1.ol.ne S1.g (by omega))).trans S1.g
 have ob2 : Own B.size w2 2 bv lb.length (lbv lb) := S1.ob.keep (Nat.le_refl _) fun b hb hv => ⟨k2 b hb (ne_size S1.ob S1.ol (by omega) hv), by omega⟩
 have ot2 : Own B.size w2 1 tv tk.length (sv tk) := S1.ot.keep (Nat.le_refl _) fun b hb hv => ⟨k2 b hb (fun hh => S1.dj b hh hv), by omega⟩
 refine ⟨w1, w2, _, e1, z1, e2, g2, rfl, put_ext x2 S1.lq rfl, S1.lq, by simp; omega, by rw [Heap.get_set, if_pos rfl], ?_, own_put ob2 g2 (by omega) rfl, own_put ot2 g2 (by omega) rfl, ?_⟩
 ·rw [List.length_append, sv_append]
  exact own_put o2 g2 (by omega) rfl
 ·intro b hb hv
  have := (own_lh S1.ot hv).2
  simp only [vblk, Option.some.injEq] at hb
  omega
theorem DS.label {B : Heap} {q : Nat} {W : Heap} {x : HdT} {hv lv bv tv : Value} {ls : List ByteArray} {lb : List (ByteArray × Nat)} {tk : List ByteArray} (S : DS B q W x hv lv bv tv ls lb tk) {low : Nat} (hlow : low ≤ B.size) (s : ByteArray) (i : Nat) (hn : lb.length ≤ 100000) :
  ∃ w1 w2 w3 : Heap, W.push (.cells [.string s, .int .i64 (i : Int)] 2) = w1 ∧ w1.get W.size = .cells [.string s, .int .i64 (i : Int)] 2 ∧ iapp low w1 2 24 bv 1 (some [.string s, .int .i64 (i : Int)]) = some (.slice (some ⟨w1.size, 0, none⟩) (lb.length + 1) big, w2) ∧ w2.get q = .cells (dl x hv lv bv) 7 ∧
    w2.set q (.cells (dl x hv lv (.slice (some ⟨w1.size, 0, none⟩) (lb.length + 1) big)) 7) = w3 ∧ DS B q w3 x hv lv (.slice (some ⟨w1.size, 0, none⟩) (lb.length + 1) big) tv ls (lb ++ [(s, i)]) tk ∧ RK W w3 := by
 obtain ⟨w1, e1, x1, hs1, z1⟩ := lay1 W (.cells [.string s, .int .i64 (i : Int)] 2)
 have S1 := S.more x1
 obtain ⟨w2, e2, o2, hs2, x2, k2⟩ := app_other (bytes := 24) (k := 1) (new := [.string s, .int .i64 (i : Int)]) hlow S1.ext S1.ob (by omega) (by omega) rfl (by omega) (by omega)
 have hq1 := S1.hq
 have g2 : w2.get q = _ := (k2 q hq1 (S1.ob.ne S1.g (by omega))).trans S1.g
 have ol2 : Own B.size w2 1 lv ls.length (sv ls) := S1.ol.keep (Nat.le_refl _) fun b hb hv => ⟨k2 b hb (ne_size S1.ol S1.ob (by omega) hv), by omega⟩
 have ot2 : Own B.size w2 1 tv tk.length (sv tk) := S1.ot.keep (Nat.le_refl _) fun b hb hv => ⟨k2 b hb (ne_size S1.ot S1.ob (by omega) hv), by omega⟩
 refine ⟨w1, w2, _, e1, z1, e2, g2, rfl, ⟨put_ext x2 S1.lq rfl, S1.lq, by simp; omega, by rw [Heap.get_set, if_pos rfl], own_put ol2 g2 (by omega) rfl, ?_, own_put ot2 g2 (by omega) rfl, S1.dj⟩, ((RK.of x1).trans (RK.other S1.ob (by omega) (by omega) k2)).trans (RK.put g2 (by omega))⟩
 rw [List.length_append, lbv_append]
 exact own_put o2 g2 (by omega) rfl
theorem DS.value {B : Heap} {q : Nat} {W : Heap} {x : HdT} {a : Option Addr} {c : Nat} {lv bv tv : Value} {ls : List ByteArray} {lb : List (ByteArray × Nat)} {tk : List ByteArray} (S : DS B q W x (.slice a x.ls.length c) lv bv tv ls lb tk) (s : Sl B 1 a x.ls.length c (sv x.ls)) :
  DV W (.agg (dl x (.slice a x.ls.length c) lv bv).toArray) ⟨x, ls, lb⟩ := by
 obtain ⟨a1, c1, rfl⟩ := S.ol.shape
 obtain ⟨a2, c2, rfl⟩ := S.ob.shape
 exact ⟨a, c, a1, c1, a2, c2, rfl, s.ext S.ext, S.ol.sl, S.ob.sl⟩
end Go.Im.Defn
namespace Go.Proofs.YtachkofbmodnnaaGreatDoor.D2
open Go Go.Im Go.Im.Limbs Go.Im.Lexing Go.Im.Heads Go.Im.Editing Go.Im.Defn Go.Proofs Go.RowKit Hd N19 N23 R9 H2 H3 H5 H6 H7 H8 L1 E2
set_option maxRecDepth 100000
theorem mem_take {s : ByteArray} {tk : List ByteArray} {i : Nat} {y : ByteArray} (hy : tk[i]? = some y) (h : s ∉ tk.take i) (hne : ¬ s = y) : s ∉ tk.take (i + 1) := by
 rw [List.take_add_one, hy, List.mem_append]
 simp [h, hne]
theorem index_run (tk : List ByteArray) (s : ByteArray) (h : Heap) {a : Option Addr} {c : Nat} (sl : Sl h 1 a tk.length c (sv tk)) (hm : tk.length ≤ 1000000) : Runs K f_slices_Index_string_string #[.slice a tk.length c, .string s] h fun r w => h = w ∧ ∃ x : Int, r = .int .i64 x ∧ (0 ≤ x ↔ s ∈ tk) := by
 refine Runs.of Kok (Does.intro rfl (by decide +kernel) F_slices_Index_string_string rfl ?_)
 simp +decide only [go_sem, W_region, Wx_some]
 refine W_loop (α := Nat) (fun i e w => i ≤ tk.length ∧ e.size = 19 ∧ h = w ∧ e.get 0 = .slice a tk.length c ∧ e.get 1 = .string s ∧ e.get 7 = .int .i64 ((tk.length : Nat) : Int) ∧ e.get 8 = .int .i64 (i : Int) ∧ s ∉ tk.take i) (fun i => tk.length - i) 0 ?_ ?_
 ·exact ⟨Nat.zero_le _, by simp +decide only [go_sem], rfl, by simp +decide only [go_sem], by simp +decide only [go_sem], by simp +decide only [go_sem], by simp +decide only [go_sem]; rfl, by simp⟩
 rintro i e w ⟨hi, hsz, hw, e0, e1, e7, e8, hni⟩ next
 subst hw
 by_cases hil : (i : Int) < ((tk.length : Nat) : Int)
 ·obtain ⟨b, o, cs, rfl, q2, q3, q4⟩ := text_at sl (i := i) (by omega)
  have hy : tk[i]? = some tk[i] := List.getElem?_eq_getElem (by omega)
  have c0 : (0 : Int) ≤ (i : Int) := by omega
  have i1 : IntKind.i64.wrap ((i : Int) + 1) = ((i + 1 : Nat) : Int) := by rw [wrap_i64 (by omega) (by omega)]; omega
  by_cases hs : s = tk[i]
  ·simp +decide only [go_sem, W_region, Wx_some, hsz, e0, e1, e7, e8, hil, c0, Int.toNat_natCast, q3, q4, ← hs]
   have hmem : s ∈ tk := by rw [hs]; exact List.getElem_mem _
   first | exact ⟨rfl, _, rfl, iff_of_true c0 hmem⟩ | exact ⟨_, rfl, iff_of_true c0 hmem⟩ | simp [hmem, c0]
  ·simp +decide only [go_sem, W_region, Wx_some, hsz, e0, e1, e7, e8, hil, c0, Int.toNat_natCast, q3, q4, hs, i1]
   exact next (i + 1) _ _ ⟨by omega, by simp +decide only [go_sem, hsz], rfl, by simp +decide only [go_sem, hsz, e0], by simp +decide only [go_sem, hsz, e1], by simp +decide only [go_sem, hsz, e7], by simp +decide only [go_sem, hsz], mem_take hy hni hs⟩ (by omega)
 ·simp +decide only [go_sem, W_region, Wx_some, hsz, e0, e1, e7, e8, hil]
  have : ¬ s ∈ tk := by rwa [List.take_of_length_le (by omega)] at hni
  simp [this]
theorem contains_run (tk : List ByteArray) (s : ByteArray) (h : Heap) {a : Option Addr} {c : Nat} (sl : Sl h 1 a tk.length c (sv tk)) (hm : tk.length ≤ 1000000) : Runs K f_slices_Contains_string_string #[.slice a tk.length c, .string s] h fun r w => h = w ∧ r = .bool (decide (s ∈ tk)) := by
 refine Runs.of Kok (Does.intro rfl (by decide +kernel) F_slices_Contains_string_string rfl ?_)
 simp +decide only [go_sem, W_region, Wx_some]
 refine W_call Kok (Nat.le_refl _) (index_run tk s h sl hm) fun r w x hr => ?_
 obtain ⟨hw, y, rfl, hy⟩ := hr
 subst hw
 simp +decide only [go_sem, W_region, Wx_some]
 congr 2
 exact propext hy
set_option maxHeartbeats 4000000 in
theorem make_run (rows : List ByteArray) (h : Heap) {a : Option Addr} {c : Nat} (s : Sl h 1 a rows.length c (sv rows)) (hn : rows.length ≤ 1000) (hz : ∀ r ∈ rows, r.size ≤ 100000) :
  Runs K f_defn_Make #[.slice a rows.length c] h fun r w => ∃ v, r = .tuple #[v, .int .i64 (makeS rows).2] ∧ DV w v (makeS rows).1 := by
 refine Runs.of Kok (Does.intro rfl (by decide +kernel) F_defn_Make rfl ?_)
 obtain ⟨w0, e0, x0, hs0, z0⟩ := lay1 h (.cells [.string ByteArray.empty, .string ByteArray.empty, .string ByteArray.empty, .string ByteArray.empty, .slice none 0 0, .slice none 0 0, .slice none 0 0] 7)
 have j0 : h.size ≤ h.size := Nat.le_refl _
 have fin0 : ∀ (w : Heap) (C : List Value), Ext h w → ∃ w', w.set h.size (.cells C 7) = w' ∧ w'.get h.size = .cells C 7 ∧ w'.size = w.size ∧ ∀ b, b ≠ h.size → w'.get b = w.get b := fun w C xw => by
  obtain ⟨w1, e1, x1, hs1, g1, k1⟩ := put1 xw j0 (.cells C 7)
  exact ⟨w1, e1, g1, hs1, k1⟩
 have zd : ∀ w, DV w (.agg #[.string ByteArray.empty, .string ByteArray.empty, .string ByteArray.empty, .string ByteArray.empty, .slice none 0 0, .slice none 0 0, .slice none 0 0]) dZ := fun w => DV.zero w
 match rows, s, hn, hz with
 | [], s, hn, hz =>
   obtain ⟨w1, e1, g1, hs1, k1⟩ := fin0 w0 [.string ByteArray.empty, .string ByteArray.empty, .string ByteArray.empty, .string ByteArray.empty, .slice none 0 0, .slice none 0 0, .slice none 0 0] x0
   simp +decide only [go_sem, W_region, Wx_some, e0, List.length_nil, Int.natCast_zero, z0, j0, e1, g1]
   exact ⟨_, rfl, zd _⟩
 | r0 :: rs, s, hn, hz =>
 have hl0 : (r0 :: rs).length = rs.length + 1 := rfl
 have n0 : ¬ (((r0 :: rs).length : Nat) : Int) = 0 := by rw [hl0]; omega
 have n1 : (0 : Int) < (((r0 :: rs).length : Nat) : Int) := by rw [hl0]; omega
 obtain ⟨b, o, cs, rfl, q2, q3, q4⟩ := text_at s (i := 0) (by omega)
 obtain ⟨L, rfl⟩ := text_of r0
 rw [Nat.add_zero] at q4
 have q4' : cs[o]? = some (.string (text L)) := q4
 have q3' : (w0.get b).read = .cells cs 1 := by rw [x0.2 b q2]; exact q3
 have hr0 := hz (text L) (by simp)
 obtain ⟨l, hl⟩ : ∃ l, l = runesI (text L) := ⟨_, rfl⟩
 have hll : l.length ≤ 100000 := by rw [hl]; exact Nat.le_trans (runesI_len _) hr0
 obtain ⟨w1, e1, x1, hs1, z1⟩ := lay1 w0 (.cells (rv l) 1)
 have x01 := x0.trans x1
 have t1 : Ln w1 (.slice (some ⟨w0.size, 0, none⟩) l.length big) l := Ln.new (by omega) z1
 have ic := icvt_all (l := L) (h := w0)
 rw [← hl, e1] at ic
 clear q4
 generalize hN : (text L :: rs).length = N at *
 simp +decide only [go_sem, W_region, Wx_some, e0, n0, n1, show Int.toNat 0 = 0 from rfl, q3', q4', ic]
 refine W_call Kok x01.1 (parse_run l w1 t1.tx (by omega)) fun r w2 x2 hr => ?_
 obtain ⟨pa, pc, rfl, s2⟩ := hr
 have x02 := x01.trans x2
 have hms : makeS (text L :: rs) = if (hdp l).2 = true then linesS (hdp l).1 rs 1 [] [] (hdp l).1.all else (dZ, 0) := by rw [makeS, ← hl]
 have Gx := hdp_good l
 generalize hX : hdp l = X at s2 hms Gx
 obtain ⟨x, ok⟩ := X
 simp only at s2 hms Gx
 obtain ⟨w3, e3, x3, hs3, z3⟩ := lay1 w2 (.cells [.string ByteArray.empty, .string ByteArray.empty, .string ByteArray.empty, .string ByteArray.empty, .slice none 0 0] 5)
 obtain ⟨w4, e4, x4, hs4, z4, k4⟩ := put1 x3 (Nat.le_refl _) (.cells (H2.hl x (.slice pa x.ls.length pc)) 5)
 have x04 := x02.trans x4
 have j2 : h.size ≤ w2.size := x02.1
 have g0 : w4.get h.size = _ := ((x1.trans (x2.trans x4)).2 _ (by omega)).trans z0
 simp only [H2.hl] at e4 z4
 cases ok with
 | false =>
   obtain ⟨w5, e5, g5, hs5, k5⟩ := fin0 w4 [.string ByteArray.empty, .string ByteArray.empty, .string ByteArray.empty, .string ByteArray.empty, .slice none 0 0, .slice none 0 0, .slice none 0 0] x04
   simp +decide only [go_sem, W_region, Wx_some, H2.hl, e3, z3, j2, e4, g0, j0, e5, g5]
   rw [hms]
   exact ⟨_, rfl, zd _⟩
 | true =>
   obtain ⟨hv, hhv⟩ : ∃ hv, hv = Value.slice pa x.ls.length pc := ⟨_, rfl⟩
   have hok : cellOK hv = true := by rw [hhv]; rfl
   have few := Gx.few
   have s4 := s2.ext x4
   obtain ⟨w5, e5, x5, hs5, z5⟩ := lay1 w4 (.cells [.string ByteArray.empty, .string ByteArray.empty, .string ByteArray.empty, .string ByteArray.empty, .slice none 0 0, .slice none 0 0, .slice none 0 0] 7)
   obtain ⟨w6, e6, x6, hs6, z6, k6⟩ := put1 x5 (Nat.le_refl _) (.cells (dl x hv (.slice none 0 0) (.slice none 0 0)) 7)
   have x06 := x04.trans x6
   have j4 : h.size ≤ w4.size := x04.1
   have nmr := hnames_run x w6 (s4.ext x6) (by omega)
   simp only [H2.hl, ← hhv] at e4 z4 nmr
   simp only [dl] at e6
   have z46 : w6.get w2.size = _ := (x6.2 _ (by omega)).trans z4
   simp +decide only [go_sem, W_region, Wx_some, H2.hl, ← hhv, hok, e3, z3, j2, e4, z4, e5, z5, j4, e6, z46]
   refine W_call Kok x06.1 nmr fun r w7 x7 hr => ?_
   have z47 : w7.get w2.size = _ := (x7.2 _ (by omega)).trans z46
   obtain ⟨w8, e8, x8, hs8, z8⟩ := lay1 w7 (.cells [.string x.nm] 1)
   have x48 := x6.trans (x7.trans x8)
   have hnl := names_len x
   obtain ⟨w9, e9, o9, hs9, x9, k9⟩ := app_other (low := h.size) (bytes := 16) (k := 1) (new := [.string x.nm]) j4 x48 ((hr.ext x8).keep x6.1 fun b hb _ => ⟨rfl, hb⟩) (by omega) (by omega) rfl (by omega) (by omega)
   obtain ⟨ra, rc, rfl⟩ := hr.shape
   have hall : x.all.length = x.names.length + 1 := by simp [HdT.all]
   have hrq : vblk (.slice ra x.names.length rc) ≠ some w4.size := by
    intro hh
    have := (own_lh hr hh).1
    omega
   have S9 : DS w4 w4.size w9 x hv (.slice none 0 0) (.slice none 0 0) (.slice (some ⟨w8.size, 0, none⟩) (x.names.length + 1) big) [] [] x.all := by
    have m7 := x7.1
    have m8 := x8.1
    refine ⟨x9, Nat.le_refl _, by omega, ?_, Own.nil _ _ _, Own.nil _ _ _, ?_, fun b hb => by simp [vblk] at hb⟩
    ·rw [k9 _ (by omega) hrq, (x7.trans x8).2 _ (by omega), z6]
    ·rw [hall]
     have : sv x.all = sv x.names ++ [.string x.nm] := by rw [HdT.all, sv_append]; rfl
     rw [this]
     exact o9
   have hrs : N - 1 = rs.length := by rw [← hN]; rfl
   obtain ⟨ca, cc, f1, src⟩ := Sl.cut (x04.trans S9.ext) (by omega) s (lo := some (.int .i64 1)) (hi := none) (l := 1) (u := N) rfl rfl (by omega) (Nat.le_refl _)
   rw [hrs] at f1
   have src' : Sl h 1 ca rs.length cc (sv rs) := by
    rw [hrs, Nat.mul_one, Nat.mul_one] at src
    have e : ((sv (text L :: rs)).drop 1).take rs.length = sv rs := by rw [sv, List.map_cons, List.drop_one, List.tail_cons, List.take_of_length_le (by simp)]; rfl
    rw [e] at src
    exact src
   have hsb : h.size < w4.size := by omega
   simp +decide only [go_sem, W_region, Wx_some, z47, e8, z8, e9, f1]
   refine W_loop (α := Nat × Value × Value × Value × List ByteArray × List (ByteArray × Nat) × List ByteArray) (fun k e W => k.1 ≤ rs.length ∧ e.size = 98 ∧ DS w4 w4.size W x hv k.2.1 k.2.2.1 k.2.2.2.1 k.2.2.2.2.1 k.2.2.2.2.2.1 k.2.2.2.2.2.2 ∧ e.get 2 = .pointer (some ⟨h.size, 0, none⟩) ∧ e.get 6 = .pointer (some ⟨w4.size, 0, none⟩) ∧ e.get 7 = k.2.2.2.1 ∧
    e.get 39 = .slice ca rs.length cc ∧ e.get 40 = .int .i64 ((rs.length : Nat) : Int) ∧ e.get 41 = .int .i64 (k.1 : Int) ∧ linesS x rs 1 [] [] x.all = linesS x (rs.drop k.1) (k.1 + 1) k.2.2.2.2.1 k.2.2.2.2.2.1 k.2.2.2.2.2.2 ∧ k.2.2.2.2.1.length ≤ k.1 ∧ k.2.2.2.2.2.1.length ≤ k.1 ∧ k.2.2.2.2.2.2.length ≤ 1000 + k.1)
    (fun k => rs.length - k.1) (0, .slice none 0 0, .slice none 0 0, .slice (some ⟨w8.size, 0, none⟩) (x.names.length + 1) big, [], [], x.all) ?_ ?_
   ·exact ⟨Nat.zero_le _, by simp +decide only [go_sem], S9, by simp +decide only [go_sem], by simp +decide only [go_sem], by simp +decide only [go_sem], by simp +decide only [go_sem], by simp +decide only [go_sem], by simp +decide only [go_sem]; rfl, by simp, by simp, by simp, by simp only [hall]; omega⟩
   clear e9 o9 x9 k9 S9 f1 e8 z8 x8 hs8 hs9
   rintro ⟨k, lv, bv, tv, ls, lb, tk⟩ e W ⟨hk, hsz, S, g2, g6, g7, g39, g40, g41, hlin, hl1, hl2, hl3⟩ next
   simp only at hk S g7 g41 hlin hl1 hl2 hl3
   have xW := x04.trans S.ext
   have gz : W.get h.size = _ := (S.ext.2 _ hsb).trans g0
   have hrn : rs.length ≤ 1000 := by omega
   by_cases hkl : (k : Int) < ((rs.length : Nat) : Int)
   case neg =>
    have hke : rs.drop k = [] := List.drop_of_length_le (by omega)
    rw [hke, linesS] at hlin
    have V : DV W (.agg (dl x hv lv bv).toArray) ⟨x, ls, lb⟩ := by
     have S' := S
     rw [hhv] at S' ⊢
     exact S'.value s4
    have g := S.g
    obtain ⟨w', ew, gw, _⟩ := fin0 W (dl x hv lv bv) xW
    have V' := DV.put V gz ew
    simp only [dl] at g ew gw
    have hol : cellOK lv = true := by obtain ⟨a1, c1, hh⟩ := S.ol.shape; rw [hh]; rfl
    have hob : cellOK bv = true := by obtain ⟨a1, c1, hh⟩ := S.ob.shape; rw [hh]; rfl
    simp +decide only [go_sem, W_region, Wx_some, hsz, g2, g6, g7, g39, g40, g41, hkl, g, gz, j0, hok, hol, hob, ew, gw]
    rw [hms, if_pos rfl, hlin]
    exact ⟨_, rfl, V'⟩
   obtain ⟨b', o', cs', rfl, q2', q3', q4'⟩ := text_at (src'.ext xW) (i := k) (by omega)
   obtain ⟨r, hr⟩ : ∃ r, r = rs[k] := ⟨_, rfl⟩
   have hdr : rs.drop k = r :: rs.drop (k + 1) := by rw [hr]; exact List.drop_eq_getElem_cons (by omega)
   rw [← hr] at q4'
   have hrz := hz r (by rw [hr]; simp)
   rw [hdr] at hlin
   obtain ⟨L', rfl⟩ := text_of r
   obtain ⟨l', hl'⟩ : ∃ l', l' = runesI (text L') := ⟨_, rfl⟩
   have hll' : l'.length ≤ 100000 := by rw [hl']; exact Nat.le_trans (runesI_len _) hrz
   obtain ⟨u1, f1, y1, hs1', z1'⟩ := lay1 W (.cells (rv l') 1)
   have t1' : Ln u1 (.slice (some ⟨W.size, 0, none⟩) l'.length big) l' := Ln.new (by omega) z1'
   have ic' := icvt_all (l := L') (h := W)
   rw [← hl', f1] at ic'
   have c0 : (0 : Int) ≤ (k : Int) := by omega
   have k1 : IntKind.i64.wrap ((k : Int) + 1) = ((k + 1 : Nat) : Int) := by rw [wrap_i64 (by omega) (by omega)]; omega
   have S1 := S.more y1
   simp +decide only [go_sem, W_region, Wx_some, hsz, g2, g6, g7, g39, g40, g41, hkl, c0, Int.toNat_natCast, q3', q4', ic']
   refine W_call Kok (x04.trans S1.ext).1 (trim_run l' u1 t1' (by omega)) fun r u2 y2 hr2 => ?_
   obtain ⟨hw, tm⟩ := hr2
   have hw := hw.symm
   subst hw
   obtain ⟨m, hm⟩ : ∃ m, m = trimS l' := ⟨_, rfl⟩
   have hmm : trimS (runesI (text L')) = m := by rw [hm, hl']
   rw [← hm] at tm
   have hml : m.length ≤ 100000 := by rw [hm]; exact Nat.le_trans (trim_len l') hll'
   obtain ⟨ma, mc, rfl⟩ := tm.open
   simp +decide only [go_sem, W_region, Wx_some, hsz]
   refine W_call Kok (x04.trans S1.ext).1 (lex_run u1 tm.tx) fun r u3 y3 hr3 => ?_
   have S3 := S1.more y3
   have gz3 : u3.get h.size = _ := (S3.ext.2 _ hsb).trans g0
   have xz : Ext h u3 := x04.trans S3.ext
   obtain ⟨w', ew, gw, _⟩ := fin0 u3 [.string ByteArray.empty, .string ByteArray.empty, .string ByteArray.empty, .string ByteArray.empty, .slice none 0 0, .slice none 0 0, .slice none 0 0] xz
   rcases hr3 with ⟨hlex, rfl⟩ | ⟨xs, xa, xc, hlex, hA, hxl, rfl, sx⟩
   ·rw [lines_bad (.inl (by rw [hmm, hlex]; rfl))] at hlin
    simp +decide only [go_sem, W_region, Wx_some, hsz, g2, g6, g7, g39, g40, g41, gz3, j0, ew, gw, k1]
    rw [hms, if_pos rfl, hlin]
    exact ⟨_, rfl, zd _⟩
   by_cases h200 : (200 : Int) ≤ (k : Int)
   ·rw [lines_bad (.inr (by omega))] at hlin
    simp +decide only [go_sem, W_region, Wx_some, hsz, g2, g6, g7, g39, g40, g41, h200, gz3, j0, ew, gw, k1]
    rw [hms, if_pos rfl, hlin]
    exact ⟨_, rfl, zd _⟩
   have hok : ¬ ((lex (trimS (runesI (text L')))).isNone = true ∨ 200 < k + 1) := by
    rw [hmm, hlex]
    simp
    omega
   simp +decide only [go_sem, W_region, Wx_some, hsz, h200]
   refine W_call Kok xz.1 (label_run m u3 ((tm.ext y3).tx) (by omega)) fun r u4 y4 hr4 => ?_
   obtain ⟨uu, rfl, _⟩ := hr4
   have S4 := S3.more y4
   have tm4 := tm.ext (y3.trans y4)
   obtain ⟨lab, hlab⟩ : ∃ lab, lab = (labelL m).1 := ⟨_, rfl⟩
   rw [← hlab]
   have xz4 : Ext h u4 := x04.trans S4.ext
   by_cases hE : lab = E
   ·have hE' : lab = ⟨#[]⟩ := hE
    rw [lines_none hok (by rw [hmm, ← hlab]; exact hE), hmm] at hlin
    have is4 := tm4.islice
    obtain ⟨v1, v2, v3, a1, b1, a2, b2, a3, S5⟩ := S4.line (low := h.size) j4 (runesBytes m) (by omega)
    have g4 := S4.g
    simp only [dl] at g4 b2 a3
    simp +decide only [go_sem, W_region, Wx_some, hsz, g2, g6, g7, g39, g40, g41, hE', g4, is4, icvs_rv, a1, b1, a2, b2, a3, j4, k1]
    exact next (k + 1, .slice (some ⟨v1.size, 0, none⟩) (ls.length + 1) big, bv, tv, ls ++ [runesBytes m], lb, tk) _ _ ⟨by simp only; omega, by simp +decide only [go_sem, hsz], S5, by simp +decide only [go_sem, hsz, g2], by simp +decide only [go_sem, hsz, g6], by simp +decide only [go_sem, hsz, g7], by simp +decide only [go_sem, hsz, g39], by simp +decide only [go_sem, hsz, g40], by simp +decide only [go_sem, hsz], hlin, by simp; omega, by simp only; omega, by simp only; omega⟩ (by simp only; omega)
   have hE' : ¬ lab = ⟨#[]⟩ := hE
   obtain ⟨ta, tc, rfl⟩ := S4.ot.shape
   simp +decide only [go_sem, W_region, Wx_some, hsz, g2, g6, g7, hE']
   refine W_call Kok xz4.1 (contains_run tk lab u4 S4.ot.sl (by omega)) fun r u5 y5 hr5 => ?_
   obtain ⟨hw, rfl⟩ := hr5
   subst hw
   by_cases hmem : lab ∈ tk
   ·rw [lines_twice hok (by rw [hmm, ← hlab]; exact hE) (by rw [hmm, ← hlab]; exact hmem)] at hlin
    have gz4 : u4.get h.size = _ := (S4.ext.2 _ hsb).trans g0
    obtain ⟨w', ew, gw, _⟩ := fin0 u4 [.string ByteArray.empty, .string ByteArray.empty, .string ByteArray.empty, .string ByteArray.empty, .slice none 0 0, .slice none 0 0, .slice none 0 0] xz4
    simp +decide only [go_sem, W_region, Wx_some, hsz, g2, g6, g7, g39, g40, g41, hmem, gz4, j0, ew, gw, k1]
    rw [hms, if_pos rfl, hlin]
    exact ⟨_, rfl, zd _⟩
   rw [lines_more hok (by rw [hmm, ← hlab]; exact hE) (by rw [hmm, ← hlab]; exact hmem), hmm, ← hlab] at hlin
   obtain ⟨v1, v2, a1, b1, a2, S5, r5⟩ := S4.take (low := h.size) j4 lab (by omega)
   obtain ⟨v3, v4, v5, a3, b3, a4, b4, a5, S6, r6⟩ := S5.label (low := h.size) j4 lab (k + 1) (by omega)
   have is6 := ((RK.of (y3.trans y4)).trans (r5.trans r6)).islice tm
   obtain ⟨v6, v7, v8, a6, b6, a7, b7, a8, S7⟩ := S6.line (low := h.size) j4 (runesBytes m) (by omega)
   have g5 := S5.g
   have g6' := S6.g
   simp only [dl] at g5 g6' b4 a5 b7 a8
   simp +decide only [go_sem, W_region, Wx_some, hsz, g2, g6, g7, g39, g40, g41, hmem, a1, b1, a2, g5, a3, b3, a4, b4, a5, g6', is6, icvs_rv, a6, b6, a7, b7, a8, j4, k1]
   exact next (k + 1, .slice (some ⟨v6.size, 0, none⟩) (ls.length + 1) big, .slice (some ⟨v3.size, 0, none⟩) (lb.length + 1) big, .slice (some ⟨v1.size, 0, none⟩) (tk.length + 1) big, ls ++ [runesBytes m], lb ++ [(lab, k + 1)], tk ++ [lab]) _ _ ⟨by simp only; omega, by simp +decide only [go_sem, hsz], S7, by simp +decide only [go_sem, hsz, g2], by simp +decide only [go_sem, hsz, g6], by simp +decide only [go_sem, hsz], by simp +decide only [go_sem, hsz, g39], by simp +decide only [go_sem, hsz, g40], by simp +decide only [go_sem, hsz], hlin, by simp; omega, by simp; omega, by simp; omega⟩ (by simp only; omega)
end Go.Proofs.YtachkofbmodnnaaGreatDoor.D2
namespace Go.Proofs.YtachkofbmodnnaaGreatDoor.D3
open Go Go.Im Go.Im.Limbs Go.Im.Lexing Go.Im.Heads Go.Im.Editing Go.Im.Defn Go.Proofs Go.RowKit Hd N19 N23 R9 H2 H3 H5 H6 H7 H8 L1 E2 D2
set_option maxRecDepth 100000
end Go.Proofs.YtachkofbmodnnaaGreatDoor.D3
namespace Go.Im.Defn
open Go Go.Im Go.Im.Lexing Go.Im.Heads Go.Im.Editing
theorem lines_hd : ∀ {rs : List ByteArray} {x : HdT} {i : Nat} {ls : List ByteArray} {lb : List (ByteArray × Nat)} {tk : List ByteArray}, (linesS x rs i ls lb tk).1.hd = x ∨ (linesS x rs i ls lb tk).1 = dZ
 | [], x, i, ls, lb, tk => .inl rfl
 | r :: rs, x, i, ls, lb, tk => by
   rw [linesS]
   split
   ·exact .inr rfl
   ·split
    ·exact lines_hd
    ·split
     ·exact .inr rfl
     ·exact lines_hd
theorem make_good (rows : List ByteArray) : Heads.Good (makeS rows).1.hd := by
 match rows with
 | [] => exact good_z
 | r :: rs =>
   rw [makeS]
   split
   ·rcases lines_hd (rs := rs) (x := (hdp (runesI r)).1) (i := 1) (ls := []) (lb := []) (tk := (hdp (runesI r)).1.all) with h | h
    ·rw [h]
     exact hdp_good _
    ·rw [h]
     exact good_z
   ·exact good_z
theorem lines_few : ∀ {rs : List ByteArray} {x : HdT} {i : Nat} {ls : List ByteArray} {lb : List (ByteArray × Nat)} {tk : List ByteArray}, (linesS x rs i ls lb tk).1.lines.length ≤ ls.length + rs.length ∧ (linesS x rs i ls lb tk).1.labels.length ≤ lb.length + rs.length
 | [], x, i, ls, lb, tk => ⟨by simp [linesS], by simp [linesS]⟩
 | r :: rs, x, i, ls, lb, tk => by
   rw [linesS]
   split
   ·simp [dZ]
   ·split
    ·have := lines_few (rs := rs) (x := x) (i := i + 1) (ls := ls ++ [runesBytes (trimS (runesI r))]) (lb := lb) (tk := tk)
     simp only [List.length_append, List.length_cons, List.length_nil] at this ⊢
     omega
    ·split
     ·simp [dZ]
     ·have := lines_few (rs := rs) (x := x) (i := i + 1) (ls := ls ++ [runesBytes (trimS (runesI r))]) (lb := lb ++ [((labelL (trimS (runesI r))).1, i)]) (tk := tk ++ [(labelL (trimS (runesI r))).1])
      simp only [List.length_append, List.length_cons, List.length_nil] at this ⊢
      omega
theorem make_few (rows : List ByteArray) : (makeS rows).1.lines.length ≤ rows.length ∧ (makeS rows).1.labels.length ≤ rows.length := by
 match rows with
 | [] => exact ⟨Nat.le_refl _, Nat.le_refl _⟩
 | r :: rs =>
   rw [makeS]
   split
   ·have := lines_few (rs := rs) (x := (hdp (runesI r)).1) (i := 1) (ls := []) (lb := []) (tk := (hdp (runesI r)).1.all)
    simp only [List.length_nil, List.length_cons] at this ⊢
    omega
   ·simp [dZ]
end Go.Im.Defn
namespace Go.Proofs.YtachkofbmodnnaaGreatDoor.D4
open Go Go.Im Go.Im.Limbs Go.Im.Lexing Go.Im.Heads Go.Im.Editing Go.Im.Defn Go.Proofs Go.RowKit Hd H2 H3 H4 H5 D2 D3
set_option maxRecDepth 100000
def rowsT (d : DefT) : List ByteArray := txtB d.hd :: d.lines
theorem rows_len (d : DefT) : (rowsT d).length = d.lines.length + 1 := rfl
theorem good_sizes {x : HdT} (G : Heads.Good x) : x.nm.size ≤ 1000000 ∧ x.re.size ≤ 1000000 ∧ x.le.size ≤ 1000000 ∧ x.ri.size ≤ 1000000 ∧ ∀ y ∈ x.ls, y.size ≤ 1000000 :=
 ⟨Nat.le_trans G.nm (by decide), Nat.le_trans G.re (by decide), Nat.le_trans G.le (by decide), Nat.le_trans G.ri (by decide), fun y hy => Nat.le_trans (G.ls y hy) (by decide)⟩
theorem one_more {h w : Heap} {b : Nat} {t : ByteArray} {ls : List ByteArray} {a : Option Addr} {c : Nat} (hb : b < w.size) (hg : w.get b = .cells [.string t] 1) (s : Sl w 1 a ls.length c (sv ls)) (hm : ls.length ≤ 100000) (low : Nat) :
  ∃ a' c' w', iapp low w 1 16 (.slice (some ⟨b, 0, none⟩) 1 1) ls.length (some (sv ls)) = some (.slice a' (ls.length + 1) c', w') ∧ Ext w w' ∧ Sl w' 1 a' (ls.length + 1) c' (sv (t :: ls)) := by
 by_cases h0 : ls.length = 0
 ·have : ls = [] := List.eq_nil_of_length_eq_zero h0
  subst this
  refine ⟨some ⟨b, 0, none⟩, 1, w, ?_, Ext.refl w, .inr (.inr ⟨b, 0, _, rfl, by omega, hb, by rw [hg]; rfl, by simp, rfl, .inl ⟨by simp, by simp [big]⟩⟩)⟩
  simp [iapp]
 ·refine ⟨some ⟨w.size, 0, none⟩, big, w.push (.cells (.string t :: sv ls) 1), ?_, (Ext.refl w).push _, .inr (.inr ⟨w.size, 0, _, rfl, by simp [big], by simp, by rw [Heap.get_push, if_pos rfl]; rfl, by simp [sv], by rw [List.drop_zero, List.take_of_length_le (by simp [sv])]; rfl, .inr rfl⟩)⟩
  simp only [iapp]
  rw [if_neg (by omega), if_neg h0]
  simp only [iput, hg]
  rw [if_neg (by simp), if_pos (by simp [big]), if_neg (by omega), Nat.add_comm 1]
  simp
theorem drows_run (d : DefT) (h : Heap) {v : Value} (V : DV h v d) (G : Heads.Good d.hd) (hm : d.lines.length ≤ 100000) : Runs K f_defn_Defn_Rows #[v] h fun r w => ∃ a c, r = .slice a (rowsT d).length c ∧ Sl w 1 a (rowsT d).length c (sv (rowsT d)) := by
 obtain ⟨a, c, a1, c1, a2, c2, rfl, s1, s2, s3⟩ := V
 refine Runs.of Kok (Does.intro rfl (by decide +kernel) F_defn_Defn_Rows rfl ?_)
 obtain ⟨w1, e1, x1, hs1, z1⟩ := lay1 h (.cells [.string d.hd.nm, .string d.hd.re, .string d.hd.le, .string d.hd.ri, .slice a d.hd.ls.length c, .slice a1 d.lines.length c1, .slice a2 d.labels.length c2] 7)
 have txr := text_run d.hd w1 (s1.ext x1) (by have := G.few; omega) (good_sizes G)
 simp only [H2.hl] at txr
 simp +decide only [go_sem, W_region, Wx_some, dl, e1, z1]
 refine W_call Kok x1.1 txr fun r w2 x2 hr => ?_
 subst hr
 have z2 : w2.get h.size = _ := (x2.2 _ (by omega)).trans z1
 obtain ⟨w3, e3, x3, hs3, z3⟩ := lay1 w2 (.cells [.string (txtB d.hd)] 1)
 have z23 : w3.get h.size = _ := (x3.2 _ (by have := x2.1; omega)).trans z2
 have s2' := s2.ext (x1.trans (x2.trans x3))
 have is2 := s2'.isl
 obtain ⟨a', c', w4, f4, x4, s4⟩ := one_more (h := h) (by omega) z3 s2' hm h.size
 obtain ⟨ad, had⟩ : ∃ ad, ad = Value.slice a1 d.lines.length c1 := ⟨_, rfl⟩
 have hld : ∃ ad', Value.slice a1 d.lines.length c1 = .slice ad' d.lines.length c1 := ⟨_, rfl⟩
 simp +decide only [go_sem, W_region, Wx_some, z2, e3, z23, is2, f4]
 exact ⟨a', c', rfl, s4⟩
end Go.Proofs.YtachkofbmodnnaaGreatDoor.D4
namespace Go.Proofs.YtachkofbmodnnaaGreatDoor.M0
open Go Go.Im Go.Im.Limbs Go.Im.Lexing Go.Im.Heads Go.Im.Editing Go.Im.Defn Go.Proofs Go.RowKit Hd N19 H2 H3 H4 H5 H7 D2 D3 D4
set_option maxRecDepth 100000
theorem validX_ext : K.ext f_unicode_utf8_ValidString = some fun _ args h => validRun args h := rfl
theorem uvalid_run (s : ByteArray) (h : Heap) (T : TabsAt h) (hs : s.size ≤ 1000000) : Runs K f_unicode_utf8_ValidString #[.string s] h fun r w => h = w ∧ ∃ b, r = .bool b := by
 refine Runs.of Kok (known_does validX_ext (v := .bool (Lib.validD s.data.toList)) (w := h) ?_ ⟨rfl, _, rfl⟩)
 simp only [validRun]
 rw [if_pos ⟨T, hs⟩]
theorem short_run (rows : List ByteArray) (h : Heap) {a : Option Addr} {c : Nat} (s : Sl h 1 a rows.length c (sv rows)) (T : TabsAt h) :
  Runs K f_law24_short #[.slice a rows.length c] h fun r w => h = w ∧ ∃ b, r = .bool b ∧ (b = true → rows.length ≤ 300 ∧ ∀ y ∈ rows, y.size ≤ 2000) := by
 refine Runs.of Kok (Does.intro rfl (by decide +kernel) F_law24_short rfl ?_)
 simp +decide only [go_sem, W_region, Wx_some]
 refine W_loop (α := Nat × Nat) (fun k e w => k.1 ≤ rows.length ∧ k.1 ≤ 300 ∧ k.2 ≤ 3000 ∧ e.size = 41 ∧ h = w ∧ e.get 0 = .slice a rows.length c ∧ e.get 3 = .int .i64 (k.2 : Int) ∧ e.get 4 = .int .i64 (k.1 : Int) ∧ ∀ y ∈ rows.take k.1, y.size ≤ 2000) (fun k => 300 - k.1) (0, 0) ?_ ?_
 ·exact ⟨Nat.zero_le _, by omega, by simp, by simp +decide only [go_sem], rfl, by simp +decide only [go_sem], by simp +decide only [go_sem]; rfl, by simp +decide only [go_sem]; rfl, by simp⟩
 rintro ⟨k, n⟩ e w ⟨hk, hk3, hn, hsz, hw, e0, e3, e4, hall⟩ next
 simp only at hk hk3 hn e3 e4 hall
 subst hw
 by_cases hkl : (k : Int) < ((rows.length : Nat) : Int)
 ·by_cases h3 : (k : Int) < 300
  ·obtain ⟨b, o, cs, rfl, q2, q3, q4⟩ := text_at s (i := k) (by omega)
   obtain ⟨y, hy⟩ : ∃ y, y = rows[k] := ⟨_, rfl⟩
   have hyk : rows[k]? = some y := by rw [hy]; exact List.getElem?_eq_getElem (by omega)
   rw [← hy] at q4
   have c0 : (0 : Int) ≤ (k : Int) := by omega
   have k1 : IntKind.i64.wrap ((k : Int) + 1) = ((k + 1 : Nat) : Int) := by rw [wrap_i64 (by omega) (by omega)]; omega
   by_cases hbig : (2000 : Int) < ((y.size : Nat) : Int)
   ·simp +decide only [go_sem, W_region, Wx_some, hsz, e0, e3, e4, hkl, h3, c0, Int.toNat_natCast, q3, q4, hbig]
    exact ⟨_, rfl, fun hh => by cases hh⟩
   ·have n1 : IntKind.i64.wrap ((n : Int) + ((y.size : Nat) : Int)) = ((n + y.size : Nat) : Int) := by rw [wrap_i64 (by omega) (by omega)]; omega
    simp +decide only [go_sem, W_region, Wx_some, hsz, e0, e3, e4, hkl, h3, c0, Int.toNat_natCast, q3, q4, hbig]
    refine W_call Kok (Nat.le_refl _) (uvalid_run y h T (by omega)) fun r w x hr => ?_
    obtain ⟨hw, b, rfl⟩ := hr
    subst hw
    cases b
    ·simp +decide only [go_sem, W_region, Wx_some, hsz, e0, e3, e4]
     exact ⟨_, rfl, fun hh => by cases hh⟩
    ·by_cases hsum : (3000 : Int) < ((n + y.size : Nat) : Int)
     ·simp +decide only [go_sem, W_region, Wx_some, hsz, e0, e3, e4, hkl, c0, Int.toNat_natCast, q3, q4, n1, hsum]
      exact ⟨_, rfl, fun hh => by cases hh⟩
     ·simp +decide only [go_sem, W_region, Wx_some, hsz, e0, e3, e4, hkl, c0, Int.toNat_natCast, q3, q4, n1, hsum, k1]
      refine next (k + 1, n + y.size) _ _ ⟨by simp only; omega, by simp only; omega, by simp only; omega, by simp +decide only [go_sem, hsz], rfl, by simp +decide only [go_sem, hsz, e0], by simp +decide only [go_sem, hsz], by simp +decide only [go_sem, hsz], ?_⟩ (by simp only; omega)
      intro z hz
      rw [List.take_add_one, hyk] at hz
      simp only [Option.toList_some, List.mem_append, List.mem_singleton] at hz
      rcases hz with hz | rfl
      ·exact hall z hz
      ·omega
  ·simp +decide only [go_sem, W_region, Wx_some, hsz, e0, e3, e4, hkl, h3]
   refine ⟨_, rfl, fun hh => ?_⟩
   have := of_decide_eq_true hh
   have hr : rows.take k = rows := List.take_of_length_le (by omega)
   rw [hr] at hall
   exact ⟨by omega, hall⟩
 ·simp +decide only [go_sem, W_region, Wx_some, hsz, e0, e3, e4, hkl]
  refine ⟨_, rfl, fun hh => ?_⟩
  have hr : rows.take k = rows := List.take_of_length_le (by omega)
  rw [hr] at hall
  exact ⟨by omega, hall⟩
end Go.Proofs.YtachkofbmodnnaaGreatDoor.M0
