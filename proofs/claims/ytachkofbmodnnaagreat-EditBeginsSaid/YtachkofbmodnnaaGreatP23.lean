/- Proved here: parts of the way to DEditBegins (DD6); no condition beyond those that each theorem names. -/
import Derived.Test.YtachkofbmodnnaaGreatP22
set_option linter.unusedSimpArgs false
set_option linter.unusedVariables false
namespace Go.Proofs.YtachkofbmodnnaaGreat.D6
open Go Go.Im Go.Im.Limbs Go.Im.Lexing Go.Im.Heads Go.Im.Editing Go.Im.Defn Go.Proofs Go.RowKit Hd H2 H3 H4 H5 H7 H8 D2 D3 D4 D5 E2 E7
set_option maxRecDepth 100000
theorem valid_run (n : Int) (h : Heap) : Runs K f_unicode_utf8_ValidRune #[.int .i32 n] h fun r w => h = w ∧ ∃ b, r = .bool b := by
 refine Runs.of Kok (Does.intro rfl (by decide +kernel) F_unicode_utf8_ValidRune rfl ?_)
 by_cases c1 : (0 : Int) ≤ n <;> by_cases c2 : n < 55296 <;> by_cases c3 : (57343 : Int) < n <;> by_cases c4 : n ≤ 1114111 <;> simp +decide only [go_sem, W_region, Wx_some, c1, c2, c3, c4] <;> exact ⟨_, rfl⟩
theorem short_run (l : List Int) (h : Heap) {v : Value} (t : Ln h v l) : Runs K f_law28_short #[v] h fun r w => h = w ∧ ∃ b, r = .bool b ∧ (b = true → l.length ≤ 300) := by
 refine Runs.of Kok (Does.intro rfl (by decide +kernel) F_law28_short rfl ?_)
 obtain ⟨a, c, rfl⟩ := t.open
 simp +decide only [go_sem, W_region, Wx_some]
 have fin : ∃ b, Value.bool (decide (((l.length : Nat) : Int) ≤ 300)) = .bool b ∧ (b = true → l.length ≤ 300) := ⟨_, rfl, fun hh => by have := of_decide_eq_true hh; omega⟩
 refine W_loop (α := Nat) (fun k e w => k ≤ l.length ∧ k ≤ 300 ∧ e.size = 23 ∧ h = w ∧ e.get 0 = .slice a l.length c ∧ e.get 3 = .int .i64 (k : Int)) (fun k => 300 - k) 0 ?_ ?_
 ·exact ⟨Nat.zero_le _, by omega, by simp +decide only [go_sem], rfl, by simp +decide only [go_sem], by simp +decide only [go_sem]; rfl⟩
 rintro k e w ⟨hk, hk3, hsz, hw, e0, e3⟩ next
 subst hw
 by_cases hkl : (k : Int) < ((l.length : Nat) : Int)
 ·by_cases h3 : (k : Int) < 300
  ·obtain ⟨x, hx⟩ : ∃ x, l[k]? = some x := ⟨_, List.getElem?_eq_getElem (by omega)⟩
   obtain ⟨b, o, cs, hq, q2, q3, q4⟩ := t.one hx
   cases hq
   have c0 : (0 : Int) ≤ (k : Int) := by omega
   have i1 : IntKind.i64.wrap ((k : Int) + 1) = ((k + 1 : Nat) : Int) := by rw [wrap_i64 (by omega) (by omega)]; omega
   simp +decide only [go_sem, W_region, Wx_some, hsz, e0, e3, hkl, h3, c0, Int.toNat_natCast, q3, q4]
   refine W_call Kok (Nat.le_refl _) (valid_run x h) fun r w y hr => ?_
   obtain ⟨hw, b, rfl⟩ := hr
   subst hw
   cases b
   ·simp +decide only [go_sem, W_region, Wx_some, hsz, e0, e3]
    exact ⟨_, rfl, fun hh => by cases hh⟩
   ·simp +decide only [go_sem, W_region, Wx_some, hsz, e0, e3, i1]
    exact next (k + 1) _ _ ⟨by omega, by omega, by simp +decide only [go_sem, hsz], rfl, by simp +decide only [go_sem, hsz, e0], by simp +decide only [go_sem, hsz]⟩ (by omega)
  ·simp +decide only [go_sem, W_region, Wx_some, hsz, e0, e3, hkl, h3]
   exact fin
 ·simp +decide only [go_sem, W_region, Wx_some, hsz, e0, e3, hkl]
  exact fin
theorem txt_size {x : HdT} (G : Heads.Good x) : (txtB x).size ≤ 100000 := by
 have hs : ∀ b : ByteArray, b.data.toList.length = b.size := fun b => by rw [Array.length_toList]; rfl
 have hf : ∀ ls : List ByteArray, (∀ y ∈ ls, y.size ≤ 96) → ((ls.map (·.data.toList)).flatMap fun x => (59 : UInt8) :: x).length ≤ 97 * ls.length := by
  intro ls
  induction ls with
  | nil => intro _; simp
  | cons y ls ih =>
    intro hy
    have h1 := ih fun z hz => hy z (by simp [hz])
    have h2 := hy y (by simp)
    have h3 := hs y
    simp only [List.map_cons, List.flatMap_cons, List.length_append, List.length_cons, h3]
    omega
 have h1 := hf x.ls G.ls
 have h2 := G.few
 have h3 := G.nm
 have h4 := G.re
 have h5 := G.le
 have h6 := G.ri
 have e : (txtB x).size = (txtL x).length := by rw [← hs]; rfl
 rw [e, txtL, S3.txt]
 have a1 : (if x.re.data.toList = [] then [] else x.re.data.toList ++ [(226 : UInt8), 134, 144]).length ≤ 99 := by
  split
  ·simp
  ·simp only [List.length_append, hs, List.length_cons, List.length_nil]; omega
 have a2 : (if x.le.data.toList = [] then [] else x.le.data.toList ++ [(32 : UInt8)]).length ≤ 97 := by
  split
  ·simp
  ·simp only [List.length_append, hs, List.length_cons, List.length_nil]; omega
 have a3 : (if x.ri.data.toList = [] then [] else (32 : UInt8) :: x.ri.data.toList).length ≤ 97 := by
  split
  ·simp
  ·simp only [hs, List.length_cons]; omega
 have a4 := hs x.nm
 simp only [List.length_append]
 omega
def edB (x : HdT) : EdT := ⟨[(0, txtB x)], 10000⟩
theorem begin_run (l : List Int) (h : Heap) {tv : Value} (t : Tx h tv l) (hm0 : l.length ≤ 1000000) :
  Runs K f_edit_Begin #[tv] h fun r w => ((hdp l).2 = false ∧ r = .tuple #[.pointer none, .bool false]) ∨ ((hdp l).2 = true ∧ ∃ v, r = .tuple #[v, .bool true] ∧ EV w v (edB (hdp l).1)) := by
 refine Runs.of Kok (Does.intro rfl (by decide +kernel) F_edit_Begin rfl ?_)
 simp +decide only [go_sem, W_region, Wx_some]
 refine W_call Kok (Nat.le_refl _) (parse_run l h t hm0) fun r w1 x1 hr => ?_
 obtain ⟨pa, pc, rfl, s1⟩ := hr
 have G := hdp_good l
 generalize hX : hdp l = X at s1 G ⊢
 obtain ⟨x, ok⟩ := X
 simp only at s1 G
 obtain ⟨w2, e2, x2, hs2, z2⟩ := lay1 w1 (.cells [.string ByteArray.empty, .string ByteArray.empty, .string ByteArray.empty, .string ByteArray.empty, .slice none 0 0] 5)
 obtain ⟨w3, e3, x3, hs3, z3, k3⟩ := put1 x2 (Nat.le_refl _) (.cells (H2.hl x (.slice pa x.ls.length pc)) 5)
 have x03 := x1.trans x3
 have j1 : h.size ≤ w1.size := x1.1
 have txr := text_run x w3 (s1.ext x3) (by have := G.few; omega) (good_sizes G)
 simp only [H2.hl] at e3 z3 txr
 cases ok with
 | false =>
   simp +decide only [go_sem, W_region, Wx_some, H2.hl, e2, z2, j1, e3]
   exact .inl trivial
 | true =>
   simp +decide only [go_sem, W_region, Wx_some, H2.hl, e2, z2, j1, e3, z3]
   refine W_call Kok x03.1 txr fun r w4 x4 hr => ?_
   subst hr
   obtain ⟨w5, e5, x5, hs5, z5⟩ := lay1 w4 (.cells [.int .i64 0, .string (txtB x)] 2)
   obtain ⟨w6, e6, x6, hs6, z6⟩ := lay1 w5 (.cells [.slice (some ⟨w4.size, 0, none⟩) 1 1, .int .i64 10000] 2)
   simp +decide only [go_sem, W_region, Wx_some, e5, e6]
   exact .inr ⟨_, rfl, w5.size, _, _, rfl, by omega, z6, .inr (.inr ⟨w4.size, 0, _, rfl, by omega, by omega, by rw [x6.2 _ (by omega), z5]; rfl, by simp [edB], rfl, .inl ⟨by simp [edB], by simp [big]⟩⟩)⟩
theorem rbegin_run (l : List Int) (h : Heap) {tv : Value} (t : Tx h tv l) (hm0 : l.length ≤ 1000000) :
  Runs K f_ref28_Begin #[tv] h fun r w => ((hdp l).2 = false ∧ r = .tuple #[.pointer none, .bool false]) ∨ ((hdp l).2 = true ∧ ∃ v, r = .tuple #[v, .bool true] ∧ EV w v (edB (hdp l).1)) := by
 refine Runs.of Kok (Does.intro rfl (by decide +kernel) F_ref28_Begin rfl ?_)
 simp +decide only [go_sem, W_region, Wx_some]
 refine W_call Kok (Nat.le_refl _) (rparse_run l h t hm0) fun r w1 x1 hr => ?_
 obtain ⟨pa, pc, rfl, s1⟩ := hr
 have G := hdp_good l
 generalize hX : hdp l = X at s1 G ⊢
 obtain ⟨x, ok⟩ := X
 simp only at s1 G
 obtain ⟨w2, e2, x2, hs2, z2⟩ := lay1 w1 (.cells [.string ByteArray.empty, .string ByteArray.empty, .string ByteArray.empty, .string ByteArray.empty, .slice none 0 0] 5)
 obtain ⟨w3, e3, x3, hs3, z3, k3⟩ := put1 x2 (Nat.le_refl _) (.cells (H2.hl x (.slice pa x.ls.length pc)) 5)
 have x03 := x1.trans x3
 have j1 : h.size ≤ w1.size := x1.1
 have txr := rtext_run x w3 (s1.ext x3) (by have := G.few; omega) (good_sizes G)
 simp only [H2.hl] at e3 z3 txr
 cases ok with
 | false =>
   simp +decide only [go_sem, W_region, Wx_some, H2.hl, e2, z2, j1, e3]
   exact .inl trivial
 | true =>
   simp +decide only [go_sem, W_region, Wx_some, H2.hl, e2, z2, j1, e3, z3]
   refine W_call Kok x03.1 txr fun r w4 x4 hr => ?_
   subst hr
   obtain ⟨w5, e5, x5, hs5, z5⟩ := lay1 w4 (.cells [.int .i64 0, .string (txtB x)] 2)
   obtain ⟨w6, e6, x6, hs6, z6⟩ := lay1 w5 (.cells [.slice (some ⟨w4.size, 0, none⟩) 1 1, .int .i64 10000] 2)
   simp +decide only [go_sem, W_region, Wx_some, e5, e6]
   exact .inr ⟨_, rfl, w5.size, _, _, rfl, by omega, z6, .inr (.inr ⟨w4.size, 0, _, rfl, by omega, by omega, by rw [x6.2 _ (by omega), z5]; rfl, by simp [edB], rfl, .inl ⟨by simp [edB], by simp [big]⟩⟩)⟩
theorem emake_run (x : EdT) (h : Heap) {v : Value} (V : EV h v x) (hm : x.rows.length ≤ 1000) (hz : ∀ r ∈ x.texts, r.size ≤ 100000) :
  Runs K f_edit_Editor_Make #[v] h fun r w => ∃ u, r = .tuple #[u, .int .i64 (makeS x.texts).2] ∧ DV w u (makeS x.texts).1 := by
 refine Runs.of Kok (Does.intro rfl (by decide +kernel) F_edit_Editor_Make rfl ?_)
 obtain ⟨w0, e0, x0, hs0, z0⟩ := lay1 h (.cells [.string ByteArray.empty, .string ByteArray.empty, .string ByteArray.empty, .string ByteArray.empty, .slice none 0 0, .slice none 0 0, .slice none 0 0] 7)
 simp +decide only [go_sem, W_region, Wx_some, e0]
 refine W_call Kok x0.1 (erows_run x w0 (V.ext x0) (by omega)) fun r w1 x1 hr => ?_
 obtain ⟨ra, rc, rfl, s1⟩ := hr
 simp +decide only [go_sem, W_region, Wx_some]
 refine W_call Kok (x0.trans x1).1 (make_run x.texts w1 s1 (by rw [x.texts_len]; exact hm) hz) fun r w2 x2 hr => ?_
 obtain ⟨u, rfl, D⟩ := hr
 have x02 := x0.trans (x1.trans x2)
 have g2 : w2.get h.size = _ := ((x1.trans x2).2 _ (by omega)).trans z0
 generalize makeS x.texts = M at *
 obtain ⟨d, i⟩ := M
 simp only at D
 have D' := D
 obtain ⟨a0, c0, a1, c1, a2, c2, rfl, -⟩ := D'
 have j0 : h.size ≤ h.size := Nat.le_refl _
 obtain ⟨w3, e3, x3, hs3, z3, k3⟩ := put1 x02 j0 (.cells (dl d.hd (.slice a0 d.hd.ls.length c0) (.slice a1 d.lines.length c1) (.slice a2 d.labels.length c2)) 7)
 have D3 := DV.put D g2 e3
 simp only [dl] at e3 z3
 simp +decide only [go_sem, W_region, Wx_some, dl, g2, j0, e3, z3]
 exact ⟨_, rfl, D3⟩
theorem shows_run (x : EdT) (h : Heap) {v u : Value} (V : EV h v x) (U : EV h u x) (hm : x.rows.length ≤ 900) (hz : ∀ r ∈ x.texts, r.size ≤ 100000) (hn : x.nx ≤ 9999999) :
  Runs K f_law28_shows #[v, u] h fun r w => r = .bool true := by
 refine Runs.of Kok (Does.intro rfl (by decide +kernel) F_law28_shows rfl ?_)
 have b1 : (⟨#[91]⟩ : ByteArray) = text [91] := rfl
 have b2 : (⟨#[93]⟩ : ByteArray) = text [93] := rfl
 have nl := num_len hn
 have cat1 := cat_ok (P := Tryz.prog) (t := 9) (a := [91]) (b := numT x.nx) (by simp; omega)
 have cat2 := cat_ok (P := Tryz.prog) (t := 9) (a := 91 :: numT x.nx) (b := [93]) (by simp; omega)
 rw [List.cons_append] at cat1 cat2
 rw [List.nil_append] at cat1
 have ht : x.texts.length ≤ 900 := by rw [x.texts_len]; exact hm
 have U' := U
 obtain ⟨q, ua0, uc0, rfl, hq, hg, -⟩ := U'
 simp +decide only [go_sem, W_region, Wx_some]
 refine W_call Kok (Nat.le_refl _) (emake_run x h V (by omega) hz) fun r w1 x1 hr => ?_
 obtain ⟨d1, rfl, D1⟩ := hr
 have rmk := fun (w : Heap) {a : Option Addr} {c : Nat} (s : Sl w 1 a x.texts.length c (sv x.texts)) => rmake_run x.texts w s (by omega) hz
 have G := make_good x.texts
 have few := make_few x.texts
 generalize makeS x.texts = M at *
 obtain ⟨d, i⟩ := M
 simp only at D1 G few rmk
 have D1' := D1
 obtain ⟨a0, c0, a1, c1, a2, c2, rfl, -⟩ := D1'
 obtain ⟨w2, e2, x2, hs2, z2⟩ := lay1 w1 (.cells [.string ByteArray.empty, .string ByteArray.empty, .string ByteArray.empty, .string ByteArray.empty, .slice none 0 0, .slice none 0 0, .slice none 0 0] 7)
 obtain ⟨w3, e3, x3, hs3, z3, k3⟩ := put1 x2 (Nat.le_refl _) (.cells (dl d.hd (.slice a0 d.hd.ls.length c0) (.slice a1 d.lines.length c1) (.slice a2 d.labels.length c2)) 7)
 have j1 : h.size ≤ w1.size := x1.1
 have K3 := x1.trans x3
 simp only [dl] at e3 z3
 simp +decide only [go_sem, W_region, Wx_some, dl, e2, z2, j1, e3]
 refine W_call Kok K3.1 (rerows_run x w3 (U.ext K3) (by omega)) fun r w4 x4 hr => ?_
 obtain ⟨ra, rc, rfl, s4⟩ := hr
 have K4 := K3.trans x4
 simp +decide only [go_sem, W_region, Wx_some]
 refine W_call Kok K4.1 (rmk w4 s4) fun r w5 x5 hr => ?_
 obtain ⟨d2, rfl, D2⟩ := hr
 have K5 := K4.trans x5
 have D2' := D2
 obtain ⟨p0, n0, p1, n1, p2, n2, rfl, -⟩ := D2'
 obtain ⟨w6, e6, x6, hs6, z6⟩ := lay1 w5 (.cells [.string ByteArray.empty, .string ByteArray.empty, .string ByteArray.empty, .string ByteArray.empty, .slice none 0 0, .slice none 0 0, .slice none 0 0] 7)
 obtain ⟨w7, e7, x7, hs7, z7, k7⟩ := put1 x6 (Nat.le_refl _) (.cells (dl d.hd (.slice p0 d.hd.ls.length n0) (.slice p1 d.lines.length n1) (.slice p2 d.labels.length n2)) 7)
 have j5 : h.size ≤ w5.size := K5.1
 have K7 := K5.trans x7
 have z37 : w7.get w1.size = _ := ((x4.trans (x5.trans x7)).2 _ (by omega)).trans z3
 have dr1 := drows_run d w7 (D1.ext (x3.trans (x4.trans (x5.trans x7)))) G (by omega)
 have dr2 := fun (w : Heap) (k : Ext w7 w) => rdrows_run d w (D2.ext (x7.trans k)) G (by omega)
 simp only [dl] at e7 z7 z37 dr1 dr2
 by_cases hi : i < 0
 ·simp +decide only [go_sem, W_region, Wx_some, dl, e6, z6, j5, e7, z7, z37, hi]
  refine W_call Kok K7.1 dr1 fun r w8 x8 hr => ?_
  obtain ⟨fa, fc, rfl, s8⟩ := hr
  have z8 : w8.get w5.size = _ := (x8.2 _ (by omega)).trans z7
  have K8 := K7.trans x8
  simp +decide only [go_sem, W_region, Wx_some, z8]
  refine W_call Kok K8.1 (dr2 w8 x8) fun r w9 x9 hr => ?_
  obtain ⟨ga, gc, rfl, s9⟩ := hr
  have K9' := K8.trans x9
  simp +decide only [go_sem, W_region, Wx_some]
  refine W_call Kok K9'.1 (texts_run (rowsT d) w9 (s8.ext x9) s9 (by rw [rows_len]; omega)) fun r w9b x9b hr => ?_
  obtain ⟨rfl, -⟩ := hr
  have K9 := K9'.trans x9b
  simp +decide only [go_sem, W_region, Wx_some]
  refine W_call Kok K9.1 (prompt_run x w9b (V.ext K9) hn) fun r w10 x10 hr => ?_
  subst hr
  have K10 := K9.trans x10
  have g10 : w10.get q = _ := (K10.2 q hq).trans hg
  simp +decide only [go_sem, W_region, Wx_some, g10]
  refine W_call Kok K10.1 (rnumber_run x.nx w10 hn) fun r w11 x11 hr => ?_
  subst hr
  have K11 := K10.trans x11
  simp +decide only [go_sem, W_region, Wx_some, b1, b2, cat1, cat2, prT]
  refine W_call Kok K11.1 (erows_run x w11 (V.ext K11) (by omega)) fun r w12 x12 hr => ?_
  obtain ⟨ua, uc, rfl, s12⟩ := hr
  have K12 := K11.trans x12
  simp +decide only [go_sem, W_region, Wx_some]
  refine W_call Kok K12.1 (rerows_run x w12 (U.ext K12) (by omega)) fun r w13 x13 hr => ?_
  obtain ⟨va, vc, rfl, s13⟩ := hr
  simp +decide only [go_sem, W_region, Wx_some]
  refine W_call Kok (K12.trans x13).1 (texts_run x.texts w13 (s12.ext x13) s13 (by rw [x.texts_len]; omega)) fun r w14 x14 hr => ?_
  obtain ⟨rfl, -⟩ := hr
  simp +decide only [go_sem, W_region, Wx_some]
 ·simp +decide only [go_sem, W_region, Wx_some, dl, e6, z6, j5, e7, hi]
  refine W_call Kok K7.1 (prompt_run x w7 (V.ext K7) hn) fun r w10 x10 hr => ?_
  subst hr
  have K10 := K7.trans x10
  have g10 : w10.get q = _ := (K10.2 q hq).trans hg
  simp +decide only [go_sem, W_region, Wx_some, g10]
  refine W_call Kok K10.1 (rnumber_run x.nx w10 hn) fun r w11 x11 hr => ?_
  subst hr
  have K11 := K10.trans x11
  simp +decide only [go_sem, W_region, Wx_some, b1, b2, cat1, cat2, prT]
  refine W_call Kok K11.1 (erows_run x w11 (V.ext K11) (by omega)) fun r w12 x12 hr => ?_
  obtain ⟨ua, uc, rfl, s12⟩ := hr
  have K12 := K11.trans x12
  simp +decide only [go_sem, W_region, Wx_some]
  refine W_call Kok K12.1 (rerows_run x w12 (U.ext K12) (by omega)) fun r w13 x13 hr => ?_
  obtain ⟨va, vc, rfl, s13⟩ := hr
  simp +decide only [go_sem, W_region, Wx_some]
  refine W_call Kok (K12.trans x13).1 (texts_run x.texts w13 (s12.ext x13) s13 (by rw [x.texts_len]; omega)) fun r w14 x14 hr => ?_
  obtain ⟨rfl, -⟩ := hr
  simp +decide only [go_sem, W_region, Wx_some]
theorem law_run (l : List Int) (h : Heap) {a : Option Addr} {c : Nat} (sl : Sl h 1 a l.length c (rv l)) (hc : c = 0 ∨ c = big) :
  Runs K f_law28_EditBegins #[.slice a l.length c] h fun r _ => r = .bool true := by
 have t := Ln.of sl hc
 refine Runs.of Kok (Does.intro rfl (by decide +kernel) F_law28_EditBegins rfl ?_)
 simp +decide only [go_sem, W_region, Wx_some]
 refine W_call Kok (Nat.le_refl _) (short_run l h t) fun r w x hr => ?_
 obtain ⟨hw, b, rfl, hb⟩ := hr
 subst hw
 cases b with
 | false =>
   simp +decide only [go_sem, W_region, Wx_some]
   refine W_call Kok (Nat.le_refl _) (law28_awake_runs h) fun r w x hr => ?_
   subst hr
   simp +decide only [go_sem, W_region, Wx_some]
 | true =>
   have hm : l.length ≤ 1000000 := Nat.le_trans (hb rfl) (by decide)
   simp +decide only [go_sem, W_region, Wx_some]
   refine W_call Kok (Nat.le_refl _) (begin_run l h t.tx hm) fun r w1 x1 hr => ?_
   rcases hr with ⟨hf, rfl⟩ | ⟨hf, v, rfl, V⟩
   ·simp +decide only [go_sem, W_region, Wx_some]
    refine W_call Kok x1.1 (rbegin_run l w1 (t.ext x1).tx hm) fun r w2 x2 hr => ?_
    rcases hr with ⟨_, rfl⟩ | ⟨hf', _⟩
    ·simp +decide only [go_sem, W_region, Wx_some]
     refine W_call Kok (x1.trans x2).1 (law28_awake_runs w2) fun r w x hr => ?_
     subst hr
     simp +decide only [go_sem, W_region, Wx_some]
    ·rw [hf] at hf'
     cases hf'
   ·simp +decide only [go_sem, W_region, Wx_some]
    refine W_call Kok x1.1 (rbegin_run l w1 (t.ext x1).tx hm) fun r w2 x2 hr => ?_
    rcases hr with ⟨hf', _⟩ | ⟨_, u, rfl, U⟩
    ·rw [hf] at hf'
     cases hf'
    have V2 := V.ext x2
    have V' := V2
    obtain ⟨q, pa, pc, rfl, -⟩ := V'
    simp +decide only [go_sem, W_region, Wx_some]
    refine W_call Kok (x1.trans x2).1 (shows_run (edB (hdp l).1) w2 V2 U (by simp [edB]) (fun r hr => by simp only [EdT.texts, edB, List.map_cons, List.map_nil, List.mem_singleton] at hr; subst hr; exact txt_size (hdp_good l)) (by simp [edB])) fun r w3 x3 hr => ?_
    subst hr
    simp +decide only [go_sem, W_region, Wx_some]
    refine W_call Kok ((x1.trans x2).trans x3).1 (law28_awake_runs w3) fun r w x hr => ?_
    subst hr
    simp +decide only [go_sem, W_region, Wx_some]
end Go.Proofs.YtachkofbmodnnaaGreat.D6
