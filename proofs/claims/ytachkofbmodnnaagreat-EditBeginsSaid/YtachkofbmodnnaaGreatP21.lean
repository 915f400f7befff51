/- Proved here: parts of the way to DEditBegins (DD2 DD3 DD4 DE4); no condition beyond those that each theorem names. -/
import Derived.Test.YtachkofbmodnnaaGreatP20
import Derived.Test.YtachkofbmodnnaaGreatP17
set_option linter.unusedSimpArgs false
set_option linter.unusedVariables false
namespace Go.Proofs.YtachkofbmodnnaaGreat.D2
open Go Go.Im Go.Im.Limbs Go.Im.Lexing Go.Im.Heads Go.Im.Editing Go.Im.Defn Go.Proofs Go.RowKit Hd N19 N23 R9 H2 H3 H5 H6 H7 H8 L1 E2
set_option maxRecDepth 100000
theorem mem_take {s : ByteArray} {tk : List ByteArray} {i : Nat} {y : ByteArray} (hy : tk[i]? = some y) (h : s ∉ tk.take i) (hne : ¬ s = y) : s ∉ tk.take (i + 1) := by
 rw [List.take_add_one, hy, List.mem_append]
 simp [h, hne]
theorem index_run (tk : List ByteArray) (s : ByteArray) (h : Heap) {a : Option Addr} {c : Nat} (sl : Sl h 1 a tk.length c (sv tk)) (hm : tk.length ≤ 1000000) : Runs K f_slices_Index_string_string #[.slice a tk.length c, .string s] h fun r w => h = w ∧ ∃ x : Int, r = .int .i64 x ∧ (0 ≤ x ↔ s ∈ tk) := by
 refine Runs.of Kok (Does.intro rfl (by decide +kernel) F_slices_Index_string_string rfl ?_)
 simp +decide only [go_sem, W_region, Wx_some]
 refine W_loop (α := Nat) (fun i e w => i ≤ tk.length ∧ e.size = 19 ∧ h = w ∧ e.get 0 = .slice a tk.length c ∧ e.get 1 = .string s ∧ e.get 7 = .int .i64 ((tk.length : Nat) : Int) ∧ e.get 8 = .int .i64 (i : Int) ∧ s ∉ tk.take i) (fun i => tk.length - i) 0 ?_ ?_
 ·exact ⟨Nat.zero_le _, by simp +decide only [go_sem], rfl, by simp +decide only [go_sem], by simp +decide only [go_sem], by simp +decide only [go_sem], by simp +decide only [go_sem]; rfl, by simp⟩
 rintro i e w ⟨hi, hsz, hw, e0, e1, e7, e8, hni⟩ next
 subst hw
 by_cases hil : (i : Int) < ((tk.length : Nat) : Int)
 ·obtain ⟨b, o, cs, rfl, q2, q3, q4⟩ := text_at sl (i := i) (by omega)
  have hy : tk[i]? = some tk[i] := List.getElem?_eq_getElem (by omega)
  have c0 : (0 : Int) ≤ (i : Int) := by omega
  have i1 : IntKind.i64.wrap ((i : Int) + 1) = ((i + 1 : Nat) : Int) := by rw [wrap_i64 (by omega) (by omega)]; omega
  by_cases hs : s = tk[i]
  ·simp +decide only [go_sem, W_region, Wx_some, hsz, e0, e1, e7, e8, hil, c0, Int.toNat_natCast, q3, q4, ← hs]
   have hmem : s ∈ tk := by rw [hs]; exact List.getElem_mem _
   first | exact ⟨rfl, _, rfl, iff_of_true c0 hmem⟩ | exact ⟨_, rfl, iff_of_true c0 hmem⟩ | simp [hmem, c0]
  ·simp +decide only [go_sem, W_region, Wx_some, hsz, e0, e1, e7, e8, hil, c0, Int.toNat_natCast, q3, q4, hs, i1]
   exact next (i + 1) _ _ ⟨by omega, by simp +decide only [go_sem, hsz], rfl, by simp +decide only [go_sem, hsz, e0], by simp +decide only [go_sem, hsz, e1], by simp +decide only [go_sem, hsz, e7], by simp +decide only [go_sem, hsz], mem_take hy hni hs⟩ (by omega)
 ·simp +decide only [go_sem, W_region, Wx_some, hsz, e0, e1, e7, e8, hil]
  have : ¬ s ∈ tk := by rwa [List.take_of_length_le (by omega)] at hni
  simp [this]
theorem contains_run (tk : List ByteArray) (s : ByteArray) (h : Heap) {a : Option Addr} {c : Nat} (sl : Sl h 1 a tk.length c (sv tk)) (hm : tk.length ≤ 1000000) : Runs K f_slices_Contains_string_string #[.slice a tk.length c, .string s] h fun r w => h = w ∧ r = .bool (decide (s ∈ tk)) := by
 refine Runs.of Kok (Does.intro rfl (by decide +kernel) F_slices_Contains_string_string rfl ?_)
 simp +decide only [go_sem, W_region, Wx_some]
 refine W_call Kok (Nat.le_refl _) (index_run tk s h sl hm) fun r w x hr => ?_
 obtain ⟨hw, y, rfl, hy⟩ := hr
 subst hw
 simp +decide only [go_sem, W_region, Wx_some]
 congr 2
 exact propext hy
set_option maxHeartbeats 4000000 in
theorem make_run (rows : List ByteArray) (h : Heap) {a : Option Addr} {c : Nat} (s : Sl h 1 a rows.length c (sv rows)) (hn : rows.length ≤ 1000) (hz : ∀ r ∈ rows, r.size ≤ 100000) :
  Runs K f_defn_Make #[.slice a rows.length c] h fun r w => ∃ v, r = .tuple #[v, .int .i64 (makeS rows).2] ∧ DV w v (makeS rows).1 := by
 refine Runs.of Kok (Does.intro rfl (by decide +kernel) F_defn_Make rfl ?_)
 obtain ⟨w0, e0, x0, hs0, z0⟩ := lay1 h (.cells [.string ByteArray.empty, .string ByteArray.empty, .string ByteArray.empty, .string ByteArray.empty, .slice none 0 0, .slice none 0 0, .slice none 0 0] 7)
 have j0 : h.size ≤ h.size := Nat.le_refl _
 have fin0 : ∀ (w : Heap) (C : List Value), Ext h w → ∃ w', w.set h.size (.cells C 7) = w' ∧ w'.get h.size = .cells C 7 ∧ w'.size = w.size ∧ ∀ b, b ≠ h.size → w'.get b = w.get b := fun w C xw => by
  obtain ⟨w1, e1, x1, hs1, g1, k1⟩ := put1 xw j0 (.cells C 7)
  exact ⟨w1, e1, g1, hs1, k1⟩
 have zd : ∀ w, DV w (.agg #[.string ByteArray.empty, .string ByteArray.empty, .string ByteArray.empty, .string ByteArray.empty, .slice none 0 0, .slice none 0 0, .slice none 0 0]) dZ := fun w => DV.zero w
 match rows, s, hn, hz with
 | [], s, hn, hz =>
   obtain ⟨w1, e1, g1, hs1, k1⟩ := fin0 w0 [.string ByteArray.empty, .string ByteArray.empty, .string ByteArray.empty, .string ByteArray.empty, .slice none 0 0, .slice none 0 0, .slice none 0 0] x0
   simp +decide only [go_sem, W_region, Wx_some, e0, List.length_nil, Int.natCast_zero, z0, j0, e1, g1]
   exact ⟨_, rfl, zd _⟩
 | r0 :: rs, s, hn, hz =>
 have hl0 : (r0 :: rs).length = rs.length + 1 := rfl
 have n0 : ¬ (((r0 :: rs).length : Nat) : Int) = 0 := by rw [hl0]; omega
 have n1 : (0 : Int) < (((r0 :: rs).length : Nat) : Int) := by rw [hl0]; omega
 obtain ⟨b, o, cs, rfl, q2, q3, q4⟩ := text_at s (i := 0) (by omega)
 obtain ⟨L, rfl⟩ := text_of r0
 rw [Nat.add_zero] at q4
 have q4' : cs[o]? = some (.string (text L)) := q4
 have q3' : (w0.get b).read = .cells cs 1 := by rw [x0.2 b q2]; exact q3
 have hr0 := hz (text L) (by simp)
 obtain ⟨l, hl⟩ : ∃ l, l = runesI (text L) := ⟨_, rfl⟩
 have hll : l.length ≤ 100000 := by rw [hl]; exact Nat.le_trans (runesI_len _) hr0
 obtain ⟨w1, e1, x1, hs1, z1⟩ := lay1 w0 (.cells (rv l) 1)
 have x01 := x0.trans x1
 have t1 : Ln w1 (.slice (some ⟨w0.size, 0, none⟩) l.length big) l := Ln.new (by omega) z1
 have ic := icvt_all (l := L) (h := w0)
 rw [← hl, e1] at ic
 clear q4
 generalize hN : (text L :: rs).length = N at *
 simp +decide only [go_sem, W_region, Wx_some, e0, n0, n1, show Int.toNat 0 = 0 from rfl, q3', q4', ic]
 refine W_call Kok x01.1 (parse_run l w1 t1.tx (by omega)) fun r w2 x2 hr => ?_
 obtain ⟨pa, pc, rfl, s2⟩ := hr
 have x02 := x01.trans x2
 have hms : makeS (text L :: rs) = if (hdp l).2 = true then linesS (hdp l).1 rs 1 [] [] (hdp l).1.all else (dZ, 0) := by rw [makeS, ← hl]
 have Gx := hdp_good l
 generalize hX : hdp l = X at s2 hms Gx
 obtain ⟨x, ok⟩ := X
 simp only at s2 hms Gx
 obtain ⟨w3, e3, x3, hs3, z3⟩ := lay1 w2 (.cells [.string ByteArray.empty, .string ByteArray.empty, .string ByteArray.empty, .string ByteArray.empty, .slice none 0 0] 5)
 obtain ⟨w4, e4, x4, hs4, z4, k4⟩ := put1 x3 (Nat.le_refl _) (.cells (H2.hl x (.slice pa x.ls.length pc)) 5)
 have x04 := x02.trans x4
 have j2 : h.size ≤ w2.size := x02.1
 have g0 : w4.get h.size = _ := ((x1.trans (x2.trans x4)).2 _ (by omega)).trans z0
 simp only [H2.hl] at e4 z4
 cases ok with
 | false =>
   obtain ⟨w5, e5, g5, hs5, k5⟩ := fin0 w4 [.string ByteArray.empty, .string ByteArray.empty, .string ByteArray.empty, .string ByteArray.empty, .slice none 0 0, .slice none 0 0, .slice none 0 0] x04
   simp +decide only [go_sem, W_region, Wx_some, H2.hl, e3, z3, j2, e4, g0, j0, e5, g5]
   rw [hms]
   exact ⟨_, rfl, zd _⟩
 | true =>
   obtain ⟨hv, hhv⟩ : ∃ hv, hv = Value.slice pa x.ls.length pc := ⟨_, rfl⟩
   have hok : cellOK hv = true := by rw [hhv]; rfl
   have few := Gx.few
   have s4 := s2.ext x4
   obtain ⟨w5, e5, x5, hs5, z5⟩ := lay1 w4 (.cells [.string ByteArray.empty, .string ByteArray.empty, .string ByteArray.empty, .string ByteArray.empty, .slice none 0 0, .slice none 0 0, .slice none 0 0] 7)
   obtain ⟨w6, e6, x6, hs6, z6, k6⟩ := put1 x5 (Nat.le_refl _) (.cells (dl x hv (.slice none 0 0) (.slice none 0 0)) 7)
   have x06 := x04.trans x6
   have j4 : h.size ≤ w4.size := x04.1
   have nmr := hnames_run x w6 (s4.ext x6) (by omega)
   simp only [H2.hl, ← hhv] at e4 z4 nmr
   simp only [dl] at e6
   have z46 : w6.get w2.size = _ := (x6.2 _ (by omega)).trans z4
   simp +decide only [go_sem, W_region, Wx_some, H2.hl, ← hhv, hok, e3, z3, j2, e4, z4, e5, z5, j4, e6, z46]
   refine W_call Kok x06.1 nmr fun r w7 x7 hr => ?_
   have z47 : w7.get w2.size = _ := (x7.2 _ (by omega)).trans z46
   obtain ⟨w8, e8, x8, hs8, z8⟩ := lay1 w7 (.cells [.string x.nm] 1)
   have x48 := x6.trans (x7.trans x8)
   have hnl := names_len x
   obtain ⟨w9, e9, o9, hs9, x9, k9⟩ := app_other (low := h.size) (bytes := 16) (k := 1) (new := [.string x.nm]) j4 x48 ((hr.ext x8).keep x6.1 fun b hb _ => ⟨rfl, hb⟩) (by omega) (by omega) rfl (by omega) (by omega)
   obtain ⟨ra, rc, rfl⟩ := hr.shape
   have hall : x.all.length = x.names.length + 1 := by simp [HdT.all]
   have hrq : vblk (.slice ra x.names.length rc) ≠ some w4.size := by
    intro hh
    have := (own_lh hr hh).1
    omega
   have S9 : DS w4 w4.size w9 x hv (.slice none 0 0) (.slice none 0 0) (.slice (some ⟨w8.size, 0, none⟩) (x.names.length + 1) big) [] [] x.all := by
    have m7 := x7.1
    have m8 := x8.1
    refine ⟨x9, Nat.le_refl _, by omega, ?_, Own.nil _ _ _, Own.nil _ _ _, ?_, fun b hb => by simp [vblk] at hb⟩
    ·rw [k9 _ (by omega) hrq, (x7.trans x8).2 _ (by omega), z6]
    ·rw [hall]
     have : sv x.all = sv x.names ++ [.string x.nm] := by rw [HdT.all, sv_append]; rfl
     rw [this]
     exact o9
   have hrs : N - 1 = rs.length := by rw [← hN]; rfl
   obtain ⟨ca, cc, f1, src⟩ := Sl.cut (x04.trans S9.ext) (by omega) s (lo := some (.int .i64 1)) (hi := none) (l := 1) (u := N) rfl rfl (by omega) (Nat.le_refl _)
   rw [hrs] at f1
   have src' : Sl h 1 ca rs.length cc (sv rs) := by
    rw [hrs, Nat.mul_one, Nat.mul_one] at src
    have e : ((sv (text L :: rs)).drop 1).take rs.length = sv rs := by rw [sv, List.map_cons, List.drop_one, List.tail_cons, List.take_of_length_le (by simp)]; rfl
    rw [e] at src
    exact src
   have hsb : h.size < w4.size := by omega
   simp +decide only [go_sem, W_region, Wx_some, z47, e8, z8, e9, f1]
   refine W_loop (α := Nat × Value × Value × Value × List ByteArray × List (ByteArray × Nat) × List ByteArray) (fun k e W => k.1 ≤ rs.length ∧ e.size = 98 ∧ DS w4 w4.size W x hv k.2.1 k.2.2.1 k.2.2.2.1 k.2.2.2.2.1 k.2.2.2.2.2.1 k.2.2.2.2.2.2 ∧ e.get 2 = .pointer (some ⟨h.size, 0, none⟩) ∧ e.get 6 = .pointer (some ⟨w4.size, 0, none⟩) ∧ e.get 7 = k.2.2.2.1 ∧
    e.get 39 = .slice ca rs.length cc ∧ e.get 40 = .int .i64 ((rs.length : Nat) : Int) ∧ e.get 41 = .int .i64 (k.1 : Int) ∧ linesS x rs 1 [] [] x.all = linesS x (rs.drop k.1) (k.1 + 1) k.2.2.2.2.1 k.2.2.2.2.2.1 k.2.2.2.2.2.2 ∧ k.2.2.2.2.1.length ≤ k.1 ∧ k.2.2.2.2.2.1.length ≤ k.1 ∧ k.2.2.2.2.2.2.length ≤ 1000 + k.1)
    (fun k => rs.length - k.1) (0, .slice none 0 0, .slice none 0 0, .slice (some ⟨w8.size, 0, none⟩) (x.names.length + 1) big, [], [], x.all) ?_ ?_
   ·exact ⟨Nat.zero_le _, by simp +decide only [go_sem], S9, by simp +decide only [go_sem], by simp +decide only [go_sem], by simp +decide only [go_sem], by simp +decide only [go_sem], by simp +decide only [go_sem], by simp +decide only [go_sem]; rfl, by simp, by simp, by simp, by simp only [hall]; omega⟩
   clear e9 o9 x9 k9 S9 f1 e8 z8 x8 hs8 hs9
   rintro ⟨k, lv, bv, tv, ls, lb, tk⟩ e W ⟨hk, hsz, S, g2, g6, g7, g39, g40, g41, hlin, hl1, hl2, hl3⟩ next
   simp only at hk S g7 g41 hlin hl1 hl2 hl3
   have xW := x04.trans S.ext
   have gz : W.get h.size = _ := (S.ext.2 _ hsb).trans g0
   have hrn : rs.length ≤ 1000 := by omega
   by_cases hkl : (k : Int) < ((rs.length : Nat) : Int)
   case neg =>
    have hke : rs.drop k = [] := List.drop_of_length_le (by omega)
    rw [hke, linesS] at hlin
    have V : DV W (.agg (dl x hv lv bv).toArray) ⟨x, ls, lb⟩ := by
     have S' := S
     rw [hhv] at S' ⊢
     exact S'.value s4
    have g := S.g
    obtain ⟨w', ew, gw, _⟩ := fin0 W (dl x hv lv bv) xW
    have V' := DV.put V gz ew
    simp only [dl] at g ew gw
    have hol : cellOK lv = true := by obtain ⟨a1, c1, hh⟩ := S.ol.shape; rw [hh]; rfl
    have hob : cellOK bv = true := by obtain ⟨a1, c1, hh⟩ := S.ob.shape; rw [hh]; rfl
    simp +decide only [go_sem, W_region, Wx_some, hsz, g2, g6, g7, g39, g40, g41, hkl, g, gz, j0, hok, hol, hob, ew, gw]
    rw [hms, if_pos rfl, hlin]
    exact ⟨_, rfl, V'⟩
   obtain ⟨b', o', cs', rfl, q2', q3', q4'⟩ := text_at (src'.ext xW) (i := k) (by omega)
   obtain ⟨r, hr⟩ : ∃ r, r = rs[k] := ⟨_, rfl⟩
   have hdr : rs.drop k = r :: rs.drop (k + 1) := by rw [hr]; exact List.drop_eq_getElem_cons (by omega)
   rw [← hr] at q4'
   have hrz := hz r (by rw [hr]; simp)
   rw [hdr] at hlin
   obtain ⟨L', rfl⟩ := text_of r
   obtain ⟨l', hl'⟩ : ∃ l', l' = runesI (text L') := ⟨_, rfl⟩
   have hll' : l'.length ≤ 100000 := by rw [hl']; exact Nat.le_trans (runesI_len _) hrz
   obtain ⟨u1, f1, y1, hs1', z1'⟩ := lay1 W (.cells (rv l') 1)
   have t1' : Ln u1 (.slice (some ⟨W.size, 0, none⟩) l'.length big) l' := Ln.new (by omega) z1'
   have ic' := icvt_all (l := L') (h := W)
   rw [← hl', f1] at ic'
   have c0 : (0 : Int) ≤ (k : Int) := by omega
   have k1 : IntKind.i64.wrap ((k : Int) + 1) = ((k + 1 : Nat) : Int) := by rw [wrap_i64 (by omega) (by omega)]; omega
   have S1 := S.more y1
   simp +decide only [go_sem, W_region, Wx_some, hsz, g2, g6, g7, g39, g40, g41, hkl, c0, Int.toNat_natCast, q3', q4', ic']
   refine W_call Kok (x04.trans S1.ext).1 (trim_run l' u1 t1' (by omega)) fun r u2 y2 hr2 => ?_
   obtain ⟨hw, tm⟩ := hr2
   have hw := hw.symm
   subst hw
   obtain ⟨m, hm⟩ : ∃ m, m = trimS l' := ⟨_, rfl⟩
   have hmm : trimS (runesI (text L')) = m := by rw [hm, hl']
   rw [← hm] at tm
   have hml : m.length ≤ 100000 := by rw [hm]; exact Nat.le_trans (trim_len l') hll'
   obtain ⟨ma, mc, rfl⟩ := tm.open
   simp +decide only [go_sem, W_region, Wx_some, hsz]
   refine W_call Kok (x04.trans S1.ext).1 (lex_run u1 tm.tx) fun r u3 y3 hr3 => ?_
   have S3 := S1.more y3
   have gz3 : u3.get h.size = _ := (S3.ext.2 _ hsb).trans g0
   have xz : Ext h u3 := x04.trans S3.ext
   obtain ⟨w', ew, gw, _⟩ := fin0 u3 [.string ByteArray.empty, .string ByteArray.empty, .string ByteArray.empty, .string ByteArray.empty, .slice none 0 0, .slice none 0 0, .slice none 0 0] xz
   rcases hr3 with ⟨hlex, rfl⟩ | ⟨xs, xa, xc, hlex, hA, hxl, rfl, sx⟩
   ·rw [lines_bad (.inl (by rw [hmm, hlex]; rfl))] at hlin
    simp +decide only [go_sem, W_region, Wx_some, hsz, g2, g6, g7, g39, g40, g41, gz3, j0, ew, gw, k1]
    rw [hms, if_pos rfl, hlin]
    exact ⟨_, rfl, zd _⟩
   by_cases h200 : (200 : Int) ≤ (k : Int)
   ·rw [lines_bad (.inr (by omega))] at hlin
    simp +decide only [go_sem, W_region, Wx_some, hsz, g2, g6, g7, g39, g40, g41, h200, gz3, j0, ew, gw, k1]
    rw [hms, if_pos rfl, hlin]
    exact ⟨_, rfl, zd _⟩
   have hok : ¬ ((lex (trimS (runesI (text L')))).isNone = true ∨ 200 < k + 1) := by
    rw [hmm, hlex]
    simp
    omega
   simp +decide only [go_sem, W_region, Wx_some, hsz, h200]
   refine W_call Kok xz.1 (label_run m u3 ((tm.ext y3).tx) (by omega)) fun r u4 y4 hr4 => ?_
   obtain ⟨uu, rfl, _⟩ := hr4
   have S4 := S3.more y4
   have tm4 := tm.ext (y3.trans y4)
   obtain ⟨lab, hlab⟩ : ∃ lab, lab = (labelL m).1 := ⟨_, rfl⟩
   rw [← hlab]
   have xz4 : Ext h u4 := x04.trans S4.ext
   by_cases hE : lab = E
   ·have hE' : lab = ⟨#[]⟩ := hE
    rw [lines_none hok (by rw [hmm, ← hlab]; exact hE), hmm] at hlin
    have is4 := tm4.islice
    obtain ⟨v1, v2, v3, a1, b1, a2, b2, a3, S5⟩ := S4.line (low := h.size) j4 (runesBytes m) (by omega)
    have g4 := S4.g
    simp only [dl] at g4 b2 a3
    simp +decide only [go_sem, W_region, Wx_some, hsz, g2, g6, g7, g39, g40, g41, hE', g4, is4, icvs_rv, a1, b1, a2, b2, a3, j4, k1]
    exact next (k + 1, .slice (some ⟨v1.size, 0, none⟩) (ls.length + 1) big, bv, tv, ls ++ [runesBytes m], lb, tk) _ _ ⟨by simp only; omega, by simp +decide only [go_sem, hsz], S5, by simp +decide only [go_sem, hsz, g2], by simp +decide only [go_sem, hsz, g6], by simp +decide only [go_sem, hsz, g7], by simp +decide only [go_sem, hsz, g39], by simp +decide only [go_sem, hsz, g40], by simp +decide only [go_sem, hsz], hlin, by simp; omega, by simp only; omega, by simp only; omega⟩ (by simp only; omega)
   have hE' : ¬ lab = ⟨#[]⟩ := hE
   obtain ⟨ta, tc, rfl⟩ := S4.ot.shape
   simp +decide only [go_sem, W_region, Wx_some, hsz, g2, g6, g7, hE']
   refine W_call Kok xz4.1 (contains_run tk lab u4 S4.ot.sl (by omega)) fun r u5 y5 hr5 => ?_
   obtain ⟨hw, rfl⟩ := hr5
   subst hw
   by_cases hmem : lab ∈ tk
   ·rw [lines_twice hok (by rw [hmm, ← hlab]; exact hE) (by rw [hmm, ← hlab]; exact hmem)] at hlin
    have gz4 : u4.get h.size = _ := (S4.ext.2 _ hsb).trans g0
    obtain ⟨w', ew, gw, _⟩ := fin0 u4 [.string ByteArray.empty, .string ByteArray.empty, .string ByteArray.empty, .string ByteArray.empty, .slice none 0 0, .slice none 0 0, .slice none 0 0] xz4
    simp +decide only [go_sem, W_region, Wx_some, hsz, g2, g6, g7, g39, g40, g41, hmem, gz4, j0, ew, gw, k1]
    rw [hms, if_pos rfl, hlin]
    exact ⟨_, rfl, zd _⟩
   rw [lines_more hok (by rw [hmm, ← hlab]; exact hE) (by rw [hmm, ← hlab]; exact hmem), hmm, ← hlab] at hlin
   obtain ⟨v1, v2, a1, b1, a2, S5, r5⟩ := S4.take (low := h.size) j4 lab (by omega)
   obtain ⟨v3, v4, v5, a3, b3, a4, b4, a5, S6, r6⟩ := S5.label (low := h.size) j4 lab (k + 1) (by omega)
   have is6 := ((RK.of (y3.trans y4)).trans (r5.trans r6)).islice tm
   obtain ⟨v6, v7, v8, a6, b6, a7, b7, a8, S7⟩ := S6.line (low := h.size) j4 (runesBytes m) (by omega)
   have g5 := S5.g
   have g6' := S6.g
   simp only [dl] at g5 g6' b4 a5 b7 a8
   simp +decide only [go_sem, W_region, Wx_some, hsz, g2, g6, g7, g39, g40, g41, hmem, a1, b1, a2, g5, a3, b3, a4, b4, a5, g6', is6, icvs_rv, a6, b6, a7, b7, a8, j4, k1]
   exact next (k + 1, .slice (some ⟨v6.size, 0, none⟩) (ls.length + 1) big, .slice (some ⟨v3.size, 0, none⟩) (lb.length + 1) big, .slice (some ⟨v1.size, 0, none⟩) (tk.length + 1) big, ls ++ [runesBytes m], lb ++ [(lab, k + 1)], tk ++ [lab]) _ _ ⟨by simp only; omega, by simp +decide only [go_sem, hsz], S7, by simp +decide only [go_sem, hsz, g2], by simp +decide only [go_sem, hsz, g6], by simp +decide only [go_sem, hsz], by simp +decide only [go_sem, hsz, g39], by simp +decide only [go_sem, hsz, g40], by simp +decide only [go_sem, hsz], hlin, by simp; omega, by simp; omega, by simp; omega⟩ (by simp only; omega)
end Go.Proofs.YtachkofbmodnnaaGreat.D2
namespace Go.Proofs.YtachkofbmodnnaaGreat.D3
open Go Go.Im Go.Im.Limbs Go.Im.Lexing Go.Im.Heads Go.Im.Editing Go.Im.Defn Go.Proofs Go.RowKit Hd N19 N23 R9 H2 H3 H5 H6 H7 H8 L1 E2 D2
set_option maxRecDepth 100000
theorem has_run (tk : List ByteArray) (s : ByteArray) (h : Heap) {a : Option Addr} {c : Nat} (sl : Sl h 1 a tk.length c (sv tk)) (hm : tk.length ≤ 1000000) : Runs K f_ref24_has #[.slice a tk.length c, .string s] h fun r w => h = w ∧ r = .bool (decide (s ∈ tk)) := by
 refine Runs.of Kok (Does.intro rfl (by decide +kernel) F_ref24_has rfl ?_)
 simp +decide only [go_sem, W_region, Wx_some]
 refine W_loop (α := Nat) (fun i e w => i ≤ tk.length ∧ e.size = 18 ∧ h = w ∧ e.get 0 = .slice a tk.length c ∧ e.get 1 = .string s ∧ e.get 5 = .int .i64 (i : Int) ∧ s ∉ tk.take i) (fun i => tk.length - i) 0 ?_ ?_
 ·exact ⟨Nat.zero_le _, by simp +decide only [go_sem], rfl, by simp +decide only [go_sem], by simp +decide only [go_sem], by simp +decide only [go_sem]; rfl, by simp⟩
 rintro i e w ⟨hi, hsz, hw, e0, e1, e5, hni⟩ next
 subst hw
 by_cases hil : (i : Int) < ((tk.length : Nat) : Int)
 ·obtain ⟨b, o, cs, rfl, q2, q3, q4⟩ := text_at sl (i := i) (by omega)
  have hy : tk[i]? = some tk[i] := List.getElem?_eq_getElem (by omega)
  have c0 : (0 : Int) ≤ (i : Int) := by omega
  have i1 : IntKind.i64.wrap ((i : Int) + 1) = ((i + 1 : Nat) : Int) := by rw [wrap_i64 (by omega) (by omega)]; omega
  by_cases hs : tk[i] = s
  ·simp +decide only [go_sem, W_region, Wx_some, hsz, e0, e1, e5, hil, c0, Int.toNat_natCast, q3, q4, hs]
   have : s ∈ tk := by rw [← hs]; exact List.getElem_mem _
   simp [this]
  ·simp +decide only [go_sem, W_region, Wx_some, hsz, e0, e1, e5, hil, c0, Int.toNat_natCast, q3, q4, hs, i1]
   exact next (i + 1) _ _ ⟨by omega, by simp +decide only [go_sem, hsz], rfl, by simp +decide only [go_sem, hsz, e0], by simp +decide only [go_sem, hsz, e1], by simp +decide only [go_sem, hsz], mem_take hy hni (fun hh => hs hh.symm)⟩ (by omega)
 ·simp +decide only [go_sem, W_region, Wx_some, hsz, e0, e1, e5, hil]
  have : ¬ s ∈ tk := by rwa [List.take_of_length_le (by omega)] at hni
  simp [this]
set_option maxHeartbeats 4000000 in
theorem rmake_run (rows : List ByteArray) (h : Heap) {a : Option Addr} {c : Nat} (s : Sl h 1 a rows.length c (sv rows)) (hn : rows.length ≤ 1000) (hz : ∀ r ∈ rows, r.size ≤ 100000) :
  Runs K f_ref24_Make #[.slice a rows.length c] h fun r w => ∃ v, r = .tuple #[v, .int .i64 (makeS rows).2] ∧ DV w v (makeS rows).1 := by
 refine Runs.of Kok (Does.intro rfl (by decide +kernel) F_ref24_Make rfl ?_)
 obtain ⟨w0, e0, x0, hs0, z0⟩ := lay1 h (.cells [.string ByteArray.empty, .string ByteArray.empty, .string ByteArray.empty, .string ByteArray.empty, .slice none 0 0, .slice none 0 0, .slice none 0 0] 7)
 have j0 : h.size ≤ h.size := Nat.le_refl _
 have fin0 : ∀ (w : Heap) (C : List Value), Ext h w → ∃ w', w.set h.size (.cells C 7) = w' ∧ w'.get h.size = .cells C 7 ∧ w'.size = w.size ∧ ∀ b, b ≠ h.size → w'.get b = w.get b := fun w C xw => by
  obtain ⟨w1, e1, x1, hs1, g1, k1⟩ := put1 xw j0 (.cells C 7)
  exact ⟨w1, e1, g1, hs1, k1⟩
 have zd : ∀ w, DV w (.agg #[.string ByteArray.empty, .string ByteArray.empty, .string ByteArray.empty, .string ByteArray.empty, .slice none 0 0, .slice none 0 0, .slice none 0 0]) dZ := fun w => DV.zero w
 match rows, s, hn, hz with
 | [], s, hn, hz =>
   obtain ⟨w1, e1, g1, hs1, k1⟩ := fin0 w0 [.string ByteArray.empty, .string ByteArray.empty, .string ByteArray.empty, .string ByteArray.empty, .slice none 0 0, .slice none 0 0, .slice none 0 0] x0
   simp +decide only [go_sem, W_region, Wx_some, e0, List.length_nil, Int.natCast_zero, z0, j0, e1, g1]
   exact ⟨_, rfl, zd _⟩
 | r0 :: rs, s, hn, hz =>
 have hl0 : (r0 :: rs).length = rs.length + 1 := rfl
 have n0 : ¬ (((r0 :: rs).length : Nat) : Int) = 0 := by rw [hl0]; omega
 have n1 : (0 : Int) < (((r0 :: rs).length : Nat) : Int) := by rw [hl0]; omega
 obtain ⟨b, o, cs, rfl, q2, q3, q4⟩ := text_at s (i := 0) (by omega)
 obtain ⟨L, rfl⟩ := text_of r0
 rw [Nat.add_zero] at q4
 have q4' : cs[o]? = some (.string (text L)) := q4
 have q3' : (w0.get b).read = .cells cs 1 := by rw [x0.2 b q2]; exact q3
 have hr0 := hz (text L) (by simp)
 obtain ⟨l, hl⟩ : ∃ l, l = runesI (text L) := ⟨_, rfl⟩
 have hll : l.length ≤ 100000 := by rw [hl]; exact Nat.le_trans (runesI_len _) hr0
 obtain ⟨w1, e1, x1, hs1, z1⟩ := lay1 w0 (.cells (rv l) 1)
 have x01 := x0.trans x1
 have t1 : Ln w1 (.slice (some ⟨w0.size, 0, none⟩) l.length big) l := Ln.new (by omega) z1
 have ic := icvt_all (l := L) (h := w0)
 rw [← hl, e1] at ic
 have hcs' : ∀ k (hk : k < rs.length), cs[o + (k + 1)]? = some (.string rs[k]) := fun k hk => by
  obtain ⟨b2, o2, cs2, hq, p2, p3, p4⟩ := text_at s (i := k + 1) (by rw [hl0]; omega)
  cases hq
  rw [q3] at p3
  cases p3
  exact p4
 clear q4
 generalize hN : (text L :: rs).length = N at *
 simp +decide only [go_sem, W_region, Wx_some, e0, n0, n1, show Int.toNat 0 = 0 from rfl, q3', q4', ic]
 refine W_call Kok x01.1 (rparse_run l w1 t1.tx (by omega)) fun r w2 x2 hr => ?_
 obtain ⟨pa, pc, rfl, s2⟩ := hr
 have x02 := x01.trans x2
 have hms : makeS (text L :: rs) = if (hdp l).2 = true then linesS (hdp l).1 rs 1 [] [] (hdp l).1.all else (dZ, 0) := by rw [makeS, ← hl]
 have Gx := hdp_good l
 generalize hX : hdp l = X at s2 hms Gx
 obtain ⟨x, ok⟩ := X
 simp only at s2 hms Gx
 obtain ⟨w3, e3, x3, hs3, z3⟩ := lay1 w2 (.cells [.string ByteArray.empty, .string ByteArray.empty, .string ByteArray.empty, .string ByteArray.empty, .slice none 0 0] 5)
 obtain ⟨w4, e4, x4, hs4, z4, k4⟩ := put1 x3 (Nat.le_refl _) (.cells (H2.hl x (.slice pa x.ls.length pc)) 5)
 have x04 := x02.trans x4
 have j2 : h.size ≤ w2.size := x02.1
 have g0 : w4.get h.size = _ := ((x1.trans (x2.trans x4)).2 _ (by omega)).trans z0
 simp only [H2.hl] at e4 z4
 cases ok with
 | false =>
   obtain ⟨w5, e5, g5, hs5, k5⟩ := fin0 w4 [.string ByteArray.empty, .string ByteArray.empty, .string ByteArray.empty, .string ByteArray.empty, .slice none 0 0, .slice none 0 0, .slice none 0 0] x04
   simp +decide only [go_sem, W_region, Wx_some, H2.hl, e3, z3, j2, e4, g0, j0, e5, g5]
   rw [hms]
   exact ⟨_, rfl, zd _⟩
 | true =>
   obtain ⟨hv, hhv⟩ : ∃ hv, hv = Value.slice pa x.ls.length pc := ⟨_, rfl⟩
   have hok : cellOK hv = true := by rw [hhv]; rfl
   have few := Gx.few
   have s4 := s2.ext x4
   obtain ⟨w5, e5, x5, hs5, z5⟩ := lay1 w4 (.cells [.string ByteArray.empty, .string ByteArray.empty, .string ByteArray.empty, .string ByteArray.empty, .slice none 0 0, .slice none 0 0, .slice none 0 0] 7)
   obtain ⟨w6, e6, x6, hs6, z6, k6⟩ := put1 x5 (Nat.le_refl _) (.cells (dl x hv (.slice none 0 0) (.slice none 0 0)) 7)
   have x06 := x04.trans x6
   have j4 : h.size ≤ w4.size := x04.1
   have nmr := rnames_run x w6 (s4.ext x6) (by omega)
   simp only [H2.hl, ← hhv] at e4 z4 nmr
   simp only [dl] at e6
   have z46 : w6.get w2.size = _ := (x6.2 _ (by omega)).trans z4
   simp +decide only [go_sem, W_region, Wx_some, H2.hl, ← hhv, hok, e3, z3, j2, e4, z4, e5, z5, j4, e6, z46]
   refine W_call Kok x06.1 nmr fun r w7 x7 hr => ?_
   have z47 : w7.get w2.size = _ := (x7.2 _ (by omega)).trans z46
   obtain ⟨w8, e8, x8, hs8, z8⟩ := lay1 w7 (.cells [.string x.nm] 1)
   have x48 := x6.trans (x7.trans x8)
   have hnl := names_len x
   obtain ⟨w9, e9, o9, hs9, x9, k9⟩ := app_other (low := h.size) (bytes := 16) (k := 1) (new := [.string x.nm]) j4 x48 ((hr.ext x8).keep x6.1 fun b hb _ => ⟨rfl, hb⟩) (by omega) (by omega) rfl (by omega) (by omega)
   obtain ⟨ra, rc, rfl⟩ := hr.shape
   have hall : x.all.length = x.names.length + 1 := by simp [HdT.all]
   have hrq : vblk (.slice ra x.names.length rc) ≠ some w4.size := by
    intro hh
    have := (own_lh hr hh).1
    omega
   have S9 : DS w4 w4.size w9 x hv (.slice none 0 0) (.slice none 0 0) (.slice (some ⟨w8.size, 0, none⟩) (x.names.length + 1) big) [] [] x.all := by
    have m7 := x7.1
    have m8 := x8.1
    refine ⟨x9, Nat.le_refl _, by omega, ?_, Own.nil _ _ _, Own.nil _ _ _, ?_, fun b hb => by simp [vblk] at hb⟩
    ·rw [k9 _ (by omega) hrq, (x7.trans x8).2 _ (by omega), z6]
    ·rw [hall]
     have : sv x.all = sv x.names ++ [.string x.nm] := by rw [HdT.all, sv_append]; rfl
     rw [this]
     exact o9
   have hrs : N - 1 = rs.length := by rw [← hN]; rfl
   have hsb : h.size < w4.size := by omega
   simp +decide only [go_sem, W_region, Wx_some, z47, e8, z8, e9]
   refine W_loop (α := Nat × Value × Value × Value × List ByteArray × List (ByteArray × Nat) × List ByteArray) (fun k e W => k.1 ≤ rs.length ∧ e.size = 94 ∧ DS w4 w4.size W x hv k.2.1 k.2.2.1 k.2.2.2.1 k.2.2.2.2.1 k.2.2.2.2.2.1 k.2.2.2.2.2.2 ∧ e.get 2 = .pointer (some ⟨h.size, 0, none⟩) ∧ e.get 6 = .pointer (some ⟨w4.size, 0, none⟩) ∧ e.get 7 = k.2.2.2.1 ∧
    e.get 0 = .slice (some ⟨b, o, none⟩) N c ∧ e.get 8 = .int .i64 ((k.1 + 1 : Nat) : Int) ∧ linesS x rs 1 [] [] x.all = linesS x (rs.drop k.1) (k.1 + 1) k.2.2.2.2.1 k.2.2.2.2.2.1 k.2.2.2.2.2.2 ∧ k.2.2.2.2.1.length ≤ k.1 ∧ k.2.2.2.2.2.1.length ≤ k.1 ∧ k.2.2.2.2.2.2.length ≤ 1000 + k.1)
    (fun k => rs.length - k.1) (0, .slice none 0 0, .slice none 0 0, .slice (some ⟨w8.size, 0, none⟩) (x.names.length + 1) big, [], [], x.all) ?_ ?_
   ·exact ⟨Nat.zero_le _, by simp +decide only [go_sem], S9, by simp +decide only [go_sem], by simp +decide only [go_sem], by simp +decide only [go_sem], by simp +decide only [go_sem], by simp +decide only [go_sem]; rfl, by simp, by simp, by simp, by simp only [hall]; omega⟩
   clear e9 o9 x9 k9 S9 e8 z8 x8 hs8 hs9
   rintro ⟨k, lv, bv, tv, ls, lb, tk⟩ e W ⟨hk, hsz, S, g2, g6, g7, ga, g8, hlin, hl1, hl2, hl3⟩ next
   simp only at hk S g7 g8 hlin hl1 hl2 hl3
   have xW := x04.trans S.ext
   have gz : W.get h.size = _ := (S.ext.2 _ hsb).trans g0
   have hrn : rs.length ≤ 1000 := by omega
   by_cases hkl : ((k + 1 : Nat) : Int) < ((N : Nat) : Int)
   case neg =>
    have hke : rs.drop k = [] := List.drop_of_length_le (by omega)
    rw [hke, linesS] at hlin
    have V : DV W (.agg (dl x hv lv bv).toArray) ⟨x, ls, lb⟩ := by
     have S' := S
     rw [hhv] at S' ⊢
     exact S'.value s4
    have g := S.g
    obtain ⟨w', ew, gw, _⟩ := fin0 W (dl x hv lv bv) xW
    have V' := DV.put V gz ew
    simp only [dl] at g ew gw
    have hol : cellOK lv = true := by obtain ⟨a1, c1, hh⟩ := S.ol.shape; rw [hh]; rfl
    have hob : cellOK bv = true := by obtain ⟨a1, c1, hh⟩ := S.ob.shape; rw [hh]; rfl
    simp +decide only [go_sem, W_region, Wx_some, hsz, g2, g6, g7, ga, g8, hkl, g, gz, j0, hok, hol, hob, ew, gw]
    rw [hms, if_pos rfl, hlin]
    exact ⟨_, rfl, V'⟩
   have hkn : k < rs.length := by omega
   obtain ⟨r, hr⟩ : ∃ r, r = rs[k] := ⟨_, rfl⟩
   have q4' : cs[o + (k + 1)]? = some (.string r) := by rw [hr]; exact hcs' k hkn
   have q3' : (W.get b).read = .cells cs 1 := by rw [xW.2 b q2]; exact q3
   have hdr : rs.drop k = r :: rs.drop (k + 1) := by rw [hr]; exact List.drop_eq_getElem_cons (by omega)
   have hrz := hz r (by rw [hr]; simp)
   rw [hdr] at hlin
   obtain ⟨L', rfl⟩ := text_of r
   obtain ⟨l', hl'⟩ : ∃ l', l' = runesI (text L') := ⟨_, rfl⟩
   have hll' : l'.length ≤ 100000 := by rw [hl']; exact Nat.le_trans (runesI_len _) hrz
   obtain ⟨u1, f1, y1, hs1', z1'⟩ := lay1 W (.cells (rv l') 1)
   have t1' : Ln u1 (.slice (some ⟨W.size, 0, none⟩) l'.length big) l' := Ln.new (by omega) z1'
   have ic' := icvt_all (l := L') (h := W)
   rw [← hl', f1] at ic'
   have c0 : (0 : Int) ≤ ((k + 1 : Nat) : Int) := by omega
   have k1 : IntKind.i64.wrap (((k + 1 : Nat) : Int) + 1) = ((k + 1 + 1 : Nat) : Int) := by rw [wrap_i64 (by omega) (by omega)]; omega
   have S1 := S.more y1
   simp +decide only [go_sem, W_region, Wx_some, hsz, g2, g6, g7, ga, g8, hkl, c0, Int.toNat_natCast, q3', q4', ic']
   refine W_call Kok (x04.trans S1.ext).1 (rtrim_run l' u1 t1' (by omega)) fun r u2 y2 hr2 => ?_
   obtain ⟨hw, tm⟩ := hr2
   have hw := hw.symm
   subst hw
   obtain ⟨m, hm⟩ : ∃ m, m = trimS l' := ⟨_, rfl⟩
   have hmm : trimS (runesI (text L')) = m := by rw [hm, hl']
   rw [← hm] at tm
   have hml : m.length ≤ 100000 := by rw [hm]; exact Nat.le_trans (trim_len l') hll'
   obtain ⟨ma, mc, rfl⟩ := tm.open
   simp +decide only [go_sem, W_region, Wx_some, hsz]
   refine W_call Kok (x04.trans S1.ext).1 (rlex_run u1 tm.tx) fun r u3 y3 hr3 => ?_
   have S3 := S1.more y3
   have gz3 : u3.get h.size = _ := (S3.ext.2 _ hsb).trans g0
   have xz : Ext h u3 := x04.trans S3.ext
   obtain ⟨w', ew, gw, _⟩ := fin0 u3 [.string ByteArray.empty, .string ByteArray.empty, .string ByteArray.empty, .string ByteArray.empty, .slice none 0 0, .slice none 0 0, .slice none 0 0] xz
   rcases hr3 with ⟨hlex, rfl⟩ | ⟨xs, xa, xc, hlex, hA, hxl, rfl, sx⟩
   ·rw [lines_bad (.inl (by rw [hmm, hlex]; rfl))] at hlin
    simp +decide only [go_sem, W_region, Wx_some, hsz, g2, g6, g7, ga, g8, gz3, j0, ew, gw, k1]
    rw [hms, if_pos rfl, hlin]
    exact ⟨_, rfl, zd _⟩
   by_cases h200 : (200 : Int) < ((k + 1 : Nat) : Int)
   ·rw [lines_bad (.inr (by omega))] at hlin
    simp +decide only [go_sem, W_region, Wx_some, hsz, g2, g6, g7, ga, g8, h200, gz3, j0, ew, gw, k1]
    rw [hms, if_pos rfl, hlin]
    exact ⟨_, rfl, zd _⟩
   have hok : ¬ ((lex (trimS (runesI (text L')))).isNone = true ∨ 200 < k + 1) := by
    rw [hmm, hlex]
    simp
    omega
   simp +decide only [go_sem, W_region, Wx_some, hsz, g8, h200]
   refine W_call Kok xz.1 (rlabel_run m u3 ((tm.ext y3).tx) (lex_512 hlex)) fun r u4 y4 hr4 => ?_
   obtain ⟨uu, rfl, _⟩ := hr4
   have S4 := S3.more y4
   have tm4 := tm.ext (y3.trans y4)
   obtain ⟨lab, hlab⟩ : ∃ lab, lab = (labelL m).1 := ⟨_, rfl⟩
   rw [← hlab]
   have xz4 : Ext h u4 := x04.trans S4.ext
   by_cases hE : lab = E
   ·have hE' : lab = ⟨#[]⟩ := hE
    rw [lines_none hok (by rw [hmm, ← hlab]; exact hE), hmm] at hlin
    have is4 := tm4.islice
    obtain ⟨v1, v2, v3, a1, b1, a2, b2, a3, S5⟩ := S4.line (low := h.size) j4 (runesBytes m) (by omega)
    have g4 := S4.g
    simp only [dl] at g4 b2 a3
    simp +decide only [go_sem, W_region, Wx_some, hsz, g2, g6, g7, ga, g8, hE', g4, is4, icvs_rv, a1, b1, a2, b2, a3, j4, k1]
    exact next (k + 1, .slice (some ⟨v1.size, 0, none⟩) (ls.length + 1) big, bv, tv, ls ++ [runesBytes m], lb, tk) _ _ ⟨by simp only; omega, by simp +decide only [go_sem, hsz], S5, by simp +decide only [go_sem, hsz, g2], by simp +decide only [go_sem, hsz, g6], by simp +decide only [go_sem, hsz, g7], by simp +decide only [go_sem, hsz, ga], by simp +decide only [go_sem, hsz], hlin, by simp; omega, by simp only; omega, by simp only; omega⟩ (by simp only; omega)
   have hE' : ¬ lab = ⟨#[]⟩ := hE
   obtain ⟨ta, tc, rfl⟩ := S4.ot.shape
   simp +decide only [go_sem, W_region, Wx_some, hsz, g2, g6, g7, hE']
   refine W_call Kok xz4.1 (has_run tk lab u4 S4.ot.sl (by omega)) fun r u5 y5 hr5 => ?_
   obtain ⟨hw, rfl⟩ := hr5
   subst hw
   by_cases hmem : lab ∈ tk
   ·rw [lines_twice hok (by rw [hmm, ← hlab]; exact hE) (by rw [hmm, ← hlab]; exact hmem)] at hlin
    have gz4 : u4.get h.size = _ := (S4.ext.2 _ hsb).trans g0
    obtain ⟨w', ew, gw, _⟩ := fin0 u4 [.string ByteArray.empty, .string ByteArray.empty, .string ByteArray.empty, .string ByteArray.empty, .slice none 0 0, .slice none 0 0, .slice none 0 0] xz4
    simp +decide only [go_sem, W_region, Wx_some, hsz, g2, g6, g7, ga, g8, hmem, gz4, j0, ew, gw, k1]
    rw [hms, if_pos rfl, hlin]
    exact ⟨_, rfl, zd _⟩
   rw [lines_more hok (by rw [hmm, ← hlab]; exact hE) (by rw [hmm, ← hlab]; exact hmem), hmm, ← hlab] at hlin
   obtain ⟨v1, v2, a1, b1, a2, S5, r5⟩ := S4.take (low := h.size) j4 lab (by omega)
   obtain ⟨v3, v4, v5, a3, b3, a4, b4, a5, S6, r6⟩ := S5.label (low := h.size) j4 lab (k + 1) (by omega)
   have is6 := ((RK.of (y3.trans y4)).trans (r5.trans r6)).islice tm
   obtain ⟨v6, v7, v8, a6, b6, a7, b7, a8, S7⟩ := S6.line (low := h.size) j4 (runesBytes m) (by omega)
   have g5 := S5.g
   have g6' := S6.g
   simp only [dl] at g5 g6' b4 a5 b7 a8
   simp +decide only [go_sem, W_region, Wx_some, hsz, g2, g6, g7, ga, g8, hmem, a1, b1, a2, g5, a3, b3, a4, b4, a5, g6', is6, icvs_rv, a6, b6, a7, b7, a8, j4, k1]
   exact next (k + 1, .slice (some ⟨v6.size, 0, none⟩) (ls.length + 1) big, .slice (some ⟨v3.size, 0, none⟩) (lb.length + 1) big, .slice (some ⟨v1.size, 0, none⟩) (tk.length + 1) big, ls ++ [runesBytes m], lb ++ [(lab, k + 1)], tk ++ [lab]) _ _ ⟨by simp only; omega, by simp +decide only [go_sem, hsz], S7, by simp +decide only [go_sem, hsz, g2], by simp +decide only [go_sem, hsz, g6], by simp +decide only [go_sem, hsz], by simp +decide only [go_sem, hsz, ga], by simp +decide only [go_sem, hsz], hlin, by simp; omega, by simp; omega, by simp; omega⟩ (by simp only; omega)
end Go.Proofs.YtachkofbmodnnaaGreat.D3
namespace Go.Im.Defn
open Go Go.Im Go.Im.Lexing Go.Im.Heads Go.Im.Editing
theorem lines_hd : ∀ {rs : List ByteArray} {x : HdT} {i : Nat} {ls : List ByteArray} {lb : List (ByteArray × Nat)} {tk : List ByteArray}, (linesS x rs i ls lb tk).1.hd = x ∨ (linesS x rs i ls lb tk).1 = dZ
 | [], x, i, ls, lb, tk => .inl rfl
 | r :: rs, x, i, ls, lb, tk => by
   rw [linesS]
   split
   ·exact .inr rfl
   ·split
    ·exact lines_hd
    ·split
     ·exact .inr rfl
     ·exact lines_hd
theorem make_good (rows : List ByteArray) : Heads.Good (makeS rows).1.hd := by
 match rows with
 | [] => exact good_z
 | r :: rs =>
   rw [makeS]
   split
   ·rcases lines_hd (rs := rs) (x := (hdp (runesI r)).1) (i := 1) (ls := []) (lb := []) (tk := (hdp (runesI r)).1.all) with h | h
    ·rw [h]
     exact hdp_good _
    ·rw [h]
     exact good_z
   ·exact good_z
theorem lines_few : ∀ {rs : List ByteArray} {x : HdT} {i : Nat} {ls : List ByteArray} {lb : List (ByteArray × Nat)} {tk : List ByteArray}, (linesS x rs i ls lb tk).1.lines.length ≤ ls.length + rs.length ∧ (linesS x rs i ls lb tk).1.labels.length ≤ lb.length + rs.length
 | [], x, i, ls, lb, tk => ⟨by simp [linesS], by simp [linesS]⟩
 | r :: rs, x, i, ls, lb, tk => by
   rw [linesS]
   split
   ·simp [dZ]
   ·split
    ·have := lines_few (rs := rs) (x := x) (i := i + 1) (ls := ls ++ [runesBytes (trimS (runesI r))]) (lb := lb) (tk := tk)
     simp only [List.length_append, List.length_cons, List.length_nil] at this ⊢
     omega
    ·split
     ·simp [dZ]
     ·have := lines_few (rs := rs) (x := x) (i := i + 1) (ls := ls ++ [runesBytes (trimS (runesI r))]) (lb := lb ++ [((labelL (trimS (runesI r))).1, i)]) (tk := tk ++ [(labelL (trimS (runesI r))).1])
      simp only [List.length_append, List.length_cons, List.length_nil] at this ⊢
      omega
theorem make_few (rows : List ByteArray) : (makeS rows).1.lines.length ≤ rows.length ∧ (makeS rows).1.labels.length ≤ rows.length := by
 match rows with
 | [] => exact ⟨Nat.le_refl _, Nat.le_refl _⟩
 | r :: rs =>
   rw [makeS]
   split
   ·have := lines_few (rs := rs) (x := (hdp (runesI r)).1) (i := 1) (ls := []) (lb := []) (tk := (hdp (runesI r)).1.all)
    simp only [List.length_nil, List.length_cons] at this ⊢
    omega
   ·simp [dZ]
end Go.Im.Defn
namespace Go.Proofs.YtachkofbmodnnaaGreat.D4
open Go Go.Im Go.Im.Limbs Go.Im.Lexing Go.Im.Heads Go.Im.Editing Go.Im.Defn Go.Proofs Go.RowKit Hd H2 H3 H4 H5 D2 D3
set_option maxRecDepth 100000
def rowsT (d : DefT) : List ByteArray := txtB d.hd :: d.lines
theorem rows_len (d : DefT) : (rowsT d).length = d.lines.length + 1 := rfl
theorem good_sizes {x : HdT} (G : Heads.Good x) : x.nm.size ≤ 1000000 ∧ x.re.size ≤ 1000000 ∧ x.le.size ≤ 1000000 ∧ x.ri.size ≤ 1000000 ∧ ∀ y ∈ x.ls, y.size ≤ 1000000 :=
 ⟨Nat.le_trans G.nm (by decide), Nat.le_trans G.re (by decide), Nat.le_trans G.le (by decide), Nat.le_trans G.ri (by decide), fun y hy => Nat.le_trans (G.ls y hy) (by decide)⟩
theorem one_more {h w : Heap} {b : Nat} {t : ByteArray} {ls : List ByteArray} {a : Option Addr} {c : Nat} (hb : b < w.size) (hg : w.get b = .cells [.string t] 1) (s : Sl w 1 a ls.length c (sv ls)) (hm : ls.length ≤ 100000) (low : Nat) :
  ∃ a' c' w', iapp low w 1 16 (.slice (some ⟨b, 0, none⟩) 1 1) ls.length (some (sv ls)) = some (.slice a' (ls.length + 1) c', w') ∧ Ext w w' ∧ Sl w' 1 a' (ls.length + 1) c' (sv (t :: ls)) := by
 by_cases h0 : ls.length = 0
 ·have : ls = [] := List.eq_nil_of_length_eq_zero h0
  subst this
  refine ⟨some ⟨b, 0, none⟩, 1, w, ?_, Ext.refl w, .inr (.inr ⟨b, 0, _, rfl, by omega, hb, by rw [hg]; rfl, by simp, rfl, .inl ⟨by simp, by simp [big]⟩⟩)⟩
  simp [iapp]
 ·refine ⟨some ⟨w.size, 0, none⟩, big, w.push (.cells (.string t :: sv ls) 1), ?_, (Ext.refl w).push _, .inr (.inr ⟨w.size, 0, _, rfl, by simp [big], by simp, by rw [Heap.get_push, if_pos rfl]; rfl, by simp [sv], by rw [List.drop_zero, List.take_of_length_le (by simp [sv])]; rfl, .inr rfl⟩)⟩
  simp only [iapp]
  rw [if_neg (by omega), if_neg h0]
  simp only [iput, hg]
  rw [if_neg (by simp), if_pos (by simp [big]), if_neg (by omega), Nat.add_comm 1]
  simp
theorem drows_run (d : DefT) (h : Heap) {v : Value} (V : DV h v d) (G : Heads.Good d.hd) (hm : d.lines.length ≤ 100000) : Runs K f_defn_Defn_Rows #[v] h fun r w => ∃ a c, r = .slice a (rowsT d).length c ∧ Sl w 1 a (rowsT d).length c (sv (rowsT d)) := by
 obtain ⟨a, c, a1, c1, a2, c2, rfl, s1, s2, s3⟩ := V
 refine Runs.of Kok (Does.intro rfl (by decide +kernel) F_defn_Defn_Rows rfl ?_)
 obtain ⟨w1, e1, x1, hs1, z1⟩ := lay1 h (.cells [.string d.hd.nm, .string d.hd.re, .string d.hd.le, .string d.hd.ri, .slice a d.hd.ls.length c, .slice a1 d.lines.length c1, .slice a2 d.labels.length c2] 7)
 have txr := text_run d.hd w1 (s1.ext x1) (by have := G.few; omega) (good_sizes G)
 simp only [H2.hl] at txr
 simp +decide only [go_sem, W_region, Wx_some, dl, e1, z1]
 refine W_call Kok x1.1 txr fun r w2 x2 hr => ?_
 subst hr
 have z2 : w2.get h.size = _ := (x2.2 _ (by omega)).trans z1
 obtain ⟨w3, e3, x3, hs3, z3⟩ := lay1 w2 (.cells [.string (txtB d.hd)] 1)
 have z23 : w3.get h.size = _ := (x3.2 _ (by have := x2.1; omega)).trans z2
 have s2' := s2.ext (x1.trans (x2.trans x3))
 have is2 := s2'.isl
 obtain ⟨a', c', w4, f4, x4, s4⟩ := one_more (h := h) (by omega) z3 s2' hm h.size
 obtain ⟨ad, had⟩ : ∃ ad, ad = Value.slice a1 d.lines.length c1 := ⟨_, rfl⟩
 have hld : ∃ ad', Value.slice a1 d.lines.length c1 = .slice ad' d.lines.length c1 := ⟨_, rfl⟩
 simp +decide only [go_sem, W_region, Wx_some, z2, e3, z23, is2, f4]
 exact ⟨a', c', rfl, s4⟩
theorem rdrows_run (d : DefT) (h : Heap) {v : Value} (V : DV h v d) (G : Heads.Good d.hd) (hm : d.lines.length ≤ 100000) : Runs K f_ref24_Rows #[v] h fun r w => ∃ a c, r = .slice a (rowsT d).length c ∧ Sl w 1 a (rowsT d).length c (sv (rowsT d)) := by
 obtain ⟨a, c, a1, c1, a2, c2, rfl, s1, s2, s3⟩ := V
 refine Runs.of Kok (Does.intro rfl (by decide +kernel) F_ref24_Rows rfl ?_)
 obtain ⟨w1, e1, x1, hs1, z1⟩ := lay1 h (.cells [.string d.hd.nm, .string d.hd.re, .string d.hd.le, .string d.hd.ri, .slice a d.hd.ls.length c, .slice a1 d.lines.length c1, .slice a2 d.labels.length c2] 7)
 have txr := rtext_run d.hd w1 (s1.ext x1) (by have := G.few; omega) (good_sizes G)
 simp only [H2.hl] at txr
 simp +decide only [go_sem, W_region, Wx_some, dl, e1, z1]
 refine W_call Kok x1.1 txr fun r w2 x2 hr => ?_
 subst hr
 have z2 : w2.get h.size = _ := (x2.2 _ (by omega)).trans z1
 obtain ⟨w3, e3, x3, hs3, z3⟩ := lay1 w2 (.cells [.string (txtB d.hd)] 1)
 have z23 : w3.get h.size = _ := (x3.2 _ (by have := x2.1; omega)).trans z2
 have s2' := s2.ext (x1.trans (x2.trans x3))
 have is2 := s2'.isl
 obtain ⟨a', c', w4, f4, x4, s4⟩ := one_more (h := h) (by omega) z3 s2' hm h.size
 simp +decide only [go_sem, W_region, Wx_some, z2, e3, z23, is2, f4]
 exact ⟨a', c', rfl, s4⟩
end Go.Proofs.YtachkofbmodnnaaGreat.D4
namespace Go.Im.Editing
open Go Go.Im Go.Im.Lexing Go.Im.Heads
theorem digs_pre {l : List Int} {i : Nat} (h1 : (l.take i).all isD = true) (h2 : ∀ c, l[i]? = some c → isD c = false) : digs l = l.take i := by
 unfold digs
 have : ∀ (a r : List Int), a.all isD = true → (∀ c, r[0]? = some c → isD c = false) → (a ++ r).takeWhile isD = a := by
  intro a
  induction a with
  | nil =>
    intro r _ hr
    cases r with
    | nil => rfl
    | cons c r =>
      rw [List.nil_append, List.takeWhile_cons_of_neg]
      have := hr c rfl
      simp [this]
  | cons x a ih =>
    intro r ha hr
    simp only [List.all_cons, Bool.and_eq_true] at ha
    rw [List.cons_append, List.takeWhile_cons_of_pos ha.1, ih r ha.2 hr]
 have h := this (l.take i) (l.drop i) h1 (fun c hc => h2 c (by rw [List.getElem?_drop] at hc; exact hc))
 rwa [List.take_append_drop] at h
theorem digs_more {l : List Int} {i : Nat} (h1 : (l.take i).all isD = true) : i ≤ l.length → i ≤ (digs l).length := by
 intro hi
 have : ∀ (a r : List Int), a.all isD = true → a.length ≤ ((a ++ r).takeWhile isD).length := by
  intro a
  induction a with
  | nil => intro r _; simp
  | cons x a ih =>
    intro r ha
    simp only [List.all_cons, Bool.and_eq_true] at ha
    rw [List.cons_append, List.takeWhile_cons_of_pos ha.1, List.length_cons, List.length_cons]
    have := ih r ha.2
    omega
 have h := this (l.take i) (l.drop i) h1
 rw [List.take_append_drop, List.length_take] at h
 unfold digs
 omega
theorem all_snoc {l : List Int} {i : Nat} {c : Int} (h : l[i]? = some c) (h1 : (l.take i).all isD = true) (h2 : isD c = true) : (l.take (i + 1)).all isD = true := by
 rw [List.take_add_one, h, List.all_append, h1]
 simp [h2]
def RA (l : List Int) (i : Nat) (n part : Nat) : Prop := i ≤ 3 ∧ i ≤ l.length ∧ (l.take i).all isD = true ∧ n = decI (l.take i) ∧ part = 10000
def RB' (l : List Int) (j i : Nat) (n part : Nat) : Prop := 1 ≤ j ∧ j ≤ 3 ∧ (l.take j).all isD = true ∧ l[j]? = some 46 ∧ j + 1 < l.length ∧ j + 1 ≤ i ∧ i ≤ l.length ∧ i - (j + 1) ≤ 4 ∧ ((l.drop (j + 1)).take (i - (j + 1))).all isD = true ∧
 n = decI (l.take j) * 10000 + frac 1000 ((l.drop (j + 1)).take (i - (j + 1))) ∧ part = 1000 / 10 ^ (i - (j + 1))
theorem not46 : isD 46 = false := by decide
theorem ra_zero (l : List Int) : RA l 0 0 10000 := ⟨by omega, by omega, by simp, by simp [decI], rfl⟩
theorem ra_digit {l : List Int} {i n part : Nat} {c : Int} (H : RA l i n part) (h : l[i]? = some c) (hd : isD c = true) (hi : i ≤ 2) : RA l (i + 1) (10 * n + (c.toNat - 48)) 10000 := by
 obtain ⟨h1, h2, h3, h4, h5⟩ := H
 have := (List.getElem?_eq_some_iff.1 h).1
 refine ⟨by omega, by omega, all_snoc h h3 hd, ?_, rfl⟩
 rw [List.take_add_one, h, Option.toList_some, decI_snoc, h4]
theorem ra_point {l : List Int} {i n part : Nat} (H : RA l i n part) (h : l[i]? = some 46) (h0 : 0 < i) (h1 : i + 1 < l.length) : RB' l i (i + 1) (n * 10000) 1000 := by
 obtain ⟨q1, q2, q3, q4, q5⟩ := H
 exact ⟨h0, q1, q3, h, h1, by omega, by omega, by omega, by simp, by simp [frac, q4], by simp⟩
theorem ra_bad {l : List Int} {i n part : Nat} {c : Int} (H : RA l i n part) (h : l[i]? = some c) (hd : isD c = false) (hp : ¬ (c = 46 ∧ 0 < i ∧ i + 1 < l.length)) : readE l = none := by
 obtain ⟨h1, h2, h3, h4, h5⟩ := H
 have hlt := (List.getElem?_eq_some_iff.1 h).1
 have e : digs l = l.take i := digs_pre h3 fun d hh => by rw [h] at hh; cases hh; exact hd
 have el : (digs l).length = i := by rw [e, List.length_take]; omega
 unfold readE
 rw [el]
 by_cases h0 : i = 0
 ·rw [if_pos (.inl h0)]
 rw [if_neg (by omega), if_neg (by omega), if_neg]
 rintro ⟨g1, g2, g3, g4⟩
 rw [h] at g1
 cases g1
 rw [List.length_drop] at g2
 exact hp ⟨rfl, by omega, by omega⟩
theorem ra_long {l : List Int} {i n part : Nat} {c : Int} (H : RA l i n part) (h : l[i]? = some c) (hd : isD c = true) (hi : 2 < i) : readE l = none := by
 obtain ⟨h1, h2, h3, h4, h5⟩ := H
 have hlt := (List.getElem?_eq_some_iff.1 h).1
 have := digs_more (all_snoc h h3 hd) (by omega)
 unfold readE
 rw [if_pos (.inr (by omega))]
theorem ra_end {l : List Int} {i n part : Nat} (H : RA l i n part) (h : i = l.length) : readE l = if l = [] then none else some (n * 10000) := by
 obtain ⟨h1, h2, h3, h4, h5⟩ := H
 subst h
 rw [List.take_length] at h3 h4
 have e : digs l = l := by
  have := digs_pre (l := l) (i := l.length) (by rw [List.take_length]; exact h3) (fun c hc => by simp at hc)
  rwa [List.take_length] at this
 unfold readE
 rw [e]
 by_cases h0 : l = []
 ·subst h0
  rfl
 ·have : l.length ≠ 0 := fun hh => h0 (List.eq_nil_of_length_eq_zero hh)
  rw [if_neg (by omega), if_pos rfl, if_neg h0, h4]
theorem rb_of {l : List Int} {j i n part : Nat} (H : RB' l j i n part) : readE l = if (l.drop (j + 1)).length ≤ 4 ∧ (l.drop (j + 1)).all isD = true then some (decI (l.take j) * 10000 + frac 1000 (l.drop (j + 1))) else none := by
 obtain ⟨h1, h2, h3, h4, h5, h6, h7, h8, h9, h10, h11⟩ := H
 have e : digs l = l.take j := digs_pre h3 fun d hh => by rw [h4] at hh; cases hh; exact not46
 have el : (digs l).length = j := by rw [e, List.length_take]; omega
 unfold readE
 rw [el, if_neg (by omega), if_neg (by omega), e]
 by_cases hc : (l.drop (j + 1)).length ≤ 4 ∧ (l.drop (j + 1)).all isD = true
 ·rw [if_pos ⟨h4, by rw [List.length_drop]; omega, hc.1, hc.2⟩, if_pos hc]
 ·rw [if_neg (fun hh => hc ⟨hh.2.2.1, hh.2.2.2⟩), if_neg hc]
theorem drop_at {l : List Int} {j i : Nat} {c : Int} (h : l[i]? = some c) (hj : j + 1 ≤ i) : (l.drop (j + 1))[i - (j + 1)]? = some c := by
 rw [List.getElem?_drop, show j + 1 + (i - (j + 1)) = i by omega]
 exact h
theorem rb_digit {l : List Int} {j i n part : Nat} {c : Int} (H : RB' l j i n part) (h : l[i]? = some c) (hd : isD c = true) (hp : part ≠ 0) : RB' l j (i + 1) (n + (c.toNat - 48) * part) (part / 10) := by
 obtain ⟨h1, h2, h3, h4, h5, h6, h7, h8, h9, h10, h11⟩ := H
 have hlt := (List.getElem?_eq_some_iff.1 h).1
 have h4' : i - (j + 1) ≠ 4 := by
  intro hh
  rw [hh] at h11
  simp at h11
  omega
 have e1 : i + 1 - (j + 1) = (i - (j + 1)) + 1 := by omega
 have hc := drop_at h h6
 refine ⟨h1, h2, h3, h4, h5, by omega, by omega, by omega, ?_, ?_, ?_⟩
 ·rw [e1]
  exact all_snoc hc h9 hd
 ·rw [e1, List.take_add_one, hc, Option.toList_some, frac_snoc, h10, h11, List.length_take, List.length_drop, Nat.min_eq_left (by omega)]
  omega
 ·rw [e1, h11, Nat.pow_succ, Nat.div_div_eq_div_mul]
theorem rb_bad {l : List Int} {j i n part : Nat} {c : Int} (H : RB' l j i n part) (h : l[i]? = some c) (hd : isD c = false) : readE l = none := by
 rw [rb_of H, if_neg]
 rintro ⟨_, g⟩
 obtain ⟨h1, h2, h3, h4, h5, h6, h7, h8, h9, h10, h11⟩ := H
 have := List.all_eq_true.1 g c (List.mem_of_getElem? (drop_at h h6))
 rw [hd] at this
 cases this
theorem rb_long {l : List Int} {j i n : Nat} {c : Int} (H : RB' l j i n 0) (h : l[i]? = some c) : readE l = none := by
 rw [rb_of H, if_neg]
 rintro ⟨g, _⟩
 obtain ⟨h1, h2, h3, h4, h5, h6, h7, h8, h9, h10, h11⟩ := H
 have hlt := (List.getElem?_eq_some_iff.1 h).1
 rw [List.length_drop] at g
 have h12 : i - (j + 1) = 0 ∨ i - (j + 1) = 1 ∨ i - (j + 1) = 2 ∨ i - (j + 1) = 3 := by omega
 rcases h12 with hh | hh | hh | hh <;> (rw [hh] at h11; simp at h11)
theorem rb_end {l : List Int} {j i n part : Nat} (H : RB' l j i n part) (h : i = l.length) : readE l = some n := by
 have H' := H
 obtain ⟨h1, h2, h3, h4, h5, h6, h7, h8, h9, h10, h11⟩ := H
 have e : (l.drop (j + 1)).take (i - (j + 1)) = l.drop (j + 1) := List.take_of_length_le (by rw [List.length_drop]; omega)
 rw [e] at h9 h10
 rw [rb_of H', if_pos ⟨by rw [List.length_drop]; omega, h9⟩, h10]
theorem decI_le : ∀ {l : List Int}, l.all isD = true → decI l < 10 ^ l.length := by
 intro l
 have : ∀ (l : List Int) (n : Nat), l.all isD = true → l.foldl (fun n c => 10 * n + (c.toNat - 48)) n < (n + 1) * 10 ^ l.length := by
  intro l
  induction l with
  | nil => intro n _; simp
  | cons c l ih =>
    intro n h
    simp only [List.all_cons, Bool.and_eq_true] at h
    have hc : c.toNat - 48 ≤ 9 := by
     have := h.1
     simp only [isD, Bool.and_eq_true, decide_eq_true_eq] at this
     omega
    have := ih (10 * n + (c.toNat - 48)) h.2
    rw [List.foldl_cons, List.length_cons, Nat.pow_succ]
    refine Nat.lt_of_lt_of_le this ?_
    have : (n + 1) * (10 ^ l.length * 10) = (10 * n + 10) * 10 ^ l.length := by
     rw [Nat.mul_comm (10 ^ l.length) 10, ← Nat.mul_assoc]
     congr 1
     omega
    rw [this]
    exact Nat.mul_le_mul_right _ (by omega)
 intro h
 have := this l 0 h
 rw [Nat.zero_add, Nat.one_mul] at this
 exact this
theorem ra_le {l : List Int} {i n part : Nat} (H : RA l i n part) : n < 1000 := by
 obtain ⟨h1, h2, h3, h4, h5⟩ := H
 have := decI_le h3
 rw [List.length_take, Nat.min_eq_left h2, ← h4] at this
 have : n < 10 ^ 3 := Nat.lt_of_lt_of_le this (Nat.pow_le_pow_right (by omega) h1)
 omega
theorem frac_le : ∀ {l : List Int} {p : Nat}, l.all isD = true → frac p l ≤ 10 * p
 | [], p, _ => by simp [frac]
 | c :: l, p, h => by
   simp only [List.all_cons, Bool.and_eq_true] at h
   have hc : c.toNat - 48 ≤ 9 := by
    have := h.1
    simp only [isD, Bool.and_eq_true, decide_eq_true_eq] at this
    omega
   have h1 := frac_le (p := p / 10) h.2
   have h2 : (c.toNat - 48) * p ≤ 9 * p := Nat.mul_le_mul_right _ hc
   rw [frac]
   omega
theorem rb_le {l : List Int} {j i n part : Nat} (H : RB' l j i n part) : n ≤ 10000000 ∧ part ≤ 1000 := by
 obtain ⟨h1, h2, h3, h4, h5, h6, h7, h8, h9, h10, h11⟩ := H
 have q1 := decI_le h3
 rw [List.length_take, Nat.min_eq_left (by omega)] at q1
 have q2 : decI (l.take j) < 10 ^ 3 := Nat.lt_of_lt_of_le q1 (Nat.pow_le_pow_right (by omega) h2)
 have q3 := frac_le (p := 1000) h9
 refine ⟨by omega, ?_⟩
 rw [h11]
 exact Nat.div_le_self _ _
def rdF : Nat → Nat → List UInt8
 | 0, _ => []
 | f + 1, n => if n = 0 then [] else UInt8.ofNat (48 + n % 10) :: rdF f (n / 10)
theorem rdF_more : ∀ {f g n : Nat}, n < 10 ^ f → f ≤ g → rdF g n = rdF f n
 | 0, g, n, h, _ => by
   have : n = 0 := by simpa using h
   subst this
   cases g <;> simp [rdF]
 | f + 1, 0, n, h, hg => by omega
 | f + 1, g + 1, n, h, hg => by
   rw [rdF, rdF]
   by_cases h0 : n = 0
   ·simp [h0]
   ·rw [if_neg h0, if_neg h0, rdF_more (f := f) (by rw [Nat.pow_succ] at h; omega) (by omega)]
def frF : Nat → Nat → Nat → List UInt8
 | 0, _, _ => []
 | f + 1, r, p => if r = 0 then [] else UInt8.ofNat (48 + r / p) :: frF f (r % p) (p / 10)
def wholeT (w : Nat) : List UInt8 := if w = 0 then [48] else (rdF 5 w).reverse
def fracT (r : Nat) : List UInt8 := if r = 0 then [] else 46 :: frF 4 r 1000
def numT (n : Nat) : List UInt8 := wholeT (n / 10000) ++ fracT (n % 10000)
def rt0 (l : List UInt8) : List UInt8 := (l.reverse.dropWhile fun c => c == 48).reverse
def okW (w : Nat) : Bool := (I8 (wholeT w)).all isD && decide (1 ≤ (wholeT w).length) && decide ((wholeT w).length ≤ 3) && decide (decI (I8 (wholeT w)) = w)
def okF (r : Nat) : Bool := (I8 (frF 4 r 1000)).all isD && decide (1 ≤ (frF 4 r 1000).length) && decide ((frF 4 r 1000).length ≤ 4) && decide (frac 1000 (I8 (frF 4 r 1000)) = r) && ((frF 4 r 1000) == rt0 ((rdF 5 (10000 + r)).reverse.drop 1))
set_option maxRecDepth 1000000 in
theorem allW : (List.range 1000).all okW = true := by decide +kernel
set_option maxRecDepth 1000000 in
theorem allF : (List.range 10000).all (fun r => r == 0 || okF r) = true := by decide +kernel
theorem okW_of {w : Nat} (h : w < 1000) : (I8 (wholeT w)).all isD = true ∧ 1 ≤ (wholeT w).length ∧ (wholeT w).length ≤ 3 ∧ decI (I8 (wholeT w)) = w := by
 have := List.all_eq_true.1 allW w (List.mem_range.2 h)
 simpa [okW, and_assoc] using this
theorem okF_of {r : Nat} (h : r < 10000) (h0 : r ≠ 0) : (I8 (frF 4 r 1000)).all isD = true ∧ 1 ≤ (frF 4 r 1000).length ∧ (frF 4 r 1000).length ≤ 4 ∧ frac 1000 (I8 (frF 4 r 1000)) = r ∧ frF 4 r 1000 = rt0 ((rdF 5 (10000 + r)).reverse.drop 1) := by
 have := List.all_eq_true.1 allF r (List.mem_range.2 h)
 simpa [okF, h0, and_assoc] using this
theorem zero_rt : rt0 ((rdF 5 10000).reverse.drop 1) = [] := by decide +kernel
theorem read_num {n : Nat} (h : n ≤ 9999999) : readE (I8 (numT n)) = some n := by
 have hw : n / 10000 < 1000 := by omega
 have hr : n % 10000 < 10000 := by omega
 obtain ⟨w1, w2, w3, w4⟩ := okW_of hw
 obtain ⟨D, hD⟩ : ∃ D, D = I8 (wholeT (n / 10000)) := ⟨_, rfl⟩
 have hDl : D.length = (wholeT (n / 10000)).length := by rw [hD, I8_len]
 rw [← hD] at w1 w4
 unfold numT
 rw [I8_append, ← hD]
 by_cases h0 : n % 10000 = 0
 ·rw [fracT, if_pos h0]
  have H : RA (D ++ I8 []) (D.length) (decI D) 10000 := ⟨by omega, by simp [I8], by simp [I8, w1], by simp [I8], rfl⟩
  rw [ra_end H (by simp [I8]), if_neg (by intro hh; have := congrArg List.length hh; simp [I8] at this; rw [this] at hDl; simp at hDl; omega), w4]
  congr 1
  omega
 ·obtain ⟨f1, f2, f3, f4, f5⟩ := okF_of hr h0
  obtain ⟨T, hT⟩ : ∃ T, T = I8 (frF 4 (n % 10000) 1000) := ⟨_, rfl⟩
  have hTl : T.length = (frF 4 (n % 10000) 1000).length := by rw [hT, I8_len]
  rw [← hT] at f1 f4
  rw [fracT, if_neg h0]
  have e : I8 (46 :: frF 4 (n % 10000) 1000) = 46 :: T := by rw [hT]; rfl
  rw [e]
  have ed : (D ++ 46 :: T).drop (D.length + 1) = T := by simp
  have et : (D ++ 46 :: T).take D.length = D := by simp
  have H : RB' (D ++ 46 :: T) D.length (D.length + 1 + T.length) (decI D * 10000 + frac 1000 T) (1000 / 10 ^ T.length) := by
   refine ⟨by omega, by omega, by rw [et]; exact w1, by simp, by simp; omega, by omega, by simp; omega, by omega, ?_, ?_, ?_⟩
   ·rw [ed, show D.length + 1 + T.length - (D.length + 1) = T.length by omega, List.take_length]
    exact f1
   ·rw [et, ed, show D.length + 1 + T.length - (D.length + 1) = T.length by omega, List.take_length]
   ·rw [show D.length + 1 + T.length - (D.length + 1) = T.length by omega]
  rw [rb_end H (by simp; omega), w4, f4]
  congr 1
  omega
end Go.Im.Editing
