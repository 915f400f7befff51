/- Proved here: parts of the way to DDefnMakes (DM2 DM3 DM4 DM5); no condition beyond those that each theorem names. -/
import Derived.Test.YtachkofbmodnnaaGreatDoorP21
import Derived.Laws.RangeAny
import Derived.Test.YtachkofbmodnnaaGreatDoorP5
set_option linter.unusedSimpArgs false
set_option linter.unusedVariables false
namespace Go.Proofs.YtachkofbmodnnaaGreatDoor.M2
open Go Go.Im Go.Im.Limbs Go.Im.Lexing Go.Im.Heads Go.Im.Editing Go.Im.Defn Go.Proofs Go.RowKit Hd N19 H2 H3 H4 H5 H7 D2 D3 D4 M1
set_option maxRecDepth 100000
theorem validX_ext : K.ext f_unicode_utf8_ValidString = some fun _ args h => validRun args h := rfl
theorem uvalid_run (s : ByteArray) (h : Heap) (T : TabsAt h) (hs : s.size ≤ 1000000) : Runs K f_unicode_utf8_ValidString #[.string s] h fun r w => h = w ∧ ∃ b, r = .bool b := by
 refine Runs.of Kok (known_does validX_ext (v := .bool (Lib.validD s.data.toList)) (w := h) ?_ ⟨rfl, _, rfl⟩)
 simp only [validRun]
 rw [if_pos ⟨T, hs⟩]
theorem short_run (rows : List ByteArray) (h : Heap) {a : Option Addr} {c : Nat} (s : Sl h 1 a rows.length c (sv rows)) (T : TabsAt h) :
  Runs K f_law24_short #[.slice a rows.length c] h fun r w => h = w ∧ ∃ b, r = .bool b ∧ (b = true → rows.length ≤ 300 ∧ ∀ y ∈ rows, y.size ≤ 2000) := by
 refine Runs.of Kok (Does.intro rfl (by decide +kernel) F_law24_short rfl ?_)
 simp +decide only [go_sem, W_region, Wx_some]
 refine W_loop (α := Nat × Nat) (fun k e w => k.1 ≤ rows.length ∧ k.1 ≤ 300 ∧ k.2 ≤ 3000 ∧ e.size = 41 ∧ h = w ∧ e.get 0 = .slice a rows.length c ∧ e.get 3 = .int .i64 (k.2 : Int) ∧ e.get 4 = .int .i64 (k.1 : Int) ∧ ∀ y ∈ rows.take k.1, y.size ≤ 2000) (fun k => 300 - k.1) (0, 0) ?_ ?_
 ·exact ⟨Nat.zero_le _, by omega, by simp, by simp +decide only [go_sem], rfl, by simp +decide only [go_sem], by simp +decide only [go_sem]; rfl, by simp +decide only [go_sem]; rfl, by simp⟩
 rintro ⟨k, n⟩ e w ⟨hk, hk3, hn, hsz, hw, e0, e3, e4, hall⟩ next
 simp only at hk hk3 hn e3 e4 hall
 subst hw
 by_cases hkl : (k : Int) < ((rows.length : Nat) : Int)
 ·by_cases h3 : (k : Int) < 300
  ·obtain ⟨b, o, cs, rfl, q2, q3, q4⟩ := text_at s (i := k) (by omega)
   obtain ⟨y, hy⟩ : ∃ y, y = rows[k] := ⟨_, rfl⟩
   have hyk : rows[k]? = some y := by rw [hy]; exact List.getElem?_eq_getElem (by omega)
   rw [← hy] at q4
   have c0 : (0 : Int) ≤ (k : Int) := by omega
   have k1 : IntKind.i64.wrap ((k : Int) + 1) = ((k + 1 : Nat) : Int) := by rw [wrap_i64 (by omega) (by omega)]; omega
   by_cases hbig : (2000 : Int) < ((y.size : Nat) : Int)
   ·simp +decide only [go_sem, W_region, Wx_some, hsz, e0, e3, e4, hkl, h3, c0, Int.toNat_natCast, q3, q4, hbig]
    exact ⟨_, rfl, fun hh => by cases hh⟩
   ·have n1 : IntKind.i64.wrap ((n : Int) + ((y.size : Nat) : Int)) = ((n + y.size : Nat) : Int) := by rw [wrap_i64 (by omega) (by omega)]; omega
    simp +decide only [go_sem, W_region, Wx_some, hsz, e0, e3, e4, hkl, h3, c0, Int.toNat_natCast, q3, q4, hbig]
    refine W_call Kok (Nat.le_refl _) (uvalid_run y h T (by omega)) fun r w x hr => ?_
    obtain ⟨hw, b, rfl⟩ := hr
    subst hw
    cases b
    ·simp +decide only [go_sem, W_region, Wx_some, hsz, e0, e3, e4]
     exact ⟨_, rfl, fun hh => by cases hh⟩
    ·by_cases hsum : (3000 : Int) < ((n + y.size : Nat) : Int)
     ·simp +decide only [go_sem, W_region, Wx_some, hsz, e0, e3, e4, hkl, c0, Int.toNat_natCast, q3, q4, n1, hsum]
      exact ⟨_, rfl, fun hh => by cases hh⟩
     ·simp +decide only [go_sem, W_region, Wx_some, hsz, e0, e3, e4, hkl, c0, Int.toNat_natCast, q3, q4, n1, hsum, k1]
      refine next (k + 1, n + y.size) _ _ ⟨by simp only; omega, by simp only; omega, by simp only; omega, by simp +decide only [go_sem, hsz], rfl, by simp +decide only [go_sem, hsz, e0], by simp +decide only [go_sem, hsz], by simp +decide only [go_sem, hsz], ?_⟩ (by simp only; omega)
      intro z hz
      rw [List.take_add_one, hyk] at hz
      simp only [Option.toList_some, List.mem_append, List.mem_singleton] at hz
      rcases hz with hz | rfl
      ·exact hall z hz
      ·omega
  ·simp +decide only [go_sem, W_region, Wx_some, hsz, e0, e3, e4, hkl, h3]
   refine ⟨_, rfl, fun hh => ?_⟩
   have := of_decide_eq_true hh
   have hr : rows.take k = rows := List.take_of_length_le (by omega)
   rw [hr] at hall
   exact ⟨by omega, hall⟩
 ·simp +decide only [go_sem, W_region, Wx_some, hsz, e0, e3, e4, hkl]
  refine ⟨_, rfl, fun hh => ?_⟩
  have hr : rows.take k = rows := List.take_of_length_le (by omega)
  rw [hr] at hall
  exact ⟨by omega, hall⟩
def lineS (d : DefT) (n : Int) : ByteArray × Bool := if 0 ≤ n ∧ n ≤ (d.lines.length : Int) then ((rowsT d).getD n.toNat E, true) else (E, false)
theorem rline_run (d : DefT) (n : Int) (h : Heap) {v : Value} (V : DV h v d) (G : Heads.Good d.hd) (hm : d.lines.length ≤ 100000) : Runs K f_ref24_Line #[v, .int .i64 n] h fun r w => r = .tuple #[.string (lineS d n).1, .bool (lineS d n).2] := by
 have V0 := V
 obtain ⟨a, c, a1, c1, a2, c2, rfl, s1, s2, s3⟩ := V0
 refine Runs.of Kok (Does.intro rfl (by decide +kernel) F_ref24_Line rfl ?_)
 obtain ⟨w1, e1, x1, hs1, z1⟩ := lay1 h (.cells (dl d.hd (.slice a d.hd.ls.length c) (.slice a1 d.lines.length c1) (.slice a2 d.labels.length c2)) 7)
 have dr := rdrows_run d w1 (V.ext x1) G hm
 simp only [dl] at e1 z1 dr
 simp +decide only [go_sem, W_region, Wx_some, dl, e1, z1]
 refine W_call Kok x1.1 dr fun r w2 x2 hr => ?_
 obtain ⟨ra, rc, rfl, s⟩ := hr
 have hl := rows_len d
 generalize hR : rowsT d = R at *
 by_cases n0 : n < 0
 ·simp +decide only [go_sem, W_region, Wx_some, n0]
  simp only [lineS]
  rw [if_neg (by omega)]
  rfl
 by_cases n1 : ((R.length : Nat) : Int) ≤ n
 ·simp +decide only [go_sem, W_region, Wx_some, n0, n1]
  simp only [lineS]
  rw [if_neg (by omega)]
  rfl
 obtain ⟨b, o, cs, rfl, q2, q3, q4⟩ := text_at s (i := n.toNat) (by omega)
 have c0 : (0 : Int) ≤ n := by omega
 have c1 : n < ((R.length : Nat) : Int) := by omega
 simp +decide only [go_sem, W_region, Wx_some, n0, n1, c0, c1, q3, q4]
 simp only [lineS]
 rw [if_pos (by omega), hR, List.getD_eq_getElem?_getD, List.getElem?_eq_getElem (by omega)]
 rfl
theorem line_run (d : DefT) (n : Int) (h : Heap) {v : Value} (V : DV h v d) (G : Heads.Good d.hd) (hm : d.lines.length ≤ 100000) : Runs K f_defn_Defn_Line #[v, .int .i64 n] h fun r w => r = .tuple #[.string (lineS d n).1, .bool (lineS d n).2] := by
 obtain ⟨a, c, a1, c1, a2, c2, rfl, s1, s2, s3⟩ := V
 refine Runs.of Kok (Does.intro rfl (by decide +kernel) F_defn_Defn_Line rfl ?_)
 obtain ⟨w1, e1, x1, hs1, z1⟩ := lay1 h (.cells (dl d.hd (.slice a d.hd.ls.length c) (.slice a1 d.lines.length c1) (.slice a2 d.labels.length c2)) 7)
 have txr := text_run d.hd w1 (s1.ext x1) (by have := G.few; omega) (good_sizes G)
 simp only [dl] at e1 z1
 simp only [H2.hl] at txr
 by_cases n0 : n = 0
 ·subst n0
  simp +decide only [go_sem, W_region, Wx_some, dl, e1, z1]
  refine W_call Kok x1.1 txr fun r w2 x2 hr => ?_
  subst hr
  simp +decide only [go_sem, W_region, Wx_some]
  simp only [lineS]
  rw [if_pos (by omega)]
  rfl
 by_cases n1 : n < 0
 ·simp +decide only [go_sem, W_region, Wx_some, dl, e1, z1, n0, n1]
  simp only [lineS]
  rw [if_neg (by omega)]
  rfl
 by_cases n2 : ((d.lines.length : Nat) : Int) < n
 ·simp +decide only [go_sem, W_region, Wx_some, dl, e1, z1, n0, n1, n2]
  simp only [lineS]
  rw [if_neg (by omega)]
  rfl
 obtain ⟨m, hm'⟩ : ∃ m : Nat, n = ((m + 1 : Nat) : Int) := ⟨n.toNat - 1, by omega⟩
 subst hm'
 obtain ⟨b, o, cs, rfl, q2, q3, q4⟩ := text_at (s2.ext x1) (i := m) (by omega)
 have m1 : IntKind.i64.wrap (((m + 1 : Nat) : Int) - 1) = ((m : Nat) : Int) := by rw [wrap_i64 (by omega) (by omega)]; omega
 have c0 : (0 : Int) ≤ (m : Int) := by omega
 have c1 : (m : Int) < ((d.lines.length : Nat) : Int) := by omega
 simp +decide only [go_sem, W_region, Wx_some, dl, e1, z1, n0, n1, n2, m1, c0, c1, Int.toNat_natCast, q3, q4]
 simp only [lineS]
 rw [if_pos (by omega)]
 have : (rowsT d).getD ((m + 1 : Nat) : Int).toNat E = d.lines[m] := by
  rw [Int.toNat_natCast, rowsT, List.getD_eq_getElem?_getD, List.getElem?_cons_succ, List.getElem?_eq_getElem (by omega)]
  rfl
 rw [this]
theorem wide (s : ByteArray) (pos : Nat) (h : pos < s.size) : 1 ≤ (Utf8.decode s pos).2 := by
 by_cases ha : (s[pos]'h).toNat < 128
 ·rw [Go.decode_ascii s pos h ha]
  exact Nat.le_refl _
 ·exact (Go.decode_high s pos h (by omega)).2
theorem runesL_end (s : ByteArray) {f i : Nat} (h : s.size ≤ i) : runesL s f i = [] := by
 cases f with
 | zero => rfl
 | succ f => rw [runesL, if_neg (by omega)]
theorem runesL_more (s : ByteArray) {f i : Nat} (h : i < s.size) (hf : s.size ≤ i + f) : (runesL s f i).length = 1 + (runesL s (f - 1) (i + (Utf8.decode s i).2)).length := by
 obtain ⟨g, rfl⟩ : ∃ g, f = g + 1 := ⟨f - 1, by omega⟩
 rw [runesL, if_pos h, List.length_cons, Nat.add_sub_cancel]
 omega
theorem count_run (s : ByteArray) (h : Heap) (hm : s.size ≤ 1000000) : Runs K f_unicode_utf8_RuneCountInString #[.string s] h fun r w => r = .int .i64 (((runesI s).length : Nat) : Int) := by
 refine Runs.of Kok (Does.intro rfl (by decide +kernel) F_unicode_utf8_RuneCountInString rfl ?_)
 obtain ⟨w0, e0, x0, hs0, z0⟩ := lay1 h (.siter s 0)
 have hlen := runesI_len s
 simp +decide only [go_sem, W_region, Wx_some, e0]
 refine W_loop (α := Nat × Nat × Nat) (fun k e w => e.size = 10 ∧ Ext h w ∧ h.size < w.size ∧ w.get h.size = .siter s k.1 ∧ e.get 2 = .int .i64 (k.2.1 : Int) ∧ e.get 4 = .pointer (some ⟨h.size, 0, none⟩) ∧ s.size ≤ k.1 + k.2.2 ∧ (runesI s).length = k.2.1 + (runesL s k.2.2 k.1).length)
  (fun k => s.size - k.1) (0, 0, s.size) ?_ ?_
 ·exact ⟨by simp +decide only [go_sem], x0, by omega, z0, by simp +decide only [go_sem]; rfl, by simp +decide only [go_sem], by simp, by simp [runesI]⟩
 rintro ⟨pos, n, f⟩ e w ⟨hsz, hxw, hws, g0, e2, e4, hf, hn⟩ next
 simp only at g0 e2 hf hn
 by_cases hp : pos < s.size
 ·have hw := wide s pos hp
  obtain ⟨w1, e1', x1, hs1, g1, k1⟩ := put1 hxw (Nat.le_refl _) (.siter s (pos + (Utf8.decode s pos).2))
  rw [runesL_more s hp hf] at hn
  have n1 : IntKind.i64.wrap ((n : Int) + 1) = ((n + 1 : Nat) : Int) := by rw [wrap_i64 (by omega) (by omega)]; omega
  simp +decide only [go_sem, W_region, Wx_some, hsz, e2, e4, g0, inxt_more (Nat.le_refl _) hp, e1', n1]
  exact next (pos + (Utf8.decode s pos).2, n + 1, f - 1) _ _ ⟨by simp +decide only [go_sem, hsz], x1, by omega, g1, by simp +decide only [go_sem, hsz], by simp +decide only [go_sem, hsz, e4], by simp only; omega, by simp only; omega⟩ (by simp only; omega)
 ·have hpe : s.size ≤ pos := by omega
  rw [runesL_end s hpe] at hn
  simp +decide only [go_sem, W_region, Wx_some, hsz, e2, e4, g0, inxt_end (Nat.le_refl _) hpe]
  rw [hn]
  simp
end Go.Proofs.YtachkofbmodnnaaGreatDoor.M2
namespace Go.Im.Defn
open Go Go.Im Go.Im.Lexing Go.Im.Heads Go.Im.Editing
theorem encode_le (i : Int) : (Utf8.encode i).size ≤ 4 := by
 unfold Utf8.encode
 simp only
 repeat' split
 all_goals simp [ByteArray.size]
theorem fold_size (ns : List Int) : ∀ s : ByteArray, (ns.foldl (fun r n => r ++ Utf8.encode n) s).size ≤ s.size + 4 * ns.length := by
 induction ns with
 | nil => intro s; simp
 | cons n ns ih =>
   intro s
   have h1 := ih (s ++ Utf8.encode n)
   have h2 := encode_le n
   rw [ByteArray.size_append] at h1
   simp only [List.foldl_cons, List.length_cons]
   omega
theorem runesBytes_size (l : List Int) : (runesBytes l).size ≤ 4 * l.length := by
 have := fold_size l ByteArray.empty
 have e : ByteArray.empty.size = 0 := rfl
 rw [e] at this
 unfold runesBytes
 omega
theorem lines_small {n : Nat} : ∀ {rs : List ByteArray} {x : HdT} {i : Nat} {ls : List ByteArray} {lb : List (ByteArray × Nat)} {tk : List ByteArray}, (∀ y ∈ rs, y.size ≤ n) → (∀ y ∈ ls, y.size ≤ 4 * n) → ∀ y ∈ (linesS x rs i ls lb tk).1.lines, y.size ≤ 4 * n
 | [], x, i, ls, lb, tk, hr, hl => by rw [linesS]; exact hl
 | r :: rs, x, i, ls, lb, tk, hr, hl => by
   have hr' : ∀ y ∈ rs, y.size ≤ n := fun y hy => hr y (by simp [hy])
   have hl' : ∀ y ∈ ls ++ [runesBytes (trimS (runesI r))], y.size ≤ 4 * n := by
    intro y hy
    rcases List.mem_append.1 hy with hy | hy
    ·exact hl y hy
    ·simp only [List.mem_singleton] at hy
     subst hy
     have h1 := runesBytes_size (trimS (runesI r))
     have h2 := trim_len (runesI r)
     have h3 := runesI_len r
     have h4 := hr r (by simp)
     omega
   rw [linesS]
   split
   ·intro y hy; simp [dZ] at hy
   ·split
    ·exact lines_small hr' hl'
    ·split
     ·intro y hy; simp [dZ] at hy
     ·exact lines_small hr' hl'
theorem make_small {n : Nat} {rows : List ByteArray} (h : ∀ y ∈ rows, y.size ≤ n) : ∀ y ∈ (makeS rows).1.lines, y.size ≤ 4 * n := by
 match rows, h with
 | [], _ => intro y hy; simp [makeS, dZ] at hy
 | r :: rs, h =>
   rw [makeS]
   split
   ·exact lines_small (fun y hy => h y (by simp [hy])) (by simp)
   ·intro y hy; simp [dZ] at hy
theorem lines_bad_z : ∀ {rs : List ByteArray} {x : HdT} {i : Nat} {ls : List ByteArray} {lb : List (ByteArray × Nat)} {tk : List ByteArray}, 0 ≤ (linesS x rs i ls lb tk).2 → (linesS x rs i ls lb tk).1 = dZ
 | [], x, i, ls, lb, tk, h => by rw [linesS] at h; simp at h
 | r :: rs, x, i, ls, lb, tk, h => by
   rw [linesS] at h ⊢
   split
   ·rfl
   ·rename_i h1
    rw [if_neg h1] at h
    split
    ·rename_i h2
     rw [if_pos h2] at h
     exact lines_bad_z h
    ·rename_i h2
     rw [if_neg h2] at h
     split
     ·rfl
     ·rename_i h3
      rw [if_neg h3] at h
      exact lines_bad_z h
theorem make_bad_z {rows : List ByteArray} (h : 0 ≤ (makeS rows).2) : (makeS rows).1 = dZ := by
 match rows, h with
 | [], _ => rfl
 | r :: rs, h =>
   rw [makeS] at h ⊢
   split
   ·rename_i h1
    rw [if_pos h1] at h
    exact lines_bad_z h
   ·rfl
def wS : List ByteArray → Nat
 | [] => 0
 | r :: rs => 8 + (runesI r).length + wS rs
theorem wS_snoc (a : List ByteArray) (r : ByteArray) : wS (a ++ [r]) = wS a + (8 + (runesI r).length) := by
 induction a with
 | nil => simp [wS]
 | cons x a ih => simp only [List.cons_append, wS, ih]; omega
theorem wS_le {n : Nat} : ∀ {a : List ByteArray}, (∀ y ∈ a, y.size ≤ n) → wS a ≤ (8 + n) * a.length
 | [], _ => by simp [wS]
 | r :: a, h => by
   have h1 := wS_le (a := a) fun y hy => h y (by simp [hy])
   have h2 := runesI_len r
   have h3 := h r (by simp)
   simp only [wS, List.length_cons, Nat.mul_add, Nat.mul_one]
   omega
end Go.Im.Defn
namespace Go.Proofs.YtachkofbmodnnaaGreatDoor.M3
open Go Go.Im Go.Im.Limbs Go.Im.Lexing Go.Im.Heads Go.Im.Editing Go.Im.Defn Go.Proofs Go.RowKit Hd N19 H2 H3 H4 H5 H7 D2 D3 D4 M1 M2
set_option maxRecDepth 100000
theorem bytes_run (d : DefT) (h : Heap) {v : Value} (V : DV h v d) (G : Heads.Good d.hd) (hm : d.lines.length ≤ 900) (hz : ∀ y ∈ rowsT d, y.size ≤ 100000) : Runs K f_defn_Defn_Bytes #[v] h fun r w => r = .int .i64 ((32 + wS (rowsT d) : Nat) : Int) := by
 have V0 := V
 obtain ⟨a, c, a1, c1, a2, c2, rfl, s1, s2, s3⟩ := V0
 refine Runs.of Kok (Does.intro rfl (by decide +kernel) F_defn_Defn_Bytes rfl ?_)
 obtain ⟨w1, e1, x1, hs1, z1⟩ := lay1 h (.cells (dl d.hd (.slice a d.hd.ls.length c) (.slice a1 d.lines.length c1) (.slice a2 d.labels.length c2)) 7)
 have dr := drows_run d w1 (V.ext x1) G (by omega)
 simp only [dl] at e1 z1 dr
 simp +decide only [go_sem, W_region, Wx_some, dl, e1, z1]
 refine W_call Kok x1.1 dr fun r w2 x2 hr => ?_
 obtain ⟨ra, rc, rfl, s⟩ := hr
 have hl := rows_len d
 generalize hR : rowsT d = R at *
 simp +decide only [go_sem, W_region, Wx_some]
 refine W_loop (α := Nat) (fun i e w => i ≤ R.length ∧ e.size = 20 ∧ Ext w2 w ∧ e.get 3 = .int .i64 ((32 + wS (R.take i) : Nat) : Int) ∧ e.get 7 = .slice ra R.length rc ∧ e.get 8 = .int .i64 ((R.length : Nat) : Int) ∧ e.get 9 = .int .i64 (i : Int)) (fun i => R.length - i) 0 ?_ ?_
 ·exact ⟨Nat.zero_le _, by simp +decide only [go_sem], Ext.refl _, by simp +decide only [go_sem]; rfl, by simp +decide only [go_sem], by simp +decide only [go_sem], by simp +decide only [go_sem]; rfl⟩
 rintro i e w ⟨hi, hsz, xw, e3, e7, e8, e9⟩ next
 by_cases hil : (i : Int) < ((R.length : Nat) : Int)
 ·obtain ⟨b, o, cs, rfl, q2, q3, q4⟩ := text_at (s.ext xw) (i := i) (by omega)
  obtain ⟨y, hy⟩ : ∃ y, y = R[i] := ⟨_, rfl⟩
  have hyi : R[i]? = some y := by rw [hy]; exact List.getElem?_eq_getElem (by omega)
  rw [← hy] at q4
  have hyz := hz y (List.mem_of_getElem? hyi)
  have hrl := runesI_len y
  have hwl := wS_le (n := 100000) (a := R.take i) fun z hz' => hz z (List.mem_of_mem_take hz')
  have htl : (R.take i).length ≤ 901 := by rw [List.length_take]; omega
  have hws : wS (R.take (i + 1)) = wS (R.take i) + (8 + (runesI y).length) := by rw [List.take_add_one, hyi]; exact wS_snoc _ _
  have hb : wS (R.take i) ≤ 100100000 := Nat.le_trans hwl (by omega)
  have c0 : (0 : Int) ≤ (i : Int) := by omega
  have n1 : IntKind.i64.wrap (8 + (((runesI y).length : Nat) : Int)) = ((8 + (runesI y).length : Nat) : Int) := by rw [wrap_i64 (by omega) (by omega)]; omega
  have n2 : IntKind.i64.wrap (((32 + wS (R.take i) : Nat) : Int) + ((8 + (runesI y).length : Nat) : Int)) = ((32 + wS (R.take (i + 1)) : Nat) : Int) := by rw [hws, wrap_i64 (by omega) (by omega)]; omega
  have i1 : IntKind.i64.wrap ((i : Int) + 1) = ((i + 1 : Nat) : Int) := by rw [wrap_i64 (by omega) (by omega)]; omega
  simp +decide only [go_sem, W_region, Wx_some, hsz, e3, e7, e8, e9, hil, c0, Int.toNat_natCast, q3, q4]
  refine W_call Kok ((x1.trans x2).trans xw).1 (count_run y w (by omega)) fun r w3 x3 hr => ?_
  subst hr
  simp +decide only [go_sem, W_region, Wx_some, hsz, e3, e7, e8, e9, n1, n2, i1]
  exact next (i + 1) _ _ ⟨by omega, by simp +decide only [go_sem, hsz], xw.trans x3, by simp +decide only [go_sem, hsz], by simp +decide only [go_sem, hsz, e7], by simp +decide only [go_sem, hsz, e8], by simp +decide only [go_sem, hsz]⟩ (by omega)
 ·simp +decide only [go_sem, W_region, Wx_some, hsz, e3, e7, e8, e9, hil]
  rw [List.take_of_length_le (by omega)]
theorem rbytes_run (d : DefT) (h : Heap) {v : Value} (V : DV h v d) (G : Heads.Good d.hd) (hm : d.lines.length ≤ 900) (hz : ∀ y ∈ rowsT d, y.size ≤ 100000) : Runs K f_ref24_Bytes #[v] h fun r w => r = .int .i64 ((32 + wS (rowsT d) : Nat) : Int) := by
 have V0 := V
 obtain ⟨a, c, a1, c1, a2, c2, rfl, s1, s2, s3⟩ := V0
 refine Runs.of Kok (Does.intro rfl (by decide +kernel) F_ref24_Bytes rfl ?_)
 obtain ⟨w1, e1, x1, hs1, z1⟩ := lay1 h (.cells (dl d.hd (.slice a d.hd.ls.length c) (.slice a1 d.lines.length c1) (.slice a2 d.labels.length c2)) 7)
 have dr := rdrows_run d w1 (V.ext x1) G (by omega)
 simp only [dl] at e1 z1 dr
 simp +decide only [go_sem, W_region, Wx_some, dl, e1, z1]
 refine W_call Kok x1.1 dr fun r w2 x2 hr => ?_
 obtain ⟨ra, rc, rfl, s⟩ := hr
 have hl := rows_len d
 generalize hR : rowsT d = R at *
 have m1 : IntKind.i64.wrap (8 * ((R.length : Nat) : Int)) = ((8 * R.length : Nat) : Int) := by rw [wrap_i64 (by omega) (by omega)]; first | done | rfl | omega
 have m2 : IntKind.i64.wrap (32 + ((8 * R.length : Nat) : Int)) = ((32 + 8 * R.length : Nat) : Int) := by rw [wrap_i64 (by omega) (by omega)]; omega
 simp +decide only [go_sem, W_region, Wx_some, m1, m2]
 refine W_loop (α := Nat × Nat) (fun k e w => k.1 ≤ R.length ∧ e.size = 29 ∧ Ext w2 w ∧ e.get 3 = .slice ra R.length rc ∧ e.get 4 = .int .i64 ((32 + 8 * R.length + k.2 : Nat) : Int) ∧ e.get 5 = .int .i64 (k.1 : Int) ∧ 8 * k.1 + k.2 = wS (R.take k.1)) (fun k => R.length - k.1) (0, 0) ?_ ?_
 ·exact ⟨Nat.zero_le _, by simp +decide only [go_sem], Ext.refl _, by simp +decide only [go_sem], by simp +decide only [go_sem], by simp +decide only [go_sem]; rfl, by simp [wS]⟩
 rintro ⟨i, n⟩ e w ⟨hi, hsz, xw, e3, e4, e5, hn⟩ next
 simp only at hi e4 e5 hn
 by_cases hil : (i : Int) < ((R.length : Nat) : Int)
 ·obtain ⟨b, o, cs, rfl, q2, q3, q4⟩ := text_at (s.ext xw) (i := i) (by omega)
  obtain ⟨y, hy⟩ : ∃ y, y = R[i] := ⟨_, rfl⟩
  have hyi : R[i]? = some y := by rw [hy]; exact List.getElem?_eq_getElem (by omega)
  rw [← hy] at q4
  have hyz := hz y (List.mem_of_getElem? hyi)
  have hrl := runesI_len y
  have hwl := wS_le (n := 100000) (a := R.take i) fun z hz' => hz z (List.mem_of_mem_take hz')
  have htl : (R.take i).length ≤ 901 := by rw [List.length_take]; omega
  have hws : wS (R.take (i + 1)) = wS (R.take i) + (8 + (runesI y).length) := by rw [List.take_add_one, hyi]; exact wS_snoc _ _
  have hb : wS (R.take i) ≤ 100100000 := Nat.le_trans hwl (by omega)
  obtain ⟨L, rfl⟩ := text_of y
  obtain ⟨l, hl'⟩ : ∃ l, l = runesI (text L) := ⟨_, rfl⟩
  rw [← hl'] at hrl hws
  obtain ⟨w3, f1, y1, hs3, z3⟩ := lay1 w (.cells (rv l) 1)
  have ic := icvt_all (l := L) (h := w)
  rw [← hl', f1] at ic
  have c0 : (0 : Int) ≤ (i : Int) := by omega
  have n2 : IntKind.i64.wrap (((32 + 8 * R.length + n : Nat) : Int) + ((l.length : Nat) : Int)) = ((32 + 8 * R.length + (n + l.length) : Nat) : Int) := by rw [wrap_i64 (by omega) (by omega)]; omega
  have i1 : IntKind.i64.wrap ((i : Int) + 1) = ((i + 1 : Nat) : Int) := by rw [wrap_i64 (by omega) (by omega)]; omega
  simp +decide only [go_sem, W_region, Wx_some, hsz, e3, e4, e5, hil, c0, Int.toNat_natCast, q3, q4, ic, n2, i1]
  exact next (i + 1, n + l.length) _ _ ⟨by simp only; omega, by simp +decide only [go_sem, hsz], xw.trans y1, by simp +decide only [go_sem, hsz, e3], by simp +decide only [go_sem, hsz], by simp +decide only [go_sem, hsz], by simp only [hws]; omega⟩ (by simp only; omega)
 ·simp +decide only [go_sem, W_region, Wx_some, hsz, e3, e4, e5, hil]
  rw [List.take_of_length_le (by omega)] at hn
  have : i = R.length := by omega
  subst this
  congr 1
  omega
end Go.Proofs.YtachkofbmodnnaaGreatDoor.M3
namespace Go.Proofs.YtachkofbmodnnaaGreatDoor.M4
open Go Go.Im Go.Im.Limbs Go.Im.Lexing Go.Im.Heads Go.Im.Editing Go.Im.Defn Go.Proofs Go.RowKit Hd N19 H2 H3 H4 H5 H7 D2 D3 D4 M1 M2 M3
set_option maxRecDepth 100000
theorem txt_size {x : HdT} (G : Heads.Good x) : (txtB x).size ≤ 100000 := by
 have hs : ∀ b : ByteArray, b.data.toList.length = b.size := fun b => by rw [Array.length_toList]; rfl
 have hf : ∀ ls : List ByteArray, (∀ y ∈ ls, y.size ≤ 96) → ((ls.map (·.data.toList)).flatMap fun x => (59 : UInt8) :: x).length ≤ 97 * ls.length := by
  intro ls
  induction ls with
  | nil => intro _; simp
  | cons y ls ih =>
    intro hy
    have h1 := ih fun z hz => hy z (by simp [hz])
    have h2 := hy y (by simp)
    have h3 := hs y
    simp only [List.map_cons, List.flatMap_cons, List.length_append, List.length_cons, h3]
    omega
 have h1 := hf x.ls G.ls
 have h2 := G.few
 have h3 := G.nm
 have h4 := G.re
 have h5 := G.le
 have h6 := G.ri
 have e : (txtB x).size = (txtL x).length := by rw [← hs]; rfl
 rw [e, txtL, S3.txt]
 have a1 : (if x.re.data.toList = [] then [] else x.re.data.toList ++ [(226 : UInt8), 134, 144]).length ≤ 99 := by
  split
  ·simp
  ·simp only [List.length_append, hs, List.length_cons, List.length_nil]; omega
 have a2 : (if x.le.data.toList = [] then [] else x.le.data.toList ++ [(32 : UInt8)]).length ≤ 97 := by
  split
  ·simp
  ·simp only [List.length_append, hs, List.length_cons, List.length_nil]; omega
 have a3 : (if x.ri.data.toList = [] then [] else (32 : UInt8) :: x.ri.data.toList).length ≤ 97 := by
  split
  ·simp
  ·simp only [hs, List.length_cons]; omega
 have a4 := hs x.nm
 simp only [List.length_append]
 omega
set_option maxHeartbeats 4000000 in
theorem makes_run (rows : List ByteArray) (n : Int) (h : Heap) {a : Option Addr} {c : Nat} (s : Sl h 1 a rows.length c (sv rows)) (T : TabsAt h) :
  Runs K f_law24_DefnMakes #[.slice a rows.length c, .int .i64 n] h fun r _ => r = .bool true := by
 refine Runs.of Kok (Does.intro rfl (by decide +kernel) F_law24_DefnMakes rfl ?_)
 simp +decide only [go_sem, W_region, Wx_some]
 refine W_call Kok (Nat.le_refl _) (short_run rows h s T) fun r w x hr => ?_
 obtain ⟨hw, b, rfl, hb⟩ := hr
 subst hw
 cases b with
 | false =>
   simp +decide only [go_sem, W_region, Wx_some]
   refine W_call Kok (Nat.le_refl _) (law24_awake_runs h) fun r w x hr => ?_
   subst hr
   simp +decide only [go_sem, W_region, Wx_some]
 | true =>
   obtain ⟨hl, hz2⟩ := hb rfl
   have hz : ∀ y ∈ rows, y.size ≤ 100000 := fun y hy => Nat.le_trans (hz2 y hy) (by decide)
   have G := make_good rows
   have few := make_few rows
   have small := make_small hz2
   have badz := @make_bad_z rows
   have mk := make_run rows h s (by omega) hz
   have rmk := fun (w : Heap) (k : Ext h w) => rmake_run rows w (s.ext k) (by omega) hz
   generalize makeS rows = M at *
   obtain ⟨d, i⟩ := M
   simp only at G few small badz mk rmk
   have hzR : ∀ y ∈ rowsT d, y.size ≤ 100000 := by
    intro y hy
    rcases List.mem_cons.1 hy with rfl | hy
    ·exact txt_size G
    ·exact Nat.le_trans (small y hy) (by decide)
   simp +decide only [go_sem, W_region, Wx_some]
   refine W_call Kok (Nat.le_refl _) mk fun r w1 x1 hr => ?_
   obtain ⟨u1, rfl, D1⟩ := hr
   have D1' := D1
   obtain ⟨a0, c0, a1, c1, a2, c2, rfl, -⟩ := D1'
   obtain ⟨w2, e2, x2, hs2, z2⟩ := lay1 w1 (.cells [.string ByteArray.empty, .string ByteArray.empty, .string ByteArray.empty, .string ByteArray.empty, .slice none 0 0, .slice none 0 0, .slice none 0 0] 7)
   obtain ⟨w3, e3, x3, hs3, z3, k3⟩ := put1 x2 (Nat.le_refl _) (.cells (dl d.hd (.slice a0 d.hd.ls.length c0) (.slice a1 d.lines.length c1) (.slice a2 d.labels.length c2)) 7)
   have j1 : h.size ≤ w1.size := x1.1
   have K3 := x1.trans x3
   simp only [dl] at e3 z3
   simp +decide only [go_sem, W_region, Wx_some, dl, e2, z2, j1, e3]
   refine W_call Kok K3.1 (rmk w3 K3) fun r w4 x4 hr => ?_
   obtain ⟨u2, rfl, D2⟩ := hr
   have K4 := K3.trans x4
   have D2' := D2
   obtain ⟨p0, n0, p1, n1, p2, n2, rfl, -⟩ := D2'
   obtain ⟨w5, e5, x5, hs5, z5⟩ := lay1 w4 (.cells [.string ByteArray.empty, .string ByteArray.empty, .string ByteArray.empty, .string ByteArray.empty, .slice none 0 0, .slice none 0 0, .slice none 0 0] 7)
   obtain ⟨w6, e6, x6, hs6, z6, k6⟩ := put1 x5 (Nat.le_refl _) (.cells (dl d.hd (.slice p0 d.hd.ls.length n0) (.slice p1 d.lines.length n1) (.slice p2 d.labels.length n2)) 7)
   have j4 : h.size ≤ w4.size := K4.1
   have K6 := K4.trans x6
   have b1 : w1.size < w4.size := by have := x4.1; omega
   have z36 : w6.get w1.size = _ := ((x4.trans x6).2 _ (by omega)).trans z3
   have E1 := D1.ext (x3.trans (x4.trans x6))
   have E2 := D2.ext x6
   have sm := same24_run d w6 E1 E2 G (by omega) (by omega)
   simp only [dl] at e6 z6 z36 sm
   simp +decide only [go_sem, W_region, Wx_some, dl, e5, z5, j4, e6, z6, z36]
   refine W_call Kok K6.1 sm fun r w7 x7 hr => ?_
   subst hr
   have K7 := K6.trans x7
   have y1 : ∀ {w : Heap}, Ext w7 w → w.get w1.size = _ := fun k => ((x7.trans k).2 _ (by omega)).trans z36
   have y2 : ∀ {w : Heap}, Ext w7 w → w.get w4.size = _ := fun k => ((x7.trans k).2 _ (by omega)).trans z6
   by_cases hi : 0 ≤ i
   ·have hd0 : ((d.lines.length : Nat) : Int) = 0 := by rw [badz hi]; rfl
    have ln := len_run d w7 (E1.ext x7)
    simp only [dl] at ln
    simp +decide only [go_sem, W_region, Wx_some, hi, y1 (Ext.refl w7)]
    refine W_call Kok K7.1 ln fun r w8 x8 hr => ?_
    subst hr
    simp +decide only [go_sem, W_region, Wx_some, hd0]
    refine W_call Kok (K7.trans x8).1 (law24_awake_runs w8) fun r w x hr => ?_
    subst hr
    simp +decide only [go_sem, W_region, Wx_some]
   ·have l1 := line_run d n w7 (E1.ext x7) G (by omega)
    simp only [dl] at l1
    simp +decide only [go_sem, W_region, Wx_some, hi, y1 (Ext.refl w7)]
    refine W_call Kok K7.1 l1 fun r w8 x8 hr => ?_
    subst hr
    have l2 := rline_run d n w8 (E2.ext (x7.trans x8)) G (by omega)
    simp only [dl] at l2
    simp +decide only [go_sem, W_region, Wx_some, y2 x8]
    refine W_call Kok (K7.trans x8).1 l2 fun r w9 x9 hr => ?_
    subst hr
    have k9 := x8.trans x9
    have l3 := bytes_run d w9 (E1.ext (x7.trans k9)) G (by omega) hzR
    simp only [dl] at l3
    simp +decide only [go_sem, W_region, Wx_some, y1 k9]
    refine W_call Kok (K7.trans k9).1 l3 fun r w10 x10 hr => ?_
    subst hr
    have k10 := k9.trans x10
    have l4 := rbytes_run d w10 (E2.ext (x7.trans k10)) G (by omega) hzR
    simp only [dl] at l4
    simp +decide only [go_sem, W_region, Wx_some, y2 k10]
    refine W_call Kok (K7.trans k10).1 l4 fun r w11 x11 hr => ?_
    subst hr
    simp +decide only [go_sem, W_region, Wx_some]
    refine W_call Kok (K7.trans (k10.trans x11)).1 (law24_awake_runs w11) fun r w x hr => ?_
    subst hr
    simp +decide only [go_sem, W_region, Wx_some]
end Go.Proofs.YtachkofbmodnnaaGreatDoor.M4
namespace Go.Im
open Go.RowKit Go.Proofs
theorem tab_view {W : World} {g : Nat} {cs : List Value} (φ : Places) (h0 : 0 < cs.length) (hc : ∀ i x, cs[i]? = some x → Im.atomic x = true ∧ W.cell? ⟨g, i, none⟩ = some x) : View.of φ W ⟨g, 0, cs.length, 1, cs⟩ := by
 have h1 := (hc 0 _ (List.getElem?_eq_getElem h0)).2
 cases ho : W.heap[g]? with
 | none => simp [World.cell?, ho] at h1
 | some o =>
   cases o with
   | cells c e fr =>
     have get : ∀ i x, cs[i]? = some x → c[i]? = some x := fun i x hx => by
      have := (hc i x hx).2
      simpa [World.cell?, ho] using this
     refine ⟨by simp, c, e, fr, ho, ?_, fun i x hx => ⟨?_, x, ?_, RV.atomic _ (hc i x hx).1⟩⟩
     ·have hl := get (cs.length - 1) _ (List.getElem?_eq_getElem (by omega))
      have := (Array.getElem?_eq_some_iff.1 hl).1
      simp only
      omega
     ·have := (hc i x hx).1
      cases x <;> simp_all [Im.atomic, cellOK]
     ·simp only [Nat.zero_add]
      exact get i x hx
   | _ => simp [World.cell?, ho] at h1
def tabViews (g3 g4 : Nat) : List View := [⟨g4, 0, accCs.length, 1, accCs⟩, ⟨g3, 0, firstCs.length, 1, firstCs⟩]
theorem tabs_laid {W : World} {g3 g4 : Nat} (T : Lib.Utf8Tabs g3 g4 W) : LaidOK W (tabViews g3 g4) := by
 have v3 : ∀ φ, View.of φ W ⟨g3, 0, firstCs.length, 1, firstCs⟩ := fun φ => tab_view φ (by simp [firstCs]) fun i x hx => by
  have hi : i < 256 := by have := (List.getElem?_eq_some_iff.1 hx).1; simpa [firstCs] using this
  have : x = Value.int .u8 (Lib.firstT i : Int) := by simpa [firstCs, hi] using hx.symm
  subst this
  exact ⟨rfl, T.1 i hi⟩
 have v4 : ∀ φ, View.of φ W ⟨g4, 0, accCs.length, 1, accCs⟩ := fun φ => tab_view φ (by rw [show accCs.length = 32 from rfl]; decide) fun i x hx => by
  have hi : i < 32 := (List.getElem?_eq_some_iff.1 hx).1
  obtain ⟨j, hj | hj⟩ : ∃ j, i = 2 * j ∨ i = 2 * j + 1 := ⟨i / 2, by omega⟩
  ·subst hj
   have h := (acc_at j (by omega)).1
   rw [hx] at h
   cases h
   exact ⟨rfl, (T.2 j (by omega)).1⟩
  ·subst hj
   have h := (acc_at j (by omega)).2
   rw [hx] at h
   cases h
   exact ⟨rfl, (T.2 j (by omega)).2⟩
 intro i v hv
 rw [tabViews, vAt_cons] at hv
 split at hv
 ·cases hv
  exact v4 _
 ·rw [vAt_cons] at hv
  split at hv
  ·cases hv
   exact v3 _
  ·simp [vAt] at hv
theorem tabs_tied (g3 g4 : Nat) : (tabT g3 g4).holds (vPlaces (tabViews g3 g4)) := ⟨⟨_, rfl, rfl, rfl⟩, ⟨_, rfl, rfl, rfl⟩⟩
theorem tabs_at (g3 g4 : Nat) : TabsAt (laid (tabViews g3 g4)) := ⟨laid_get (tabViews g3 g4) 0 ⟨g3, 0, firstCs.length, 1, firstCs⟩ rfl, laid_get (tabViews g3 g4) 1 ⟨g4, 0, accCs.length, 1, accCs⟩ rfl, by rw [laid_size]; exact Nat.le_refl _⟩
end Go.Im
