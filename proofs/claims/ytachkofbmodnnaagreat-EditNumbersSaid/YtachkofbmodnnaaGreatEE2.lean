/- Proved here: blanks are left out at both ends of a line, in the program and in the document; lines side by side; of every line in memory. -/
import Derived.Test.YtachkofbmodnnaaGreatEHd
import Derived.Test.YtachkofbmodnnaaGreatEE1
set_option linter.unusedSimpArgs false
set_option linter.unusedVariables false
namespace Go.Im
/-- A line in memory, with room behind it that is not known. -/
def Ln (h : Heap) (v : Value) (l : List Int) : Prop := (l = [] ∧ (v = .slice none 0 0 ∨ ∃ b o, v = .slice (some ⟨b, o, none⟩) 0 0)) ∨ ∃ b o cs, v = .slice (some ⟨b, o, none⟩) l.length big ∧ b < h.size ∧ (h.get b).read = .cells cs 1 ∧ o + l.length ≤ cs.length ∧ rv l = (cs.drop o).take l.length
theorem Ln.tx {h : Heap} {v : Value} {l : List Int} (t : Ln h v l) : Tx h v l := by
  rcases t with ⟨rfl, rfl | ⟨b, o, rfl⟩⟩ | t
  · exact .inl ⟨rfl, _, 0, rfl⟩
  · exact .inl ⟨rfl, _, 0, rfl⟩
  · exact .inr t
theorem Ln.ext {h h' : Heap} (k : Ext h h') {v : Value} {l : List Int} (t : Ln h v l) : Ln h' v l := by
  rcases t with t | ⟨b, o, cs, h1, h2, h3, h4⟩
  · exact .inl t
  · exact .inr ⟨b, o, cs, h1, by have := k.1; omega, by rw [k.2 b h2]; exact h3, h4⟩
theorem Ln.open {h : Heap} {v : Value} {l : List Int} (t : Ln h v l) : ∃ a c, v = .slice a l.length c := t.tx.open
theorem Ln.of {h : Heap} {a : Option Addr} {n c : Nat} {l : List Int} (s : Sl h 1 a n c (rv l)) (hc : c = 0 ∨ c = big) : Ln h (.slice a n c) l := by
  have hn : l.length = n := by have := s.length; rw [rv_length] at this; omega
  subst hn
  rcases s with ⟨rfl, h0, rfl, h1⟩ | ⟨b, o, rfl, h0, rfl, h1⟩ | ⟨b, o, cs, rfl, h2, h3, h4, h5, h6, _⟩
  · exact .inl ⟨List.eq_nil_of_length_eq_zero h0, .inl (by rw [h0])⟩
  · exact .inl ⟨List.eq_nil_of_length_eq_zero h0, .inr ⟨b, o, by rw [h0]⟩⟩
  · exact .inr ⟨b, o, cs, by rw [hc.resolve_left (by omega)], h3, h4, by omega, by simpa using h6⟩
theorem Ln.new {h : Heap} {b : Nat} {l : List Int} (hb : b < h.size) (hg : h.get b = .cells (rv l) 1) : Ln h (.slice (some ⟨b, 0, none⟩) l.length big) l :=
  .inr ⟨b, 0, rv l, rfl, hb, by rw [hg]; rfl, by rw [rv_length]; omega, by rw [List.drop_zero, List.take_of_length_le (by rw [rv_length]; omega)]⟩
theorem Ln.islice {h : Heap} {a : Option Addr} {n c : Nat} {l : List Int} (t : Ln h (.slice a n c) l) : islice h 1 (.slice a n c) = some (rv l) := by
  rcases t with ⟨rfl, hv | ⟨b, o, hv⟩⟩ | ⟨b, o, cs, hv, h2, h3, h4, h5⟩
  · cases hv
    rfl
  · cases hv
    simp only [Im.islice, rv, intCells, List.map_nil]
    split <;> simp
  · cases hv
    simp only [Im.islice, Heap.look, h3]
    rw [if_pos ⟨trivial, by omega⟩, h5, Nat.mul_one]
/-- A part of a line. -/
theorem Ln.cut {h : Heap} {a : Option Addr} {n c : Nat} {l : List Int} (t : Ln h (.slice a n c) l) {lo hi : Option Value} {x y : Nat} (hlo : boundOf 0 lo = some x) (hhi : boundOf l.length hi = some y) (h1 : x ≤ y) (h2 : y ≤ l.length) :
    ∃ a' c', irsl (some (.slice 1)) h a n c lo hi none = some (.slice a' (y - x) c') ∧ Ln h (.slice a' (y - x) c') ((l.drop x).take (y - x)) := by
  rcases t with ⟨rfl, hv⟩ | ⟨b, o, cs, hv, e2, e3, e4, e5⟩
  · have hc : n = 0 ∧ c = 0 := by
      rcases hv with hv | ⟨b, o, hv⟩ <;> (cases hv; exact ⟨rfl, rfl⟩)
    obtain ⟨rfl, rfl⟩ := hc
    have : y = 0 := by simpa using h2
    subst this
    have : x = 0 := by omega
    subst this
    have hin : iinds 0 0 lo hi none = some (0, 0, 0) := iinds_of hlo hhi (by omega) (by omega)
    refine ⟨a, 0, ?_, .inl ⟨by simp, hv⟩⟩
    simp only [irsl, hin]
    simp [big]
  · cases hv
    have hin := iinds_of (n := l.length) (cap := cs.length - o) hlo hhi h1 (by omega)
    have hlen : ((l.drop x).take (y - x)).length = y - x := by simp; omega
    have hcs : rv ((l.drop x).take (y - x)) = (cs.drop (o + x)).take (y - x) := by
      rw [← rv_take, ← rv_drop, e5, List.drop_take, List.take_take, List.drop_drop]
      congr 1
      omega
    refine ⟨some ⟨b, o + x, none⟩, big, ?_, .inr ⟨b, o + x, cs, by rw [hlen], e2, e3, by rw [hlen]; omega, by rw [hlen]; exact hcs⟩⟩
    simp only [irsl, Nat.lt_irrefl, if_false, if_true, Heap.look, e3, Nat.div_one, hin, Nat.mul_one, ne_eq, not_true_eq_false]
theorem Ln.one {h : Heap} {v : Value} {l : List Int} {i : Nat} {x : Int} (t : Ln h v l) (hx : l[i]? = some x) :
    ∃ b o cs, v = .slice (some ⟨b, o, none⟩) l.length big ∧ b < h.size ∧ (h.get b).read = .cells cs 1 ∧ cs[o + i]? = some (.int .i32 x) := t.tx.one hx
end Go.Im
namespace Go.Proofs.YtachkofbmodnnaaGreat.E2
open Go Go.Im Go.Im.Lexing Go.Im.Editing Go.Proofs Go.RowKit Go.Proofs.YtachkofbmodnnaaGreat.Hd
set_option maxRecDepth 100000

theorem drop_one {l : List Int} {k : Nat} : (l.drop k).drop 1 = l.drop (k + 1) := by rw [List.drop_drop]
/-- Blanks at both ends: the program's. -/
theorem trim_run (l : List Int) (h : Heap) {tv : Value} (t : Ln h tv l) (hm : l.length ≤ 1000000) : Runs K f_glyph_Trim #[tv] h fun r w => w = h ∧ Ln h r (trimS l) := by
  refine Runs.of Kok (Does.intro rfl (by decide +kernel) F_glyph_Trim rfl ?_)
  apply W_join (α := Value × List Int) (fun v e w => e.size = 32 ∧ h = w ∧ e.get 0 = v.1 ∧ Ln h v.1 v.2 ∧ v.2 = l.dropWhile isB)
  · intro cont
    simp (decide := true) only [go_sem, W_region, Wx_some, Nat.reduceAdd, Nat.reduceMul, Nat.reduceEqDiff, Int.reduceAdd, Int.reduceSub, Int.reduceMul, Int.reduceNeg, Int.reduceToNat]
    refine W_loop (α := Nat × Value) (fun k e w => k.1 ≤ l.length ∧ e.size = 32 ∧ h = w ∧ e.get 0 = k.2 ∧ Ln h k.2 (l.drop k.1) ∧ (l.take k.1).all isB = true) (fun k => l.length - k.1) (0, tv) ?_ ?_
    · exact ⟨Nat.zero_le _, by simp (decide := true) only [go_sem], rfl, by simp (decide := true) only [go_sem], by simpa using t, by simp⟩
    rintro ⟨k, v⟩ e w ⟨hk, hsz, hw, e0, tk, hall⟩ next
    subst hw
    simp only at hk e0 tk hall
    by_cases hkl : k < l.length
    · obtain ⟨x, hx⟩ : ∃ x, l[k]? = some x := ⟨_, List.getElem?_eq_getElem hkl⟩
      have hx0 : (l.drop k)[0]? = some x := by rw [List.getElem?_drop]; exact hx
      obtain ⟨b, o, cs, rfl, q2, q3, q4⟩ := tk.one hx0
      rw [Nat.add_zero] at q4
      have d0 : (0 : Int) < (((l.drop k).length : Nat) : Int) := by rw [List.length_drop]; omega
      by_cases h32 : x = 32
      · obtain ⟨a', c', f1, tk'⟩ := tk.cut (lo := some (.int .i64 1)) (hi := none) (x := 1) (y := (l.drop k).length) rfl rfl (by rw [List.length_drop]; omega) (Nat.le_refl _)
        rw [drop_one, List.take_of_length_le (by simp only [List.length_drop]; omega)] at tk'
        simp (decide := true) only [go_sem, W_region, Wx_some, Nat.reduceAdd, Nat.reduceMul, Nat.reduceEqDiff, Int.reduceAdd, Int.reduceSub, Int.reduceMul, Int.reduceNeg, Int.reduceToNat, hsz, e0, d0, q3, q4, h32, f1]
        refine next (k + 1, .slice a' ((l.drop k).length - 1) c') _ _ ⟨by simp only; omega, by simp (decide := true) only [go_sem, hsz], rfl, by simp (decide := true) only [go_sem, hsz], tk', ?_⟩ (by simp only; omega)
        rw [List.take_add_one, hx, List.all_append, hall]
        simp [isB, h32]
      · simp (decide := true) only [go_sem, W_region, Wx_some, Nat.reduceAdd, Nat.reduceMul, Nat.reduceEqDiff, Int.reduceAdd, Int.reduceSub, Int.reduceMul, Int.reduceNeg, Int.reduceToNat, hsz, e0, d0, q3, q4, h32]
        refine cont (_, l.drop k) _ _ ⟨by simp (decide := true) only [go_sem, hsz], rfl, by simp (decide := true) only [go_sem, hsz, e0], tk, (ltrim_of hall fun c hc => ?_).symm⟩
        rw [hx] at hc
        cases hc
        simp [isB, h32]
    · have hke : l.drop k = [] := List.drop_of_length_le (by omega)
      rw [hke] at tk
      obtain ⟨a, c, rfl⟩ := tk.open
      simp (decide := true) only [go_sem, W_region, Wx_some, Nat.reduceAdd, Nat.reduceMul, Nat.reduceEqDiff, Int.reduceAdd, Int.reduceSub, Int.reduceMul, Int.reduceNeg, Int.reduceToNat, hsz, e0, List.length_nil, Int.natCast_zero, Int.lt_irrefl]
      refine cont (_, []) _ _ ⟨by simp (decide := true) only [go_sem, hsz], rfl, by simp (decide := true) only [go_sem, hsz, e0], tk, ?_⟩
      rw [← hke]
      exact (ltrim_of hall fun c hc => by simp [List.getElem?_eq_none (show l.length ≤ k by omega)] at hc).symm
  rintro ⟨v, m⟩ e w ⟨hsz, hw, e0, tm, hm'⟩
  subst hw
  simp only at e0 tm hm'
  have hml : m.length ≤ l.length := by rw [hm']; exact (List.dropWhile_suffix isB).length_le
  refine W_loop (α := Nat × Value) (fun k e w' => k.1 ≤ m.length ∧ e.size = 32 ∧ h = w' ∧ e.get 0 = k.2 ∧ Ln h k.2 (m.take k.1) ∧ (m.drop k.1).all isB = true) (fun k => k.1) (m.length, v) ?_ ?_
  · exact ⟨Nat.le_refl _, hsz, rfl, e0, by simpa using tm, by simp⟩
  rintro ⟨k, v⟩ e w' ⟨hk, hsz, hw, e0, tk, hall⟩ next
  subst hw
  simp only at hk e0 tk hall
  have hkl : (m.take k).length = k := by simp; omega
  by_cases h0 : 0 < k
  · obtain ⟨x, hx⟩ : ∃ x, m[k - 1]? = some x := ⟨_, List.getElem?_eq_getElem (by omega)⟩
    have hx0 : (m.take k)[k - 1]? = some x := by rw [List.getElem?_take, if_pos (by omega)]; exact hx
    obtain ⟨b, o, cs, rfl, q2, q3, q4⟩ := tk.one hx0
    have d0 : (0 : Int) < ((k : Nat) : Int) := by omega
    have i1 : IntKind.i64.wrap ((k : Int) - 1) = ((k - 1 : Nat) : Int) := by rw [wrap_i64 (by omega) (by omega)]; omega
    have c0 : (0 : Int) ≤ ((k - 1 : Nat) : Int) := by omega
    have c1 : ((k - 1 : Nat) : Int) < ((k : Nat) : Int) := by omega
    by_cases h32 : x = 32
    · obtain ⟨a', c', f1, tk'⟩ := tk.cut (lo := none) (hi := some (.int .i64 ((k - 1 : Nat) : Int))) (x := 0) (y := k - 1) rfl (by simp [boundOf]) (Nat.zero_le _) (by omega)
      rw [List.drop_zero, List.take_take, Nat.sub_zero, Nat.min_eq_left (by omega)] at tk'
      rw [hkl] at f1 e0
      simp (decide := true) only [go_sem, W_region, Wx_some, Nat.reduceAdd, Nat.reduceMul, Nat.reduceEqDiff, Int.reduceAdd, Int.reduceSub, Int.reduceMul, Int.reduceNeg, Int.reduceToNat, hsz, e0, d0, i1, c0, c1, Int.toNat_natCast, q3, q4, h32, f1]
      refine next (k - 1, .slice a' (k - 1) c') _ _ ⟨by simp only; omega, by simp (decide := true) only [go_sem, hsz], rfl, by simp (decide := true) only [go_sem, hsz, Nat.sub_zero], tk', ?_⟩ (by simp only; omega)
      have hd : m.drop (k - 1) = x :: m.drop k := by
        obtain ⟨g1, g2⟩ := List.getElem?_eq_some_iff.1 hx
        rw [List.drop_eq_getElem_cons g1, g2]
        congr 2
        omega
      rw [hd, List.all_cons, hall]
      simp [isB, h32]
    · rw [hkl] at e0
      simp (decide := true) only [go_sem, W_region, Wx_some, Nat.reduceAdd, Nat.reduceMul, Nat.reduceEqDiff, Int.reduceAdd, Int.reduceSub, Int.reduceMul, Int.reduceNeg, Int.reduceToNat, hsz, e0, d0, i1, c0, c1, Int.toNat_natCast, q3, q4, h32]
      rw [trimS, ← hm', rtrim_of hk hall fun _ c hc => by rw [hx] at hc; cases hc; simp [isB, h32], ← hkl]
      rw [hkl]
      rw [hkl] at tk
      exact tk
  · have hk0 : k = 0 := by omega
    subst hk0
    obtain ⟨a, c, rfl⟩ := tk.open
    rw [hkl] at e0
    simp (decide := true) only [go_sem, W_region, Wx_some, Nat.reduceAdd, Nat.reduceMul, Nat.reduceEqDiff, Int.reduceAdd, Int.reduceSub, Int.reduceMul, Int.reduceNeg, Int.reduceToNat, hsz, e0, Int.natCast_zero, Int.lt_irrefl]
    rw [trimS, ← hm', rtrim_of hk hall fun hh => absurd hh (by omega)]
    exact tk
/-- Blanks at both ends: the document's. -/
theorem rtrim_run (l : List Int) (h : Heap) {tv : Value} (t : Ln h tv l) (hm : l.length ≤ 1000000) : Runs K f_ref05_Trim #[tv] h fun r w => w = h ∧ Ln h r (trimS l) := by
  refine Runs.of Kok (Does.intro rfl (by decide +kernel) F_ref05_Trim rfl ?_)
  obtain ⟨a, c, rfl⟩ := t.open
  apply W_join (α := Nat) (fun k e w => e.size = 36 ∧ h = w ∧ e.get 0 = .slice a l.length c ∧ e.get 3 = .int .i64 (k : Int) ∧ e.get 4 = .int .i64 ((l.length : Nat) : Int) ∧ k ≤ l.length ∧ l.drop k = l.dropWhile isB)
  · intro cont
    simp (decide := true) only [go_sem, W_region, Wx_some, Nat.reduceAdd, Nat.reduceMul, Nat.reduceEqDiff, Int.reduceAdd, Int.reduceSub, Int.reduceMul, Int.reduceNeg, Int.reduceToNat]
    refine W_loop (α := Nat) (fun k e w => k ≤ l.length ∧ e.size = 36 ∧ h = w ∧ e.get 0 = .slice a l.length c ∧ e.get 3 = .int .i64 (k : Int) ∧ e.get 4 = .int .i64 ((l.length : Nat) : Int) ∧ (l.take k).all isB = true) (fun k => l.length - k) 0 ?_ ?_
    · exact ⟨Nat.zero_le _, by simp (decide := true) only [go_sem], rfl, by simp (decide := true) only [go_sem], by simp (decide := true) only [go_sem]; rfl, by simp (decide := true) only [go_sem], by simp⟩
    rintro k e w ⟨hk, hsz, hw, e0, e3, e4, hall⟩ next
    subst hw
    by_cases hkl : (k : Int) < ((l.length : Nat) : Int)
    · obtain ⟨x, hx⟩ : ∃ x, l[k]? = some x := ⟨_, List.getElem?_eq_getElem (by omega)⟩
      obtain ⟨b, o, cs, hq, q2, q3, q4⟩ := t.one hx
      cases hq
      have c0 : (0 : Int) ≤ (k : Int) := by omega
      have i1 : IntKind.i64.wrap ((k : Int) + 1) = ((k + 1 : Nat) : Int) := by rw [wrap_i64 (by omega) (by omega)]; omega
      by_cases h32 : x = 32
      · simp (decide := true) only [go_sem, W_region, Wx_some, Nat.reduceAdd, Nat.reduceMul, Nat.reduceEqDiff, Int.reduceAdd, Int.reduceSub, Int.reduceMul, Int.reduceNeg, Int.reduceToNat, hsz, e0, e3, e4, hkl, c0, Int.toNat_natCast, q3, q4, h32, i1]
        refine next (k + 1) _ _ ⟨by omega, by simp (decide := true) only [go_sem, hsz], rfl, by simp (decide := true) only [go_sem, hsz, e0], by simp (decide := true) only [go_sem, hsz], by simp (decide := true) only [go_sem, hsz, e4], ?_⟩ (by omega)
        rw [List.take_add_one, hx, List.all_append, hall]
        simp [isB, h32]
      · simp (decide := true) only [go_sem, W_region, Wx_some, Nat.reduceAdd, Nat.reduceMul, Nat.reduceEqDiff, Int.reduceAdd, Int.reduceSub, Int.reduceMul, Int.reduceNeg, Int.reduceToNat, hsz, e0, e3, e4, hkl, c0, Int.toNat_natCast, q3, q4, h32]
        refine cont k _ _ ⟨by simp (decide := true) only [go_sem, hsz], rfl, by simp (decide := true) only [go_sem, hsz, e0], by simp (decide := true) only [go_sem, hsz, e3], by simp (decide := true) only [go_sem, hsz, e4], hk, (ltrim_of hall fun c hc => ?_).symm⟩
        rw [hx] at hc
        cases hc
        simp [isB, h32]
    · simp (decide := true) only [go_sem, W_region, Wx_some, Nat.reduceAdd, Nat.reduceMul, Nat.reduceEqDiff, Int.reduceAdd, Int.reduceSub, Int.reduceMul, Int.reduceNeg, Int.reduceToNat, hsz, e0, e3, e4, hkl]
      refine cont k _ _ ⟨by simp (decide := true) only [go_sem, hsz], rfl, by simp (decide := true) only [go_sem, hsz, e0], by simp (decide := true) only [go_sem, hsz, e3], by simp (decide := true) only [go_sem, hsz, e4], hk, (ltrim_of hall fun c hc => ?_).symm⟩
      rw [List.getElem?_eq_none (by omega)] at hc
      cases hc
  rintro f e w ⟨hsz, hw, e0, e3, e4, hf, hdw⟩
  subst hw
  refine W_loop (α := Nat) (fun k e w' => f ≤ k ∧ k ≤ l.length ∧ e.size = 36 ∧ h = w' ∧ e.get 0 = .slice a l.length c ∧ e.get 3 = .int .i64 (f : Int) ∧ e.get 4 = .int .i64 (k : Int) ∧ (l.drop k).all isB = true) (fun k => k) l.length ?_ ?_
  · exact ⟨hf, Nat.le_refl _, hsz, rfl, e0, e3, e4, by simp⟩
  rintro k e w' ⟨hfk, hk, hsz, hw, e0, e3, e4, hall⟩ next
  subst hw
  have fin : (f < k → ∀ c, l[k - 1]? = some c → isB c = false) → trimS l = (l.drop f).take (k - f) := fun hh => by
    rw [trimS, ← hdw]
    refine rtrim_of (by simp; omega) ?_ fun h0 c hc => ?_
    · rw [List.drop_drop, show f + (k - f) = k by omega]
      exact hall
    · rw [List.getElem?_drop, show f + (k - f - 1) = k - 1 by omega] at hc
      exact hh (by omega) c hc
  have j0 : (0 : Int) ≤ (f : Int) := by omega
  obtain ⟨a', c', f1, tk'⟩ := t.cut (lo := some (.int .i64 (f : Int))) (hi := some (.int .i64 (k : Int))) (x := f) (y := k) (by simp [boundOf]) (by simp [boundOf]) hfk hk
  by_cases h0 : (f : Int) < ((k : Nat) : Int)
  · obtain ⟨x, hx⟩ : ∃ x, l[k - 1]? = some x := ⟨_, List.getElem?_eq_getElem (by omega)⟩
    obtain ⟨b, o, cs, hq, q2, q3, q4⟩ := t.one hx
    cases hq
    have i1 : IntKind.i64.wrap ((k : Int) - 1) = ((k - 1 : Nat) : Int) := by rw [wrap_i64 (by omega) (by omega)]; omega
    have c0 : (0 : Int) ≤ ((k - 1 : Nat) : Int) := by omega
    have c1 : ((k - 1 : Nat) : Int) < ((l.length : Nat) : Int) := by omega
    by_cases h32 : x = 32
    · simp (decide := true) only [go_sem, W_region, Wx_some, Nat.reduceAdd, Nat.reduceMul, Nat.reduceEqDiff, Int.reduceAdd, Int.reduceSub, Int.reduceMul, Int.reduceNeg, Int.reduceToNat, hsz, e0, e3, e4, h0, i1, c0, c1, Int.toNat_natCast, q3, q4, h32]
      refine next (k - 1) _ _ ⟨by omega, by omega, by simp (decide := true) only [go_sem, hsz], rfl, by simp (decide := true) only [go_sem, hsz, e0], by simp (decide := true) only [go_sem, hsz, e3], by simp (decide := true) only [go_sem, hsz], ?_⟩ (by omega)
      have hd : l.drop (k - 1) = x :: l.drop k := by
        obtain ⟨g1, g2⟩ := List.getElem?_eq_some_iff.1 hx
        rw [List.drop_eq_getElem_cons g1, g2]
        congr 2
        omega
      rw [hd, List.all_cons, hall]
      simp [isB, h32]
    · simp (decide := true) only [go_sem, W_region, Wx_some, Nat.reduceAdd, Nat.reduceMul, Nat.reduceEqDiff, Int.reduceAdd, Int.reduceSub, Int.reduceMul, Int.reduceNeg, Int.reduceToNat, hsz, e0, e3, e4, h0, i1, c0, c1, Int.toNat_natCast, q3, q4, h32, f1]
      rw [fin fun _ c hc => by rw [hx] at hc; cases hc; simp [isB, h32]]
      exact tk'
  · simp (decide := true) only [go_sem, W_region, Wx_some, Nat.reduceAdd, Nat.reduceMul, Nat.reduceEqDiff, Int.reduceAdd, Int.reduceSub, Int.reduceMul, Int.reduceNeg, Int.reduceToNat, hsz, e0, e3, e4, h0, f1]
    rw [fin fun hh => absurd hh (by omega)]
    exact tk'
/-- Lines side by side. -/
theorem runes_run (l : List Int) (h : Heap) {v1 v2 : Value} (t1 : Ln h v1 l) (t2 : Ln h v2 l) (hm : l.length ≤ 1000000) : Runs K f_ref05_Runes #[v1, v2] h fun r w => w = h ∧ r = .bool true := by
  refine Runs.of Kok (Does.intro rfl (by decide +kernel) F_ref05_Runes rfl ?_)
  obtain ⟨a, c, rfl⟩ := t1.open
  obtain ⟨a2, c2, rfl⟩ := t2.open
  simp (decide := true) only [go_sem, W_region, Wx_some, Nat.reduceAdd, Nat.reduceMul, Nat.reduceEqDiff, Int.reduceAdd, Int.reduceSub, Int.reduceMul, Int.reduceNeg, Int.reduceToNat]
  refine W_loop (α := Nat) (fun k e w => k ≤ l.length ∧ e.size = 26 ∧ h = w ∧ e.get 0 = .slice a l.length c ∧ e.get 1 = .slice a2 l.length c2 ∧ e.get 5 = .int .i64 (k : Int)) (fun k => l.length - k) 0 ?_ ?_
  · exact ⟨Nat.zero_le _, by simp (decide := true) only [go_sem], rfl, by simp (decide := true) only [go_sem], by simp (decide := true) only [go_sem], by simp (decide := true) only [go_sem]; rfl⟩
  rintro k e w ⟨hk, hsz, hw, e0, e1, e5⟩ next
  subst hw
  by_cases hkl : (k : Int) < ((l.length : Nat) : Int)
  · obtain ⟨x, hx⟩ : ∃ x, l[k]? = some x := ⟨_, List.getElem?_eq_getElem (by omega)⟩
    obtain ⟨b, o, cs, hq, q2, q3, q4⟩ := t1.one hx
    cases hq
    obtain ⟨b2, o2, cs2, hq, p2, p3, p4⟩ := t2.one hx
    cases hq
    have c0 : (0 : Int) ≤ (k : Int) := by omega
    have i1 : IntKind.i64.wrap ((k : Int) + 1) = ((k + 1 : Nat) : Int) := by rw [wrap_i64 (by omega) (by omega)]; omega
    simp (decide := true) only [go_sem, W_region, Wx_some, Nat.reduceAdd, Nat.reduceMul, Nat.reduceEqDiff, Int.reduceAdd, Int.reduceSub, Int.reduceMul, Int.reduceNeg, Int.reduceToNat, hsz, e0, e1, e5, hkl, c0, Int.toNat_natCast, q3, q4, p3, p4, i1]
    exact next (k + 1) _ _ ⟨by omega, by simp (decide := true) only [go_sem, hsz], rfl, by simp (decide := true) only [go_sem, hsz, e0], by simp (decide := true) only [go_sem, hsz, e1], by simp (decide := true) only [go_sem, hsz]⟩ (by omega)
  · simp (decide := true) only [go_sem, W_region, Wx_some, Nat.reduceAdd, Nat.reduceMul, Nat.reduceEqDiff, Int.reduceAdd, Int.reduceSub, Int.reduceMul, Int.reduceNeg, Int.reduceToNat, hsz, e0, e1, e5, hkl]
end Go.Proofs.YtachkofbmodnnaaGreat.E2
