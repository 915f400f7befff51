/- Proved here: where numbers begin in a line, and how they are read; of every line of up to 512 signs. -/
import Derived.Test.YtjlaenglmdpboaaGreatQN15
namespace Go.Im
section
variable {K : Cfg} {low : Nat} {f : FuncId} {fs : List Fr}
theorem Wc_cut {b : Bool} {A B : Code} {e : Env} {h : Heap} {Q J : Env → Heap → Prop} (hA : straight K f A = true) (hB : straight K f B = true) (H1 : b = true → W K low f [.code A] e h J) (H2 : b = false → W K low f [.code B] e h J) (H3 : ∀ e h, J e h → W K low f fs e h Q) : Wc K low f (.bool b) A B fs e h Q := by
  cases b with
  | true => exact W_cut hA (H1 rfl) H3
  | false => exact W_cut hB (H2 rfl) H3
end
end Go.Im
namespace Go.Im.Lexing
theorem tw_lt {p : Int → Bool} : ∀ {l : List Int} {k : Nat}, k < (l.takeWhile p).length → ∃ c, l[k]? = some c ∧ p c = true
  | [], k, h => by simp at h
  | x :: l, k, h => by
    rw [List.takeWhile_cons] at h
    split at h
    · rename_i hp
      cases k with
      | zero => exact ⟨x, rfl, hp⟩
      | succ k => simpa using tw_lt (l := l) (k := k) (by simpa using h)
    · simp at h
theorem tw_end {p : Int → Bool} : ∀ {l : List Int} {c : Int}, l[(l.takeWhile p).length]? = some c → p c = false
  | [], c, h => by simp at h
  | x :: l, c, h => by
    rw [List.takeWhile_cons] at h
    split at h
    · rename_i hp
      exact tw_end (l := l) (by simpa using h)
    · rename_i hp
      simp at h
      subst h
      simpa using hp
theorem tw_take {p : Int → Bool} (l : List Int) : l.take (l.takeWhile p).length = l.takeWhile p := by
  have := List.takeWhile_prefix p (l := l)
  exact (List.prefix_iff_eq_take.1 this).symm
theorem tw_le {p : Int → Bool} (l : List Int) : (l.takeWhile p).length ≤ l.length := (List.takeWhile_prefix p).length_le
theorem digs_mem {s : List Int} {c : Int} (h : c ∈ digs s) : 48 ≤ c ∧ c ≤ 57 := by
  unfold digs at h
  have h2 := List.all_eq_true.1 (List.all_takeWhile (p := isD) (l := s)) c h
  simp [isD] at h2
  exact h2
def dbs (l : List Int) : List UInt8 := l.map fun c => UInt8.ofNat c.toNat
theorem dbs_length (l : List Int) : (dbs l).length = l.length := by simp [dbs]
theorem encode_digit {c : Int} (h1 : 48 ≤ c) (h2 : c ≤ 57) : Utf8.encode c = text [UInt8.ofNat c.toNat] := by
  have : c = 48 ∨ c = 49 ∨ c = 50 ∨ c = 51 ∨ c = 52 ∨ c = 53 ∨ c = 54 ∨ c = 55 ∨ c = 56 ∨ c = 57 := by omega
  rcases this with rfl | rfl | rfl | rfl | rfl | rfl | rfl | rfl | rfl | rfl <;> rfl
theorem runes_fold : ∀ (l : List Int) (a : List UInt8), (∀ c ∈ l, 48 ≤ c ∧ c ≤ 57) → l.foldl (fun r n => r ++ Utf8.encode n) (text a) = text (a ++ dbs l)
  | [], a, _ => by simp [dbs]
  | c :: l, a, h => by
    have hc := h c (by simp)
    rw [List.foldl_cons, encode_digit hc.1 hc.2, text_append, runes_fold l _ fun d hd => h d (by simp [hd])]
    simp [dbs]
theorem runes_digits {l : List Int} (h : ∀ c ∈ l, 48 ≤ c ∧ c ≤ 57) : runesBytes l = text (dbs l) := by
  exact (runes_fold l [] h).trans (by simp)
end Go.Im.Lexing
namespace Go.Proofs.YtjlaenglmdpboaaGreat.N16
open Go Go.Im Go.Im.Limbs Go.Im.Lexing Go.Proofs Go.RowKit Go.Proofs.YtjlaenglmdpboaaGreat.Hd Go.Proofs.YtjlaenglmdpboaaGreat.N1 Go.Proofs.YtjlaenglmdpboaaGreat.N11 Go.Proofs.YtjlaenglmdpboaaGreat.N12 Go.Proofs.YtjlaenglmdpboaaGreat.N13 Go.Proofs.YtjlaenglmdpboaaGreat.N14 Go.Proofs.YtjlaenglmdpboaaGreat.N15
set_option maxRecDepth 100000
set_option linter.unusedSimpArgs false
set_option linter.unusedVariables false

theorem digs_Digs (s : List Int) : Digs (dbs (digs s)) := by
  intro b hb
  simp only [dbs, List.mem_map] at hb
  obtain ⟨c, hc, rfl⟩ := hb
  have := digs_mem hc
  have e : c.toNat < 256 := by omega
  rw [UInt8.toNat_ofNat_of_lt' (by simpa using e)]
  omega

theorem digit_run (c : Int) (h : Heap) : Runs K f_deci_digit #[.int .i32 c] h fun r _ => r = .bool (isD c) := by
  refine Runs.of Kok (Does.intro rfl (by decide +kernel) F_deci_digit rfl ?_)
  by_cases a1 : 48 ≤ c
  · simp +decide only [go_sem, W_region, Wx_some, Nat.reduceAdd, Nat.reduceMul, Nat.reduceEqDiff, Int.reduceAdd, Int.reduceSub, Int.reduceMul, Int.reduceNeg, Int.reduceToNat, a1]
    simp [isD, a1]
  · simp +decide only [go_sem, W_region, Wx_some, Nat.reduceAdd, Nat.reduceMul, Nat.reduceEqDiff, Int.reduceAdd, Int.reduceSub, Int.reduceMul, Int.reduceNeg, Int.reduceToNat, a1]
    simp [isD, a1]

theorem begins_run (l : List Int) (i : Nat) {v : Value} (h : Heap) (t : Tx h v l) (hm : l.length ≤ 1099511627776) (hi : i ≤ l.length) : Runs K f_deci_Begins #[v, .int .i64 (i : Int)] h fun r _ => r = .bool (begins (l.drop i)) := by
  obtain ⟨a, c, rfl⟩ := t.open
  refine Runs.of Kok (Does.intro rfl (by decide +kernel) F_deci_Begins rfl ?_)
  have i0 : ¬ (i : Int) < 0 := by omega
  have i0' : (0 : Int) ≤ (i : Int) := by omega
  by_cases hil : ((l.length : Nat) : Int) ≤ (i : Int)
  · have : begins (l.drop i) = false := by
      rw [List.drop_of_length_le (by omega)]
      rfl
    simp +decide only [go_sem, W_region, Wx_some, Nat.reduceAdd, Nat.reduceMul, Nat.reduceEqDiff, Int.reduceAdd, Int.reduceSub, Int.reduceMul, Int.reduceNeg, Int.reduceToNat, i0, hil, this]
  obtain ⟨x, hx⟩ : ∃ x, l[i]? = some x := ⟨_, List.getElem?_eq_getElem (by omega)⟩
  obtain ⟨b, o, cs, q1, q2, q3, q4⟩ := t.one hx
  cases q1
  have hil' : (i : Int) < ((l.length : Nat) : Int) := by omega
  have b0 : (l.drop i)[0]? = some x := by rw [List.getElem?_drop]; exact hx
  have b1 : (l.drop i)[1]? = l[i + 1]? := by rw [List.getElem?_drop]
  simp +decide only [go_sem, W_region, Wx_some, Nat.reduceAdd, Nat.reduceMul, Nat.reduceEqDiff, Int.reduceAdd, Int.reduceSub, Int.reduceMul, Int.reduceNeg, Int.reduceToNat, i0, i0', hil, hil', Int.toNat_natCast, Nat.mul_one, q3, q4]
  refine W_call Kok (Nat.le_refl _) (digit_run x h) fun r w x1 hr => ?_
  subst hr
  obtain ⟨b', o', cs', q1, q2, q3, q4⟩ := (t.ext x1).one hx
  cases q1
  have i2 : IntKind.i64.wrap ((i : Int) + 1) = ((i + 1 : Nat) : Int) := by rw [wrap_i64 (by omega) (by omega)]; omega
  cases hd : isD x with
  | true => 
    have : begins (l.drop i) = true := by simp [begins, b0, hd]
    simp +decide only [go_sem, W_region, Wx_some, Nat.reduceAdd, Nat.reduceMul, Nat.reduceEqDiff, Int.reduceAdd, Int.reduceSub, Int.reduceMul, Int.reduceNeg, Int.reduceToNat, this]
  | false =>
  by_cases h175 : x = 175
  · have : begins (l.drop i) = true := by simp [begins, b0, h175]
    simp +decide only [go_sem, W_region, Wx_some, Nat.reduceAdd, Nat.reduceMul, Nat.reduceEqDiff, Int.reduceAdd, Int.reduceSub, Int.reduceMul, Int.reduceNeg, Int.reduceToNat, i0', hil', Int.toNat_natCast, Nat.mul_one, q3, q4, h175, this]
  by_cases h46 : x = 46
  case neg =>
    have : begins (l.drop i) = false := by simp [begins, b0, hd, h175, h46]
    simp +decide only [go_sem, W_region, Wx_some, Nat.reduceAdd, Nat.reduceMul, Nat.reduceEqDiff, Int.reduceAdd, Int.reduceSub, Int.reduceMul, Int.reduceNeg, Int.reduceToNat, i0', hil', Int.toNat_natCast, Nat.mul_one, q3, q4, h175, h46, this]
  by_cases hl2 : ((i + 1 : Nat) : Int) < ((l.length : Nat) : Int)
  case neg =>
    have hnone : l[i + 1]? = none := List.getElem?_eq_none (by omega)
    have : begins (l.drop i) = false := by simp [begins, b0, b1, hd, h175, h46, hnone, show isD 46 = false from rfl]
    simp +decide only [go_sem, W_region, Wx_some, Nat.reduceAdd, Nat.reduceMul, Nat.reduceEqDiff, Int.reduceAdd, Int.reduceSub, Int.reduceMul, Int.reduceNeg, Int.reduceToNat, i0', hil', Int.toNat_natCast, Nat.mul_one, q3, q4, h175, h46, i2, hl2, this]
  obtain ⟨y, hy⟩ : ∃ y, l[i + 1]? = some y := ⟨_, List.getElem?_eq_getElem (by omega)⟩
  obtain ⟨b2, o2, cs2, p1, p2, p3, p4⟩ := (t.ext x1).one hy
  cases p1
  rw [q3] at p3
  cases p3
  have i3 : (0 : Int) ≤ ((i + 1 : Nat) : Int) := by omega
  simp +decide only [go_sem, W_region, Wx_some, Nat.reduceAdd, Nat.reduceMul, Nat.reduceEqDiff, Int.reduceAdd, Int.reduceSub, Int.reduceMul, Int.reduceNeg, Int.reduceToNat, i0', hil', Int.toNat_natCast, Nat.mul_one, q3, q4, h175, h46, i2, hl2, i3, p4]
  refine W_call Kok x1.1 (digit_run y w) fun r w2 x2 hr => ?_
  subst hr
  simp +decide only [go_sem, W_region, Wx_some, Nat.reduceAdd, Nat.reduceMul, Nat.reduceEqDiff, Int.reduceAdd, Int.reduceSub, Int.reduceMul, Int.reduceNeg, Int.reduceToNat]
  simp [begins, b0, b1, hy, hd, h175, h46, show isD 46 = false from rfl]

theorem digits_run (l : List Int) (i : Nat) {v : Value} (h : Heap) (t : Tx h v l) (hne : l ≠ []) (hm : l.length ≤ 1099511627776) (hi : i ≤ l.length) :
    Runs K f_deci_digits #[v, .int .i64 (i : Int)] h fun r _ => r = .tuple #[.string (text (dbs (digs (l.drop i)))), .int .i64 ((i + (digs (l.drop i)).length : Nat) : Int)] := by
  obtain ⟨a, c, rfl⟩ := t.open
  refine Runs.of Kok (Does.intro rfl (by decide +kernel) F_deci_digits rfl ?_)
  obtain ⟨D, hD⟩ : ∃ D, D = digs (l.drop i) := ⟨_, rfl⟩
  rw [← hD]
  have hDl : i + D.length ≤ l.length := by
    have := tw_le (p := isD) (l.drop i)
    rw [List.length_drop] at this
    rw [hD]
    unfold digs
    omega
  simp +decide only [go_sem, W_region, Wx_some, Nat.reduceAdd, Nat.reduceMul, Nat.reduceEqDiff, Int.reduceAdd, Int.reduceSub, Int.reduceMul, Int.reduceNeg, Int.reduceToNat]
  refine W_loop (α := Nat) (fun k e w => k ≤ D.length ∧ e.size = 27 ∧ Ext h w ∧ e.get 0 = .slice a l.length c ∧ e.get 1 = .int .i64 (i : Int) ∧ e.get 6 = .int .i64 ((i + k : Nat) : Int)) (fun k => D.length - k) 0 ?_ ?_
  · exact ⟨Nat.zero_le _, by simp +decide only [go_sem], Ext.refl h, by simp +decide only [go_sem], by simp +decide only [go_sem], by simp +decide only [go_sem]⟩
  · rintro k e w ⟨hk, hsz, hxw, e0, e1, e6⟩ next
    by_cases hkl : k < D.length
    · obtain ⟨x, hx, hdx⟩ := tw_lt (p := isD) (l := l.drop i) (k := k) (by rw [← digs, ← hD]; exact hkl)
      rw [List.getElem?_drop] at hx
      have hil := (List.getElem?_eq_some_iff.1 hx).1
      have hil' : ((i + k : Nat) : Int) < ((l.length : Nat) : Int) := by omega
      have i0 : (0 : Int) ≤ ((i + k : Nat) : Int) := by omega
      have i1 : IntKind.i64.wrap (((i + k : Nat) : Int) + 1) = ((i + (k + 1) : Nat) : Int) := by rw [wrap_i64 (by omega) (by omega)]; omega
      obtain ⟨b, o, cs, q1, q2, q3, q4⟩ := (t.ext hxw).one hx
      cases q1
      simp +decide only [go_sem, W_region, Wx_some, Nat.reduceAdd, Nat.reduceMul, Nat.reduceEqDiff, Int.reduceAdd, Int.reduceSub, Int.reduceMul, Int.reduceNeg, Int.reduceToNat, hsz, e0, e1, e6, hil', i0, Int.toNat_natCast, Nat.mul_one, q3, q4]
      refine W_call Kok hxw.1 (digit_run x w) fun r w2 x2 hr => ?_
      subst hr
      simp +decide only [go_sem, W_region, Wx_some, Nat.reduceAdd, Nat.reduceMul, Nat.reduceEqDiff, Int.reduceAdd, Int.reduceSub, Int.reduceMul, Int.reduceNeg, Int.reduceToNat, hsz, e0, e1, e6, hdx, i1]
      exact next (k + 1) _ _ ⟨by omega, by simp +decide only [go_sem, hsz], hxw.trans x2, by simp +decide only [go_sem, hsz, e0], by simp +decide only [go_sem, hsz, e1], by simp +decide only [go_sem, hsz]⟩ (by omega)
    · have hkD : k = D.length := by omega
      subst hkD
      obtain ⟨a', c1, c2, c3⟩ := (t.ext hxw).cut hne (lo := i) (hi := i + D.length) (by omega) hDl
      have hcut : (l.drop i).take (i + D.length - i) = D := by
        rw [Nat.add_sub_cancel_left, hD]
        exact tw_take _
      have hrb : runesBytes D = text (dbs D) := runes_digits fun c hc => digs_mem (by rw [← hD]; exact hc)
      rw [hcut] at c3
      by_cases hil : ((i + D.length : Nat) : Int) < ((l.length : Nat) : Int)
      case neg =>
        simp +decide only [go_sem, W_region, Wx_some, Nat.reduceAdd, Nat.reduceMul, Nat.reduceEqDiff, Int.reduceAdd, Int.reduceSub, Int.reduceMul, Int.reduceNeg, Int.reduceToNat, hsz, e0, e1, e6, hil, c1, c3, icvs_rv, hrb]
      obtain ⟨x, hx⟩ : ∃ x, l[i + D.length]? = some x := ⟨_, List.getElem?_eq_getElem (by omega)⟩
      have hdx : isD x = false := by
        refine tw_end (l := l.drop i) ?_
        rw [List.getElem?_drop, ← digs, ← hD]
        exact hx
      have i0 : (0 : Int) ≤ ((i + D.length : Nat) : Int) := by omega
      obtain ⟨b, o, cs, q1, q2, q3, q4⟩ := (t.ext hxw).one hx
      cases q1
      simp +decide only [go_sem, W_region, Wx_some, Nat.reduceAdd, Nat.reduceMul, Nat.reduceEqDiff, Int.reduceAdd, Int.reduceSub, Int.reduceMul, Int.reduceNeg, Int.reduceToNat, hsz, e0, e1, e6, hil, i0, Int.toNat_natCast, Nat.mul_one, q3, q4]
      refine W_call Kok hxw.1 (digit_run x w) fun r w2 x2 hr => ?_
      subst hr
      obtain ⟨a2, c1, c2, c3⟩ := (t.ext (hxw.trans x2)).cut hne (lo := i) (hi := i + D.length) (by omega) hDl
      rw [hcut] at c3
      simp +decide only [go_sem, W_region, Wx_some, Nat.reduceAdd, Nat.reduceMul, Nat.reduceEqDiff, Int.reduceAdd, Int.reduceSub, Int.reduceMul, Int.reduceNeg, Int.reduceToNat, hsz, e0, e1, e6, hdx, c1, c3, icvs_rv, hrb]

theorem hi_le (s : List Int) : hi s ≤ 1 := by unfold hi; split <;> omega
theorem hi_drop (l : List Int) (i : Nat) : hi (l.drop i) = if l[i]? = some 175 then 1 else 0 := by
  unfold hi
  rw [List.getElem?_drop, Nat.add_zero]
theorem hi_len {l : List Int} {i : Nat} (h : i ≤ l.length) : i + hi (l.drop i) ≤ l.length := by
  rw [hi_drop]
  split
  · rename_i hh
    have := (List.getElem?_eq_some_iff.1 hh).1
    omega
  · omega
theorem digs_len {l : List Int} {i : Nat} (h : i ≤ l.length) : i + (digs (l.drop i)).length ≤ l.length := by
  have := tw_le (p := isD) (l.drop i)
  rw [List.length_drop] at this
  unfold digs
  omega

theorem expo_run (l : List Int) (i : Nat) {v : Value} (h : Heap) (t : Tx h v l) (hne : l ≠ []) (hm : l.length ≤ 1099511627776) (hi' : i ≤ l.length) :
    Runs K f_deci_exponent #[v, .int .i64 (i : Int)] h fun r _ => (expoS (l.drop i) = none ∧ ∃ x y, r = .tuple #[.int .i64 x, .int .i64 y, .bool false]) ∨
      ∃ k n, expoS (l.drop i) = some k ∧ i + k ≤ l.length ∧ -999 ≤ n ∧ n ≤ 999 ∧ r = .tuple #[.int .i64 n, .int .i64 ((i + k : Nat) : Int), .bool true] := by
  obtain ⟨a, c, rfl⟩ := t.open
  refine Runs.of Kok (Does.intro rfl (by decide +kernel) F_deci_exponent rfl ?_)
  have i0 : (0 : Int) ≤ (i : Int) := by omega
  by_cases hil : ((l.length : Nat) : Int) ≤ (i : Int)
  · have : expoS (l.drop i) = some 0 := by
      rw [List.drop_of_length_le (by omega)]
      rfl
    simp +decide only [go_sem, W_region, Wx_some, Nat.reduceAdd, Nat.reduceMul, Nat.reduceEqDiff, Int.reduceAdd, Int.reduceSub, Int.reduceMul, Int.reduceNeg, Int.reduceToNat, hil]
    exact .inr ⟨0, 0, this, by omega, by omega, by omega, rfl⟩
  have hil' : (i : Int) < ((l.length : Nat) : Int) := by omega
  obtain ⟨x, hx⟩ : ∃ x, l[i]? = some x := ⟨_, List.getElem?_eq_getElem (by omega)⟩
  obtain ⟨b, o, cs, q1, q2, q3, q4⟩ := t.one hx
  cases q1
  have b0 : (l.drop i)[0]? = some x := by rw [List.getElem?_drop]; exact hx
  by_cases h69 : x = 69
  case neg =>
    have : expoS (l.drop i) = some 0 := by
      unfold expoS
      rw [b0, if_neg (by simpa using h69)]
    simp +decide only [go_sem, W_region, Wx_some, Nat.reduceAdd, Nat.reduceMul, Nat.reduceEqDiff, Int.reduceAdd, Int.reduceSub, Int.reduceMul, Int.reduceNeg, Int.reduceToNat, hil, hil', i0, Int.toNat_natCast, Nat.mul_one, q3, q4, h69]
    exact .inr ⟨0, 0, this, by omega, by omega, by omega, rfl⟩
  subst h69
  have i1 : IntKind.i64.wrap ((i : Int) + 1) = ((i + 1 : Nat) : Int) := by rw [wrap_i64 (by omega) (by omega)]; omega
  obtain ⟨neg, hneg⟩ : ∃ neg, neg = decide (l[i + 1]? = some 175) := ⟨_, rfl⟩
  obtain ⟨A, hA⟩ : ∃ A, A = i + 1 + (if neg then 1 else 0) := ⟨_, rfl⟩
  have hiA : hi (l.drop (i + 1)) = (if neg then 1 else 0) := by
    rw [hi_drop, hneg]
    simp
  have hAl : A ≤ l.length := by
    have := hi_len (l := l) (i := i + 1) (by omega)
    rw [hiA] at this
    omega
  obtain ⟨D, hD⟩ : ∃ D, D = digs (l.drop A) := ⟨_, rfl⟩
  have hAD : A + D.length ≤ l.length := by rw [hD]; exact digs_len hAl
  have hexp : expoS (l.drop i) = if D.length = 0 ∨ 3 < D.length then none else some (A - i + D.length) := by
    have e1 : 1 + hi ((l.drop i).drop 1) = A - i := by rw [List.drop_drop, hiA]; omega
    unfold expoS
    rw [b0, if_pos rfl, e1, List.drop_drop, show i + (A - i) = A by omega, ← hD]
  rw [hexp]
  simp +decide only [go_sem, Wx_some, Nat.reduceAdd, Nat.reduceMul, Nat.reduceEqDiff, Int.reduceAdd, Int.reduceSub, Int.reduceMul, Int.reduceNeg, Int.reduceToNat]
  (rw [W_region]; simp +decide only [go_sem, Wx_some, Nat.reduceAdd, Nat.reduceMul, Nat.reduceEqDiff, Int.reduceAdd, Int.reduceSub, Int.reduceMul, Int.reduceNeg, Int.reduceToNat])
  (rw [W_region]; simp +decide only [go_sem, Wx_some, Nat.reduceAdd, Nat.reduceMul, Nat.reduceEqDiff, Int.reduceAdd, Int.reduceSub, Int.reduceMul, Int.reduceNeg, Int.reduceToNat, hil, hil', i0, Int.toNat_natCast, Nat.mul_one, q3, q4])
  (rw [W_region]; simp +decide only [go_sem, Wx_some, Nat.reduceAdd, Nat.reduceMul, Nat.reduceEqDiff, Int.reduceAdd, Int.reduceSub, Int.reduceMul, Int.reduceNeg, Int.reduceToNat, i1])
  refine W_cut (J := fun e w => e.size = 73 ∧ e.get 0 = .slice (some ⟨b, o, none⟩) l.length big ∧ e.get 1 = .int .i64 ((i + 1 : Nat) : Int) ∧ e.get 7 = .bool neg ∧ w = h) (by simp only [straight, KD]; rfl) ?_ ?_
  · by_cases hl1 : ((i + 1 : Nat) : Int) < ((l.length : Nat) : Int)
    case neg =>
      have : neg = false := by
        rw [hneg, List.getElem?_eq_none (by omega)]
        rfl
      simp +decide only [go_sem, W_region, Wx_some, Nat.reduceAdd, Nat.reduceMul, Nat.reduceEqDiff, Int.reduceAdd, Int.reduceSub, Int.reduceMul, Int.reduceNeg, Int.reduceToNat, hl1, this]
    obtain ⟨y, hy⟩ : ∃ y, l[i + 1]? = some y := ⟨_, List.getElem?_eq_getElem (by omega)⟩
    obtain ⟨b', o', cs', p1, p2, p3, p4⟩ := t.one hy
    cases p1
    rw [q3] at p3
    cases p3
    have i2 : (0 : Int) ≤ ((i + 1 : Nat) : Int) := by omega
    have : neg = decide (y = 175) := by rw [hneg, hy]; simp
    simp +decide only [go_sem, W_region, Wx_some, Nat.reduceAdd, Nat.reduceMul, Nat.reduceEqDiff, Int.reduceAdd, Int.reduceSub, Int.reduceMul, Int.reduceNeg, Int.reduceToNat, hl1, i2, Int.toNat_natCast, Nat.mul_one, q3, p4, this]
  rintro e w ⟨hsz, e0, e1, e7, rfl⟩
  simp +decide only [go_sem, Wx_some, Nat.reduceAdd, Nat.reduceMul, Nat.reduceEqDiff, Int.reduceAdd, Int.reduceSub, Int.reduceMul, Int.reduceNeg, Int.reduceToNat]
  (rw [W_region]; simp +decide only [go_sem, Wx_some, Nat.reduceAdd, Nat.reduceMul, Nat.reduceEqDiff, Int.reduceAdd, Int.reduceSub, Int.reduceMul, Int.reduceNeg, Int.reduceToNat, hsz, e0, e1, e7])
  refine Wc_cut (J := fun e w' => e.size = 73 ∧ e.get 0 = .slice (some ⟨b, o, none⟩) l.length big ∧ e.get 1 = .int .i64 (A : Int) ∧ e.get 7 = .bool neg ∧ w' = w) (by simp only [straight, KD]; rfl) rfl ?_ ?_ ?_
  · intro hn
    have i2 : IntKind.i64.wrap (((i + 1 : Nat) : Int) + 1) = (A : Int) := by rw [wrap_i64 (by omega) (by omega), hA, hn]; simp
    simp +decide only [go_sem, W_region, Wx_some, Nat.reduceAdd, Nat.reduceMul, Nat.reduceEqDiff, Int.reduceAdd, Int.reduceSub, Int.reduceMul, Int.reduceNeg, Int.reduceToNat, hsz, e0, e1, e7, i2]
  · intro hn
    have i2 : ((i + 1 : Nat) : Int) = (A : Int) := by rw [hA, hn]; simp
    simp +decide only [go_sem, W_region, Wx_some, Nat.reduceAdd, Nat.reduceMul, Nat.reduceEqDiff, Int.reduceAdd, Int.reduceSub, Int.reduceMul, Int.reduceNeg, Int.reduceToNat, hsz, e0, e1, e7, i2]
  rintro e w' ⟨hsz, e0, e1, e7, rfl⟩
  simp +decide only [go_sem, W_region, Wx_some, Nat.reduceAdd, Nat.reduceMul, Nat.reduceEqDiff, Int.reduceAdd, Int.reduceSub, Int.reduceMul, Int.reduceNeg, Int.reduceToNat, hsz, e0, e1]
  refine W_call Kok (Nat.le_refl _) (digits_run l A _ t hne hm hAl) fun r w x1 hr => ?_
  subst hr
  rw [← hD]
  by_cases hD0 : D.length = 0
  · have hDn : D = [] := List.eq_nil_of_length_eq_zero hD0
    subst hDn
    have c0 : text (dbs []) = ⟨#[]⟩ := rfl
    simp +decide only [go_sem, W_region, Wx_some, Nat.reduceAdd, Nat.reduceMul, Nat.reduceEqDiff, Int.reduceAdd, Int.reduceSub, Int.reduceMul, Int.reduceNeg, Int.reduceToNat, hsz, e0, e1, e7, c0]
    simp
  have c0 : ¬ text (dbs D) = ⟨#[]⟩ := by
    intro hh
    have := congrArg ByteArray.size hh
    rw [text_size, dbs_length] at this
    exact hD0 this
  by_cases hD3 : (3 : Int) < ((D.length : Nat) : Int)
  · simp +decide only [go_sem, W_region, Wx_some, Nat.reduceAdd, Nat.reduceMul, Nat.reduceEqDiff, Int.reduceAdd, Int.reduceSub, Int.reduceMul, Int.reduceNeg, Int.reduceToNat, hsz, e0, e1, e7, c0, dbs_length, hD3]
    exact .inl ⟨by rw [if_pos (.inr (by omega))], _, _, rfl⟩
  rw [if_neg (by omega)]
  obtain ⟨w2, e2', x2, hs2, z2⟩ := lay1 w (.cells (byteCells (dbs D)) 1)
  simp +decide only [go_sem, W_region, Wx_some, Nat.reduceAdd, Nat.reduceMul, Nat.reduceEqDiff, Int.reduceAdd, Int.reduceSub, Int.reduceMul, Int.reduceNeg, Int.reduceToNat, hsz, e0, e1, e7, c0, dbs_length, hD3, e2']
  refine W_loop (α := Nat × Nat) (fun k e w' => k.1 ≤ D.length ∧ e.size = 73 ∧ w' = w2 ∧ e.get 7 = .bool neg ∧ e.get 9 = .int .i64 ((A + D.length : Nat) : Int) ∧ e.get 10 = .int .i64 (k.2 : Int) ∧ k.2 < 10 ^ k.1 ∧ e.get 55 = .slice (some ⟨w.size, 0, none⟩) D.length big ∧ e.get 56 = .int .i64 ((D.length : Nat) : Int) ∧ e.get 57 = .int .i64 (k.1 : Int)) (fun k => D.length - k.1) (0, 0) ?_ ?_
  · exact ⟨Nat.zero_le _, by simp +decide only [go_sem, hsz], rfl, by simp +decide only [go_sem, hsz, e7], by simp +decide only [go_sem, hsz], by simp +decide only [go_sem, hsz]; rfl, by simp, by simp +decide only [go_sem, hsz], by simp +decide only [go_sem, hsz], by simp +decide only [go_sem, hsz]; rfl⟩
  · rintro ⟨k, n⟩ e w' ⟨hk, hsz, rfl, e7, e9, e10, hn, e55, e56, e57⟩ next
    simp only at hk e10 hn e57
    have hpk : 10 ^ k ≤ 10 ^ 3 := Nat.pow_le_pow_right (by omega) (by omega)
    by_cases hkn : (k : Int) < ((D.length : Nat) : Int)
    · obtain ⟨u, hu⟩ : ∃ u, (dbs D)[k]? = some u := ⟨_, List.getElem?_eq_getElem (by rw [dbs_length]; omega)⟩
      have hud : 48 ≤ u.toNat ∧ u.toNat ≤ 57 := by
        have := digs_Digs (l.drop A)
        rw [← hD] at this
        exact this u (List.mem_of_getElem? hu)
      have hbc : (byteCells (dbs D))[k]? = some (.int .u8 u.toNat) := by simp [byteCells, hu]
      have l3 : (0 : Int) ≤ (k : Int) := by omega
      have m1 : IntKind.i64.wrap (10 * (n : Int)) = ((10 * n : Nat) : Int) := by rw [wrap_i64 (by omega) (by omega)]; omega
      have m3 : IntKind.u8.wrap (((u.toNat : Nat) : Int) - 48) = ((u.toNat - 48 : Nat) : Int) := by rw [wrap_u8 (by omega) (by omega)]; omega
      have m5 : IntKind.i64.wrap (((u.toNat - 48 : Nat) : Int)) = ((u.toNat - 48 : Nat) : Int) := by rw [wrap_i64 (by omega) (by omega)]
      have m4 : IntKind.i64.wrap (((10 * n : Nat) : Int) + ((u.toNat - 48 : Nat) : Int)) = ((10 * n + (u.toNat - 48) : Nat) : Int) := by rw [wrap_i64 (by omega) (by omega)]; omega
      have i5 : IntKind.i64.wrap ((k : Int) + 1) = ((k + 1 : Nat) : Int) := by rw [wrap_i64 (by omega) (by omega)]; omega
      simp +decide only [go_sem, W_region, Wx_some, Nat.reduceAdd, Nat.reduceMul, Nat.reduceEqDiff, Int.reduceAdd, Int.reduceSub, Int.reduceMul, Int.reduceNeg, Int.reduceToNat, hsz, e7, e9, e10, e55, e56, e57, hkn, l3, Int.toNat_natCast, z2, hbc, m1, m3, m5, m4, i5]
      refine next (k + 1, 10 * n + (u.toNat - 48)) _ _ ⟨by simp only; omega, by simp +decide only [go_sem, hsz], rfl, by simp +decide only [go_sem, hsz, e7], by simp +decide only [go_sem, hsz, e9], by simp +decide only [go_sem, hsz], ?_, by simp +decide only [go_sem, hsz, e55], by simp +decide only [go_sem, hsz, e56], by simp +decide only [go_sem, hsz]⟩ (by simp only; omega)
      simp only
      rw [Nat.pow_succ]
      omega
    · have hn3 : n < 1000 := by omega
      simp +decide only [go_sem, W_region, Wx_some, Nat.reduceAdd, Nat.reduceMul, Nat.reduceEqDiff, Int.reduceAdd, Int.reduceSub, Int.reduceMul, Int.reduceNeg, Int.reduceToNat, hsz, e7, e9, e10, e55, e56, e57, hkn]
      refine Wc_cut (J := fun e w' => ∃ z : Int, -999 ≤ z ∧ z ≤ 999 ∧ e.size = 73 ∧ e.get 9 = .int .i64 ((A + D.length : Nat) : Int) ∧ e.get 10 = .int .i64 z) (by simp only [straight, KD]; rfl) rfl ?_ ?_ ?_
      · intro _
        have m6 : IntKind.i64.wrap (- (n : Int)) = - (n : Int) := wrap_i64 (by omega) (by omega)
        have m7 : IntKind.i64.wrap (0 - (n : Int)) = - (n : Int) := by rw [wrap_i64 (by omega) (by omega)]; omega
        simp +decide only [go_sem, W_region, Wx_some, Nat.reduceAdd, Nat.reduceMul, Nat.reduceEqDiff, Int.reduceAdd, Int.reduceSub, Int.reduceMul, Int.reduceNeg, Int.reduceToNat, hsz, e7, e9, e10, m6, m7]
        exact ⟨_, by omega, by omega, rfl⟩
      · intro _
        simp +decide only [go_sem, W_region, Wx_some, Nat.reduceAdd, Nat.reduceMul, Nat.reduceEqDiff, Int.reduceAdd, Int.reduceSub, Int.reduceMul, Int.reduceNeg, Int.reduceToNat, hsz, e7, e9, e10]
        exact ⟨_, by omega, by omega, rfl⟩
      rintro e w ⟨z, z1, z2, hsz, e9, e10⟩
      simp +decide only [go_sem, W_region, Wx_some, Nat.reduceAdd, Nat.reduceMul, Nat.reduceEqDiff, Int.reduceAdd, Int.reduceSub, Int.reduceMul, Int.reduceNeg, Int.reduceToNat, hsz, e9, e10]
      exact .inr ⟨_, z, rfl, by omega, z1, z2, by rw [show i + (A - i + D.length) = A + D.length by omega]⟩
end Go.Proofs.YtjlaenglmdpboaaGreat.N16
