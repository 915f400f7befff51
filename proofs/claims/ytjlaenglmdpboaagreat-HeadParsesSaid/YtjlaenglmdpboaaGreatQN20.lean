/- Proved here: the lexer takes names and texts; of every line of up to 512 signs. -/
import Derived.Test.YtjlaenglmdpboaaGreatQN19
namespace Go.Proofs.YtjlaenglmdpboaaGreat.N20
open Go Go.Im Go.Im.Limbs Go.Im.Lexing Go.Proofs Go.RowKit Go.Proofs.YtjlaenglmdpboaaGreat.Hd Go.Proofs.YtjlaenglmdpboaaGreat.N1 Go.Proofs.YtjlaenglmdpboaaGreat.N10 Go.Proofs.YtjlaenglmdpboaaGreat.N13 Go.Proofs.YtjlaenglmdpboaaGreat.N15 Go.Proofs.YtjlaenglmdpboaaGreat.N16 Go.Proofs.YtjlaenglmdpboaaGreat.N17 Go.Proofs.YtjlaenglmdpboaaGreat.N18 Go.Proofs.YtjlaenglmdpboaaGreat.N19
set_option maxRecDepth 100000
set_option linter.unusedSimpArgs false
set_option linter.unusedVariables false

theorem nameOK_len {w : List Int} (h : nameOK w = true) : 1 ≤ w.length := by
  simp only [nameOK, Bool.and_eq_true, decide_eq_true_eq] at h
  exact h.1.1.1

theorem word_does {h0 h : Heap} (x : Ext h0 h) {l : List Int} {tv : Value} (t : Tx h0 tv l) (hne : l ≠ []) (hm : l.length ≤ 512) {xb at' i k : Nat} {xs : List XT} (L : LX h0.size h xb tv at' xs) (hi' : i ≤ l.length) (hat : at' ≤ i) :
    Does K h0.size f_token_lexer_word #[.pointer (some ⟨xb, 0, none⟩), .int .i64 (i : Int), .int .i64 (k : Int)] h fun v h' => (wordS k (l.drop i) = none ∧ v = .bool false) ∨
      ∃ tk m rest, wordS k (l.drop i) = some (tk, m) ∧ v = .bool true ∧ Arr5 rest ∧ at' < i + m ∧ i + m ≤ l.length ∧ LX h0.size h' xb tv (i + m) (xs ++ [((at', tk), rest)]) := by
  have t' := t
  rcases t with ⟨hh, _⟩ | ⟨b, o, cs, rfl, hb, hgb, hol, hcs⟩
  · exact absurd hh hne
  have L' := L
  obtain ⟨hl, hxb, hbd, hall, ov, hg, own, hv⟩ := L
  obtain ⟨w, hw⟩ : ∃ w, w = (l.drop i).takeWhile isW := ⟨_, rfl⟩
  have hwl : i + w.length ≤ l.length := by
    have := tw_le (p := isW) (l.drop i)
    rw [List.length_drop] at this
    rw [hw]
    omega
  have hcut : (l.drop i).take (i + w.length - i) = w := by
    rw [Nat.add_sub_cancel_left, hw]
    exact tw_take _
  refine Does.intro rfl (by decide +kernel) F_token_lexer_word rfl ?_
  have k1 := x.1
  simp +decide only [go_sem, W_region, Wx_some, Nat.reduceAdd, Nat.reduceMul, Nat.reduceEqDiff, Int.reduceAdd, Int.reduceSub, Int.reduceMul, Int.reduceNeg, Int.reduceToNat]
  refine W_loop (α := Nat) (fun j e w' => j ≤ w.length ∧ e.size = 50 ∧ Ext h w' ∧ e.get 0 = .pointer (some ⟨xb, 0, none⟩) ∧ e.get 1 = .int .i64 (i : Int) ∧ e.get 2 = .int .i64 (k : Int) ∧ e.get 7 = .int .i64 ((i + j : Nat) : Int)) (fun j => w.length - j) 0 ?_ ?_
  · exact ⟨Nat.zero_le _, by simp +decide only [go_sem], Ext.refl h, by simp +decide only [go_sem], by simp +decide only [go_sem], by simp +decide only [go_sem], by simp +decide only [go_sem]⟩
  · rintro j e w' ⟨hj, hsz, hxw, e0, e1, e2, e7⟩ next
    have x0w := x.trans hxw
    have hgw : w'.get xb = _ := (hxw.2 _ hxb).trans hg
    by_cases hjl : j < w.length
    · obtain ⟨y, hy, hwy⟩ := tw_lt (p := isW) (l := l.drop i) (k := j) (by rw [← hw]; exact hjl)
      rw [List.getElem?_drop] at hy
      have hil := (List.getElem?_eq_some_iff.1 hy).1
      have hil' : ((i + j : Nat) : Int) < ((l.length : Nat) : Int) := by omega
      have i0 : (0 : Int) ≤ ((i + j : Nat) : Int) := by omega
      have i1 : IntKind.i64.wrap (((i + j : Nat) : Int) + 1) = ((i + (j + 1) : Nat) : Int) := by rw [wrap_i64 (by omega) (by omega)]; omega
      obtain ⟨b', o', cs', q1, q2, q3, q4⟩ := (t'.ext x0w).one hy
      cases q1
      simp +decide only [go_sem, W_region, Wx_some, Nat.reduceAdd, Nat.reduceMul, Nat.reduceEqDiff, Int.reduceAdd, Int.reduceSub, Int.reduceMul, Int.reduceNeg, Int.reduceToNat, hsz, e0, e1, e2, e7, hgw, hil', i0, Int.toNat_natCast, Nat.mul_one, q3, q4]
      refine W_call Kok x0w.1 (word_run y w') fun r w2 x2 hr => ?_
      subst hr
      simp +decide only [go_sem, W_region, Wx_some, Nat.reduceAdd, Nat.reduceMul, Nat.reduceEqDiff, Int.reduceAdd, Int.reduceSub, Int.reduceMul, Int.reduceNeg, Int.reduceToNat, hsz, e0, e1, e2, e7, hwy, i1]
      exact next (j + 1) _ _ ⟨by omega, by simp +decide only [go_sem, hsz], hxw.trans x2, by simp +decide only [go_sem, hsz, e0], by simp +decide only [go_sem, hsz, e1], by simp +decide only [go_sem, hsz, e2], by simp +decide only [go_sem, hsz]⟩ (by omega)
    · have hjw : j = w.length := by omega
      subst hjw
      apply W_join (α := Unit) (fun _ e w' => e.size = 50 ∧ Ext h w' ∧ e.get 0 = .pointer (some ⟨xb, 0, none⟩) ∧ e.get 1 = .int .i64 (i : Int) ∧ e.get 2 = .int .i64 (k : Int) ∧ e.get 7 = .int .i64 ((i + w.length : Nat) : Int))
      · intro cont
        by_cases hil : ((i + w.length : Nat) : Int) < ((l.length : Nat) : Int)
        case neg =>
          simp +decide only [go_sem, W_region, Nat.reduceAdd, Nat.reduceMul, Nat.reduceEqDiff, Int.reduceAdd, Int.reduceSub, Int.reduceMul, Int.reduceNeg, Int.reduceToNat, hsz, e0, e1, e2, e7, hgw, hil]
          exact Wx_some.2 (cont () _ _ ⟨by simp +decide only [go_sem, hsz], hxw, by simp +decide only [go_sem, hsz, e0], by simp +decide only [go_sem, hsz, e1], by simp +decide only [go_sem, hsz, e2], by simp +decide only [go_sem, hsz, e7]⟩)
        obtain ⟨y, hy⟩ : ∃ y, l[i + w.length]? = some y := ⟨_, List.getElem?_eq_getElem (by omega)⟩
        have hwy : isW y = false := by
          refine tw_end (l := l.drop i) ?_
          rw [List.getElem?_drop, ← hw]
          exact hy
        have i0 : (0 : Int) ≤ ((i + w.length : Nat) : Int) := by omega
        obtain ⟨b', o', cs', q1, q2, q3, q4⟩ := (t'.ext x0w).one hy
        cases q1
        simp +decide only [go_sem, W_region, Nat.reduceAdd, Nat.reduceMul, Nat.reduceEqDiff, Int.reduceAdd, Int.reduceSub, Int.reduceMul, Int.reduceNeg, Int.reduceToNat, hsz, e0, e1, e2, e7, hgw, hil, i0, Int.toNat_natCast, Nat.mul_one, q3, q4]
        refine W_call Kok x0w.1 (word_run y w') fun r w2 x2 hr => ?_
        subst hr
        simp +decide only [go_sem, W_region, Nat.reduceAdd, Nat.reduceMul, Nat.reduceEqDiff, Int.reduceAdd, Int.reduceSub, Int.reduceMul, Int.reduceNeg, Int.reduceToNat, hsz, e0, e1, e2, e7, hwy]
        exact Wx_some.2 (cont () _ _ ⟨by simp +decide only [go_sem, hsz], hxw.trans x2, by simp +decide only [go_sem, hsz, e0], by simp +decide only [go_sem, hsz, e1], by simp +decide only [go_sem, hsz, e2], by simp +decide only [go_sem, hsz, e7]⟩)
      rintro _ e w' ⟨hsz, hxw, e0, e1, e2, e7⟩
      have x0w := x.trans hxw
      have hgw : w'.get xb = _ := (hxw.2 _ hxb).trans hg
      obtain ⟨a', c1, c2, c3⟩ := (t'.ext x0w).cut hne (lo := i) (hi := i + w.length) (by omega) hwl
      rw [hcut] at c2 c3
      simp +decide only [go_sem, W_region, Wx_some, Nat.reduceAdd, Nat.reduceMul, Nat.reduceEqDiff, Int.reduceAdd, Int.reduceSub, Int.reduceMul, Int.reduceNeg, Int.reduceToNat, hsz, e0, e1, e2, e7, hgw, c1]
      refine W_call Kok x0w.1 (name_run w w' c2 (by omega)) fun r w2 x2 hr => ?_
      subst hr
      have x02 := x0w.trans x2
      have hgw2 : w2.get xb = _ := ((hxw.trans x2).2 _ hxb).trans hg
      cases hn : nameOK w with
      | false =>
        simp +decide only [go_sem, W_region, Wx_some, Nat.reduceAdd, Nat.reduceMul, Nat.reduceEqDiff, Int.reduceAdd, Int.reduceSub, Int.reduceMul, Int.reduceNeg, Int.reduceToNat, hsz, e0, e1, e2, e7]
        simp only [wordS, ← hw, hn]
        simp
      | true =>
        have hw1 := nameOK_len hn
        obtain ⟨a2, d1, d2, d3⟩ := (t'.ext x02).cut hne (lo := i) (hi := i + w.length) (by omega) hwl
        rw [hcut] at d2 d3
        simp +decide only [go_sem, W_region, Wx_some, Nat.reduceAdd, Nat.reduceMul, Nat.reduceEqDiff, Int.reduceAdd, Int.reduceSub, Int.reduceMul, Int.reduceNeg, Int.reduceToNat, hsz, e0, e1, e2, e7, hgw2, d1, d3, icvs_rv]
        refine W_does rfl (add_does x02 (L'.ext (hxw.trans x2)) ⟨k, w, 0⟩ (to := i + w.length) (by omega) (by omega)) fun r w3 hr => ?_
        obtain ⟨rfl, hL⟩ := hr
        simp +decide only [go_sem, W_region, Wx_some, Nat.reduceAdd, Nat.reduceMul, Nat.reduceEqDiff, Int.reduceAdd, Int.reduceSub, Int.reduceMul, Int.reduceNeg, Int.reduceToNat, hsz]
        exact .inr ⟨_, _, _, by simp only [wordS, ← hw, hn, if_true], ⟨_, _, _, _, _, _, _, _, _, _, _, rfl⟩, by omega, hwl, hL⟩

theorem textF_len : ∀ {s : List Int} {k : Nat}, textF s = some k → 1 ≤ k ∧ k ≤ s.length := by
  intro s
  induction s using textF.induct with
  | case1 => intro k h; simp [textF] at h
  | case2 s ih =>
    intro k h
    simp only [textF, Option.map_eq_some_iff] at h
    obtain ⟨m, h1, rfl⟩ := h
    have := ih h1
    simp only [List.length_cons]
    omega
  | case3 s h' =>
    intro k h
    rw [textF] at h
    · cases h
      simp
    · exact h'
  | case4 c s h1 h2 ih =>
    intro k h
    rw [textF] at h
    · simp only [Option.map_eq_some_iff] at h
      obtain ⟨m, h3, rfl⟩ := h
      have := ih h3
      simp only [List.length_cons]
      omega
    · exact h1
    · exact h2
/-- A text, sign by sign. -/
theorem textF_at (l : List Int) (j : Nat) : textF (l.drop j) = match l[j]? with
    | none => none
    | some c => if c = 39 then (if l[j + 1]? = some 39 then (textF (l.drop (j + 2))).map (· + 2) else some 1) else (textF (l.drop (j + 1))).map (· + 1) := by
  cases hc : l[j]? with
  | none =>
    rw [List.drop_of_length_le (by simpa using hc)]
    rfl
  | some c =>
    have hj := (List.getElem?_eq_some_iff.1 hc).1
    have e1 : l.drop j = c :: l.drop (j + 1) := by
      rw [List.drop_eq_getElem_cons hj, (List.getElem?_eq_some_iff.1 hc).2]
    rw [e1]
    simp only
    by_cases h39 : c = 39
    · subst h39
      rw [if_pos rfl]
      cases hd : l[j + 1]? with
      | none =>
        rw [List.drop_of_length_le (by simpa using hd)]
        rfl
      | some d =>
        have hj2 := (List.getElem?_eq_some_iff.1 hd).1
        have e2 : l.drop (j + 1) = d :: l.drop (j + 2) := by
          rw [List.drop_eq_getElem_cons hj2, (List.getElem?_eq_some_iff.1 hd).2]
        rw [e2]
        by_cases h39' : d = 39
        · subst h39'
          rw [if_pos rfl]
          rfl
        · rw [if_neg (by simpa using h39'), textF]
          intro s hs
          simp only [List.cons.injEq] at hs
          exact h39' hs.1
    · rw [if_neg h39, textF]
      · intro s hs _
        exact h39 hs
      · exact h39
end Go.Proofs.YtjlaenglmdpboaaGreat.N20
