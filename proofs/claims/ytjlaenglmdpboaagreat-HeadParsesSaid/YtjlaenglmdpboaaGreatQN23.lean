/- Proved here: the lexer takes a token, and all tokens of a line; of every line. -/
import Derived.Test.YtjlaenglmdpboaaGreatQN22
namespace Go.Proofs.YtjlaenglmdpboaaGreat.N23
open Go Go.Im Go.Im.Limbs Go.Im.Lexing Go.Proofs Go.RowKit Go.Proofs.YtjlaenglmdpboaaGreat.Hd Go.Proofs.YtjlaenglmdpboaaGreat.N1 Go.Proofs.YtjlaenglmdpboaaGreat.N15 Go.Proofs.YtjlaenglmdpboaaGreat.N16 Go.Proofs.YtjlaenglmdpboaaGreat.N17 Go.Proofs.YtjlaenglmdpboaaGreat.N18 Go.Proofs.YtjlaenglmdpboaaGreat.N19 Go.Proofs.YtjlaenglmdpboaaGreat.N20 Go.Proofs.YtjlaenglmdpboaaGreat.N21 Go.Proofs.YtjlaenglmdpboaaGreat.N22
set_option maxRecDepth 100000
set_option linter.unusedSimpArgs false
set_option linter.unusedVariables false

/-- What a step of the lexer comes to. -/
def Step (low : Nat) (xb : Nat) (tv : Value) (l : List Int) (at' : Nat) (xs : List XT) (v : Value) (h' : Heap) : Prop := (tokS (l.drop at') = none ∧ v = .bool false) ∨ (∃ k, tokS (l.drop at') = some (none, k) ∧ v = .bool true ∧ at' < at' + k ∧ at' + k ≤ l.length ∧ LX low h' xb tv (at' + k) xs) ∨
  ∃ tk k rest, tokS (l.drop at') = some (some tk, k) ∧ v = .bool true ∧ Arr5 rest ∧ at' < at' + k ∧ at' + k ≤ l.length ∧ LX low h' xb tv (at' + k) (xs ++ [((at', tk), rest)])

/-- A mark, or a name of the system's? -/
def quadS (l : List Int) (i : Nat) (c : Int) : Bool := decide (c = 9109) && (match l[i + 1]? with
  | some d => decide (kindOf d = 2)
  | none => false)
theorem tokS_at {l : List Int} {i : Nat} {c : Int} (h : l[i]? = some c) : tokS (l.drop i) = if kindOf c = 1 then some (none, 1)
    else if begins (l.drop i) then (numsF 600 (l.drop i)).map fun x => (some ⟨1, [], 0⟩, x.2)
    else if kindOf c = 2 then (wordS 2 (l.drop i)).map fun x => (some x.1, x.2)
    else if c = 39 then (textF (l.drop (i + 1))).map fun k => (some ⟨1, [], 0⟩, 1 + k)
    else if quadS l i c = true then (wordS 3 (l.drop (i + 1))).map fun x => (some x.1, 1 + x.2)
    else if kindOf c = 4 ∨ kindOf c = 5 then some (some ⟨4, [], c⟩, 1)
    else if kindOf c = 6 then some (some ⟨5, [], c⟩, 1)
    else if kindOf c = 7 then some (some ⟨6, [], c⟩, 1)
    else none := by
  have e0 : (l.drop i)[0]? = some c := by rw [List.getElem?_drop]; exact h
  have e1 : (l.drop i)[1]? = l[i + 1]? := by rw [List.getElem?_drop]
  have e2 : (l.drop i).drop 1 = l.drop (i + 1) := by rw [List.drop_drop]
  unfold tokS
  rw [e0]
  simp only [e1, e2, quadS, Bool.and_eq_true, decide_eq_true_eq]
  congr

theorem next_does {h0 h : Heap} (x : Ext h0 h) {l : List Int} {tv : Value} (t : Tx h0 tv l) (hm : l.length ≤ 512) {xb at' : Nat} {xs : List XT} (L : LX h0.size h xb tv at' xs) (hat : at' < l.length) :
    Does K h0.size f_token_lexer_next #[.pointer (some ⟨xb, 0, none⟩)] h fun v h' => Step h0.size xb tv l at' xs v h' := by
  have t' := t
  rcases t with ⟨rfl, _⟩ | ⟨b, o, cs, rfl, hb, hgb, hol, hcs⟩
  · simp at hat
  have hne : l ≠ [] := by
    rintro rfl
    simp at hat
  have L' := L
  obtain ⟨hl, hxb, hbd, hall, ov, hg, own, hv⟩ := L
  obtain ⟨c, hc⟩ : ∃ c, l[at']? = some c := ⟨_, List.getElem?_eq_getElem hat⟩
  have htok := tokS_at hc
  refine Does.intro rfl (by decide +kernel) F_token_lexer_next rfl ?_
  have k1 := x.1
  have i0 : (0 : Int) ≤ (at' : Int) := by omega
  have i1 : IntKind.i64.wrap ((at' : Int) + 1) = ((at' + 1 : Nat) : Int) := by rw [wrap_i64 (by omega) (by omega)]; omega
  have il : (at' : Int) < ((l.length : Nat) : Int) := by omega
  obtain ⟨b', o', cs', q1, q2, q3, q4⟩ := (t'.ext x).one hc
  cases q1
  simp +decide only [go_sem, W_region, Wx_some, Nat.reduceAdd, Nat.reduceMul, Nat.reduceEqDiff, Int.reduceAdd, Int.reduceSub, Int.reduceMul, Int.reduceNeg, Int.reduceToNat, hg, il, i0, Int.toNat_natCast, Nat.mul_one, q3, q4]
  refine W_call Kok k1 (kind_run c h) fun r w1 x1 hr => ?_
  subst hr
  have x01 := x.trans x1
  have hg1 : w1.get xb = _ := (x1.2 _ hxb).trans hg
  by_cases h1 : kindOf c = 1
  · rw [if_pos h1] at htok
    have h1' : ((kindOf c : Nat) : Int) = 1 := by omega
    obtain ⟨w2, e2, x2, hs2, g2, k2⟩ := put1 x01 hl (.cells [.slice (some ⟨b, o, none⟩) l.length big, .int .i64 ((at' + 1 : Nat) : Int), ov] 3)
    simp +decide only [go_sem, W_region, Wx_some, Nat.reduceAdd, Nat.reduceMul, Nat.reduceEqDiff, Int.reduceAdd, Int.reduceSub, Int.reduceMul, Int.reduceNeg, Int.reduceToNat, h1', hg1, i1, hl, e2]
    refine .inr (.inl ⟨1, htok, rfl, by omega, by omega, hl, by have := x1.1; omega, by omega, hall, ov, g2, ?_, hv⟩)
    refine (own.ext x1).keep (Nat.le_refl _) fun q hq hvq => ?_
    have : q ≠ xb := by
      rintro rfl
      exact hv hvq
    exact ⟨k2 q this, by omega⟩
  rw [if_neg h1] at htok
  have h1' : ¬ ((kindOf c : Nat) : Int) = 1 := by omega
  simp +decide only [go_sem, W_region, Wx_some, Nat.reduceAdd, Nat.reduceMul, Nat.reduceEqDiff, Int.reduceAdd, Int.reduceSub, Int.reduceMul, Int.reduceNeg, Int.reduceToNat, h1', hg1]
  refine W_call Kok x01.1 (begins_run l at' w1 (t'.ext x01) (by omega) (by omega)) fun r w2 x2 hr => ?_
  subst hr
  have x02 := x01.trans x2
  have x12 := x1.trans x2
  have hg2 : w2.get xb = _ := (x12.2 _ hxb).trans hg
  have L2 := L'.ext x12
  cases hbg : begins (l.drop at') with
  | true =>
    rw [if_pos hbg] at htok
    simp +decide only [go_sem, W_region, Wx_some, Nat.reduceAdd, Nat.reduceMul, Nat.reduceEqDiff, Int.reduceAdd, Int.reduceSub, Int.reduceMul, Int.reduceNeg, Int.reduceToNat]
    refine W_does rfl (numbers_does x02 t' hm L2 hat hbg) fun r w3 hr => ?_
    simp +decide only [go_sem, W_region, Wx_some, Nat.reduceAdd, Nat.reduceMul, Nat.reduceEqDiff, Int.reduceAdd, Int.reduceSub, Int.reduceMul, Int.reduceNeg, Int.reduceToNat]
    rcases hr with ⟨hn, rfl⟩ | ⟨n, m, rest, hn, rfl, ha, hm1, hm2, hL⟩
    · exact .inl ⟨by rw [htok, hn]; rfl, rfl⟩
    · exact .inr (.inr ⟨_, _, _, by rw [htok, hn]; rfl, rfl, ha, hm1, hm2, hL⟩)
  | false =>
  rw [if_neg (by rw [hbg]; simp)] at htok
  by_cases h2 : kindOf c = 2
  · rw [if_pos h2] at htok
    have h2' : ((kindOf c : Nat) : Int) = 2 := by omega
    simp +decide only [go_sem, W_region, Wx_some, Nat.reduceAdd, Nat.reduceMul, Nat.reduceEqDiff, Int.reduceAdd, Int.reduceSub, Int.reduceMul, Int.reduceNeg, Int.reduceToNat, h2', hg2]
    refine W_does rfl (word_does x02 t' hne hm L2 (i := at') (k := 2) (by omega) (Nat.le_refl _)) fun r w3 hr => ?_
    simp +decide only [go_sem, W_region, Wx_some, Nat.reduceAdd, Nat.reduceMul, Nat.reduceEqDiff, Int.reduceAdd, Int.reduceSub, Int.reduceMul, Int.reduceNeg, Int.reduceToNat]
    rcases hr with ⟨hn, rfl⟩ | ⟨tk, m, rest, hn, rfl, ha, hm1, hm2, hL⟩
    · exact .inl ⟨by rw [htok, hn]; rfl, rfl⟩
    · exact .inr (.inr ⟨_, _, _, by rw [htok, hn]; rfl, rfl, ha, hm1, hm2, hL⟩)
  rw [if_neg h2] at htok
  have h2' : ¬ ((kindOf c : Nat) : Int) = 2 := by omega
  by_cases h39 : c = 39
  · rw [if_pos h39] at htok
    simp +decide only [go_sem, W_region, Wx_some, Nat.reduceAdd, Nat.reduceMul, Nat.reduceEqDiff, Int.reduceAdd, Int.reduceSub, Int.reduceMul, Int.reduceNeg, Int.reduceToNat, h2', h39]
    refine W_does rfl (text_does x02 t' hm L2 hat) fun r w3 hr => ?_
    simp +decide only [go_sem, W_region, Wx_some, Nat.reduceAdd, Nat.reduceMul, Nat.reduceEqDiff, Int.reduceAdd, Int.reduceSub, Int.reduceMul, Int.reduceNeg, Int.reduceToNat]
    rcases hr with ⟨hn, rfl⟩ | ⟨m, rest, hn, rfl, ha, hm1, hm2, hL⟩
    · exact .inl ⟨by rw [htok, hn]; rfl, rfl⟩
    · exact .inr (.inr ⟨_, 1 + m, _, by rw [htok, hn]; rfl, rfl, ha, by omega, by omega, by rw [← Nat.add_assoc]; exact hL⟩)
  rw [if_neg h39] at htok
  simp +decide only [go_sem, Wx_some, Nat.reduceAdd, Nat.reduceMul, Nat.reduceEqDiff, Int.reduceAdd, Int.reduceSub, Int.reduceMul, Int.reduceNeg, Int.reduceToNat, h2', h39]
  (rw [W_region]; simp +decide only [go_sem, Wx_some, Nat.reduceAdd, Nat.reduceMul, Nat.reduceEqDiff, Int.reduceAdd, Int.reduceSub, Int.reduceMul, Int.reduceNeg, Int.reduceToNat, h2', h39])
  (rw [W_region]; simp +decide only [go_sem, Wx_some, Nat.reduceAdd, Nat.reduceMul, Nat.reduceEqDiff, Int.reduceAdd, Int.reduceSub, Int.reduceMul, Int.reduceNeg, Int.reduceToNat, h2', h39])
  refine W_cut (J := fun e w => e.size = 131 ∧ e.get 0 = .pointer (some ⟨xb, 0, none⟩) ∧ e.get 3 = .int .i32 c ∧ e.get 4 = .int .i64 ((kindOf c : Nat) : Int) ∧ e.get 53 = .bool (quadS l at' c) ∧ Ext h w) (by simp only [straight, KD]; rfl) ?_ ?_
  · by_cases hq : c = 9109
    case neg =>
      have : quadS l at' c = false := by simp [quadS, hq]
      simp +decide only [go_sem, W_region, Wx_some, Nat.reduceAdd, Nat.reduceMul, Nat.reduceEqDiff, Int.reduceAdd, Int.reduceSub, Int.reduceMul, Int.reduceNeg, Int.reduceToNat, hq, this]
      exact x12
    by_cases hl2 : ((at' + 1 : Nat) : Int) < ((l.length : Nat) : Int)
    case neg =>
      have : quadS l at' c = false := by
        unfold quadS
        rw [List.getElem?_eq_none (by omega)]
        simp
      simp +decide only [go_sem, W_region, Wx_some, Nat.reduceAdd, Nat.reduceMul, Nat.reduceEqDiff, Int.reduceAdd, Int.reduceSub, Int.reduceMul, Int.reduceNeg, Int.reduceToNat, hq, hg2, i1, hl2]
      rw [hq] at this
      exact ⟨by rw [this], x12⟩
    obtain ⟨d, hd⟩ : ∃ d, l[at' + 1]? = some d := ⟨_, List.getElem?_eq_getElem (by omega)⟩
    have hqd : quadS l at' c = decide (kindOf d = 2) := by simp [quadS, hq, hd]
    have i2 : (0 : Int) ≤ ((at' + 1 : Nat) : Int) := by omega
    obtain ⟨b2, o2, cs2, p1, p2, p3, p4⟩ := (t'.ext x02).one hd
    cases p1
    simp +decide only [go_sem, W_region, Wx_some, Nat.reduceAdd, Nat.reduceMul, Nat.reduceEqDiff, Int.reduceAdd, Int.reduceSub, Int.reduceMul, Int.reduceNeg, Int.reduceToNat, hq, hg2, i1, i2, hl2, Int.toNat_natCast, Nat.mul_one, p3, p4]
    refine W_call Kok x02.1 (kind_run d w2) fun r w3 x3 hr => ?_
    subst hr
    rw [hq] at hqd
    by_cases hk : kindOf d = 2
    · have hk' : ((kindOf d : Nat) : Int) = 2 := by omega
      simp +decide only [go_sem, W_region, Wx_some, Nat.reduceAdd, Nat.reduceMul, Nat.reduceEqDiff, Int.reduceAdd, Int.reduceSub, Int.reduceMul, Int.reduceNeg, Int.reduceToNat, hk']
      exact ⟨by rw [hqd, hk]; rfl, x12.trans x3⟩
    · have hk' : ¬ ((kindOf d : Nat) : Int) = 2 := by omega
      simp +decide only [go_sem, W_region, Wx_some, Nat.reduceAdd, Nat.reduceMul, Nat.reduceEqDiff, Int.reduceAdd, Int.reduceSub, Int.reduceMul, Int.reduceNeg, Int.reduceToNat, hk']
      exact ⟨by rw [hqd]; simp [hk], x12.trans x3⟩
  rintro e w ⟨hsz, e0, e3, e4, e53, hxw⟩
  have x0w := x.trans hxw
  have hgw : w.get xb = _ := (hxw.2 _ hxb).trans hg
  have Lw := L'.ext hxw
  cases hqd : quadS l at' c with
  | true =>
    rw [hqd] at e53
    rw [if_pos hqd] at htok
    have hlt : at' + 1 ≤ l.length := hat
    simp +decide only [go_sem, W_region, Wx_some, Nat.reduceAdd, Nat.reduceMul, Nat.reduceEqDiff, Int.reduceAdd, Int.reduceSub, Int.reduceMul, Int.reduceNeg, Int.reduceToNat, hsz, e0, e3, e4, e53, hgw, i1]
    refine W_does rfl (word_does x0w t' hne hm Lw (i := at' + 1) (k := 3) hlt (by omega)) fun r w3 hr => ?_
    simp +decide only [go_sem, W_region, Wx_some, Nat.reduceAdd, Nat.reduceMul, Nat.reduceEqDiff, Int.reduceAdd, Int.reduceSub, Int.reduceMul, Int.reduceNeg, Int.reduceToNat, hsz]
    rcases hr with ⟨hn, rfl⟩ | ⟨tk, m, rest, hn, rfl, ha, hm1, hm2, hL⟩
    · exact .inl ⟨by rw [htok, hn]; rfl, rfl⟩
    · exact .inr (.inr ⟨_, 1 + m, _, by rw [htok, hn]; rfl, rfl, ha, by omega, by omega, by rw [← Nat.add_assoc]; exact hL⟩)
  | false =>
  rw [hqd] at e53
  rw [if_neg (by rw [hqd]; simp)] at htok
  have fin : ∀ {k : Nat} {w' : Heap} {r : Value}, tokS (l.drop at') = some (some ⟨k, [], c⟩, 1) → (r = .bool true ∧ LX h0.size w' xb (.slice (some ⟨b, o, none⟩) l.length big) (at' + 1) (xs ++ [((at', ⟨k, [], c⟩), [.slice none 0 0, .bool false, .slice none 0 0, .slice none 0 0, .bool false])])) → Step h0.size xb (.slice (some ⟨b, o, none⟩) l.length big) l at' xs r w' :=
    fun ht ⟨h1, h2⟩ => .inr (.inr ⟨_, 1, _, ht, h1, ⟨_, _, _, _, _, _, _, _, _, _, _, rfl⟩, by omega, by omega, h2⟩)
  by_cases h4 : kindOf c = 4
  · rw [if_pos (.inl h4)] at htok
    have h4' : ((kindOf c : Nat) : Int) = 4 := by omega
    simp +decide only [go_sem, W_region, Wx_some, Nat.reduceAdd, Nat.reduceMul, Nat.reduceEqDiff, Int.reduceAdd, Int.reduceSub, Int.reduceMul, Int.reduceNeg, Int.reduceToNat, hsz, e0, e3, e4, e53, hgw, i1, h4']
    refine W_does rfl (add_does x0w Lw ⟨4, [], c⟩ (to := at' + 1) (by omega) (by omega)) fun r w3 hr => ?_
    simp +decide only [go_sem, W_region, Wx_some, Nat.reduceAdd, Nat.reduceMul, Nat.reduceEqDiff, Int.reduceAdd, Int.reduceSub, Int.reduceMul, Int.reduceNeg, Int.reduceToNat, hsz]
    exact fin htok hr
  have h4' : ¬ ((kindOf c : Nat) : Int) = 4 := by omega
  by_cases h5 : kindOf c = 5
  · rw [if_pos (.inr h5)] at htok
    have h5' : ((kindOf c : Nat) : Int) = 5 := by omega
    simp +decide only [go_sem, W_region, Wx_some, Nat.reduceAdd, Nat.reduceMul, Nat.reduceEqDiff, Int.reduceAdd, Int.reduceSub, Int.reduceMul, Int.reduceNeg, Int.reduceToNat, hsz, e0, e3, e4, e53, hgw, i1, h5']
    refine W_does rfl (add_does x0w Lw ⟨4, [], c⟩ (to := at' + 1) (by omega) (by omega)) fun r w3 hr => ?_
    simp +decide only [go_sem, W_region, Wx_some, Nat.reduceAdd, Nat.reduceMul, Nat.reduceEqDiff, Int.reduceAdd, Int.reduceSub, Int.reduceMul, Int.reduceNeg, Int.reduceToNat, hsz]
    exact fin htok hr
  have h5' : ¬ ((kindOf c : Nat) : Int) = 5 := by omega
  rw [if_neg (by rintro (hh | hh); exact h4 hh; exact h5 hh)] at htok
  by_cases h6 : kindOf c = 6
  · rw [if_pos h6] at htok
    have h6' : ((kindOf c : Nat) : Int) = 6 := by omega
    simp +decide only [go_sem, W_region, Wx_some, Nat.reduceAdd, Nat.reduceMul, Nat.reduceEqDiff, Int.reduceAdd, Int.reduceSub, Int.reduceMul, Int.reduceNeg, Int.reduceToNat, hsz, e0, e3, e4, e53, hgw, i1, h6']
    refine W_does rfl (add_does x0w Lw ⟨5, [], c⟩ (to := at' + 1) (by omega) (by omega)) fun r w3 hr => ?_
    simp +decide only [go_sem, W_region, Wx_some, Nat.reduceAdd, Nat.reduceMul, Nat.reduceEqDiff, Int.reduceAdd, Int.reduceSub, Int.reduceMul, Int.reduceNeg, Int.reduceToNat, hsz]
    exact fin htok hr
  have h6' : ¬ ((kindOf c : Nat) : Int) = 6 := by omega
  rw [if_neg h6] at htok
  by_cases h7 : kindOf c = 7
  · rw [if_pos h7] at htok
    have h7' : ((kindOf c : Nat) : Int) = 7 := by omega
    simp +decide only [go_sem, W_region, Wx_some, Nat.reduceAdd, Nat.reduceMul, Nat.reduceEqDiff, Int.reduceAdd, Int.reduceSub, Int.reduceMul, Int.reduceNeg, Int.reduceToNat, hsz, e0, e3, e4, e53, hgw, i1, h7']
    refine W_does rfl (add_does x0w Lw ⟨6, [], c⟩ (to := at' + 1) (by omega) (by omega)) fun r w3 hr => ?_
    simp +decide only [go_sem, W_region, Wx_some, Nat.reduceAdd, Nat.reduceMul, Nat.reduceEqDiff, Int.reduceAdd, Int.reduceSub, Int.reduceMul, Int.reduceNeg, Int.reduceToNat, hsz]
    exact fin htok hr
  have h7' : ¬ ((kindOf c : Nat) : Int) = 7 := by omega
  rw [if_neg h7] at htok
  simp +decide only [go_sem, W_region, Wx_some, Nat.reduceAdd, Nat.reduceMul, Nat.reduceEqDiff, Int.reduceAdd, Int.reduceSub, Int.reduceMul, Int.reduceNeg, Int.reduceToNat, hsz, e0, e3, e4, e53, hgw, i1, h4', h5', h6', h7']
  exact .inl ⟨htok, rfl⟩

theorem lexF_succ (f at' : Nat) (s : List Int) : lexF (f + 1) at' s = match (s[0]? : Option Int) with
    | none => some []
    | some c => if c = 9053 then some [] else match tokS s with
      | none => none
      | some (none, k) => lexF f (at' + k) (s.drop k)
      | some (some t, k) => (lexF f (at' + k) (s.drop k)).map ((at', t) :: ·) := rfl

theorem lex_run (h : Heap) {l : List Int} {tv : Value} (t : Tx h tv l) :
    Runs K f_token_Lex #[tv] h fun r w => (lex l = none ∧ r = .tuple #[.slice none 0 0, .bool false]) ∨
      ∃ (xs : List XT) (a : Option Addr) (c : Nat), lex l = some (xs.map (·.1)) ∧ (∀ x ∈ xs, Arr5 x.2) ∧ xs.length ≤ l.length ∧ r = .tuple #[.slice a xs.length c, .bool true] ∧ Sl w 9 a xs.length c (xcs xs) := by
  obtain ⟨a, c, rfl⟩ := t.open
  refine Runs.of Kok (Does.intro rfl (by decide +kernel) F_token_Lex rfl ?_)
  by_cases h512 : (512 : Int) < ((l.length : Nat) : Int)
  · have : lex l = none := by
      unfold lex
      rw [if_pos (by omega)]
    simp +decide only [go_sem, W_region, Wx_some, Nat.reduceAdd, Nat.reduceMul, Nat.reduceEqDiff, Int.reduceAdd, Int.reduceSub, Int.reduceMul, Int.reduceNeg, Int.reduceToNat, h512]
    simp [this]
  have hl512 : ¬ 512 < l.length := by omega
  obtain ⟨w1, e1, x1, hs1, g1⟩ := lay1 h (.cells [.slice a l.length c, .int .i64 0, .slice none 0 0] 3)
  have hk1 : h.size ≤ w1.size := x1.1
  simp +decide only [go_sem, W_region, Wx_some, Nat.reduceAdd, Nat.reduceMul, Nat.reduceEqDiff, Int.reduceAdd, Int.reduceSub, Int.reduceMul, Int.reduceNeg, Int.reduceToNat, h512, e1]
  refine W_loop (α := Nat × Nat × List XT) (fun k e w => k.1 ≤ l.length ∧ lex l = (lexF k.2.1 k.1 (l.drop k.1)).map (k.2.2.map (·.1) ++ ·) ∧ 513 ≤ k.2.1 + k.1 ∧ e.size = 35 ∧ Ext h w ∧ e.get 0 = .slice a l.length c ∧ e.get 4 = .pointer (some ⟨h.size, 0, none⟩) ∧ LX h.size w h.size (.slice a l.length c) k.1 k.2.2) (fun k => l.length - k.1) (0, 600, []) ?_ ?_
  · refine ⟨Nat.zero_le _, ?_, by simp only; omega, by simp +decide only [go_sem], x1, by simp +decide only [go_sem], by simp +decide only [go_sem], Nat.le_refl _, by omega, by simp, by simp, _, g1, Own.nil _ _ _, by simp [vblk]⟩
    unfold lex
    rw [if_neg hl512]
    simp
  · rintro ⟨p, f, xs⟩ e w ⟨hp, hlex, hf, hsz, hxw, e0, e4, L⟩ next
    simp only at hp hlex hf L
    have L' := L
    obtain ⟨hl, hxb, hbd, hall, ov, hg, own, hv⟩ := L
    obtain ⟨g, rfl⟩ : ∃ g, f = g + 1 := ⟨f - 1, by omega⟩
    have hb0 : (l.drop p)[0]? = l[p]? := by rw [List.getElem?_drop, Nat.add_zero]
    rw [lexF_succ, hb0] at hlex
    obtain ⟨oa, oc, rfl⟩ := own.shape
    by_cases hpl : (p : Int) < ((l.length : Nat) : Int)
    case neg =>
      rw [List.getElem?_eq_none (by omega)] at hlex
      simp +decide only [go_sem, W_region, Wx_some, Nat.reduceAdd, Nat.reduceMul, Nat.reduceEqDiff, Int.reduceAdd, Int.reduceSub, Int.reduceMul, Int.reduceNeg, Int.reduceToNat, hsz, e0, e4, hg, hpl]
      exact .inr ⟨xs, _, _, by simpa using hlex, hall, by omega, rfl, own.sl⟩
    obtain ⟨y, hy⟩ : ∃ y, l[p]? = some y := ⟨_, List.getElem?_eq_getElem (by omega)⟩
    rw [hy] at hlex
    simp only at hlex
    have i0 : (0 : Int) ≤ (p : Int) := by omega
    obtain ⟨b', o', cs', q1, q2, q3, q4⟩ := (t.ext hxw).one hy
    cases q1
    by_cases hlamp : y = 9053
    · rw [if_pos hlamp] at hlex
      simp +decide only [go_sem, W_region, Wx_some, Nat.reduceAdd, Nat.reduceMul, Nat.reduceEqDiff, Int.reduceAdd, Int.reduceSub, Int.reduceMul, Int.reduceNeg, Int.reduceToNat, hsz, e0, e4, hg, hpl, i0, Int.toNat_natCast, Nat.mul_one, q3, q4, hlamp]
      exact .inr ⟨xs, _, _, by simpa using hlex, hall, by omega, rfl, own.sl⟩
    rw [if_neg hlamp] at hlex
    simp +decide only [go_sem, W_region, Wx_some, Nat.reduceAdd, Nat.reduceMul, Nat.reduceEqDiff, Int.reduceAdd, Int.reduceSub, Int.reduceMul, Int.reduceNeg, Int.reduceToNat, hsz, e0, e4, hg, hpl, i0, Int.toNat_natCast, Nat.mul_one, q3, q4, hlamp]
    refine W_does rfl (Does.ext Kok hxw (next_does hxw t (by omega) L' (by omega))) fun r w2 hr => ?_
    obtain ⟨hx2, hr⟩ := hr
    rcases hr with ⟨ht, rfl⟩ | ⟨k, ht, rfl, hk1, hk2, hL⟩ | ⟨tk, k, rest, ht, rfl, ha, hk1, hk2, hL⟩
    · rw [ht] at hlex
      simp +decide only [go_sem, W_region, Wx_some, Nat.reduceAdd, Nat.reduceMul, Nat.reduceEqDiff, Int.reduceAdd, Int.reduceSub, Int.reduceMul, Int.reduceNeg, Int.reduceToNat, hsz, e0, e4]
      simpa using hlex
    · rw [ht] at hlex
      simp only [List.drop_drop] at hlex
      simp +decide only [go_sem, W_region, Wx_some, Nat.reduceAdd, Nat.reduceMul, Nat.reduceEqDiff, Int.reduceAdd, Int.reduceSub, Int.reduceMul, Int.reduceNeg, Int.reduceToNat, hsz, e0, e4]
      exact next (p + k, g, xs) _ _ ⟨hk2, hlex, by simp only; omega, by simp +decide only [go_sem, hsz], hx2, by simp +decide only [go_sem, hsz, e0], by simp +decide only [go_sem, hsz, e4], hL⟩ (by simp only; omega)
    · rw [ht] at hlex
      simp only [List.drop_drop] at hlex
      simp +decide only [go_sem, W_region, Wx_some, Nat.reduceAdd, Nat.reduceMul, Nat.reduceEqDiff, Int.reduceAdd, Int.reduceSub, Int.reduceMul, Int.reduceNeg, Int.reduceToNat, hsz, e0, e4]
      refine next (p + k, g, xs ++ [((p, tk), rest)]) _ _ ⟨hk2, ?_, by simp only; omega, by simp +decide only [go_sem, hsz], hx2, by simp +decide only [go_sem, hsz, e0], by simp +decide only [go_sem, hsz, e4], hL⟩ (by simp only; omega)
      rw [hlex]
      simp only [Option.map_map]
      congr 1
      funext z
      simp
end Go.Proofs.YtjlaenglmdpboaaGreat.N23
