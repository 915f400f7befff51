/- Proved here: the lexer takes texts and numbers; of every line of up to 512 signs. -/
import Derived.Test.YtjlaenglmdpboaaGreatQN20
namespace Go.Proofs.YtjlaenglmdpboaaGreat.N21
open Go Go.Im Go.Im.Limbs Go.Im.Lexing Go.Proofs Go.RowKit Go.Proofs.YtjlaenglmdpboaaGreat.Hd Go.Proofs.YtjlaenglmdpboaaGreat.N1 Go.Proofs.YtjlaenglmdpboaaGreat.N10 Go.Proofs.YtjlaenglmdpboaaGreat.N13 Go.Proofs.YtjlaenglmdpboaaGreat.N15 Go.Proofs.YtjlaenglmdpboaaGreat.N16 Go.Proofs.YtjlaenglmdpboaaGreat.N17 Go.Proofs.YtjlaenglmdpboaaGreat.N18 Go.Proofs.YtjlaenglmdpboaaGreat.N19 Go.Proofs.YtjlaenglmdpboaaGreat.N20
set_option maxRecDepth 100000
set_option linter.unusedSimpArgs false
set_option linter.unusedVariables false

theorem text_does {h0 h : Heap} (x : Ext h0 h) {l : List Int} {tv : Value} (t : Tx h0 tv l) (hm : l.length ≤ 512) {xb at' : Nat} {xs : List XT} (L : LX h0.size h xb tv at' xs) (hat : at' < l.length) :
    Does K h0.size f_token_lexer_text #[.pointer (some ⟨xb, 0, none⟩)] h fun v h' => (textF (l.drop (at' + 1)) = none ∧ v = .bool false) ∨
      ∃ m rest, textF (l.drop (at' + 1)) = some m ∧ v = .bool true ∧ Arr5 rest ∧ at' < at' + 1 + m ∧ at' + 1 + m ≤ l.length ∧ LX h0.size h' xb tv (at' + 1 + m) (xs ++ [((at', ⟨1, [], 0⟩), rest)]) := by
  have t' := t
  rcases t with ⟨rfl, _⟩ | ⟨b, o, cs, rfl, hb, hgb, hol, hcs⟩
  · simp at hat
  have L' := L
  obtain ⟨hl, hxb, hbd, hall, ov, hg, own, hv⟩ := L
  refine Does.intro rfl (by decide +kernel) F_token_lexer_text rfl ?_
  have k1 := x.1
  have i1 : IntKind.i64.wrap ((at' : Int) + 1) = ((at' + 1 : Nat) : Int) := by rw [wrap_i64 (by omega) (by omega)]; omega
  simp +decide only [go_sem, W_region, Wx_some, Nat.reduceAdd, Nat.reduceMul, Nat.reduceEqDiff, Int.reduceAdd, Int.reduceSub, Int.reduceMul, Int.reduceNeg, Int.reduceToNat, hg, i1]
  refine W_loop (α := Nat × List Int × Value) (fun k e w => at' + 1 ≤ k.1 ∧ k.1 ≤ l.length ∧ textF (l.drop (at' + 1)) = (textF (l.drop k.1)).map (· + (k.1 - (at' + 1))) ∧ e.size = 83 ∧ Ext h w ∧ e.get 0 = .pointer (some ⟨xb, 0, none⟩) ∧ e.get 3 = k.2.2 ∧ e.get 4 = .int .i64 (k.1 : Int) ∧ Own h.size w 1 k.2.2 k.2.1.length (rv k.2.1) ∧ k.2.1.length ≤ k.1) (fun k => l.length - k.1) (at' + 1, [], .slice none 0 0) ?_ ?_
  · refine ⟨Nat.le_refl _, hat, ?_, by simp +decide only [go_sem], Ext.refl h, by simp +decide only [go_sem], by simp +decide only [go_sem], by simp +decide only [go_sem], Own.nil _ _ _, by simp⟩
    simp
  · rintro ⟨p, ss, sv⟩ e w ⟨hp1, hp2, htx, hsz, hxw, e0, e3, e4, owns, hss⟩ next
    simp only at hp1 hp2 htx e3 e4 owns hss
    have x0w := x.trans hxw
    have hgw : w.get xb = _ := (hxw.2 _ hxb).trans hg
    rw [textF_at l p] at htx
    by_cases hpl : (p : Int) < ((l.length : Nat) : Int)
    case neg =>
      rw [List.getElem?_eq_none (by omega)] at htx
      simp +decide only [go_sem, W_region, Wx_some, Nat.reduceAdd, Nat.reduceMul, Nat.reduceEqDiff, Int.reduceAdd, Int.reduceSub, Int.reduceMul, Int.reduceNeg, Int.reduceToNat, hsz, e0, e3, e4, hgw, hpl]
      simp [htx]
    obtain ⟨y, hy⟩ : ∃ y, l[p]? = some y := ⟨_, List.getElem?_eq_getElem (by omega)⟩
    rw [hy] at htx
    simp only at htx
    have i0 : (0 : Int) ≤ (p : Int) := by omega
    have i2 : IntKind.i64.wrap ((p : Int) + 1) = ((p + 1 : Nat) : Int) := by rw [wrap_i64 (by omega) (by omega)]; omega
    have i3 : IntKind.i64.wrap ((p : Int) + 2) = ((p + 2 : Nat) : Int) := by rw [wrap_i64 (by omega) (by omega)]; omega
    obtain ⟨b', o', cs', q1, q2, q3, q4⟩ := (t'.ext x0w).one hy
    cases q1
    by_cases h39 : y = 39
    case neg =>
      rw [if_neg h39] at htx
      obtain ⟨w1, e1', x1, hs1, g1⟩ := lay1 w (.cells [.int .i32 y] 1)
      have hgw1 : w1.get xb = _ := (x1.2 _ (Nat.lt_of_lt_of_le hxb hxw.1)).trans hgw
      obtain ⟨w2, e2', own2, hs2, x2⟩ := own_app2 (bytes := 4) (k := 1) (new := [.int .i32 y]) k1 (hxw.trans x1) (owns.ext x1) (by omega) (by omega) rfl (by omega) (by omega)
      simp +decide only [go_sem, W_region, Wx_some, Nat.reduceAdd, Nat.reduceMul, Nat.reduceEqDiff, Int.reduceAdd, Int.reduceSub, Int.reduceMul, Int.reduceNeg, Int.reduceToNat, hsz, e0, e3, e4, hgw, hpl, i0, Int.toNat_natCast, Nat.mul_one, q3, q4, h39, e1', g1, e2', i2]
      refine next (p + 1, ss ++ [y], _) _ _ ⟨by simp only; omega, by simp only; omega, ?_, by simp +decide only [go_sem, hsz], x2, by simp +decide only [go_sem, hsz, e0], by simp +decide only [go_sem, hsz]; rfl, by simp +decide only [go_sem, hsz], by rw [rv_append, List.length_append]; exact own2, by simp; omega⟩ (by simp only; omega)
      rw [htx]
      simp only [Option.map_map]
      congr 1
      funext z
      simp
      omega
    subst h39
    rw [if_pos rfl] at htx
    by_cases hp2' : l[p + 1]? = some 39
    · rw [if_pos hp2'] at htx
      have hp3 := (List.getElem?_eq_some_iff.1 hp2').1
      have hpl2 : ((p + 1 : Nat) : Int) < ((l.length : Nat) : Int) := by omega
      obtain ⟨b2, o2, cs2, p1, p2, p3, p4⟩ := (t'.ext x0w).one hp2'
      cases p1
      rw [q3] at p3
      cases p3
      have i4 : (0 : Int) ≤ ((p + 1 : Nat) : Int) := by omega
      obtain ⟨w1, e1', x1, hs1, g1⟩ := lay1 w (.cells [.int .i32 39] 1)
      obtain ⟨w2, e2', own2, hs2, x2⟩ := own_app2 (bytes := 4) (k := 1) (new := [.int .i32 39]) k1 (hxw.trans x1) (owns.ext x1) (by omega) (by omega) rfl (by omega) (by omega)
      simp +decide only [go_sem, W_region, Wx_some, Nat.reduceAdd, Nat.reduceMul, Nat.reduceEqDiff, Int.reduceAdd, Int.reduceSub, Int.reduceMul, Int.reduceNeg, Int.reduceToNat, hsz, e0, e3, e4, hgw, hpl, i0, Int.toNat_natCast, Nat.mul_one, q3, q4, p4, i4, hpl2, e1', g1, e2', i2, i3]
      refine next (p + 2, ss ++ [39], _) _ _ ⟨by simp only; omega, by simp only; omega, ?_, by simp +decide only [go_sem, hsz], x2, by simp +decide only [go_sem, hsz, e0], by simp +decide only [go_sem, hsz]; rfl, by simp +decide only [go_sem, hsz], by rw [rv_append, List.length_append]; exact own2, by simp; omega⟩ (by simp only; omega)
      rw [htx]
      simp only [Option.map_map]
      congr 1
      funext z
      simp
      omega
    rw [if_neg hp2'] at htx
    have htx' : textF (l.drop (at' + 1)) = some (p - at') := by
      rw [htx]
      simp
      omega
    have hto : at' + 1 + (p - at') = p + 1 := by omega
    apply W_join (α := Unit) (fun _ e w' => e.size = 83 ∧ w' = w ∧ e.get 0 = .pointer (some ⟨xb, 0, none⟩) ∧ e.get 3 = sv ∧ e.get 4 = .int .i64 (p : Int))
    · intro cont
      obtain ⟨a, c, rfl⟩ := owns.shape
      by_cases hpl2 : ((p + 1 : Nat) : Int) < ((l.length : Nat) : Int)
      · obtain ⟨y, hy⟩ : ∃ y, l[p + 1]? = some y := ⟨_, List.getElem?_eq_getElem (by omega)⟩
        obtain ⟨b2, o2, cs2, p1, p2, p3, p4⟩ := (t'.ext x0w).one hy
        cases p1
        rw [q3] at p3
        cases p3
        have hy39 : ¬ y = 39 := fun hh => hp2' (by rw [hy, hh])
        have i4 : (0 : Int) ≤ ((p + 1 : Nat) : Int) := by omega
        simp +decide only [go_sem, Wx_some, Nat.reduceAdd, Nat.reduceMul, Nat.reduceEqDiff, Int.reduceAdd, Int.reduceSub, Int.reduceMul, Int.reduceNeg, Int.reduceToNat]
        (rw [W_region]; simp +decide only [go_sem, Wx_some, Nat.reduceAdd, Nat.reduceMul, Nat.reduceEqDiff, Int.reduceAdd, Int.reduceSub, Int.reduceMul, Int.reduceNeg, Int.reduceToNat, hsz, e0, e3, e4, hgw, hpl])
        (rw [W_region]; simp +decide only [go_sem, Wx_some, Nat.reduceAdd, Nat.reduceMul, Nat.reduceEqDiff, Int.reduceAdd, Int.reduceSub, Int.reduceMul, Int.reduceNeg, Int.reduceToNat, hsz, e0, e3, e4, hgw, i0, hpl, Int.toNat_natCast, Nat.mul_one, q3, q4])
        (rw [W_region]; simp +decide only [go_sem, Wx_some, Nat.reduceAdd, Nat.reduceMul, Nat.reduceEqDiff, Int.reduceAdd, Int.reduceSub, Int.reduceMul, Int.reduceNeg, Int.reduceToNat, hsz, e0, e3, e4, hgw, hpl, i0, Int.toNat_natCast, Nat.mul_one, q3, q4, p4, i4, hpl2, i2, hy39])
        exact cont () _ _ ⟨by simp +decide only [go_sem, hsz], rfl, by simp +decide only [go_sem, hsz, e0], by simp +decide only [go_sem, hsz, e3], by simp +decide only [go_sem, hsz, e4]⟩
      · simp +decide only [go_sem, Wx_some, Nat.reduceAdd, Nat.reduceMul, Nat.reduceEqDiff, Int.reduceAdd, Int.reduceSub, Int.reduceMul, Int.reduceNeg, Int.reduceToNat]
        (rw [W_region]; simp +decide only [go_sem, Wx_some, Nat.reduceAdd, Nat.reduceMul, Nat.reduceEqDiff, Int.reduceAdd, Int.reduceSub, Int.reduceMul, Int.reduceNeg, Int.reduceToNat, hsz, e0, e3, e4, hgw, hpl])
        (rw [W_region]; simp +decide only [go_sem, Wx_some, Nat.reduceAdd, Nat.reduceMul, Nat.reduceEqDiff, Int.reduceAdd, Int.reduceSub, Int.reduceMul, Int.reduceNeg, Int.reduceToNat, hsz, e0, e3, e4, hgw, i0, hpl, Int.toNat_natCast, Nat.mul_one, q3, q4])
        (rw [W_region]; simp +decide only [go_sem, Wx_some, Nat.reduceAdd, Nat.reduceMul, Nat.reduceEqDiff, Int.reduceAdd, Int.reduceSub, Int.reduceMul, Int.reduceNeg, Int.reduceToNat, hsz, e0, e3, e4, hgw, hpl, i0, Int.toNat_natCast, Nat.mul_one, q3, q4, hpl2, i2])
        exact cont () _ _ ⟨by simp +decide only [go_sem, hsz], rfl, by simp +decide only [go_sem, hsz, e0], by simp +decide only [go_sem, hsz, e3], by simp +decide only [go_sem, hsz, e4]⟩
    rintro _ e w' ⟨hsz, rfl, e0, e3, e4⟩
    rw [htx']
    by_cases h1 : ss.length = 1
    · obtain ⟨y, rfl⟩ := List.length_eq_one_iff.1 h1
      rcases owns with ⟨_, h2, _⟩ | ⟨sb, rfl, h2, h3, h4, h5⟩
      · simp at h2
      have h4' : w'.get sb = .cells [.int .i32 y] 1 := h4
      simp +decide only [go_sem, W_region, Wx_some, Nat.reduceAdd, Nat.reduceMul, Nat.reduceEqDiff, Int.reduceAdd, Int.reduceSub, Int.reduceMul, Int.reduceNeg, Int.reduceToNat, hsz, e0, e3, e4, h4']
      refine W_call Kok x0w.1 (char_run y w') fun r w2 x2 hr => ?_
      obtain ⟨_, rfl, a, n, c, bb, a2, n2, c2, a3, n3, c3, m, rfl⟩ := hr
      simp +decide only [go_sem, W_region, Wx_some, Nat.reduceAdd, Nat.reduceMul, Nat.reduceEqDiff, Int.reduceAdd, Int.reduceSub, Int.reduceMul, Int.reduceNeg, Int.reduceToNat, hsz, e0, e3, e4, i2]
      refine W_does rfl (add_does (x0w.trans x2) (L'.ext (hxw.trans x2)) ⟨1, [], 0⟩ (to := p + 1) (by omega) (by omega)) fun r w3 hr => ?_
      obtain ⟨rfl, hL⟩ := hr
      simp +decide only [go_sem, W_region, Wx_some, Nat.reduceAdd, Nat.reduceMul, Nat.reduceEqDiff, Int.reduceAdd, Int.reduceSub, Int.reduceMul, Int.reduceNeg, Int.reduceToNat, hsz]
      exact .inr ⟨_, _, rfl, ⟨_, _, _, _, _, _, _, _, _, _, _, rfl⟩, by omega, by omega, by rw [hto]; exact hL⟩
    · obtain ⟨a, c, rfl⟩ := owns.shape
      have h1' : ¬ ((ss.length : Nat) : Int) = 1 := by omega
      simp +decide only [go_sem, W_region, Wx_some, Nat.reduceAdd, Nat.reduceMul, Nat.reduceEqDiff, Int.reduceAdd, Int.reduceSub, Int.reduceMul, Int.reduceNeg, Int.reduceToNat, hsz, e0, e3, e4, h1']
      refine W_call Kok x0w.1 (text_arr w' owns.sl (by omega)) fun r w2 x2 hr => ?_
      obtain ⟨_, rfl, a, n, c, bb, a2, n2, c2, a3, n3, c3, m, rfl⟩ := hr
      simp +decide only [go_sem, W_region, Wx_some, Nat.reduceAdd, Nat.reduceMul, Nat.reduceEqDiff, Int.reduceAdd, Int.reduceSub, Int.reduceMul, Int.reduceNeg, Int.reduceToNat, hsz, e0, e3, e4, i2]
      refine W_does rfl (add_does (x0w.trans x2) (L'.ext (hxw.trans x2)) ⟨1, [], 0⟩ (to := p + 1) (by omega) (by omega)) fun r w3 hr => ?_
      obtain ⟨rfl, hL⟩ := hr
      simp +decide only [go_sem, W_region, Wx_some, Nat.reduceAdd, Nat.reduceMul, Nat.reduceEqDiff, Int.reduceAdd, Int.reduceSub, Int.reduceMul, Int.reduceNeg, Int.reduceToNat, hsz]
      exact .inr ⟨_, _, rfl, ⟨_, _, _, _, _, _, _, _, _, _, _, rfl⟩, by omega, by omega, by rw [hto]; exact hL⟩
end Go.Proofs.YtjlaenglmdpboaaGreat.N21
