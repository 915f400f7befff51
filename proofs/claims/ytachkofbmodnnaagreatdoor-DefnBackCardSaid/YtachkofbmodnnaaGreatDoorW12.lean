/- Proved here: parts of the way to BDefnBack (BR2 BR3 BR4 BR5 BR6 BR7 BN20 BN21 BN22 BR8 BN23 BN24 BN25 BN26 BR9); no condition beyond those that each theorem names. -/
import Derived.Test.YtachkofbmodnnaaGreatDoorW10
import Derived.Test.YtachkofbmodnnaaGreatDoorW11
set_option linter.unusedSimpArgs false
set_option linter.unusedVariables false
namespace Go.Proofs.YtachkofbmodnnaaGreatDoor.R2
open Go Go.Im Go.Im.Limbs Go.Im.Dec Go.Proofs Go.RowKit Hd N12 N18 N19 R1
set_option maxRecDepth 100000
end Go.Proofs.YtachkofbmodnnaaGreatDoor.R2
namespace Go.Proofs.YtachkofbmodnnaaGreatDoor.R3
open Go Go.Im Go.Im.Limbs Go.Im.Dec Go.Proofs Go.RowKit Hd N12 R1 R2
set_option maxRecDepth 100000
end Go.Proofs.YtachkofbmodnnaaGreatDoor.R3
namespace Go.Im.Dec
open Go Go.Im Go.Im.Limbs Go.Proofs.YtachkofbmodnnaaGreatDoor.N12
end Go.Im.Dec
namespace Go.Proofs.YtachkofbmodnnaaGreatDoor.R4
open Go Go.Im Go.Im.Limbs Go.Im.Dec Go.Proofs Go.RowKit Hd N12 R1 R2 R3
set_option maxRecDepth 100000
end Go.Proofs.YtachkofbmodnnaaGreatDoor.R4
namespace Go.Im.Lexing
open Go.Proofs.YtachkofbmodnnaaGreatDoor.N12 Go.Proofs.YtachkofbmodnnaaGreatDoor.N14 Go.Im.Dec
end Go.Im.Lexing
namespace Go.Proofs.YtachkofbmodnnaaGreatDoor.R5
open Go Go.Im Go.Im.Limbs Go.Im.Lexing Go.Im.Dec Go.Proofs Go.RowKit Hd N12 N14 N16 N17 R1 R4
set_option maxRecDepth 100000
end Go.Proofs.YtachkofbmodnnaaGreatDoor.R5
namespace Go.Proofs.YtachkofbmodnnaaGreatDoor.R6
open Go Go.Im Go.Im.Limbs Go.Im.Lexing Go.Im.Dec Go.Proofs Go.RowKit Hd N12 N14 N16 N17 R1 R4 R5
set_option maxRecDepth 100000
end Go.Proofs.YtachkofbmodnnaaGreatDoor.R6
namespace Go.Im.Lexing
end Go.Im.Lexing
namespace Go.Proofs.YtachkofbmodnnaaGreatDoor.R7
open Go Go.Im Go.Im.Limbs Go.Im.Lexing Go.Im.Dec Go.Proofs Go.RowKit Hd N16
set_option maxRecDepth 100000
end Go.Proofs.YtachkofbmodnnaaGreatDoor.R7
namespace Go.Proofs.YtachkofbmodnnaaGreatDoor.N20
open Go Go.Im Go.Im.Limbs Go.Im.Lexing Go.Proofs Go.RowKit Hd N1 N10 N13 N15 N16 N17 N18 N19
set_option maxRecDepth 100000
theorem nameOK_len {w : List Int} (h : nameOK w = true) : 1 ≤ w.length := by
 simp only [nameOK, Bool.and_eq_true, decide_eq_true_eq] at h
 exact h.1.1.1
theorem word_does {h0 h : Heap} (x : Ext h0 h) {l : List Int} {tv : Value} (t : Tx h0 tv l) (hne : l ≠ []) (hm : l.length ≤ 512) {xb at' i k : Nat} {xs : List XT} (L : LX h0.size h xb tv at' xs) (hi' : i ≤ l.length) (hat : at' ≤ i) :
  Does K h0.size f_token_lexer_word #[.pointer (some ⟨xb, 0, none⟩), .int .i64 (i : Int), .int .i64 (k : Int)] h fun v h' => (wordS k (l.drop i) = none ∧ v = .bool false) ∨
   ∃ tk m rest, wordS k (l.drop i) = some (tk, m) ∧ v = .bool true ∧ Arr5 rest ∧ at' < i + m ∧ i + m ≤ l.length ∧ LX h0.size h' xb tv (i + m) (xs ++ [((at', tk), rest)]) := by
 have t' := t
 rcases t with ⟨hh, _⟩ | ⟨b, o, cs, rfl, hb, hgb, hol, hcs⟩
 ·exact absurd hh hne
 have L' := L
 obtain ⟨hl, hxb, hbd, hall, ov, hg, own, hv⟩ := L
 obtain ⟨w, hw⟩ : ∃ w, w = (l.drop i).takeWhile isW := ⟨_, rfl⟩
 have hwl : i + w.length ≤ l.length := by
  have := tw_le (p := isW) (l.drop i)
  rw [List.length_drop] at this
  rw [hw]
  omega
 have hcut : (l.drop i).take (i + w.length - i) = w := by
  rw [Nat.add_sub_cancel_left, hw]
  exact tw_take _
 refine Does.intro rfl (by decide +kernel) F_token_lexer_word rfl ?_
 have k1 := x.1
 simp +decide only [go_sem, W_region, Wx_some]
 refine W_loop (α := Nat) (fun j e w' => j ≤ w.length ∧ e.size = 50 ∧ Ext h w' ∧ e.get 0 = .pointer (some ⟨xb, 0, none⟩) ∧ e.get 1 = .int .i64 (i : Int) ∧ e.get 2 = .int .i64 (k : Int) ∧ e.get 7 = .int .i64 ((i + j : Nat) : Int)) (fun j => w.length - j) 0 ?_ ?_
 ·exact ⟨Nat.zero_le _, by simp +decide only [go_sem], Ext.refl h, by simp +decide only [go_sem], by simp +decide only [go_sem], by simp +decide only [go_sem], by simp +decide only [go_sem]⟩
 ·rintro j e w' ⟨hj, hsz, hxw, e0, e1, e2, e7⟩ next
  have x0w := x.trans hxw
  have hgw : w'.get xb = _ := (hxw.2 _ hxb).trans hg
  by_cases hjl : j < w.length
  ·obtain ⟨y, hy, hwy⟩ := tw_lt (p := isW) (l := l.drop i) (k := j) (by rw [← hw]; exact hjl)
   rw [List.getElem?_drop] at hy
   have hil := (List.getElem?_eq_some_iff.1 hy).1
   have hil' : ((i + j : Nat) : Int) < ((l.length : Nat) : Int) := by omega
   have i0 : (0 : Int) ≤ ((i + j : Nat) : Int) := by omega
   have i1 : IntKind.i64.wrap (((i + j : Nat) : Int) + 1) = ((i + (j + 1) : Nat) : Int) := by rw [wrap_i64 (by omega) (by omega)]; omega
   obtain ⟨b', o', cs', q1, q2, q3, q4⟩ := (t'.ext x0w).one hy
   cases q1
   simp +decide only [go_sem, W_region, Wx_some, hsz, e0, e1, e2, e7, hgw, hil', i0, Int.toNat_natCast, Nat.mul_one, q3, q4]
   refine W_call Kok x0w.1 (word_run y w') fun r w2 x2 hr => ?_
   subst hr
   simp +decide only [go_sem, W_region, Wx_some, hsz, e0, e1, e2, e7, hwy, i1]
   exact next (j + 1) _ _ ⟨by omega, by simp +decide only [go_sem, hsz], hxw.trans x2, by simp +decide only [go_sem, hsz, e0], by simp +decide only [go_sem, hsz, e1], by simp +decide only [go_sem, hsz, e2], by simp +decide only [go_sem, hsz]⟩ (by omega)
  ·have hjw : j = w.length := by omega
   subst hjw
   apply W_join (α := Unit) (fun _ e w' => e.size = 50 ∧ Ext h w' ∧ e.get 0 = .pointer (some ⟨xb, 0, none⟩) ∧ e.get 1 = .int .i64 (i : Int) ∧ e.get 2 = .int .i64 (k : Int) ∧ e.get 7 = .int .i64 ((i + w.length : Nat) : Int))
   ·intro cont
    by_cases hil : ((i + w.length : Nat) : Int) < ((l.length : Nat) : Int)
    case neg =>
     simp +decide only [go_sem, W_region, hsz, e0, e1, e2, e7, hgw, hil]
     exact Wx_some.2 (cont () _ _ ⟨by simp +decide only [go_sem, hsz], hxw, by simp +decide only [go_sem, hsz, e0], by simp +decide only [go_sem, hsz, e1], by simp +decide only [go_sem, hsz, e2], by simp +decide only [go_sem, hsz, e7]⟩)
    obtain ⟨y, hy⟩ : ∃ y, l[i + w.length]? = some y := ⟨_, List.getElem?_eq_getElem (by omega)⟩
    have hwy : isW y = false := by
     refine tw_end (l := l.drop i) ?_
     rw [List.getElem?_drop, ← hw]
     exact hy
    have i0 : (0 : Int) ≤ ((i + w.length : Nat) : Int) := by omega
    obtain ⟨b', o', cs', q1, q2, q3, q4⟩ := (t'.ext x0w).one hy
    cases q1
    simp +decide only [go_sem, W_region, hsz, e0, e1, e2, e7, hgw, hil, i0, Int.toNat_natCast, Nat.mul_one, q3, q4]
    refine W_call Kok x0w.1 (word_run y w') fun r w2 x2 hr => ?_
    subst hr
    simp +decide only [go_sem, W_region, hsz, e0, e1, e2, e7, hwy]
    exact Wx_some.2 (cont () _ _ ⟨by simp +decide only [go_sem, hsz], hxw.trans x2, by simp +decide only [go_sem, hsz, e0], by simp +decide only [go_sem, hsz, e1], by simp +decide only [go_sem, hsz, e2], by simp +decide only [go_sem, hsz, e7]⟩)
   rintro _ e w' ⟨hsz, hxw, e0, e1, e2, e7⟩
   have x0w := x.trans hxw
   have hgw : w'.get xb = _ := (hxw.2 _ hxb).trans hg
   obtain ⟨a', c1, c2, c3⟩ := (t'.ext x0w).cut hne (lo := i) (hi := i + w.length) (by omega) hwl
   rw [hcut] at c2 c3
   simp +decide only [go_sem, W_region, Wx_some, hsz, e0, e1, e2, e7, hgw, c1]
   refine W_call Kok x0w.1 (name_run w w' c2 (by omega)) fun r w2 x2 hr => ?_
   subst hr
   have x02 := x0w.trans x2
   have hgw2 : w2.get xb = _ := ((hxw.trans x2).2 _ hxb).trans hg
   cases hn : nameOK w with
   | false =>
     simp +decide only [go_sem, W_region, Wx_some, hsz, e0, e1, e2, e7]
     simp only [wordS, ← hw, hn]
     simp
   | true =>
     have hw1 := nameOK_len hn
     obtain ⟨a2, d1, d2, d3⟩ := (t'.ext x02).cut hne (lo := i) (hi := i + w.length) (by omega) hwl
     rw [hcut] at d2 d3
     simp +decide only [go_sem, W_region, Wx_some, hsz, e0, e1, e2, e7, hgw2, d1, d3, icvs_rv]
     refine W_does rfl (add_does x02 (L'.ext (hxw.trans x2)) ⟨k, w, 0⟩ (upto := i + w.length) (by omega) (by omega)) fun r w3 hr => ?_
     obtain ⟨rfl, hL⟩ := hr
     simp +decide only [go_sem, W_region, Wx_some, hsz]
     exact .inr ⟨_, _, _, by simp only [wordS, ← hw, hn, if_true], ⟨_, _, _, _, _, _, _, _, _, _, _, rfl⟩, by omega, hwl, hL⟩
theorem textF_len : ∀ {s : List Int} {k : Nat}, textF s = some k → 1 ≤ k ∧ k ≤ s.length := by
 intro s
 induction s using textF.induct with
 | case1 => intro k h; simp [textF] at h
 | case2 s ih =>
   intro k h
   simp only [textF, Option.map_eq_some_iff] at h
   obtain ⟨m, h1, rfl⟩ := h
   have := ih h1
   simp only [List.length_cons]
   omega
 | case3 s h' =>
   intro k h
   rw [textF] at h
   ·cases h
    simp
   ·exact h'
 | case4 c s h1 h2 ih =>
   intro k h
   rw [textF] at h
   ·simp only [Option.map_eq_some_iff] at h
    obtain ⟨m, h3, rfl⟩ := h
    have := ih h3
    simp only [List.length_cons]
    omega
   ·exact h1
   ·exact h2
theorem textF_at (l : List Int) (j : Nat) : textF (l.drop j) = match l[j]? with
  | none => none
  | some c => if c = 39 then (if l[j + 1]? = some 39 then (textF (l.drop (j + 2))).map (· + 2) else some 1) else (textF (l.drop (j + 1))).map (· + 1) := by
 cases hc : l[j]? with
 | none =>
   rw [List.drop_of_length_le (by simpa using hc)]
   rfl
 | some c =>
   have hj := (List.getElem?_eq_some_iff.1 hc).1
   have e1 : l.drop j = c :: l.drop (j + 1) := by
    rw [List.drop_eq_getElem_cons hj, (List.getElem?_eq_some_iff.1 hc).2]
   rw [e1]
   simp only
   by_cases h39 : c = 39
   ·subst h39
    rw [if_pos rfl]
    cases hd : l[j + 1]? with
    | none =>
      rw [List.drop_of_length_le (by simpa using hd)]
      rfl
    | some d =>
      have hj2 := (List.getElem?_eq_some_iff.1 hd).1
      have e2 : l.drop (j + 1) = d :: l.drop (j + 2) := by
       rw [List.drop_eq_getElem_cons hj2, (List.getElem?_eq_some_iff.1 hd).2]
      rw [e2]
      by_cases h39' : d = 39
      ·subst h39'
       rw [if_pos rfl]
       rfl
      ·rw [if_neg (by simpa using h39'), textF]
       intro s hs
       simp only [List.cons.injEq] at hs
       exact h39' hs.1
   ·rw [if_neg h39, textF]
    ·intro s hs _
     exact h39 hs
    ·exact h39
end Go.Proofs.YtachkofbmodnnaaGreatDoor.N20
namespace Go.Proofs.YtachkofbmodnnaaGreatDoor.N21
open Go Go.Im Go.Im.Limbs Go.Im.Lexing Go.Proofs Go.RowKit Hd N1 N10 N13 N15 N16 N17 N18 N19 N20
set_option maxRecDepth 100000
theorem text_does {h0 h : Heap} (x : Ext h0 h) {l : List Int} {tv : Value} (t : Tx h0 tv l) (hm : l.length ≤ 512) {xb at' : Nat} {xs : List XT} (L : LX h0.size h xb tv at' xs) (hat : at' < l.length) :
  Does K h0.size f_token_lexer_text #[.pointer (some ⟨xb, 0, none⟩)] h fun v h' => (textF (l.drop (at' + 1)) = none ∧ v = .bool false) ∨
   ∃ m rest, textF (l.drop (at' + 1)) = some m ∧ v = .bool true ∧ Arr5 rest ∧ at' < at' + 1 + m ∧ at' + 1 + m ≤ l.length ∧ LX h0.size h' xb tv (at' + 1 + m) (xs ++ [((at', ⟨1, [], 0⟩), rest)]) := by
 have t' := t
 rcases t with ⟨rfl, _⟩ | ⟨b, o, cs, rfl, hb, hgb, hol, hcs⟩
 ·simp at hat
 have L' := L
 obtain ⟨hl, hxb, hbd, hall, ov, hg, own, hv⟩ := L
 refine Does.intro rfl (by decide +kernel) F_token_lexer_text rfl ?_
 have k1 := x.1
 have i1 : IntKind.i64.wrap ((at' : Int) + 1) = ((at' + 1 : Nat) : Int) := by rw [wrap_i64 (by omega) (by omega)]; omega
 simp +decide only [go_sem, W_region, Wx_some, hg, i1]
 refine W_loop (α := Nat × List Int × Value) (fun k e w => at' + 1 ≤ k.1 ∧ k.1 ≤ l.length ∧ textF (l.drop (at' + 1)) = (textF (l.drop k.1)).map (· + (k.1 - (at' + 1))) ∧ e.size = 83 ∧ Ext h w ∧ e.get 0 = .pointer (some ⟨xb, 0, none⟩) ∧ e.get 3 = k.2.2 ∧ e.get 4 = .int .i64 (k.1 : Int) ∧ Own h.size w 1 k.2.2 k.2.1.length (rv k.2.1) ∧ k.2.1.length ≤ k.1) (fun k => l.length - k.1) (at' + 1, [], .slice none 0 0) ?_ ?_
 ·refine ⟨Nat.le_refl _, hat, ?_, by simp +decide only [go_sem], Ext.refl h, by simp +decide only [go_sem], by simp +decide only [go_sem], by simp +decide only [go_sem], Own.nil _ _ _, by simp⟩
  simp
 ·rintro ⟨p, ss, sv⟩ e w ⟨hp1, hp2, htx, hsz, hxw, e0, e3, e4, owns, hss⟩ next
  simp only at hp1 hp2 htx e3 e4 owns hss
  have x0w := x.trans hxw
  have hgw : w.get xb = _ := (hxw.2 _ hxb).trans hg
  rw [textF_at l p] at htx
  by_cases hpl : (p : Int) < ((l.length : Nat) : Int)
  case neg =>
   rw [List.getElem?_eq_none (by omega)] at htx
   simp +decide only [go_sem, W_region, Wx_some, hsz, e0, e3, e4, hgw, hpl]
   simp [htx]
  obtain ⟨y, hy⟩ : ∃ y, l[p]? = some y := ⟨_, List.getElem?_eq_getElem (by omega)⟩
  rw [hy] at htx
  simp only at htx
  have i0 : (0 : Int) ≤ (p : Int) := by omega
  have i2 : IntKind.i64.wrap ((p : Int) + 1) = ((p + 1 : Nat) : Int) := by rw [wrap_i64 (by omega) (by omega)]; omega
  have i3 : IntKind.i64.wrap ((p : Int) + 2) = ((p + 2 : Nat) : Int) := by rw [wrap_i64 (by omega) (by omega)]; omega
  obtain ⟨b', o', cs', q1, q2, q3, q4⟩ := (t'.ext x0w).one hy
  cases q1
  by_cases h39 : y = 39
  case neg =>
   rw [if_neg h39] at htx
   obtain ⟨w1, e1', x1, hs1, g1⟩ := lay1 w (.cells [.int .i32 y] 1)
   have hgw1 : w1.get xb = _ := (x1.2 _ (Nat.lt_of_lt_of_le hxb hxw.1)).trans hgw
   obtain ⟨w2, e2', own2, hs2, x2⟩ := own_app2 (bytes := 4) (k := 1) (new := [.int .i32 y]) k1 (hxw.trans x1) (owns.ext x1) (by omega) (by omega) rfl (by omega) (by omega)
   simp +decide only [go_sem, W_region, Wx_some, hsz, e0, e3, e4, hgw, hpl, i0, Int.toNat_natCast, Nat.mul_one, q3, q4, h39, e1', g1, e2', i2]
   refine next (p + 1, ss ++ [y], _) _ _ ⟨by simp only; omega, by simp only; omega, ?_, by simp +decide only [go_sem, hsz], x2, by simp +decide only [go_sem, hsz, e0], by simp +decide only [go_sem, hsz]; rfl, by simp +decide only [go_sem, hsz], by rw [rv_append, List.length_append]; exact own2, by simp; omega⟩ (by simp only; omega)
   rw [htx]
   simp only [Option.map_map]
   congr 1
   funext z
   simp
   omega
  subst h39
  rw [if_pos rfl] at htx
  by_cases hp2' : l[p + 1]? = some 39
  ·rw [if_pos hp2'] at htx
   have hp3 := (List.getElem?_eq_some_iff.1 hp2').1
   have hpl2 : ((p + 1 : Nat) : Int) < ((l.length : Nat) : Int) := by omega
   obtain ⟨b2, o2, cs2, p1, p2, p3, p4⟩ := (t'.ext x0w).one hp2'
   cases p1
   rw [q3] at p3
   cases p3
   have i4 : (0 : Int) ≤ ((p + 1 : Nat) : Int) := by omega
   obtain ⟨w1, e1', x1, hs1, g1⟩ := lay1 w (.cells [.int .i32 39] 1)
   obtain ⟨w2, e2', own2, hs2, x2⟩ := own_app2 (bytes := 4) (k := 1) (new := [.int .i32 39]) k1 (hxw.trans x1) (owns.ext x1) (by omega) (by omega) rfl (by omega) (by omega)
   simp +decide only [go_sem, W_region, Wx_some, hsz, e0, e3, e4, hgw, hpl, i0, Int.toNat_natCast, Nat.mul_one, q3, q4, p4, i4, hpl2, e1', g1, e2', i2, i3]
   refine next (p + 2, ss ++ [39], _) _ _ ⟨by simp only; omega, by simp only; omega, ?_, by simp +decide only [go_sem, hsz], x2, by simp +decide only [go_sem, hsz, e0], by simp +decide only [go_sem, hsz]; rfl, by simp +decide only [go_sem, hsz], by rw [rv_append, List.length_append]; exact own2, by simp; omega⟩ (by simp only; omega)
   rw [htx]
   simp only [Option.map_map]
   congr 1
   funext z
   simp
   omega
  rw [if_neg hp2'] at htx
  have htx' : textF (l.drop (at' + 1)) = some (p - at') := by
   rw [htx]
   simp
   omega
  have hto : at' + 1 + (p - at') = p + 1 := by omega
  apply W_join (α := Unit) (fun _ e w' => e.size = 83 ∧ w' = w ∧ e.get 0 = .pointer (some ⟨xb, 0, none⟩) ∧ e.get 3 = sv ∧ e.get 4 = .int .i64 (p : Int))
  ·intro cont
   obtain ⟨a, c, rfl⟩ := owns.shape
   by_cases hpl2 : ((p + 1 : Nat) : Int) < ((l.length : Nat) : Int)
   ·obtain ⟨y, hy⟩ : ∃ y, l[p + 1]? = some y := ⟨_, List.getElem?_eq_getElem (by omega)⟩
    obtain ⟨b2, o2, cs2, p1, p2, p3, p4⟩ := (t'.ext x0w).one hy
    cases p1
    rw [q3] at p3
    cases p3
    have hy39 : ¬ y = 39 := fun hh => hp2' (by rw [hy, hh])
    have i4 : (0 : Int) ≤ ((p + 1 : Nat) : Int) := by omega
    simp +decide only [go_sem, Wx_some]
    (rw [W_region]; simp +decide only [go_sem, Wx_some, hsz, e0, e3, e4, hgw, hpl])
    (rw [W_region]; simp +decide only [go_sem, Wx_some, hsz, e0, e3, e4, hgw, i0, hpl, Int.toNat_natCast, Nat.mul_one, q3, q4])
    (rw [W_region]; simp +decide only [go_sem, Wx_some, hsz, e0, e3, e4, hgw, hpl, i0, Int.toNat_natCast, Nat.mul_one, q3, q4, p4, i4, hpl2, i2, hy39])
    exact cont () _ _ ⟨by simp +decide only [go_sem, hsz], rfl, by simp +decide only [go_sem, hsz, e0], by simp +decide only [go_sem, hsz, e3], by simp +decide only [go_sem, hsz, e4]⟩
   ·simp +decide only [go_sem, Wx_some]
    (rw [W_region]; simp +decide only [go_sem, Wx_some, hsz, e0, e3, e4, hgw, hpl])
    (rw [W_region]; simp +decide only [go_sem, Wx_some, hsz, e0, e3, e4, hgw, i0, hpl, Int.toNat_natCast, Nat.mul_one, q3, q4])
    (rw [W_region]; simp +decide only [go_sem, Wx_some, hsz, e0, e3, e4, hgw, hpl, i0, Int.toNat_natCast, Nat.mul_one, q3, q4, hpl2, i2])
    exact cont () _ _ ⟨by simp +decide only [go_sem, hsz], rfl, by simp +decide only [go_sem, hsz, e0], by simp +decide only [go_sem, hsz, e3], by simp +decide only [go_sem, hsz, e4]⟩
  rintro _ e w' ⟨hsz, rfl, e0, e3, e4⟩
  rw [htx']
  by_cases h1 : ss.length = 1
  ·obtain ⟨y, rfl⟩ := List.length_eq_one_iff.1 h1
   rcases owns with ⟨_, h2, _⟩ | ⟨sb, rfl, h2, h3, h4, h5⟩
   ·simp at h2
   have h4' : w'.get sb = .cells [.int .i32 y] 1 := h4
   simp +decide only [go_sem, W_region, Wx_some, hsz, e0, e3, e4, h4']
   refine W_call Kok x0w.1 (char_run y w') fun r w2 x2 hr => ?_
   obtain ⟨_, rfl, a, n, c, bb, a2, n2, c2, a3, n3, c3, m, rfl⟩ := hr
   simp +decide only [go_sem, W_region, Wx_some, hsz, e0, e3, e4, i2]
   refine W_does rfl (add_does (x0w.trans x2) (L'.ext (hxw.trans x2)) ⟨1, [], 0⟩ (upto := p + 1) (by omega) (by omega)) fun r w3 hr => ?_
   obtain ⟨rfl, hL⟩ := hr
   simp +decide only [go_sem, W_region, Wx_some, hsz]
   exact .inr ⟨_, _, rfl, ⟨_, _, _, _, _, _, _, _, _, _, _, rfl⟩, by omega, by omega, by rw [hto]; exact hL⟩
  ·obtain ⟨a, c, rfl⟩ := owns.shape
   have h1' : ¬ ((ss.length : Nat) : Int) = 1 := by omega
   simp +decide only [go_sem, W_region, Wx_some, hsz, e0, e3, e4, h1']
   refine W_call Kok x0w.1 (text_arr w' owns.sl (by omega)) fun r w2 x2 hr => ?_
   obtain ⟨_, rfl, a, n, c, bb, a2, n2, c2, a3, n3, c3, m, rfl⟩ := hr
   simp +decide only [go_sem, W_region, Wx_some, hsz, e0, e3, e4, i2]
   refine W_does rfl (add_does (x0w.trans x2) (L'.ext (hxw.trans x2)) ⟨1, [], 0⟩ (upto := p + 1) (by omega) (by omega)) fun r w3 hr => ?_
   obtain ⟨rfl, hL⟩ := hr
   simp +decide only [go_sem, W_region, Wx_some, hsz]
   exact .inr ⟨_, _, rfl, ⟨_, _, _, _, _, _, _, _, _, _, _, rfl⟩, by omega, by omega, by rw [hto]; exact hL⟩
end Go.Proofs.YtachkofbmodnnaaGreatDoor.N21
namespace Go.Proofs.YtachkofbmodnnaaGreatDoor.N22
open Go Go.Im Go.Im.Limbs Go.Im.Lexing Go.Proofs Go.RowKit Hd N1 N10 N13 N15 N16 N17 N18 N19 N20 N21
set_option maxRecDepth 100000
def RatS (l : List Value) : Prop := ∃ a n c b a2 n2 c2, l = [.slice a n c, .bool b, .slice a2 n2 c2]
theorem num_shape (h : Heap) {l : List Value} (hl : RatS l) : Runs K f_array_Num #[.agg l.toArray] h fun r _ => ∃ l, r = .agg l.toArray ∧ Arr5 l := by
 obtain ⟨a, n, c, s, a', n', c', rfl⟩ := hl
 refine Runs.of Kok (Does.intro rfl (by decide +kernel) F_array_Num rfl ?_)
 simp +decide only [go_sem, W_region, Wx_some]
 exact ⟨_, rfl, _, _, _, _, _, _, _, _, _, _, _, rfl⟩
def addN (at' n upto p : Nat) (r : Nat × Nat) : Nat × Nat := if r.1 = 0 then (n, upto - at') else (n + r.1, p - at' + r.2)
theorem blanks_at {l : List Int} {p j : Nat} (h : j < blanks (l.drop p)) : l[p + j]? = some 32 := by
 obtain ⟨c, h1, h2⟩ := tw_lt h
 rw [List.getElem?_drop] at h1
 rw [h1]
 simpa using h2
theorem blanks_end {l : List Int} {p : Nat} {c : Int} (h : l[p + blanks (l.drop p)]? = some c) : ¬ c = 32 := by
 rw [← List.getElem?_drop] at h
 simpa using tw_end h
theorem blanks_len {l : List Int} {p : Nat} (h : p ≤ l.length) : p + blanks (l.drop p) ≤ l.length := by
 have := tw_le (p := fun c => decide (c = 32)) (l.drop p)
 rw [List.length_drop] at this
 unfold blanks
 omega
theorem numsF_succ (f : Nat) (s : List Int) : numsF (f + 1) s = if begins s then match readS s with
   | none => none
   | some k => match numsF f (s.drop (k + blanks (s.drop k))) with
     | none => none
     | some (0, _) => some (1, k)
     | some (n + 1, m) => some (n + 2, k + blanks (s.drop k) + m)
  else some (0, 0) := rfl
theorem numsF_pos {f : Nat} {s : List Int} {m : Nat} (hb : begins s = true) : numsF (f + 1) s ≠ some (0, m) := by
 intro hq
 rw [numsF_succ, hb, if_pos rfl] at hq
 split at hq
 ·cases hq
 ·split at hq <;> cases hq
theorem numbers_does {h0 h : Heap} (x : Ext h0 h) {l : List Int} {tv : Value} (t : Tx h0 tv l) (hm : l.length ≤ 512) {xb at' : Nat} {xs : List XT} (L : LX h0.size h xb tv at' xs) (hat : at' < l.length) (hbg : begins (l.drop at') = true) :
  Does K h0.size f_token_lexer_numbers #[.pointer (some ⟨xb, 0, none⟩)] h fun v h' => (numsF 600 (l.drop at') = none ∧ v = .bool false) ∨
   ∃ n m rest, numsF 600 (l.drop at') = some (n, m) ∧ v = .bool true ∧ Arr5 rest ∧ at' < at' + m ∧ at' + m ≤ l.length ∧ LX h0.size h' xb tv (at' + m) (xs ++ [((at', ⟨1, [], 0⟩), rest)]) := by
 have t' := t
 rcases t with ⟨rfl, _⟩ | ⟨b, o, cs, rfl, hb, hgb, hol, hcs⟩
 ·simp at hat
 have hne : l ≠ [] := by
  rintro rfl
  simp at hat
 have L' := L
 obtain ⟨hl, hxb, hbd, hall, ov, hg, own, hv⟩ := L
 refine Does.intro rfl (by decide +kernel) F_token_lexer_numbers rfl ?_
 have k1 := x.1
 simp +decide only [go_sem, W_region, Wx_some, hg]
 refine W_loop (α := Nat × Nat × Nat × List (List Value) × Value) (fun k e w => at' ≤ k.2.1 ∧ k.2.1 ≤ k.1 ∧ k.1 ≤ l.length ∧ numsF 600 (l.drop at') = (numsF k.2.2.1 (l.drop k.1)).map (addN at' k.2.2.2.1.length k.2.1 k.1) ∧ 513 ≤ k.2.2.1 + k.1 ∧ e.size = 86 ∧ Ext h w ∧ e.get 0 = .pointer (some ⟨xb, 0, none⟩) ∧ e.get 3 = k.2.2.2.2 ∧ e.get 4 = .int .i64 (k.1 : Int) ∧ e.get 5 = .int .i64 (k.2.1 : Int) ∧
  Own h.size w 3 k.2.2.2.2 k.2.2.2.1.length k.2.2.2.1.flatten ∧ k.2.2.2.1.length ≤ k.1 ∧ (∀ q ∈ k.2.2.2.1, RatS q) ∧ (k.2.2.2.1.length = 0 → k.1 = at') ∧ (0 < k.2.2.2.1.length → at' < k.2.1)) (fun k => l.length - k.1) (at', at', 600, [], .slice none 0 0) ?_ ?_
 ·refine ⟨Nat.le_refl _, Nat.le_refl _, by omega, ?_, by simp only; omega, by simp +decide only [go_sem], Ext.refl h, by simp +decide only [go_sem], by simp +decide only [go_sem], by simp +decide only [go_sem], by simp +decide only [go_sem], Own.nil _ _ _, by simp, by simp, by simp, by simp⟩
  simp only [List.length_nil]
  cases hq : numsF 600 (l.drop at') with
  | none => rfl
  | some r =>
    obtain ⟨n, m⟩ := r
    simp only [Option.map_some, addN, Nat.sub_self, Nat.zero_add, Option.some.injEq]
    split
    ·rename_i h0'
     have h0' : n = 0 := h0'
     subst h0'
     exact absurd hq (numsF_pos (f := 599) hbg)
    ·rfl
 ·rintro ⟨p, upto, f, qs, sv⟩ e w ⟨hp1, hp2, hp3, hnm, hf, hsz, hxw, e0, e3, e4, e5, owns, hqs, hrs, hz, hpos⟩ next
  simp only at hp1 hp2 hp3 hnm hf e3 e4 e5 owns hqs hrs hz hpos
  have x0w := x.trans hxw
  have hgw : w.get xb = _ := (hxw.2 _ hxb).trans hg
  obtain ⟨g, rfl⟩ : ∃ g, f = g + 1 := ⟨f - 1, by omega⟩
  cases hbp : begins (l.drop p) with
  | false =>
    have hn : numsF (g + 1) (l.drop p) = some (0, 0) := by rw [numsF_succ, hbp]; rfl
    rw [hn] at hnm
    simp only [Option.map_some, addN, if_true] at hnm
    have hq0 : 0 < qs.length := by
     refine Nat.pos_of_ne_zero fun hh => ?_
     have := hz hh
     subst this
     rw [hbg] at hbp
     cases hbp
    have hto := hpos hq0
    have htl : at' + (upto - at') = upto := by omega
    rw [hnm]
    simp +decide only [go_sem, W_region, Wx_some, hsz, e0, e3, e4, e5, hgw]
    refine W_call Kok x0w.1 (begins_run l p w (t'.ext x0w) (by omega) hp3) fun r w1 x1 hr => ?_
    rw [hbp] at hr
    subst hr
    have x01 := x0w.trans x1
    have owns1 := owns.ext x1
    obtain ⟨a, c, rfl⟩ := owns.shape
    by_cases h1 : qs.length = 1
    ·obtain ⟨q, rfl⟩ := List.length_eq_one_iff.1 h1
     rcases owns1 with ⟨_, h2, _⟩ | ⟨sb, h2, h3, h4, h5, h6⟩
     ·simp at h2
     cases h2
     have hq := hrs q (by simp)
     have hq' := hq
     obtain ⟨aa, na, ca, ba, ab, nb, cb, rfl⟩ := hq'
     have h5' : w1.get sb = .cells [.slice aa na ca, .bool ba, .slice ab nb cb] 3 := h5
     simp +decide only [go_sem, W_region, Wx_some, hsz, e0, e3, e4, e5, h5']
     refine W_call Kok x01.1 (num_shape w1 hq) fun r w2 x2 hr => ?_
     obtain ⟨_, rfl, a, n, c, bb, a2, n2, c2, a3, n3, c3, m, rfl⟩ := hr
     simp +decide only [go_sem, W_region, Wx_some, hsz, e0, e3, e4, e5]
     refine W_does rfl (add_does (x01.trans x2) (L'.ext (hxw.trans (x1.trans x2))) ⟨1, [], 0⟩ (upto := upto) (by omega) (by omega)) fun r w3 hr => ?_
     obtain ⟨rfl, hL⟩ := hr
     simp +decide only [go_sem, W_region, Wx_some, hsz]
     exact .inr ⟨_, _, _, rfl, ⟨_, _, _, _, _, _, _, _, _, _, _, rfl⟩, by omega, by omega, by rw [htl]; exact hL⟩
    ·have h1' : ¬ ((qs.length : Nat) : Int) = 1 := by omega
     obtain ⟨w2, e2', x2, hs2, g2⟩ := lay1 w1 (.cells [.int .i64 ((qs.length : Nat) : Int)] 1)
     simp +decide only [go_sem, W_region, Wx_some, hsz, e0, e3, e4, e5, h1', e2']
     refine W_call Kok (x01.trans x2).1 (nums_run (v := .bool true) w2 g2 (by omega) hq0 (by omega) (owns1.ext x2).sl) fun r w3 x3 hr => ?_
     obtain ⟨_, m0, rfl, a, n, c, bb, a2, n2, c2, a3, n3, c3, m, rfl⟩ := hr
     have x03 := x01.trans (x2.trans x3)
     obtain ⟨w4, e4', x4, hs4, g4⟩ := lay1 w3 (.cells [.slice none 0 0, .bool false, .slice none 0 0, .slice none 0 0, .bool false] 5)
     obtain ⟨w5, e5', x5, hs5, g5, k5⟩ := put1 x4 (Nat.le_refl _) (.cells [.slice a n c, .bool bb, .slice a2 n2 c2, .slice a3 n3 c3, .bool m] 5)
     simp +decide only [go_sem, W_region, Wx_some, hsz, e0, e3, e4, e5, e4', g4, x03.1, e5', g5]
     refine W_does rfl (add_does (x03.trans x5) (L'.ext (hxw.trans (x1.trans (x2.trans (x3.trans x5))))) ⟨1, [], 0⟩ (upto := upto) (by omega) (by omega)) fun r w6 hr => ?_
     obtain ⟨rfl, hL⟩ := hr
     simp +decide only [go_sem, W_region, Wx_some, hsz]
     exact .inr ⟨_, _, _, rfl, ⟨_, _, _, _, _, _, _, _, _, _, _, rfl⟩, by omega, by omega, by rw [htl]; exact hL⟩
  | true =>
    have hunf : numsF (g + 1) (l.drop p) = match readS (l.drop p) with
     | none => none
     | some k => match numsF g (l.drop (p + (k + blanks (l.drop (p + k))))) with
       | none => none
       | some (0, _) => some (1, k)
       | some (n + 1, m) => some (n + 2, k + blanks (l.drop (p + k)) + m) := by
     rw [numsF_succ, hbp, if_pos rfl]
     simp only [List.drop_drop]
    simp +decide only [go_sem, W_region, Wx_some, hsz, e0, e3, e4, e5, hgw]
    refine W_call Kok x0w.1 (begins_run l p w (t'.ext x0w) (by omega) hp3) fun r w1 x1 hr => ?_
    rw [hbp] at hr
    subst hr
    have x01 := x0w.trans x1
    have hgw1 : w1.get xb = _ := ((hxw.trans x1).2 _ hxb).trans hg
    simp +decide only [go_sem, W_region, Wx_some, hsz, e0, e3, e4, e5, hgw1]
    refine W_call Kok x01.1 (read_run l p w1 (t'.ext x01) hne hm hp3 hbp) fun r w2 x2 hr => ?_
    have x02 := x01.trans x2
    have hgw2 : w2.get xb = _ := ((hxw.trans (x1.trans x2)).2 _ hxb).trans hg
    rcases hr with ⟨hrd, q, y, m, s, d, rfl, hrat⟩ | ⟨k, q, m, s, d, hrd, hk1, hk2, rfl, hrat⟩
    ·obtain ⟨pp, qq, rfl, hp', hq'⟩ := hrat
     obtain ⟨aa, na, ca, rfl⟩ := natv_slice hp'
     obtain ⟨ab, nb, cb, rfl⟩ := natv_slice hq'
     obtain ⟨w4, e4', x4, hs4, g4⟩ := lay1 w2 (.cells [.slice none 0 0, .bool false, .slice none 0 0] 3)
     obtain ⟨w5, e5', x5, hs5, g5, k5⟩ := put1 x4 (Nat.le_refl _) (.cells [.slice aa na ca, .bool s, .slice ab nb cb] 3)
     rw [hunf, hrd] at hnm
     simp only [Option.map_none] at hnm
     simp +decide only [go_sem, W_region, Wx_some, hsz, e0, e3, e4, e5, e4', g4, x02.1, e5']
     simp [hnm]
    obtain ⟨pp, qq, rfl, hp', hq'⟩ := hrat
    obtain ⟨aa, na, ca, rfl⟩ := natv_slice hp'
    obtain ⟨ab, nb, cb, rfl⟩ := natv_slice hq'
    obtain ⟨w4, e4', x4, hs4, g4⟩ := lay1 w2 (.cells [.slice none 0 0, .bool false, .slice none 0 0] 3)
    obtain ⟨w5, e5', x5, hs5, g5, k5⟩ := put1 x4 (Nat.le_refl _) (.cells [.slice aa na ca, .bool s, .slice ab nb cb] 3)
    obtain ⟨w6, e6', x6, hs6, g6⟩ := lay1 w5 (.cells [.slice aa na ca, .bool s, .slice ab nb cb] 3)
    have xw6 : Ext h w6 := hxw.trans (x1.trans (x2.trans (x5.trans x6)))
    obtain ⟨w7, e7', own7, hs7, x7⟩ := own_app2 (bytes := 56) (k := 1) (new := [.slice aa na ca, .bool s, .slice ab nb cb]) k1 xw6 (owns.ext (x1.trans (x2.trans (x5.trans x6)))) (by omega) (by omega) rfl (by omega) (by omega)
    have hgw7 : w7.get xb = _ := (x7.2 _ hxb).trans hg
    obtain ⟨B, hB⟩ : ∃ B, B = blanks (l.drop (p + k)) := ⟨_, rfl⟩
    have hBl : p + k + B ≤ l.length := by rw [hB]; exact blanks_len hk1
    rw [hunf, hrd] at hnm
    simp only [← hB] at hnm
    simp +decide only [go_sem, W_region, Wx_some, hsz, e0, e3, e4, e5, e4', g4, x02.1, e5', g5, e6', g6, e7']
    refine W_loop (α := Nat) (fun j e w' => j ≤ B ∧ e.size = 86 ∧ w' = w7 ∧ e.get 0 = .pointer (some ⟨xb, 0, none⟩) ∧ e.get 3 = .slice (some ⟨w6.size, 0, none⟩) (qs.length + 1) big ∧ e.get 4 = .int .i64 ((p + k + j : Nat) : Int) ∧ e.get 5 = .int .i64 ((p + k : Nat) : Int)) (fun j => B - j) 0 ?_ ?_
    ·exact ⟨Nat.zero_le _, by simp +decide only [go_sem, hsz], rfl, by simp +decide only [go_sem, hsz, e0], by simp +decide only [go_sem, hsz], by simp +decide only [go_sem, hsz], by simp +decide only [go_sem, hsz]⟩
    ·rintro j e w' ⟨hj, hsz, rfl, e0, e3, e4, e5⟩ next2
     have x07 := x.trans x7
     by_cases hjB : j < B
     ·have hy := blanks_at (l := l) (p := p + k) (j := j) (by rw [← hB]; exact hjB)
      have hil : ((p + k + j : Nat) : Int) < ((l.length : Nat) : Int) := by omega
      have i0 : (0 : Int) ≤ ((p + k + j : Nat) : Int) := by omega
      have i1 : IntKind.i64.wrap (((p + k + j : Nat) : Int) + 1) = ((p + k + (j + 1) : Nat) : Int) := by rw [wrap_i64 (by omega) (by omega)]; omega
      obtain ⟨b', o', cs', q1, q2, q3, q4⟩ := (t'.ext x07).one hy
      cases q1
      simp +decide only [go_sem, W_region, Wx_some, hsz, e0, e3, e4, e5, hgw7, hil, i0, Int.toNat_natCast, Nat.mul_one, q3, q4, i1]
      exact next2 (j + 1) _ _ ⟨by omega, by simp +decide only [go_sem, hsz], rfl, by simp +decide only [go_sem, hsz, e0], by simp +decide only [go_sem, hsz, e3], by simp +decide only [go_sem, hsz], by simp +decide only [go_sem, hsz, e5]⟩ (by omega)
     ·have hjB' : j = B := by omega
      subst hjB'
      have fin : ∀ e1 : Env, e1.size = 86 → e1.get 0 = .pointer (some ⟨xb, 0, none⟩) → e1.get 3 = .slice (some ⟨w6.size, 0, none⟩) (qs.length + 1) big → e1.get 4 = .int .i64 ((p + k + j : Nat) : Int) → e1.get 5 = .int .i64 ((p + k : Nat) : Int) → _ :=
       fun e1 f1 f2 f3 f4 f5 => next (p + k + j, p + k, g, qs ++ [[.slice aa na ca, .bool s, .slice ab nb cb]], .slice (some ⟨w6.size, 0, none⟩) (qs.length + 1) big) e1 w' ⟨by simp only; omega, by simp only; omega, by simp only; omega, by
        rw [hnm]
        simp only
        rw [show p + (k + j) = p + k + j by omega]
        cases numsF g (l.drop (p + k + j)) with
        | none => rfl
        | some r =>
          obtain ⟨n, m⟩ := r
          cases n with
          | zero => simp [addN]; omega
          | succ n => simp [addN]; omega, by simp only; omega, f1, x7, f2, f3, f4, f5, by
        rw [List.flatten_append, List.length_append]
        exact own7, by simp; omega, by
        intro q hq
        rcases List.mem_append.1 hq with hq | hq
        ·exact hrs q hq
        ·rw [List.mem_singleton] at hq
         exact ⟨_, _, _, _, _, _, _, hq⟩, by simp, fun _ => by simp only; omega⟩ (by simp only; omega)
      by_cases hil : ((p + k + j : Nat) : Int) < ((l.length : Nat) : Int)
      case neg =>
       simp +decide only [go_sem, W_region, Wx_some, hsz, e0, e3, e4, e5, hgw7, hil]
       exact fin _ (by simp +decide only [go_sem, hsz]) (by simp +decide only [go_sem, hsz, e0]) (by simp +decide only [go_sem, hsz, e3]) (by simp +decide only [go_sem, hsz, e4]) (by simp +decide only [go_sem, hsz, e5])
      obtain ⟨y, hy⟩ : ∃ y, l[p + k + j]? = some y := ⟨_, List.getElem?_eq_getElem (by omega)⟩
      have hy32 : ¬ y = 32 := blanks_end (by rw [← hB]; exact hy)
      have i0 : (0 : Int) ≤ ((p + k + j : Nat) : Int) := by omega
      obtain ⟨b', o', cs', q1, q2, q3, q4⟩ := (t'.ext x07).one hy
      cases q1
      simp +decide only [go_sem, W_region, Wx_some, hsz, e0, e3, e4, e5, hgw7, hil, i0, Int.toNat_natCast, Nat.mul_one, q3, q4, hy32]
      exact fin _ (by simp +decide only [go_sem, hsz]) (by simp +decide only [go_sem, hsz, e0]) (by simp +decide only [go_sem, hsz, e3]) (by simp +decide only [go_sem, hsz, e4]) (by simp +decide only [go_sem, hsz, e5])
end Go.Proofs.YtachkofbmodnnaaGreatDoor.N22
namespace Go.Im
end Go.Im
namespace Go.Proofs.YtachkofbmodnnaaGreatDoor.R8
open Go Go.Im Go.Im.Limbs Go.Im.Lexing Go.Im.Dec Go.Proofs Go.RowKit Hd N16 N18 N20 N22 R5 R6 R7
set_option maxRecDepth 100000
end Go.Proofs.YtachkofbmodnnaaGreatDoor.R8
namespace Go.Proofs.YtachkofbmodnnaaGreatDoor.N23
open Go Go.Im Go.Im.Limbs Go.Im.Lexing Go.Proofs Go.RowKit Hd N1 N15 N16 N17 N18 N19 N20 N21 N22
set_option maxRecDepth 100000
def Step (low : Nat) (xb : Nat) (tv : Value) (l : List Int) (at' : Nat) (xs : List XT) (v : Value) (h' : Heap) : Prop := (tokS (l.drop at') = none ∧ v = .bool false) ∨ (∃ k, tokS (l.drop at') = some (none, k) ∧ v = .bool true ∧ at' < at' + k ∧ at' + k ≤ l.length ∧ LX low h' xb tv (at' + k) xs) ∨
 ∃ tk k rest, tokS (l.drop at') = some (some tk, k) ∧ v = .bool true ∧ Arr5 rest ∧ at' < at' + k ∧ at' + k ≤ l.length ∧ LX low h' xb tv (at' + k) (xs ++ [((at', tk), rest)])
def quadS (l : List Int) (i : Nat) (c : Int) : Bool := decide (c = 9109) && (match l[i + 1]? with
 | some d => decide (kindOf d = 2)
 | none => false)
theorem tokS_at {l : List Int} {i : Nat} {c : Int} (h : l[i]? = some c) : tokS (l.drop i) = if kindOf c = 1 then some (none, 1)
  else if begins (l.drop i) then (numsF 600 (l.drop i)).map fun x => (some ⟨1, [], 0⟩, x.2)
  else if kindOf c = 2 then (wordS 2 (l.drop i)).map fun x => (some x.1, x.2)
  else if c = 39 then (textF (l.drop (i + 1))).map fun k => (some ⟨1, [], 0⟩, 1 + k)
  else if quadS l i c = true then (wordS 3 (l.drop (i + 1))).map fun x => (some x.1, 1 + x.2)
  else if kindOf c = 4 ∨ kindOf c = 5 then some (some ⟨4, [], c⟩, 1)
  else if kindOf c = 6 then some (some ⟨5, [], c⟩, 1)
  else if kindOf c = 7 then some (some ⟨6, [], c⟩, 1)
  else none := by
 have e0 : (l.drop i)[0]? = some c := by rw [List.getElem?_drop]; exact h
 have e1 : (l.drop i)[1]? = l[i + 1]? := by rw [List.getElem?_drop]
 have e2 : (l.drop i).drop 1 = l.drop (i + 1) := by rw [List.drop_drop]
 unfold tokS
 rw [e0]
 simp only [e1, e2, quadS, Bool.and_eq_true, decide_eq_true_eq]
 congr
theorem next_does {h0 h : Heap} (x : Ext h0 h) {l : List Int} {tv : Value} (t : Tx h0 tv l) (hm : l.length ≤ 512) {xb at' : Nat} {xs : List XT} (L : LX h0.size h xb tv at' xs) (hat : at' < l.length) :
  Does K h0.size f_token_lexer_next #[.pointer (some ⟨xb, 0, none⟩)] h fun v h' => Step h0.size xb tv l at' xs v h' := by
 have t' := t
 rcases t with ⟨rfl, _⟩ | ⟨b, o, cs, rfl, hb, hgb, hol, hcs⟩
 ·simp at hat
 have hne : l ≠ [] := by
  rintro rfl
  simp at hat
 have L' := L
 obtain ⟨hl, hxb, hbd, hall, ov, hg, own, hv⟩ := L
 obtain ⟨c, hc⟩ : ∃ c, l[at']? = some c := ⟨_, List.getElem?_eq_getElem hat⟩
 have htok := tokS_at hc
 refine Does.intro rfl (by decide +kernel) F_token_lexer_next rfl ?_
 have k1 := x.1
 have i0 : (0 : Int) ≤ (at' : Int) := by omega
 have i1 : IntKind.i64.wrap ((at' : Int) + 1) = ((at' + 1 : Nat) : Int) := by rw [wrap_i64 (by omega) (by omega)]; omega
 have il : (at' : Int) < ((l.length : Nat) : Int) := by omega
 obtain ⟨b', o', cs', q1, q2, q3, q4⟩ := (t'.ext x).one hc
 cases q1
 simp +decide only [go_sem, W_region, Wx_some, hg, il, i0, Int.toNat_natCast, Nat.mul_one, q3, q4]
 refine W_call Kok k1 (kind_run c h) fun r w1 x1 hr => ?_
 subst hr
 have x01 := x.trans x1
 have hg1 : w1.get xb = _ := (x1.2 _ hxb).trans hg
 by_cases h1 : kindOf c = 1
 ·rw [if_pos h1] at htok
  have h1' : ((kindOf c : Nat) : Int) = 1 := by omega
  obtain ⟨w2, e2, x2, hs2, g2, k2⟩ := put1 x01 hl (.cells [.slice (some ⟨b, o, none⟩) l.length big, .int .i64 ((at' + 1 : Nat) : Int), ov] 3)
  simp +decide only [go_sem, W_region, Wx_some, h1', hg1, i1, hl, e2]
  refine .inr (.inl ⟨1, htok, rfl, by omega, by omega, hl, by have := x1.1; omega, by omega, hall, ov, g2, ?_, hv⟩)
  refine (own.ext x1).keep (Nat.le_refl _) fun q hq hvq => ?_
  have : q ≠ xb := by
   rintro rfl
   exact hv hvq
  exact ⟨k2 q this, by omega⟩
 rw [if_neg h1] at htok
 have h1' : ¬ ((kindOf c : Nat) : Int) = 1 := by omega
 simp +decide only [go_sem, W_region, Wx_some, h1', hg1]
 refine W_call Kok x01.1 (begins_run l at' w1 (t'.ext x01) (by omega) (by omega)) fun r w2 x2 hr => ?_
 subst hr
 have x02 := x01.trans x2
 have x12 := x1.trans x2
 have hg2 : w2.get xb = _ := (x12.2 _ hxb).trans hg
 have L2 := L'.ext x12
 cases hbg : begins (l.drop at') with
 | true =>
   rw [if_pos hbg] at htok
   simp +decide only [go_sem, W_region, Wx_some]
   refine W_does rfl (numbers_does x02 t' hm L2 hat hbg) fun r w3 hr => ?_
   simp +decide only [go_sem, W_region, Wx_some]
   rcases hr with ⟨hn, rfl⟩ | ⟨n, m, rest, hn, rfl, ha, hm1, hm2, hL⟩
   ·exact .inl ⟨by rw [htok, hn]; rfl, rfl⟩
   ·exact .inr (.inr ⟨_, _, _, by rw [htok, hn]; rfl, rfl, ha, hm1, hm2, hL⟩)
 | false =>
 rw [if_neg (by rw [hbg]; simp)] at htok
 by_cases h2 : kindOf c = 2
 ·rw [if_pos h2] at htok
  have h2' : ((kindOf c : Nat) : Int) = 2 := by omega
  simp +decide only [go_sem, W_region, Wx_some, h2', hg2]
  refine W_does rfl (word_does x02 t' hne hm L2 (i := at') (k := 2) (by omega) (Nat.le_refl _)) fun r w3 hr => ?_
  simp +decide only [go_sem, W_region, Wx_some]
  rcases hr with ⟨hn, rfl⟩ | ⟨tk, m, rest, hn, rfl, ha, hm1, hm2, hL⟩
  ·exact .inl ⟨by rw [htok, hn]; rfl, rfl⟩
  ·exact .inr (.inr ⟨_, _, _, by rw [htok, hn]; rfl, rfl, ha, hm1, hm2, hL⟩)
 rw [if_neg h2] at htok
 have h2' : ¬ ((kindOf c : Nat) : Int) = 2 := by omega
 by_cases h39 : c = 39
 ·rw [if_pos h39] at htok
  simp +decide only [go_sem, W_region, Wx_some, h2', h39]
  refine W_does rfl (text_does x02 t' hm L2 hat) fun r w3 hr => ?_
  simp +decide only [go_sem, W_region, Wx_some]
  rcases hr with ⟨hn, rfl⟩ | ⟨m, rest, hn, rfl, ha, hm1, hm2, hL⟩
  ·exact .inl ⟨by rw [htok, hn]; rfl, rfl⟩
  ·exact .inr (.inr ⟨_, 1 + m, _, by rw [htok, hn]; rfl, rfl, ha, by omega, by omega, by rw [← Nat.add_assoc]; exact hL⟩)
 rw [if_neg h39] at htok
 simp +decide only [go_sem, Wx_some, h2', h39]
 (rw [W_region]; simp +decide only [go_sem, Wx_some, h2', h39])
 (rw [W_region]; simp +decide only [go_sem, Wx_some, h2', h39])
 refine W_cut (J := fun e w => e.size = 131 ∧ e.get 0 = .pointer (some ⟨xb, 0, none⟩) ∧ e.get 3 = .int .i32 c ∧ e.get 4 = .int .i64 ((kindOf c : Nat) : Int) ∧ e.get 53 = .bool (quadS l at' c) ∧ Ext h w) (by simp only [straight, KD]; rfl) ?_ ?_
 ·by_cases hq : c = 9109
  case neg =>
   have : quadS l at' c = false := by simp [quadS, hq]
   simp +decide only [go_sem, W_region, Wx_some, hq, this]
   exact x12
  by_cases hl2 : ((at' + 1 : Nat) : Int) < ((l.length : Nat) : Int)
  case neg =>
   have : quadS l at' c = false := by
    unfold quadS
    rw [List.getElem?_eq_none (by omega)]
    simp
   simp +decide only [go_sem, W_region, Wx_some, hq, hg2, i1, hl2]
   rw [hq] at this
   exact ⟨by rw [this], x12⟩
  obtain ⟨d, hd⟩ : ∃ d, l[at' + 1]? = some d := ⟨_, List.getElem?_eq_getElem (by omega)⟩
  have hqd : quadS l at' c = decide (kindOf d = 2) := by simp [quadS, hq, hd]
  have i2 : (0 : Int) ≤ ((at' + 1 : Nat) : Int) := by omega
  obtain ⟨b2, o2, cs2, p1, p2, p3, p4⟩ := (t'.ext x02).one hd
  cases p1
  simp +decide only [go_sem, W_region, Wx_some, hq, hg2, i1, i2, hl2, Int.toNat_natCast, Nat.mul_one, p3, p4]
  refine W_call Kok x02.1 (kind_run d w2) fun r w3 x3 hr => ?_
  subst hr
  rw [hq] at hqd
  by_cases hk : kindOf d = 2
  ·have hk' : ((kindOf d : Nat) : Int) = 2 := by omega
   simp +decide only [go_sem, W_region, Wx_some, hk']
   exact ⟨by rw [hqd, hk]; rfl, x12.trans x3⟩
  ·have hk' : ¬ ((kindOf d : Nat) : Int) = 2 := by omega
   simp +decide only [go_sem, W_region, Wx_some, hk']
   exact ⟨by rw [hqd]; simp [hk], x12.trans x3⟩
 rintro e w ⟨hsz, e0, e3, e4, e53, hxw⟩
 have x0w := x.trans hxw
 have hgw : w.get xb = _ := (hxw.2 _ hxb).trans hg
 have Lw := L'.ext hxw
 cases hqd : quadS l at' c with
 | true =>
   rw [hqd] at e53
   rw [if_pos hqd] at htok
   have hlt : at' + 1 ≤ l.length := hat
   simp +decide only [go_sem, W_region, Wx_some, hsz, e0, e3, e4, e53, hgw, i1]
   refine W_does rfl (word_does x0w t' hne hm Lw (i := at' + 1) (k := 3) hlt (by omega)) fun r w3 hr => ?_
   simp +decide only [go_sem, W_region, Wx_some, hsz]
   rcases hr with ⟨hn, rfl⟩ | ⟨tk, m, rest, hn, rfl, ha, hm1, hm2, hL⟩
   ·exact .inl ⟨by rw [htok, hn]; rfl, rfl⟩
   ·exact .inr (.inr ⟨_, 1 + m, _, by rw [htok, hn]; rfl, rfl, ha, by omega, by omega, by rw [← Nat.add_assoc]; exact hL⟩)
 | false =>
 rw [hqd] at e53
 rw [if_neg (by rw [hqd]; simp)] at htok
 have fin : ∀ {k : Nat} {w' : Heap} {r : Value}, tokS (l.drop at') = some (some ⟨k, [], c⟩, 1) → (r = .bool true ∧ LX h0.size w' xb (.slice (some ⟨b, o, none⟩) l.length big) (at' + 1) (xs ++ [((at', ⟨k, [], c⟩), [.slice none 0 0, .bool false, .slice none 0 0, .slice none 0 0, .bool false])])) → Step h0.size xb (.slice (some ⟨b, o, none⟩) l.length big) l at' xs r w' :=
  fun ht ⟨h1, h2⟩ => .inr (.inr ⟨_, 1, _, ht, h1, ⟨_, _, _, _, _, _, _, _, _, _, _, rfl⟩, by omega, by omega, h2⟩)
 by_cases h4 : kindOf c = 4
 ·rw [if_pos (.inl h4)] at htok
  have h4' : ((kindOf c : Nat) : Int) = 4 := by omega
  simp +decide only [go_sem, W_region, Wx_some, hsz, e0, e3, e4, e53, hgw, i1, h4']
  refine W_does rfl (add_does x0w Lw ⟨4, [], c⟩ (upto := at' + 1) (by omega) (by omega)) fun r w3 hr => ?_
  simp +decide only [go_sem, W_region, Wx_some, hsz]
  exact fin htok hr
 have h4' : ¬ ((kindOf c : Nat) : Int) = 4 := by omega
 by_cases h5 : kindOf c = 5
 ·rw [if_pos (.inr h5)] at htok
  have h5' : ((kindOf c : Nat) : Int) = 5 := by omega
  simp +decide only [go_sem, W_region, Wx_some, hsz, e0, e3, e4, e53, hgw, i1, h5']
  refine W_does rfl (add_does x0w Lw ⟨4, [], c⟩ (upto := at' + 1) (by omega) (by omega)) fun r w3 hr => ?_
  simp +decide only [go_sem, W_region, Wx_some, hsz]
  exact fin htok hr
 have h5' : ¬ ((kindOf c : Nat) : Int) = 5 := by omega
 rw [if_neg (by rintro (hh | hh); exact h4 hh; exact h5 hh)] at htok
 by_cases h6 : kindOf c = 6
 ·rw [if_pos h6] at htok
  have h6' : ((kindOf c : Nat) : Int) = 6 := by omega
  simp +decide only [go_sem, W_region, Wx_some, hsz, e0, e3, e4, e53, hgw, i1, h6']
  refine W_does rfl (add_does x0w Lw ⟨5, [], c⟩ (upto := at' + 1) (by omega) (by omega)) fun r w3 hr => ?_
  simp +decide only [go_sem, W_region, Wx_some, hsz]
  exact fin htok hr
 have h6' : ¬ ((kindOf c : Nat) : Int) = 6 := by omega
 rw [if_neg h6] at htok
 by_cases h7 : kindOf c = 7
 ·rw [if_pos h7] at htok
  have h7' : ((kindOf c : Nat) : Int) = 7 := by omega
  simp +decide only [go_sem, W_region, Wx_some, hsz, e0, e3, e4, e53, hgw, i1, h7']
  refine W_does rfl (add_does x0w Lw ⟨6, [], c⟩ (upto := at' + 1) (by omega) (by omega)) fun r w3 hr => ?_
  simp +decide only [go_sem, W_region, Wx_some, hsz]
  exact fin htok hr
 have h7' : ¬ ((kindOf c : Nat) : Int) = 7 := by omega
 rw [if_neg h7] at htok
 simp +decide only [go_sem, W_region, Wx_some, hsz, e0, e3, e4, e53, hgw, i1, h4', h5', h6', h7']
 exact .inl ⟨htok, rfl⟩
theorem lexF_succ (f at' : Nat) (s : List Int) : lexF (f + 1) at' s = match (s[0]? : Option Int) with
  | none => some []
  | some c => if c = 9053 then some [] else match tokS s with
    | none => none
    | some (none, k) => lexF f (at' + k) (s.drop k)
    | some (some t, k) => (lexF f (at' + k) (s.drop k)).map ((at', t) :: ·) := rfl
theorem lex_run (h : Heap) {l : List Int} {tv : Value} (t : Tx h tv l) :
  Runs K f_token_Lex #[tv] h fun r w => (lex l = none ∧ r = .tuple #[.slice none 0 0, .bool false]) ∨
   ∃ (xs : List XT) (a : Option Addr) (c : Nat), lex l = some (xs.map (·.1)) ∧ (∀ x ∈ xs, Arr5 x.2) ∧ xs.length ≤ l.length ∧ r = .tuple #[.slice a xs.length c, .bool true] ∧ Sl w 9 a xs.length c (xcs xs) := by
 obtain ⟨a, c, rfl⟩ := t.open
 refine Runs.of Kok (Does.intro rfl (by decide +kernel) F_token_Lex rfl ?_)
 by_cases h512 : (512 : Int) < ((l.length : Nat) : Int)
 ·have : lex l = none := by
   unfold lex
   rw [if_pos (by omega)]
  simp +decide only [go_sem, W_region, Wx_some, h512]
  simp [this]
 have hl512 : ¬ 512 < l.length := by omega
 obtain ⟨w1, e1, x1, hs1, g1⟩ := lay1 h (.cells [.slice a l.length c, .int .i64 0, .slice none 0 0] 3)
 have hk1 : h.size ≤ w1.size := x1.1
 simp +decide only [go_sem, W_region, Wx_some, h512, e1]
 refine W_loop (α := Nat × Nat × List XT) (fun k e w => k.1 ≤ l.length ∧ lex l = (lexF k.2.1 k.1 (l.drop k.1)).map (k.2.2.map (·.1) ++ ·) ∧ 513 ≤ k.2.1 + k.1 ∧ e.size = 35 ∧ Ext h w ∧ e.get 0 = .slice a l.length c ∧ e.get 4 = .pointer (some ⟨h.size, 0, none⟩) ∧ LX h.size w h.size (.slice a l.length c) k.1 k.2.2) (fun k => l.length - k.1) (0, 600, []) ?_ ?_
 ·refine ⟨Nat.zero_le _, ?_, by simp only; omega, by simp +decide only [go_sem], x1, by simp +decide only [go_sem], by simp +decide only [go_sem], Nat.le_refl _, by omega, by simp, by simp, _, g1, Own.nil _ _ _, by simp [vblk]⟩
  unfold lex
  rw [if_neg hl512]
  simp
 ·rintro ⟨p, f, xs⟩ e w ⟨hp, hlex, hf, hsz, hxw, e0, e4, L⟩ next
  simp only at hp hlex hf L
  have L' := L
  obtain ⟨hl, hxb, hbd, hall, ov, hg, own, hv⟩ := L
  obtain ⟨g, rfl⟩ : ∃ g, f = g + 1 := ⟨f - 1, by omega⟩
  have hb0 : (l.drop p)[0]? = l[p]? := by rw [List.getElem?_drop, Nat.add_zero]
  rw [lexF_succ, hb0] at hlex
  obtain ⟨oa, oc, rfl⟩ := own.shape
  by_cases hpl : (p : Int) < ((l.length : Nat) : Int)
  case neg =>
   rw [List.getElem?_eq_none (by omega)] at hlex
   simp +decide only [go_sem, W_region, Wx_some, hsz, e0, e4, hg, hpl]
   exact .inr ⟨xs, _, _, by simpa using hlex, hall, by omega, rfl, own.sl⟩
  obtain ⟨y, hy⟩ : ∃ y, l[p]? = some y := ⟨_, List.getElem?_eq_getElem (by omega)⟩
  rw [hy] at hlex
  simp only at hlex
  have i0 : (0 : Int) ≤ (p : Int) := by omega
  obtain ⟨b', o', cs', q1, q2, q3, q4⟩ := (t.ext hxw).one hy
  cases q1
  by_cases hlamp : y = 9053
  ·rw [if_pos hlamp] at hlex
   simp +decide only [go_sem, W_region, Wx_some, hsz, e0, e4, hg, hpl, i0, Int.toNat_natCast, Nat.mul_one, q3, q4, hlamp]
   exact .inr ⟨xs, _, _, by simpa using hlex, hall, by omega, rfl, own.sl⟩
  rw [if_neg hlamp] at hlex
  simp +decide only [go_sem, W_region, Wx_some, hsz, e0, e4, hg, hpl, i0, Int.toNat_natCast, Nat.mul_one, q3, q4, hlamp]
  refine W_does rfl (Does.ext Kok hxw (next_does hxw t (by omega) L' (by omega))) fun r w2 hr => ?_
  obtain ⟨hx2, hr⟩ := hr
  rcases hr with ⟨ht, rfl⟩ | ⟨k, ht, rfl, hk1, hk2, hL⟩ | ⟨tk, k, rest, ht, rfl, ha, hk1, hk2, hL⟩
  ·rw [ht] at hlex
   simp +decide only [go_sem, W_region, Wx_some, hsz, e0, e4]
   simpa using hlex
  ·rw [ht] at hlex
   simp only [List.drop_drop] at hlex
   simp +decide only [go_sem, W_region, Wx_some, hsz, e0, e4]
   exact next (p + k, g, xs) _ _ ⟨hk2, hlex, by simp only; omega, by simp +decide only [go_sem, hsz], hx2, by simp +decide only [go_sem, hsz, e0], by simp +decide only [go_sem, hsz, e4], hL⟩ (by simp only; omega)
  ·rw [ht] at hlex
   simp only [List.drop_drop] at hlex
   simp +decide only [go_sem, W_region, Wx_some, hsz, e0, e4]
   refine next (p + k, g, xs ++ [((p, tk), rest)]) _ _ ⟨hk2, ?_, by simp only; omega, by simp +decide only [go_sem, hsz], hx2, by simp +decide only [go_sem, hsz, e0], by simp +decide only [go_sem, hsz, e4], hL⟩ (by simp only; omega)
   rw [hlex]
   simp only [Option.map_map]
   congr 1
   funext z
   simp
end Go.Proofs.YtachkofbmodnnaaGreatDoor.N23
namespace Go.Im.Lexing
abbrev rem (m s : List Int) : List Int := s ++ 9053 :: m
theorem hi_le' (s : List Int) : hi s ≤ s.length := by
 unfold hi
 split
 ·rename_i h
  exact (List.getElem?_eq_some_iff.1 h).1
 ·omega
theorem digs_le (s : List Int) : (digs s).length ≤ s.length := tw_le s
theorem expoS_le {s : List Int} {k : Nat} (h : expoS s = some k) : k ≤ s.length := by
 unfold expoS at h
 split at h
 ·rename_i h0
  have h1 := (List.getElem?_eq_some_iff.1 h0).1
  have h2 := hi_le' (s.drop 1)
  have h3 := digs_le (s.drop (1 + hi (s.drop 1)))
  rw [List.length_drop] at h2 h3
  split at h
  ·cases h
  ·cases h
   omega
 ·cases h
  omega
theorem pt_le (s : List Int) : pt s ≤ 1 ∧ pt s ≤ s.length := by
 unfold pt
 split
 ·rename_i h
  exact ⟨Nat.le_refl _, (List.getElem?_eq_some_iff.1 h).1⟩
 ·omega
theorem readS_le {s : List Int} {k : Nat} (h : readS s = some k) : 1 ≤ k ∧ k ≤ s.length := by
 unfold readS at h
 have h1 := hi_le' s
 have h2 := digs_le (s.drop (hi s))
 have h3 := pt_le (s.drop (hi s + (digs (s.drop (hi s))).length))
 rw [List.length_drop] at h2 h3
 simp only at h
 by_cases hp : pt (s.drop (hi s + (digs (s.drop (hi s))).length)) = 1
 ·rw [hp] at h h3
  have h4 := digs_le (s.drop (hi s + (digs (s.drop (hi s))).length + 1))
  rw [List.length_drop] at h4
  simp only [if_true] at h
  split at h
  ·cases h
  ·split at h
   ·cases h
   ·rename_i k' hk
    have h5 := expoS_le hk
    rw [List.length_drop] at h5
    split at h
    ·cases h
    ·cases h
     omega
 ·have hp0 : pt (s.drop (hi s + (digs (s.drop (hi s))).length)) = 0 := by omega
  rw [hp0] at h
  simp only [Nat.zero_ne_one, if_false, false_and, Nat.add_zero] at h
  split at h
  ·cases h
  ·rename_i k' hk
   have h5 := expoS_le hk
   rw [List.length_drop] at h5
   split at h
   ·cases h
   ·cases h
    omega
theorem blanks_le (s : List Int) : blanks s ≤ s.length := tw_le s
theorem numsF_s (f : Nat) (s : List Int) : numsF (f + 1) s = if begins s then match readS s with
   | none => none
   | some k => match numsF f (s.drop (k + blanks (s.drop k))) with
     | none => none
     | some (0, _) => some (1, k)
     | some (n + 1, m) => some (n + 2, k + blanks (s.drop k) + m)
  else some (0, 0) := rfl
theorem numsF_le : ∀ (f : Nat) {s : List Int} {n m : Nat}, numsF f s = some (n, m) → m ≤ s.length ∧ (begins s = true → 1 ≤ m)
 | 0, s, n, m, h => by cases h
 | f + 1, s, n, m, h => by
   rw [numsF_s] at h
   split at h
   ·rename_i hb
    split at h
    ·cases h
    ·rename_i k hk
     have h1 := readS_le hk
     have h2 := blanks_le (s.drop k)
     rw [List.length_drop] at h2
     split at h
     ·cases h
     ·cases h
      exact ⟨h1.2, fun _ => h1.1⟩
     ·rename_i n' m' hq
      have h3 := (numsF_le f hq).1
      rw [List.length_drop] at h3
      cases h
      exact ⟨by omega, fun _ => by omega⟩
   ·rename_i hb
    cases h
    exact ⟨by omega, fun hh => absurd hh hb⟩
theorem textF_le {s : List Int} {k : Nat} (h : textF s = some k) : 1 ≤ k ∧ k ≤ s.length := Go.Proofs.YtachkofbmodnnaaGreatDoor.N20.textF_len h
theorem wordS_le {k : Nat} {s : List Int} {x : Tk × Nat} (h : wordS k s = some x) : 1 ≤ x.2 ∧ x.2 ≤ s.length := by
 unfold wordS at h
 split at h
 ·rename_i hn
  cases h
  exact ⟨Go.Proofs.YtachkofbmodnnaaGreatDoor.N20.nameOK_len hn, tw_le s⟩
 ·cases h
end Go.Im.Lexing
namespace Go.Im.Lexing
open Go.Proofs.YtachkofbmodnnaaGreatDoor.N23
theorem tokS_cons (c : Int) (s : List Int) : tokS (c :: s) = if kindOf c = 1 then some (none, 1)
  else if begins (c :: s) then (numsF 600 (c :: s)).map fun x => (some ⟨1, [], 0⟩, x.2)
  else if kindOf c = 2 then (wordS 2 (c :: s)).map fun x => (some x.1, x.2)
  else if c = 39 then (textF s).map fun k => (some ⟨1, [], 0⟩, 1 + k)
  else if quadS (c :: s) 0 c = true then (wordS 3 s).map fun x => (some x.1, 1 + x.2)
  else if kindOf c = 4 ∨ kindOf c = 5 then some (some ⟨4, [], c⟩, 1)
  else if kindOf c = 6 then some (some ⟨5, [], c⟩, 1)
  else if kindOf c = 7 then some (some ⟨6, [], c⟩, 1)
  else none := by
 have := tokS_at (l := c :: s) (i := 0) (c := c) rfl
 simpa using this
theorem tokS_le {s : List Int} {t : Option Tk} {k : Nat} (h : tokS s = some (t, k)) : 1 ≤ k ∧ k ≤ s.length := by
 cases s with
 | nil => cases h
 | cons c s =>
   rw [tokS_cons] at h
   simp only [List.length_cons]
   split at h
   ·cases h; omega
   ·split at h
    ·rename_i hb
     simp only [Option.map_eq_some_iff, Prod.mk.injEq] at h
     obtain ⟨⟨n, m⟩, h1, _, rfl⟩ := h
     have := numsF_le 600 h1
     simp only [List.length_cons] at this
     exact ⟨this.2 hb, this.1⟩
    ·split at h
     ·simp only [Option.map_eq_some_iff, Prod.mk.injEq] at h
      obtain ⟨x, h1, _, rfl⟩ := h
      exact wordS_le h1
     ·split at h
      ·simp only [Option.map_eq_some_iff, Prod.mk.injEq] at h
       obtain ⟨x, h1, _, rfl⟩ := h
       have := textF_le h1
       omega
      ·split at h
       ·simp only [Option.map_eq_some_iff, Prod.mk.injEq] at h
        obtain ⟨x, h1, _, rfl⟩ := h
        have := wordS_le h1
        omega
       ·split at h
        ·cases h; omega
        ·split at h
         ·cases h; omega
         ·split at h
          ·cases h; omega
          ·cases h
theorem lexF_s (f at' : Nat) (c : Int) (s : List Int) : lexF (f + 1) at' (c :: s) = if c = 9053 then some [] else match tokS (c :: s) with
   | none => none
   | some (none, k) => lexF f (at' + k) ((c :: s).drop k)
   | some (some t, k) => (lexF f (at' + k) ((c :: s).drop k)).map ((at', t) :: ·) := rfl
theorem kindOf_32 : kindOf 32 = 1 := by decide
def Rising (l : List Int) : Nat → List (Nat × Tk) → Prop
 | _, [] => True
 | p, t :: ts => p ≤ t.1 ∧ (∃ c, l[t.1]? = some c ∧ c ≠ 32) ∧ Rising l (t.1 + 1) ts
theorem Rising.mono {l : List Int} {p q : Nat} (hpq : p ≤ q) : ∀ {ts : List (Nat × Tk)}, Rising l q ts → Rising l p ts
 | [], _ => trivial
 | t :: ts, h => ⟨Nat.le_trans hpq h.1, h.2⟩
theorem lexF_rising (l : List Int) : ∀ (f p : Nat) {ts : List (Nat × Tk)}, lexF f p (l.drop p) = some ts → Rising l p ts
 | 0, _, _, h => by cases h
 | f + 1, p, ts, h => by
   cases hc : l[p]? with
   | none =>
     rw [List.drop_of_length_le (by simpa using hc)] at h
     cases h
     trivial
   | some c =>
     have hp := (List.getElem?_eq_some_iff.1 hc).1
     have e1 : l.drop p = c :: l.drop (p + 1) := by
      rw [List.drop_eq_getElem_cons hp, (List.getElem?_eq_some_iff.1 hc).2]
     have hd : ∀ k, (c :: l.drop (p + 1)).drop k = l.drop (p + k) := fun k => by rw [← e1, List.drop_drop]
     rw [e1, lexF_s] at h
     split at h
     ·cases h
      trivial
     ·split at h
      ·cases h
      ·rename_i k ht
       have h1 := tokS_le ht
       rw [hd] at h
       exact (lexF_rising l f (p + k) h).mono (by omega)
      ·rename_i t k ht
       have h1 := tokS_le ht
       rw [hd] at h
       simp only [Option.map_eq_some_iff] at h
       obtain ⟨ts', h2, rfl⟩ := h
       refine ⟨Nat.le_refl _, ⟨c, hc, ?_⟩, (lexF_rising l f (p + k) h2).mono (by simp only; omega)⟩
       rintro rfl
       rw [tokS_cons, if_pos kindOf_32] at ht
       cases ht
theorem lex_rising {l : List Int} {ts : List (Nat × Tk)} (h : lex l = some ts) : Rising l 0 ts := by
 unfold lex at h
 split at h
 ·cases h
 ·exact lexF_rising l 600 0 h
theorem Rising.at {l : List Int} : ∀ {p : Nat} {ts : List (Nat × Tk)} {i : Nat} {t : Nat × Tk}, Rising l p ts → ts[i]? = some t → p ≤ t.1 ∧ (∃ c, l[t.1]? = some c ∧ c ≠ 32) ∧ (∀ u, 0 < i → ts[i - 1]? = some u → u.1 < t.1)
 | p, [], i, t, _, h => by simp at h
 | p, u :: ts, 0, t, hr, h => by
   cases h
   exact ⟨hr.1, hr.2.1, fun _ h0 => by omega⟩
 | p, u :: ts, i + 1, t, hr, h => by
   have h1 := Rising.at hr.2.2 (i := i) (by simpa using h)
   have h2 := hr.1
   refine ⟨by omega, h1.2.1, fun v _ hv => ?_⟩
   cases i with
   | zero =>
     cases hv
     omega
   | succ i => exact h1.2.2 v (by omega) (by simpa using hv)
end Go.Im.Lexing
namespace Go.Im
theorem own_any {low : Nat} {h w : Heap} (hlow : low ≤ h.size) (x : Ext h w) {size bytes : Nat} {v : Value} {n k : Nat} {xs new : List Value} (H : Own h.size w size v n xs) (hs : 0 < size) (hn : new.length = k * size)
  (hb : 2 * (n + k) * bytes ≤ 140737488355328) (hc : n + k ≤ 4611686018427387904) :
  ∃ a c w', iapp low w size bytes v k (some new) = some (.slice a (n + k) c, w') ∧ Own h.size w' size (.slice a (n + k) c) (n + k) (xs ++ new) ∧ Ext h w' ∧ (c = 0 ∨ c = big) := by
 by_cases h0 : k = 0
 ·subst h0
  have hn0 : new = [] := List.eq_nil_of_length_eq_zero (by omega)
  subst hn0
  rcases H with ⟨rfl, rfl, rfl⟩ | ⟨b, rfl, h2, h3, h4, h5⟩
  ·refine ⟨none, 0, w, ?_, .inl ⟨rfl, rfl, rfl⟩, x, .inl rfl⟩
   simp [iapp]
  ·refine ⟨some ⟨b, 0, none⟩, big, w, ?_, .inr ⟨b, rfl, h2, h3, by rw [List.append_nil]; exact h4, by rw [List.append_nil]; exact h5⟩, x, .inr rfl⟩
   simp only [iapp, Nat.add_zero] at hb hc ⊢
   rw [if_neg (by omega), if_pos trivial]
 ·obtain ⟨w', h1, h2, _, h4⟩ := own_app2 hlow x H hs (by omega) hn hb hc
  exact ⟨_, _, w', h1, h2, h4, .inr rfl⟩
end Go.Im
namespace Go.Proofs.YtachkofbmodnnaaGreatDoor.N26
open Go Go.Im Go.Im.Limbs Go.Im.Lexing Go.Proofs Go.RowKit Hd N1 N15 N16 N17 N18 N19 N23
set_option maxRecDepth 100000
theorem tok_len {x : XT} (h : Arr5 x.2) : (tc4 x.1 ++ x.2).length = 9 := by
 obtain ⟨a, n, c, b, a2, n2, c2, a3, n3, c3, m, h⟩ := h
 rw [h]
 rfl
theorem xcs_at : ∀ {xs : List XT} {i : Nat} {x : XT}, (∀ x ∈ xs, Arr5 x.2) → xs[i]? = some x → ((xcs xs).drop (i * 9)).take 9 = tc4 x.1 ++ x.2
 | [], i, x, _, h => by simp at h
 | y :: xs, 0, x, hA, h => by
   cases h
   have h1 := tok_len (hA y (by simp))
   simp only [xcs, List.flatMap_cons, Nat.zero_mul, List.drop_zero]
   rw [← h1, List.take_left']
   rfl
 | y :: xs, i + 1, x, hA, h => by
   have h1 := tok_len (hA y (by simp))
   have h2 := xcs_at (xs := xs) (i := i) (fun z hz => hA z (by simp [hz])) (by simpa using h)
   rw [← h2]
   simp only [xcs, List.flatMap_cons]
   have : (i + 1) * 9 = 9 + i * 9 := by omega
   rw [this, ← List.drop_drop, ← h1, List.drop_left']
   rfl
theorem Sl.tok {h : Heap} {a : Option Addr} {n c i : Nat} {xs : List XT} {x : XT} (s : Sl h 9 a n c (xcs xs)) (hA : ∀ x ∈ xs, Arr5 x.2) (hn : xs.length = n) (hx : xs[i]? = some x) :
  ∃ b o cs, a = some ⟨b, o, none⟩ ∧ b < h.size ∧ (h.get b).read = .cells cs 9 ∧ cs[o + i * 9]? = some (.int .i64 (x.1.2.kind : Int)) ∧ cs[o + i * 9 + 1]? = some (.int .i64 (x.1.1 : Int)) ∧ cs[o + i * 9 + 2]? = some (.string (runesBytes x.1.2.word)) ∧
    cs[o + i * 9 + 3]? = some (.int .i32 x.1.2.sign) ∧ (cs.drop (o + i * 9)).take 9 = tc4 x.1 ++ x.2 ∧ o + i * 9 + 9 ≤ cs.length := by
 have hi : i < n := by rw [← hn]; exact (List.getElem?_eq_some_iff.1 hx).1
 obtain ⟨b, o, cs, h1, h2, h3, h4, h5⟩ := s.at hi
 have h6 := xcs_at hA hx
 have h9 : i * 9 + 9 ≤ n * 9 := by omega
 rw [h5, List.drop_take, List.take_take, List.drop_drop, Nat.min_eq_left (by omega)] at h6
 have hj : ∀ j, j < 9 → cs[o + i * 9 + j]? = (tc4 x.1 ++ x.2)[j]? := by
  intro j hj
  rw [← h6, List.getElem?_take, if_pos hj, List.getElem?_drop]
 exact ⟨b, o, cs, h1, h2, h3, (hj 0 (by omega)).trans rfl, (hj 1 (by omega)).trans rfl, (hj 2 (by omega)).trans rfl, (hj 3 (by omega)).trans rfl, h6, by omega⟩
end Go.Proofs.YtachkofbmodnnaaGreatDoor.N26
namespace Go.Im
end Go.Im
namespace Go.Proofs.YtachkofbmodnnaaGreatDoor.R9
open Go Go.Im Go.Im.Limbs Go.Im.Lexing Go.Im.Dec Go.Proofs Go.RowKit Hd N16 N18 N19 N20 N22 N23 R5 R6 R7 R8
set_option maxRecDepth 100000
end Go.Proofs.YtachkofbmodnnaaGreatDoor.R9
