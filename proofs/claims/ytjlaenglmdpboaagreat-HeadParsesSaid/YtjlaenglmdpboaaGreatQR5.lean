/- Proved here: the document's reading of numbers: where they begin, their digits, their values; of every line of up to 512 signs. -/
import Derived.Test.YtjlaenglmdpboaaGreatQR4
import Derived.Test.YtjlaenglmdpboaaGreatQN17
set_option linter.unusedSimpArgs false
set_option linter.unusedVariables false
namespace Go.Im.Lexing
open Go.Proofs.YtjlaenglmdpboaaGreat.N12 Go.Proofs.YtjlaenglmdpboaaGreat.N14 Go.Im.Dec
/-- The number behind an E. -/
def expoN (s : List Int) : Int :=
  if s[0]? = some 69 then
    if hi (s.drop 1) = 1 then - ((dec (dbs (digs (s.drop (1 + hi (s.drop 1))))) : Nat) : Int) else ((dec (dbs (digs (s.drop (1 + hi (s.drop 1))))) : Nat) : Int)
  else 0
/-- What is behind the point. -/
def tailS (s : List Int) : List Int := if pt (s.drop (hi s + (digs (s.drop (hi s))).length)) = 1 then digs (s.drop (hi s + (digs (s.drop (hi s))).length + 1)) else []
/-- A number's sign, its digits, and its power of ten. -/
def readN (s : List Int) : Bool × Nat × Int :=
  (decide (hi s = 1), dec (dbs (digs (s.drop (hi s))) ++ dbs (tailS s)), expoN (s.drop (hi s + (digs (s.drop (hi s))).length + pt (s.drop (hi s + (digs (s.drop (hi s))).length)) + (tailS s).length)) - ((tailS s).length : Int))
theorem readN_eq {l : List Int} {i A B C : Nat} {D T : List Int} {neg p : Bool} (hn : neg = decide (l[i]? = some 175)) (hA : A = i + if neg then 1 else 0) (hD : D = digs (l.drop A)) (hB : B = A + D.length) (hp : p = decide (l[B]? = some 46))
    (hT : T = if p then digs (l.drop (B + 1)) else []) (hC : C = B + if p then 1 + T.length else 0) : readN (l.drop i) = (neg, dec (dbs D ++ dbs T), expoN (l.drop C) - (T.length : Int)) := by
  have e1 : hi (l.drop i) = if neg then 1 else 0 := by
    unfold hi
    rw [List.getElem?_drop, hn]
    simp
  have e2 : i + hi (l.drop i) = A := by rw [e1, hA]
  have e3 : pt (l.drop B) = if p then 1 else 0 := by
    rw [Go.Proofs.YtjlaenglmdpboaaGreat.N17.pt_drop, hp]
    simp
  have e4 : tailS (l.drop i) = T := by
    unfold tailS
    simp only [List.drop_drop]
    rw [e2, ← hD, ← Nat.add_assoc, e2, ← hB, e3, show i + (hi (l.drop i) + D.length + 1) = B + 1 by omega, hT]
    cases p <;> rfl
  unfold readN
  rw [e4]
  simp only [List.drop_drop]
  have e6 : i + (hi (l.drop i) + D.length) = B := by omega
  rw [e2, ← hD, e6, e3]
  have e5 : i + (hi (l.drop i) + D.length + (if p = true then 1 else 0) + T.length) = C := by
    cases p with
    | false =>
      have : T = [] := hT
      subst this
      simp at hC ⊢
      omega
    | true =>
      simp at hC ⊢
      omega
  rw [e5, e1]
  cases neg <;> rfl
/-- A number of the document's. -/
def ratN (x : Bool × Nat × Int) : Value := numA (x.1 && decide (x.2.1 ≠ 0)) (scM x.2.1 x.2.2) (scK x.2.1 x.2.2)
end Go.Im.Lexing
namespace Go.Proofs.YtjlaenglmdpboaaGreat.R5
open Go Go.Im Go.Im.Limbs Go.Im.Lexing Go.Im.Dec Go.Proofs Go.RowKit Go.Proofs.YtjlaenglmdpboaaGreat.Hd Go.Proofs.YtjlaenglmdpboaaGreat.N12 Go.Proofs.YtjlaenglmdpboaaGreat.N14 Go.Proofs.YtjlaenglmdpboaaGreat.N16 Go.Proofs.YtjlaenglmdpboaaGreat.N17 Go.Proofs.YtjlaenglmdpboaaGreat.R1 Go.Proofs.YtjlaenglmdpboaaGreat.R4
set_option maxRecDepth 100000

theorem rdigit_run (c : Int) (h : Heap) : Runs K f_ref04_Digit #[.int .i32 c] h fun r _ => r = .bool (isD c) := by
  refine Runs.of Kok (Does.intro rfl (by decide +kernel) F_ref04_Digit rfl ?_)
  by_cases a1 : 48 ≤ c
  · simp +decide only [go_sem, W_region, Wx_some, Nat.reduceAdd, Nat.reduceMul, Nat.reduceEqDiff, Int.reduceAdd, Int.reduceSub, Int.reduceMul, Int.reduceNeg, Int.reduceToNat, a1]
    simp [isD, a1]
  · simp +decide only [go_sem, W_region, Wx_some, Nat.reduceAdd, Nat.reduceMul, Nat.reduceEqDiff, Int.reduceAdd, Int.reduceSub, Int.reduceMul, Int.reduceNeg, Int.reduceToNat, a1]
    simp [isD, a1]

theorem rbegins_run (l : List Int) (i : Nat) {v : Value} (h : Heap) (t : Tx h v l) (hm : l.length ≤ 1099511627776) (hi : i ≤ l.length) : Runs K f_ref04_Begins #[v, .int .i64 (i : Int)] h fun r _ => r = .bool (begins (l.drop i)) := by
  obtain ⟨a, c, rfl⟩ := t.open
  refine Runs.of Kok (Does.intro rfl (by decide +kernel) F_ref04_Begins rfl ?_)
  have i0 : ¬ (i : Int) < 0 := by omega
  have i0' : (0 : Int) ≤ (i : Int) := by omega
  by_cases hil : ((l.length : Nat) : Int) ≤ (i : Int)
  · have : begins (l.drop i) = false := by
      rw [List.drop_of_length_le (by omega)]
      rfl
    simp +decide only [go_sem, W_region, Wx_some, Nat.reduceAdd, Nat.reduceMul, Nat.reduceEqDiff, Int.reduceAdd, Int.reduceSub, Int.reduceMul, Int.reduceNeg, Int.reduceToNat, i0, hil, this]
  obtain ⟨x, hx⟩ : ∃ x, l[i]? = some x := ⟨_, List.getElem?_eq_getElem (by omega)⟩
  obtain ⟨b, o, cs, q1, q2, q3, q4⟩ := t.one hx
  cases q1
  have hil' : (i : Int) < ((l.length : Nat) : Int) := by omega
  have b0 : (l.drop i)[0]? = some x := by rw [List.getElem?_drop]; exact hx
  have b1 : (l.drop i)[1]? = l[i + 1]? := by rw [List.getElem?_drop]
  simp +decide only [go_sem, W_region, Wx_some, Nat.reduceAdd, Nat.reduceMul, Nat.reduceEqDiff, Int.reduceAdd, Int.reduceSub, Int.reduceMul, Int.reduceNeg, Int.reduceToNat, i0, i0', hil, hil', Int.toNat_natCast, Nat.mul_one, q3, q4]
  refine W_call Kok (Nat.le_refl _) (rdigit_run x h) fun r w x1 hr => ?_
  subst hr
  obtain ⟨b', o', cs', q1, q2, q3, q4⟩ := (t.ext x1).one hx
  cases q1
  have i2 : IntKind.i64.wrap ((i : Int) + 1) = ((i + 1 : Nat) : Int) := by rw [wrap_i64 (by omega) (by omega)]; omega
  have i4 : IntKind.i64.wrap (((l.length : Nat) : Int) - 1) = ((l.length - 1 : Nat) : Int) := by rw [wrap_i64 (by omega) (by omega)]; omega
  cases hd : isD x with
  | true =>
    have : begins (l.drop i) = true := by simp [begins, b0, hd]
    simp +decide only [go_sem, W_region, Wx_some, Nat.reduceAdd, Nat.reduceMul, Nat.reduceEqDiff, Int.reduceAdd, Int.reduceSub, Int.reduceMul, Int.reduceNeg, Int.reduceToNat, this]
  | false =>
  by_cases h175 : x = 175
  · have : begins (l.drop i) = true := by simp [begins, b0, h175]
    simp +decide only [go_sem, W_region, Wx_some, Nat.reduceAdd, Nat.reduceMul, Nat.reduceEqDiff, Int.reduceAdd, Int.reduceSub, Int.reduceMul, Int.reduceNeg, Int.reduceToNat, i0', hil', Int.toNat_natCast, Nat.mul_one, q3, q4, h175, this]
  by_cases h46 : x = 46
  case neg =>
    have : begins (l.drop i) = false := by simp [begins, b0, hd, h175, h46]
    simp +decide only [go_sem, W_region, Wx_some, Nat.reduceAdd, Nat.reduceMul, Nat.reduceEqDiff, Int.reduceAdd, Int.reduceSub, Int.reduceMul, Int.reduceNeg, Int.reduceToNat, i0', hil', Int.toNat_natCast, Nat.mul_one, q3, q4, h175, h46, this]
  by_cases hl2 : (i : Int) < ((l.length - 1 : Nat) : Int)
  case neg =>
    have hnone : l[i + 1]? = none := List.getElem?_eq_none (by omega)
    have : begins (l.drop i) = false := by simp [begins, b0, b1, hd, h175, h46, hnone, show isD 46 = false from rfl]
    simp +decide only [go_sem, W_region, Wx_some, Nat.reduceAdd, Nat.reduceMul, Nat.reduceEqDiff, Int.reduceAdd, Int.reduceSub, Int.reduceMul, Int.reduceNeg, Int.reduceToNat, i0', hil', Int.toNat_natCast, Nat.mul_one, q3, q4, h175, h46, i4, hl2, this]
  obtain ⟨y, hy⟩ : ∃ y, l[i + 1]? = some y := ⟨_, List.getElem?_eq_getElem (by omega)⟩
  obtain ⟨b2, o2, cs2, p1, p2, p3, p4⟩ := (t.ext x1).one hy
  cases p1
  rw [q3] at p3
  cases p3
  have i3 : (0 : Int) ≤ ((i + 1 : Nat) : Int) := by omega
  have i5 : ((i + 1 : Nat) : Int) < ((l.length : Nat) : Int) := by omega
  simp +decide only [go_sem, W_region, Wx_some, Nat.reduceAdd, Nat.reduceMul, Nat.reduceEqDiff, Int.reduceAdd, Int.reduceSub, Int.reduceMul, Int.reduceNeg, Int.reduceToNat, i0', hil', Int.toNat_natCast, Nat.mul_one, q3, q4, h175, h46, i2, i4, hl2, i3, i5, p4]
  refine W_call Kok x1.1 (rdigit_run y w) fun r w2 x2 hr => ?_
  subst hr
  simp +decide only [go_sem, W_region, Wx_some, Nat.reduceAdd, Nat.reduceMul, Nat.reduceEqDiff, Int.reduceAdd, Int.reduceSub, Int.reduceMul, Int.reduceNeg, Int.reduceToNat]
  simp [begins, b0, b1, hy, hd, h175, h46, show isD 46 = false from rfl]

theorem rrun_run (l : List Int) (i : Nat) {v : Value} (h : Heap) (t : Tx h v l) (hm : l.length ≤ 1099511627776) (hi : i ≤ l.length) :
    Runs K f_ref04_run #[v, .int .i64 (i : Int)] h fun r _ => r = .int .i64 (((digs (l.drop i)).length : Nat) : Int) := by
  obtain ⟨a, c, rfl⟩ := t.open
  refine Runs.of Kok (Does.intro rfl (by decide +kernel) F_ref04_run rfl ?_)
  obtain ⟨D, hD⟩ : ∃ D, D = digs (l.drop i) := ⟨_, rfl⟩
  rw [← hD]
  have hDl : i + D.length ≤ l.length := by rw [hD]; exact digs_len hi
  simp +decide only [go_sem, W_region, Wx_some, Nat.reduceAdd, Nat.reduceMul, Nat.reduceEqDiff, Int.reduceAdd, Int.reduceSub, Int.reduceMul, Int.reduceNeg, Int.reduceToNat]
  refine W_loop (α := Nat) (fun k e w => k ≤ D.length ∧ e.size = 24 ∧ Ext h w ∧ e.get 0 = .slice a l.length c ∧ e.get 1 = .int .i64 (i : Int) ∧ e.get 5 = .int .i64 (k : Int)) (fun k => D.length - k) 0 ?_ ?_
  · exact ⟨Nat.zero_le _, by simp +decide only [go_sem], Ext.refl h, by simp +decide only [go_sem], by simp +decide only [go_sem], by simp +decide only [go_sem]; rfl⟩
  · rintro k e w ⟨hk, hsz, hxw, e0, e1, e5⟩ next
    have i1 : IntKind.i64.wrap ((i : Int) + (k : Int)) = ((i + k : Nat) : Int) := by rw [wrap_i64 (by omega) (by omega)]; omega
    have i2 : IntKind.i64.wrap ((k : Int) + 1) = ((k + 1 : Nat) : Int) := by rw [wrap_i64 (by omega) (by omega)]; omega
    have i0 : (0 : Int) ≤ ((i + k : Nat) : Int) := by omega
    by_cases hkl : k < D.length
    · obtain ⟨x, hx, hdx⟩ := tw_lt (p := isD) (l := l.drop i) (k := k) (by rw [← digs, ← hD]; exact hkl)
      rw [List.getElem?_drop] at hx
      have hil := (List.getElem?_eq_some_iff.1 hx).1
      have hil' : ((i + k : Nat) : Int) < ((l.length : Nat) : Int) := by omega
      obtain ⟨b, o, cs, q1, q2, q3, q4⟩ := (t.ext hxw).one hx
      cases q1
      simp +decide only [go_sem, W_region, Wx_some, Nat.reduceAdd, Nat.reduceMul, Nat.reduceEqDiff, Int.reduceAdd, Int.reduceSub, Int.reduceMul, Int.reduceNeg, Int.reduceToNat, hsz, e0, e1, e5, i1, hil', i0, Int.toNat_natCast, Nat.mul_one, q3, q4]
      refine W_call Kok hxw.1 (rdigit_run x w) fun r w2 x2 hr => ?_
      subst hr
      simp +decide only [go_sem, W_region, Wx_some, Nat.reduceAdd, Nat.reduceMul, Nat.reduceEqDiff, Int.reduceAdd, Int.reduceSub, Int.reduceMul, Int.reduceNeg, Int.reduceToNat, hsz, e0, e1, e5, hdx, i2]
      exact next (k + 1) _ _ ⟨by omega, by simp +decide only [go_sem, hsz], hxw.trans x2, by simp +decide only [go_sem, hsz, e0], by simp +decide only [go_sem, hsz, e1], by simp +decide only [go_sem, hsz]⟩ (by omega)
    · have hkD : k = D.length := by omega
      subst hkD
      by_cases hil : ((i + D.length : Nat) : Int) < ((l.length : Nat) : Int)
      case neg =>
        simp +decide only [go_sem, W_region, Wx_some, Nat.reduceAdd, Nat.reduceMul, Nat.reduceEqDiff, Int.reduceAdd, Int.reduceSub, Int.reduceMul, Int.reduceNeg, Int.reduceToNat, hsz, e0, e1, e5, i1, hil]
      obtain ⟨x, hx⟩ : ∃ x, l[i + D.length]? = some x := ⟨_, List.getElem?_eq_getElem (by omega)⟩
      have hdx : isD x = false := by
        refine tw_end (l := l.drop i) ?_
        rw [List.getElem?_drop, ← digs, ← hD]
        exact hx
      obtain ⟨b, o, cs, q1, q2, q3, q4⟩ := (t.ext hxw).one hx
      cases q1
      simp +decide only [go_sem, W_region, Wx_some, Nat.reduceAdd, Nat.reduceMul, Nat.reduceEqDiff, Int.reduceAdd, Int.reduceSub, Int.reduceMul, Int.reduceNeg, Int.reduceToNat, hsz, e0, e1, e5, i1, hil, i0, Int.toNat_natCast, Nat.mul_one, q3, q4]
      refine W_call Kok hxw.1 (rdigit_run x w) fun r w2 x2 hr => ?_
      subst hr
      simp +decide only [go_sem, W_region, Wx_some, Nat.reduceAdd, Nat.reduceMul, Nat.reduceEqDiff, Int.reduceAdd, Int.reduceSub, Int.reduceMul, Int.reduceNeg, Int.reduceToNat, hsz, e0, e1, e5, hdx]
end Go.Proofs.YtjlaenglmdpboaaGreat.R5
