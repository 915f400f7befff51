/- Proved here: labels of lines, in the program and in the document; HeadLabels answers true at every line laid in memory that is only read. -/
import Derived.Test.YtjlaenglmdpboaaGreatT1
set_option linter.unusedSimpArgs false
set_option linter.unusedVariables false
namespace Go.Im.Lexing
/-- A line's label, and what stands behind it. -/
def labelL (l : List Int) : ByteArray × List Int := match lex l with
  | some (t :: u :: _) => if t.2.kind = 2 ∧ isM u.2 58 = true then (runesBytes t.2.word, l.drop (u.1 + 1)) else (ByteArray.empty, l)
  | _ => (ByteArray.empty, l)
end Go.Im.Lexing
namespace Go.Proofs.YtjlaenglmdpboaaGreat.L1
open Go Go.Im Go.Im.Limbs Go.Im.Lexing Go.Proofs Go.RowKit Go.Proofs.YtjlaenglmdpboaaGreat.Hd Go.Proofs.YtjlaenglmdpboaaGreat.N18 Go.Proofs.YtjlaenglmdpboaaGreat.N19 Go.Proofs.YtjlaenglmdpboaaGreat.N23 Go.Proofs.YtjlaenglmdpboaaGreat.N26 Go.Proofs.YtjlaenglmdpboaaGreat.R8 Go.Proofs.YtjlaenglmdpboaaGreat.R9 Go.Proofs.YtjlaenglmdpboaaGreat.T1
set_option maxRecDepth 100000

theorem runes_run (l : List Int) {v u : Value} (h : Heap) (t : Tx h v l) (t2 : Tx h u l) (hm : l.length ≤ 1000000) : Runs K f_ref05_Runes #[v, u] h fun r w => r = .bool true ∧ w = h := by
  obtain ⟨a, c, rfl⟩ := t.open
  obtain ⟨b, d, rfl⟩ := t2.open
  refine Runs.of Kok (Does.intro rfl (by decide +kernel) F_ref05_Runes rfl ?_)
  simp (decide := true) only [go_sem, W_region, Wx_some, Nat.reduceAdd, Nat.reduceMul, Nat.reduceEqDiff, Int.reduceAdd, Int.reduceSub, Int.reduceMul, Int.reduceNeg, Int.reduceToNat]
  refine W_loop (α := Nat) (fun i e w => i ≤ l.length ∧ e.size = 26 ∧ w = h ∧ e.get 0 = .slice a l.length c ∧ e.get 1 = .slice b l.length d ∧ e.get 5 = .int .i64 (i : Int)) (fun i => l.length - i) 0 ?_ ?_
  · exact ⟨Nat.zero_le _, by simp (decide := true) only [go_sem], rfl, by simp (decide := true) only [go_sem], by simp (decide := true) only [go_sem], by simp (decide := true) only [go_sem]; rfl⟩
  · rintro i e w ⟨hi, hsz, rfl, e0, e1, e5⟩ next
    by_cases hil : (i : Int) < ((l.length : Nat) : Int)
    case neg =>
      simp (decide := true) only [go_sem, W_region, Wx_some, Nat.reduceAdd, Nat.reduceMul, Nat.reduceEqDiff, Int.reduceAdd, Int.reduceSub, Int.reduceMul, Int.reduceNeg, Int.reduceToNat, hsz, e0, e1, e5, hil]
    obtain ⟨y, hy⟩ : ∃ y, l[i]? = some y := ⟨_, List.getElem?_eq_getElem (by omega)⟩
    obtain ⟨b1, o1, cs1, q1, q2, q3, q4⟩ := t.one hy
    obtain ⟨b2, o2, cs2, p1, p2, p3, p4⟩ := t2.one hy
    cases q1
    cases p1
    have i0 : (0 : Int) ≤ (i : Int) := by omega
    have i1 : IntKind.i64.wrap ((i : Int) + 1) = ((i + 1 : Nat) : Int) := by rw [wrap_i64 (by omega) (by omega)]; omega
    simp (decide := true) only [go_sem, W_region, Wx_some, Nat.reduceAdd, Nat.reduceMul, Nat.reduceEqDiff, Int.reduceAdd, Int.reduceSub, Int.reduceMul, Int.reduceNeg, Int.reduceToNat, hsz, e0, e1, e5, hil, i0, Int.toNat_natCast, Nat.mul_one, q3, q4, p3, p4, i1]
    exact next (i + 1) _ _ ⟨by omega, by simp (decide := true) only [go_sem, hsz], rfl, by simp (decide := true) only [go_sem, hsz, e0], by simp (decide := true) only [go_sem, hsz, e1], by simp (decide := true) only [go_sem, hsz]⟩ (by omega)

theorem label_run (l : List Int) {v : Value} (h : Heap) (t : Tx h v l) (hm : l.length ≤ 1000000) : Runs K f_head_Label #[v] h fun r w => ∃ u, r = .tuple #[.string (labelL l).1, u] ∧ Tx w u (labelL l).2 := by
  obtain ⟨a, c, rfl⟩ := t.open
  refine Runs.of Kok (Does.intro rfl (by decide +kernel) F_head_Label rfl ?_)
  simp (decide := true) only [go_sem, W_region, Wx_some, Nat.reduceAdd, Nat.reduceMul, Nat.reduceEqDiff, Int.reduceAdd, Int.reduceSub, Int.reduceMul, Int.reduceNeg, Int.reduceToNat]
  refine W_call Kok (Nat.le_refl _) (lex_run h t) fun r w1 x1 hr => ?_
  have t1 := t.ext x1
  rcases hr with ⟨hlex, rfl⟩ | ⟨xs, a1, c1, hlex, hA, hxl, rfl, s1⟩
  · simp (decide := true) only [go_sem, W_region, Wx_some, Nat.reduceAdd, Nat.reduceMul, Nat.reduceEqDiff, Int.reduceAdd, Int.reduceSub, Int.reduceMul, Int.reduceNeg, Int.reduceToNat]
    unfold labelL
    rw [hlex]
    exact ⟨_, rfl, t1⟩
  by_cases h2 : ((xs.length : Nat) : Int) < 2
  · simp (decide := true) only [go_sem, W_region, Wx_some, Nat.reduceAdd, Nat.reduceMul, Nat.reduceEqDiff, Int.reduceAdd, Int.reduceSub, Int.reduceMul, Int.reduceNeg, Int.reduceToNat, h2]
    unfold labelL
    rw [hlex]
    match xs, h2 with
    | [], _ => exact ⟨_, rfl, t1⟩
    | [x], _ => exact ⟨_, rfl, t1⟩
    | _ :: _ :: _, h2 => simp at h2; omega
  obtain ⟨X, Y, rest, rfl⟩ : ∃ X Y rest, xs = X :: Y :: rest := by
    match xs, h2 with
    | [], h2 => simp at h2
    | [x], h2 => simp at h2
    | X :: Y :: rest, _ => exact ⟨_, _, _, rfl⟩
  have hris := lex_rising hlex
  obtain ⟨_, ⟨ch, hch, _⟩, _⟩ := hris.at (i := 1) (t := Y.1) rfl
  have hYl := (List.getElem?_eq_some_iff.1 hch).1
  have hne : l ≠ [] := by
    rintro rfl
    simp at hYl
  obtain ⟨b1, o1, cs1, p1, p2, p3, p4, _, p6, _, _, p5⟩ := Sl.tok (i := 0) s1 hA rfl rfl
  obtain ⟨b2, o2, cs2, r1, r2, r3, _, r4, _, _, r6, r5⟩ := Sl.tok (i := 1) s1 hA rfl rfl
  subst p1
  cases r1
  rw [p3] at r3
  cases r3
  have p4' : cs1[o1]? = some (.int .i64 (X.1.2.kind : Int)) := by simpa using p4
  have p6' : cs1[o1 + 2]? = some (.string (runesBytes X.1.2.word)) := by simpa using p6
  have r4' : cs1[o1 + 9 + 1]? = some (.int .i64 (Y.1.1 : Int)) := by simpa using r4
  have r5' : o1 + 9 + 9 ≤ cs1.length := by simpa using r5
  have r6' : (cs1.drop (o1 + 9)).take 9 = tc4 Y.1 ++ Y.2 := by simpa using r6
  have n0 : (0 : Int) < (((X :: Y :: rest).length : Nat) : Int) := by simp only [List.length_cons]; omega
  have n1 : (1 : Int) < (((X :: Y :: rest).length : Nat) : Int) := by simp only [List.length_cons]; omega
  have hYA := hA Y (by simp)
  have hspec : labelL l = if X.1.2.kind = 2 ∧ isM Y.1.2 58 = true then (runesBytes X.1.2.word, l.drop (Y.1.1 + 1)) else (ByteArray.empty, l) := by
    unfold labelL
    rw [hlex]
    rfl
  rw [hspec]
  generalize hL : (X :: Y :: rest).length = L at *
  by_cases hk : X.1.2.kind = 2
  case neg =>
    have hk' : ¬ ((X.1.2.kind : Nat) : Int) = 2 := by omega
    rw [if_neg (fun hh => hk hh.1)]
    simp (decide := true) only [go_sem, W_region, Wx_some, Nat.reduceAdd, Nat.reduceMul, Nat.reduceEqDiff, Int.reduceAdd, Int.reduceSub, Int.reduceMul, Int.reduceNeg, Int.reduceToNat, h2, n0, p3, p4', hk', Nat.add_zero, Nat.zero_mul]
    exact ⟨_, rfl, t1⟩
  have hk' : ((X.1.2.kind : Nat) : Int) = 2 := by omega
  simp (decide := true) only [go_sem, W_region, Wx_some, Nat.reduceAdd, Nat.reduceMul, Nat.reduceEqDiff, Int.reduceAdd, Int.reduceSub, Int.reduceMul, Int.reduceNeg, Int.reduceToNat, h2, n0, n1, p3, p4', hk', Nat.add_zero, Nat.zero_mul, Nat.one_mul, r5', r6']
  refine W_call Kok x1.1 (is_run Y.1 hYA 58 w1) fun r w2 x2 hr => ?_
  subst hr
  have t2 := t1.ext x2
  have p3' : (w2.get b1).read = .cells cs1 9 := by rw [x2.2 _ p2]; exact p3
  cases hm58 : isM Y.1.2 58 with
  | false =>
    rw [if_neg (by simp)]
    simp (decide := true) only [go_sem, W_region, Wx_some, Nat.reduceAdd, Nat.reduceMul, Nat.reduceEqDiff, Int.reduceAdd, Int.reduceSub, Int.reduceMul, Int.reduceNeg, Int.reduceToNat]
    exact ⟨_, rfl, t2⟩
  | true =>
  rw [if_pos ⟨hk, rfl⟩]
  have i1 : IntKind.i64.wrap (((Y.1.1 : Nat) : Int) + 1) = ((Y.1.1 + 1 : Nat) : Int) := by rw [wrap_i64 (by omega) (by omega)]; omega
  obtain ⟨a', c1', c2'⟩ := t2.rest hne (lo := Y.1.1 + 1) (by omega)
  simp (decide := true) only [go_sem, W_region, Wx_some, Nat.reduceAdd, Nat.reduceMul, Nat.reduceEqDiff, Int.reduceAdd, Int.reduceSub, Int.reduceMul, Int.reduceNeg, Int.reduceToNat, n0, n1, p3', p6', r4', Nat.add_zero, Nat.zero_mul, Nat.one_mul, i1, c1']
  exact ⟨_, rfl, c2'⟩

theorem name23_run (ys : List XT) (h : Heap) {a : Option Addr} {c : Nat} (s : Sl h 8 a ys.length c (xcs ys)) (hA : ∀ x ∈ ys, Arr4 x.2) (hl : ys.length ≤ 1000) (i : Nat) : Runs K f_ref23_name #[.slice a ys.length c, .int .i64 (i : Int)] h fun r w => r = .bool (match ys[i]? with
    | some y => decide (y.1.2.kind = 2)
    | none => false) ∧ w = h := by
  refine Runs.of Kok (Does.intro rfl (by decide +kernel) F_ref23_name rfl ?_)
  by_cases hil : (i : Int) < ((ys.length : Nat) : Int)
  · obtain ⟨Y, hY⟩ : ∃ Y, ys[i]? = some Y := ⟨_, List.getElem?_eq_getElem (by omega)⟩
    obtain ⟨b1, o1, cs1, rfl, p2, p3, p4, _, _, _, _, p5⟩ := Sl.tok8 s hA rfl hY
    have j0 : (0 : Int) ≤ (i : Int) := by omega
    simp (decide := true) only [go_sem, W_region, Wx_some, Nat.reduceAdd, Nat.reduceMul, Nat.reduceEqDiff, Int.reduceAdd, Int.reduceSub, Int.reduceMul, Int.reduceNeg, Int.reduceToNat, hil, j0, Int.toNat_natCast, p3, p4, Nat.add_zero]
    simp only [hY, and_true]
    rw [show decide (((Y.1.2.kind : Nat) : Int) = 2) = decide (Y.1.2.kind = 2) from decide_eq_decide.2 (by omega)]
  · have : ys[i]? = none := List.getElem?_eq_none (by omega)
    simp (decide := true) only [go_sem, W_region, Wx_some, Nat.reduceAdd, Nat.reduceMul, Nat.reduceEqDiff, Int.reduceAdd, Int.reduceSub, Int.reduceMul, Int.reduceNeg, Int.reduceToNat, hil]
    simp [this]

theorem rlabel_run (l : List Int) {v : Value} (h : Heap) (t : Tx h v l) (hm : l.length ≤ 512) : Runs K f_ref23_Label #[v] h fun r w => ∃ u, r = .tuple #[.string (labelL l).1, u] ∧ Tx w u (labelL l).2 := by
  obtain ⟨a, c, rfl⟩ := t.open
  refine Runs.of Kok (Does.intro rfl (by decide +kernel) F_ref23_Label rfl ?_)
  simp (decide := true) only [go_sem, W_region, Wx_some, Nat.reduceAdd, Nat.reduceMul, Nat.reduceEqDiff, Int.reduceAdd, Int.reduceSub, Int.reduceMul, Int.reduceNeg, Int.reduceToNat]
  refine W_call Kok (Nat.le_refl _) (rlex_run h t) fun r w1 x1 hr => ?_
  have t1 := t.ext x1
  rcases hr with ⟨hlex, rfl⟩ | ⟨xs, a1, c1, hlex, hA, hxl, rfl, s1⟩
  · simp (decide := true) only [go_sem, W_region, Wx_some, Nat.reduceAdd, Nat.reduceMul, Nat.reduceEqDiff, Int.reduceAdd, Int.reduceSub, Int.reduceMul, Int.reduceNeg, Int.reduceToNat]
    unfold labelL
    rw [hlex]
    exact ⟨_, rfl, t1⟩
  simp (decide := true) only [go_sem, W_region, Wx_some, Nat.reduceAdd, Nat.reduceMul, Nat.reduceEqDiff, Int.reduceAdd, Int.reduceSub, Int.reduceMul, Int.reduceNeg, Int.reduceToNat]
  refine W_call Kok x1.1 (name23_run xs w1 s1 hA (by omega) 0) fun r w2 x2 hr => ?_
  obtain ⟨rfl, rfl⟩ := hr
  match xs, hlex, hA, s1 with
  | [], hlex, hA, s1 =>
    simp (decide := true) only [go_sem, W_region, Wx_some, Nat.reduceAdd, Nat.reduceMul, Nat.reduceEqDiff, Int.reduceAdd, Int.reduceSub, Int.reduceMul, Int.reduceNeg, Int.reduceToNat]
    unfold labelL
    rw [hlex]
    exact ⟨_, rfl, t1⟩
  | [X], hlex, hA, s1 =>
    have hsp : labelL l = (ByteArray.empty, l) := by
      unfold labelL
      rw [hlex]
      rfl
    rw [hsp]
    by_cases hk : X.1.2.kind = 2
    · simp (decide := true) only [go_sem, W_region, Wx_some, Nat.reduceAdd, Nat.reduceMul, Nat.reduceEqDiff, Int.reduceAdd, Int.reduceSub, Int.reduceMul, Int.reduceNeg, Int.reduceToNat, hk]
      exact ⟨_, rfl, t1⟩
    · simp (decide := true) only [go_sem, W_region, Wx_some, Nat.reduceAdd, Nat.reduceMul, Nat.reduceEqDiff, Int.reduceAdd, Int.reduceSub, Int.reduceMul, Int.reduceNeg, Int.reduceToNat, hk]
      exact ⟨_, rfl, t1⟩
  | X :: Y :: rest, hlex, hA, s1 =>
  have hspec : labelL l = if X.1.2.kind = 2 ∧ isM Y.1.2 58 = true then (runesBytes X.1.2.word, l.drop (Y.1.1 + 1)) else (ByteArray.empty, l) := by
    unfold labelL
    rw [hlex]
    rfl
  rw [hspec]
  have hris := lex_rising hlex
  obtain ⟨_, ⟨ch, hch, _⟩, _⟩ := hris.at (i := 1) (t := Y.1) rfl
  have hYl := (List.getElem?_eq_some_iff.1 hch).1
  have hne : l ≠ [] := by
    rintro rfl
    simp at hYl
  obtain ⟨b1, o1, cs1, p1, p2, p3, _, _, p6, _, _, p5⟩ := Sl.tok8 (i := 0) s1 hA rfl rfl
  obtain ⟨b2, o2, cs2, r1, r2, r3, _, r4, _, _, r6, r5⟩ := Sl.tok8 (i := 1) s1 hA rfl rfl
  subst p1
  cases r1
  rw [p3] at r3
  cases r3
  have p6' : cs1[o1 + 2]? = some (.string (runesBytes X.1.2.word)) := by simpa using p6
  have r4' : cs1[o1 + 8 + 1]? = some (.int .i64 (Y.1.1 : Int)) := by simpa using r4
  have r5' : o1 + 8 + 8 ≤ cs1.length := by simpa using r5
  have r6' : (cs1.drop (o1 + 8)).take 8 = tc4 Y.1 ++ Y.2 := by simpa using r6
  have n0 : (0 : Int) < (((X :: Y :: rest).length : Nat) : Int) := by simp only [List.length_cons]; omega
  have n1 : (1 : Int) < (((X :: Y :: rest).length : Nat) : Int) := by simp only [List.length_cons]; omega
  have n2 : ¬ (((X :: Y :: rest).length : Nat) : Int) < 2 := by simp only [List.length_cons]; omega
  have hYA := hA Y (by simp)
  have hdk : (match (X :: Y :: rest)[0]? with
    | some y => decide (y.1.2.kind = 2)
    | none => false) = decide (X.1.2.kind = 2) := rfl
  rw [hdk]
  generalize hL : (X :: Y :: rest).length = L at *
  by_cases hk : X.1.2.kind = 2
  case neg =>
    rw [if_neg (fun hh => hk hh.1)]
    simp (decide := true) only [go_sem, W_region, Wx_some, Nat.reduceAdd, Nat.reduceMul, Nat.reduceEqDiff, Int.reduceAdd, Int.reduceSub, Int.reduceMul, Int.reduceNeg, Int.reduceToNat, hk]
    exact ⟨_, rfl, t1⟩
  simp (decide := true) only [go_sem, W_region, Wx_some, Nat.reduceAdd, Nat.reduceMul, Nat.reduceEqDiff, Int.reduceAdd, Int.reduceSub, Int.reduceMul, Int.reduceNeg, Int.reduceToNat, hk, n1, n2, p3, Nat.add_zero, Nat.zero_mul, Nat.one_mul, r5', r6']
  refine W_call Kok x1.1 (ris_run Y.1 hYA 58 w2) fun r w3 x3 hr => ?_
  subst hr
  have t2 := t1.ext x3
  have p3' : (w3.get b1).read = .cells cs1 8 := by rw [x3.2 _ p2]; exact p3
  cases hm58 : isM Y.1.2 58 with
  | false =>
    rw [if_neg (by simp)]
    simp (decide := true) only [go_sem, W_region, Wx_some, Nat.reduceAdd, Nat.reduceMul, Nat.reduceEqDiff, Int.reduceAdd, Int.reduceSub, Int.reduceMul, Int.reduceNeg, Int.reduceToNat]
    exact ⟨_, rfl, t2⟩
  | true =>
  rw [if_pos rfl]
  have i1 : IntKind.i64.wrap (((Y.1.1 : Nat) : Int) + 1) = ((Y.1.1 + 1 : Nat) : Int) := by rw [wrap_i64 (by omega) (by omega)]; omega
  obtain ⟨a', c1', c2'⟩ := t2.rest hne (lo := Y.1.1 + 1) (by omega)
  simp (decide := true) only [go_sem, W_region, Wx_some, Nat.reduceAdd, Nat.reduceMul, Nat.reduceEqDiff, Int.reduceAdd, Int.reduceSub, Int.reduceMul, Int.reduceNeg, Int.reduceToNat, n0, n1, p3', p6', r4', Nat.add_zero, Nat.zero_mul, Nat.one_mul, i1, c1']
  exact ⟨_, rfl, c2'⟩

theorem labels_run (l : List Int) (h : Heap) {a : Option Addr} {c : Nat} (sl : Sl h 1 a l.length c (rv l)) (hc : c = 0 ∨ c = big) :
    Runs K f_law23_HeadLabels #[.slice a l.length c] h fun r _ => r = .bool true := by
  have t := Tx.all sl hc
  refine Runs.of Kok (Does.intro rfl (by decide +kernel) F_law23_HeadLabels rfl ?_)
  by_cases h1 : (300 : Int) < ((l.length : Nat) : Int)
  · simp (decide := true) only [go_sem, W_region, Wx_some, Nat.reduceAdd, Nat.reduceMul, Nat.reduceEqDiff, Int.reduceAdd, Int.reduceSub, Int.reduceMul, Int.reduceNeg, Int.reduceToNat, h1]
    refine W_call Kok (Nat.le_refl _) (law23_awake_runs h) fun r w x hr => ?_
    subst hr
    simp (decide := true) only [go_sem, W_region, Wx_some, Nat.reduceAdd, Nat.reduceMul, Nat.reduceEqDiff, Int.reduceAdd, Int.reduceSub, Int.reduceMul, Int.reduceNeg, Int.reduceToNat]
  simp (decide := true) only [go_sem, W_region, Wx_some, Nat.reduceAdd, Nat.reduceMul, Nat.reduceEqDiff, Int.reduceAdd, Int.reduceSub, Int.reduceMul, Int.reduceNeg, Int.reduceToNat, h1]
  refine W_call Kok (Nat.le_refl _) (label_run l h t (by omega)) fun r w1 x1 hr => ?_
  obtain ⟨u, rfl, tu⟩ := hr
  simp (decide := true) only [go_sem, W_region, Wx_some, Nat.reduceAdd, Nat.reduceMul, Nat.reduceEqDiff, Int.reduceAdd, Int.reduceSub, Int.reduceMul, Int.reduceNeg, Int.reduceToNat]
  refine W_call Kok x1.1 (rlabel_run l w1 (t.ext x1) (by omega)) fun r w2 x2 hr => ?_
  obtain ⟨u2, rfl, tu2⟩ := hr
  have hll : (labelL l).2.length ≤ 1000000 := by
    unfold labelL
    split
    · split
      · simp only [List.length_drop]; omega
      · simp only; omega
    · simp only; omega
  simp (decide := true) only [go_sem, W_region, Wx_some, Nat.reduceAdd, Nat.reduceMul, Nat.reduceEqDiff, Int.reduceAdd, Int.reduceSub, Int.reduceMul, Int.reduceNeg, Int.reduceToNat]
  refine W_call Kok (x1.trans x2).1 (runes_run _ w2 (tu.ext x2) tu2 hll) fun r w3 x3 hr => ?_
  obtain ⟨rfl, rfl⟩ := hr
  simp (decide := true) only [go_sem, W_region, Wx_some, Nat.reduceAdd, Nat.reduceMul, Nat.reduceEqDiff, Int.reduceAdd, Int.reduceSub, Int.reduceMul, Int.reduceNeg, Int.reduceToNat]
  refine W_call Kok (x1.trans x2).1 (law23_awake_runs w3) fun r w x hr => ?_
  subst hr
  simp (decide := true) only [go_sem, W_region, Wx_some, Nat.reduceAdd, Nat.reduceMul, Nat.reduceEqDiff, Int.reduceAdd, Int.reduceSub, Int.reduceMul, Int.reduceNeg, Int.reduceToNat]
end Go.Proofs.YtjlaenglmdpboaaGreat.L1
