/- Proved here: where the bracket or parenthesis begins that ends at a token, in the program and in the document. -/
import Derived.Test.YtjlaenglmdpboaaGreatQR9
set_option linter.unusedSimpArgs false
set_option linter.unusedVariables false
namespace Go.Im.Lexing
/-- Is a token a mark? -/
def isM (t : Tk) (c : Int) : Bool := decide (t.kind = 6) && decide (t.sign = c)
/-- One deeper, one less deep, or neither. -/
def deltaT (t : Tk) : Int := if isM t 41 || isM t 93 then 1 else if isM t 40 || isM t 91 then -1 else 0
/-- The place where what ends at a place begins; -1: nowhere. -/
def openT (ts : List (Nat × Tk)) : Nat → Int → Int
  | 0, _ => -1
  | k + 1, n => match ts[k]? with
    | none => -1
    | some t => if n + deltaT t.2 = 0 then (k : Int) else openT ts k (n + deltaT t.2)
theorem openT_at {ts : List (Nat × Tk)} {k : Nat} {t : Nat × Tk} (h : ts[k]? = some t) (n : Int) : openT ts (k + 1) n = if n + deltaT t.2 = 0 then (k : Int) else openT ts k (n + deltaT t.2) := by
  rw [openT, h]
/-- One deeper, or not; and one less deep, or not. -/
theorem delta_two (t : Tk) : deltaT t = (if isM t 41 || isM t 93 then 1 else 0) - (if isM t 40 || isM t 91 then 1 else 0) := by
  unfold deltaT isM
  by_cases hk : t.kind = 6
  · by_cases h1 : t.sign = 41
    · simp [hk, h1]
    · by_cases h2 : t.sign = 93
      · simp [hk, h2]
      · by_cases h3 : t.sign = 40
        · simp [hk, h3]
        · by_cases h4 : t.sign = 91
          · simp [hk, h4]
          · simp [hk, h1, h2, h3, h4]
  · simp [hk]
theorem delta_le (t : Tk) : -1 ≤ deltaT t ∧ deltaT t ≤ 1 := by
  unfold deltaT
  repeat' split
  all_goals omega
end Go.Im.Lexing
namespace Go.Proofs.YtjlaenglmdpboaaGreat.T0
open Go Go.Im Go.Im.Limbs Go.Im.Lexing Go.Proofs Go.RowKit Go.Proofs.YtjlaenglmdpboaaGreat.Hd Go.Proofs.YtjlaenglmdpboaaGreat.N18 Go.Proofs.YtjlaenglmdpboaaGreat.N19 Go.Proofs.YtjlaenglmdpboaaGreat.N23 Go.Proofs.YtjlaenglmdpboaaGreat.N26 Go.Proofs.YtjlaenglmdpboaaGreat.R8 Go.Proofs.YtjlaenglmdpboaaGreat.R9
set_option maxRecDepth 100000

theorem tok_len8 {x : XT} (h : Arr4 x.2) : (tc4 x.1 ++ x.2).length = 8 := by
  obtain ⟨a, n, c, b, a2, n2, c2, a3, n3, c3, h⟩ := h
  rw [h]
  rfl
theorem xcs_at8 : ∀ {xs : List XT} {i : Nat} {x : XT}, (∀ x ∈ xs, Arr4 x.2) → xs[i]? = some x → ((xcs xs).drop (i * 8)).take 8 = tc4 x.1 ++ x.2
  | [], i, x, _, h => by simp at h
  | y :: xs, 0, x, hA, h => by
    cases h
    have h1 := tok_len8 (hA y (by simp))
    simp only [xcs, List.flatMap_cons, Nat.zero_mul, List.drop_zero]
    rw [← h1, List.take_left']
    rfl
  | y :: xs, i + 1, x, hA, h => by
    have h1 := tok_len8 (hA y (by simp))
    have h2 := xcs_at8 (xs := xs) (i := i) (fun z hz => hA z (by simp [hz])) (by simpa using h)
    rw [← h2]
    simp only [xcs, List.flatMap_cons]
    have : (i + 1) * 8 = 8 + i * 8 := by omega
    rw [this, ← List.drop_drop, ← h1, List.drop_left']
    rfl
/-- A token in memory. -/
theorem Sl.tok8 {h : Heap} {a : Option Addr} {n c i : Nat} {xs : List XT} {x : XT} (s : Sl h 8 a n c (xcs xs)) (hA : ∀ x ∈ xs, Arr4 x.2) (hn : xs.length = n) (hx : xs[i]? = some x) :
    ∃ b o cs, a = some ⟨b, o, none⟩ ∧ b < h.size ∧ (h.get b).read = .cells cs 8 ∧ cs[o + i * 8]? = some (.int .i64 (x.1.2.kind : Int)) ∧ cs[o + i * 8 + 1]? = some (.int .i64 (x.1.1 : Int)) ∧ cs[o + i * 8 + 2]? = some (.string (runesBytes x.1.2.word)) ∧
      cs[o + i * 8 + 3]? = some (.int .i32 x.1.2.sign) ∧ (cs.drop (o + i * 8)).take 8 = tc4 x.1 ++ x.2 ∧ o + i * 8 + 8 ≤ cs.length := by
  have hi : i < n := by rw [← hn]; exact (List.getElem?_eq_some_iff.1 hx).1
  obtain ⟨b, o, cs, h1, h2, h3, h4, h5⟩ := s.at hi
  have h6 := xcs_at8 hA hx
  have h9 : i * 8 + 8 ≤ n * 8 := by omega
  rw [h5, List.drop_take, List.take_take, List.drop_drop, Nat.min_eq_left (by omega)] at h6
  have hj : ∀ j, j < 8 → cs[o + i * 8 + j]? = (tc4 x.1 ++ x.2)[j]? := by
    intro j hj
    rw [← h6, List.getElem?_take, if_pos hj, List.getElem?_drop]
  exact ⟨b, o, cs, h1, h2, h3, (hj 0 (by omega)).trans rfl, (hj 1 (by omega)).trans rfl, (hj 2 (by omega)).trans rfl, (hj 3 (by omega)).trans rfl, h6, by omega⟩

theorem is_run (x : Nat × Tk) {rest : List Value} (hA : Arr5 rest) (y : Int) (h : Heap) : Runs K f_token_Token_Is #[.agg (tc4 x ++ rest).toArray, .int .i32 y] h fun r _ => r = .bool (isM x.2 y) := by
  obtain ⟨a, n, c, b, a2, n2, c2, a3, n3, c3, m, rfl⟩ := hA
  refine Runs.of Kok (Does.intro rfl (by decide +kernel) F_token_Token_Is rfl ?_)
  obtain ⟨w0, e0, x0, hs0, z0⟩ := lay1 h (.cells [.int .i64 (x.2.kind : Int), .int .i64 (x.1 : Int), .string (runesBytes x.2.word), .int .i32 x.2.sign, .slice a n c, .bool b, .slice a2 n2 c2, .slice a3 n3 c3, .bool m] 9)
  simp only [tc4, List.cons_append, List.nil_append]
  by_cases hk : x.2.kind = 6
  · have hk' : ((x.2.kind : Nat) : Int) = 6 := by omega
    rw [hk'] at e0 z0
    simp +decide only [go_sem, W_region, Wx_some, Nat.reduceAdd, Nat.reduceMul, Nat.reduceEqDiff, Int.reduceAdd, Int.reduceSub, Int.reduceMul, Int.reduceNeg, Int.reduceToNat, hk', e0, z0]
    simp [isM, hk]
  · have hk' : ¬ ((x.2.kind : Nat) : Int) = 6 := by omega
    simp +decide only [go_sem, W_region, Wx_some, Nat.reduceAdd, Nat.reduceMul, Nat.reduceEqDiff, Int.reduceAdd, Int.reduceSub, Int.reduceMul, Int.reduceNeg, Int.reduceToNat, e0, z0, hk']
    simp [isM, hk]
theorem ris_run (x : Nat × Tk) {rest : List Value} (hA : Arr4 rest) (y : Int) (h : Heap) : Runs K f_ref22_Is #[.agg (tc4 x ++ rest).toArray, .int .i32 y] h fun r _ => r = .bool (isM x.2 y) := by
  obtain ⟨a, n, c, b, a2, n2, c2, a3, n3, c3, rfl⟩ := hA
  refine Runs.of Kok (Does.intro rfl (by decide +kernel) F_ref22_Is rfl ?_)
  obtain ⟨w0, e0, x0, hs0, z0⟩ := lay1 h (.cells [.int .i64 (x.2.kind : Int), .int .i64 (x.1 : Int), .string (runesBytes x.2.word), .int .i32 x.2.sign, .slice a n c, .bool b, .slice a2 n2 c2, .slice a3 n3 c3] 8)
  simp only [tc4, List.cons_append, List.nil_append]
  by_cases hk : x.2.kind = 6
  · have hk' : ((x.2.kind : Nat) : Int) = 6 := by omega
    rw [hk'] at e0 z0
    simp +decide only [go_sem, W_region, Wx_some, Nat.reduceAdd, Nat.reduceMul, Nat.reduceEqDiff, Int.reduceAdd, Int.reduceSub, Int.reduceMul, Int.reduceNeg, Int.reduceToNat, hk', e0, z0]
    simp [isM, hk]
  · have hk' : ¬ ((x.2.kind : Nat) : Int) = 6 := by omega
    simp +decide only [go_sem, W_region, Wx_some, Nat.reduceAdd, Nat.reduceMul, Nat.reduceEqDiff, Int.reduceAdd, Int.reduceSub, Int.reduceMul, Int.reduceNeg, Int.reduceToNat, e0, z0, hk']
    simp [isM, hk]
end Go.Proofs.YtjlaenglmdpboaaGreat.T0
