/- Proved here: where the bracket or parenthesis begins that ends at a token, in the program and in the document. -/
import Derived.Test.YtjlaenglmdpboaaQN26
set_option linter.unusedSimpArgs false
set_option linter.unusedVariables false
namespace Go.Im.Lexing
/-- Is a token a mark? -/
def isM (t : Tk) (c : Int) : Bool := decide (t.kind = 6) && decide (t.sign = c)
/-- One deeper, one less deep, or neither. -/
def deltaT (t : Tk) : Int := if isM t 41 || isM t 93 then 1 else if isM t 40 || isM t 91 then -1 else 0
/-- The place where what ends at a place begins; -1: nowhere. -/
def openT (ts : List (Nat × Tk)) : Nat → Int → Int
  | 0, _ => -1
  | k + 1, n => match ts[k]? with
    | none => -1
    | some t => if n + deltaT t.2 = 0 then (k : Int) else openT ts k (n + deltaT t.2)
theorem openT_at {ts : List (Nat × Tk)} {k : Nat} {t : Nat × Tk} (h : ts[k]? = some t) (n : Int) : openT ts (k + 1) n = if n + deltaT t.2 = 0 then (k : Int) else openT ts k (n + deltaT t.2) := by
  rw [openT, h]
/-- One deeper, or not; and one less deep, or not. -/
theorem delta_two (t : Tk) : deltaT t = (if isM t 41 || isM t 93 then 1 else 0) - (if isM t 40 || isM t 91 then 1 else 0) := by
  unfold deltaT isM
  by_cases hk : t.kind = 6
  · by_cases h1 : t.sign = 41
    · simp [hk, h1]
    · by_cases h2 : t.sign = 93
      · simp [hk, h2]
      · by_cases h3 : t.sign = 40
        · simp [hk, h3]
        · by_cases h4 : t.sign = 91
          · simp [hk, h4]
          · simp [hk, h1, h2, h3, h4]
  · simp [hk]
theorem delta_le (t : Tk) : -1 ≤ deltaT t ∧ deltaT t ≤ 1 := by
  unfold deltaT
  repeat' split
  all_goals omega
end Go.Im.Lexing
namespace Go.Proofs.Ytjlaenglmdpboaa.T9
open Go Go.Im Go.Im.Limbs Go.Im.Lexing Go.Proofs Go.RowKit Go.Proofs.Ytjlaenglmdpboaa.Hd Go.Proofs.Ytjlaenglmdpboaa.N18 Go.Proofs.Ytjlaenglmdpboaa.N19 Go.Proofs.Ytjlaenglmdpboaa.N23 Go.Proofs.Ytjlaenglmdpboaa.N26
set_option maxRecDepth 100000

theorem is_run (x : Nat × Tk) {rest : List Value} (hA : Arr5 rest) (y : Int) (h : Heap) : Runs K f_token_Token_Is #[.agg (tc4 x ++ rest).toArray, .int .i32 y] h fun r _ => r = .bool (isM x.2 y) := by
  obtain ⟨a, n, c, b, a2, n2, c2, a3, n3, c3, m, rfl⟩ := hA
  refine Runs.of Kok (Does.intro rfl (by decide +kernel) F_token_Token_Is rfl ?_)
  obtain ⟨w0, e0, x0, hs0, z0⟩ := lay1 h (.cells [.int .i64 (x.2.kind : Int), .int .i64 (x.1 : Int), .string (runesBytes x.2.word), .int .i32 x.2.sign, .slice a n c, .bool b, .slice a2 n2 c2, .slice a3 n3 c3, .bool m] 9)
  simp only [tc4, List.cons_append, List.nil_append]
  by_cases hk : x.2.kind = 6
  · have hk' : ((x.2.kind : Nat) : Int) = 6 := by omega
    rw [hk'] at e0 z0
    simp (decide := true) only [go_sem, W_region, Wx_some, Nat.reduceAdd, Nat.reduceMul, Nat.reduceEqDiff, Int.reduceAdd, Int.reduceSub, Int.reduceMul, Int.reduceNeg, Int.reduceToNat, hk', e0, z0]
    simp [isM, hk]
  · have hk' : ¬ ((x.2.kind : Nat) : Int) = 6 := by omega
    simp (decide := true) only [go_sem, W_region, Wx_some, Nat.reduceAdd, Nat.reduceMul, Nat.reduceEqDiff, Int.reduceAdd, Int.reduceSub, Int.reduceMul, Int.reduceNeg, Int.reduceToNat, e0, z0, hk']
    simp [isM, hk]
end Go.Proofs.Ytjlaenglmdpboaa.T9
