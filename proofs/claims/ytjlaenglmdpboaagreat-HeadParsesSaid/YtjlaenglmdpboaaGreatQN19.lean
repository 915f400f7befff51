/- Proved here: the lexer puts tokens down, and takes names and texts; of every line of up to 512 signs. -/
import Derived.Test.YtjlaenglmdpboaaGreatQN18
set_option linter.unusedSimpArgs false
set_option linter.unusedVariables false
namespace Go.Im
/-- An append to a slice of blocks that are newer than h. -/
theorem own_app2 {low : Nat} {h w : Heap} (hlow : low ≤ h.size) (x : Ext h w) {size bytes : Nat} {v : Value} {n k : Nat} {xs new : List Value} (H : Own h.size w size v n xs) (hs : 0 < size) (hk : 0 < k) (hn : new.length = k * size)
    (hb : 2 * (n + k) * bytes ≤ 140737488355328) (hc : n + k ≤ 4611686018427387904) :
    ∃ w', iapp low w size bytes v k (some new) = some (.slice (some ⟨w.size, 0, none⟩) (n + k) big, w') ∧ Own h.size w' size (.slice (some ⟨w.size, 0, none⟩) (n + k) big) (n + k) (xs ++ new) ∧ w'.size = w.size + 1 ∧ Ext h w' := by
  obtain ⟨w', h1, h2, h3, h4⟩ := own_app (H.keep hlow fun b hb _ => ⟨rfl, hb⟩) (Nat.le_trans hlow x.1) hs hk hn hb hc
  refine ⟨w', h1, ?_, h3, ⟨by have := x.1; omega, fun b hb => ?_⟩⟩
  · rcases h2 with ⟨h5, _⟩ | ⟨b, h5, _, h6, h7, h8⟩
    · cases h5
    · cases h5
      exact .inr ⟨w.size, rfl, x.1, h6, h7, h8⟩
  · rw [h4 b (by have := x.1; omega), x.2 b hb]
    rcases H with ⟨rfl, _⟩ | ⟨b', rfl, h5, _⟩
    · simp [vblk]
    · simp only [vblk, ne_eq, Option.some.injEq]
      omega
end Go.Im
namespace Go.Proofs.YtjlaenglmdpboaaGreat.N19
open Go Go.Im Go.Im.Limbs Go.Im.Lexing Go.Proofs Go.RowKit Go.Proofs.YtjlaenglmdpboaaGreat.Hd Go.Proofs.YtjlaenglmdpboaaGreat.N1 Go.Proofs.YtjlaenglmdpboaaGreat.N10 Go.Proofs.YtjlaenglmdpboaaGreat.N13 Go.Proofs.YtjlaenglmdpboaaGreat.N15 Go.Proofs.YtjlaenglmdpboaaGreat.N16 Go.Proofs.YtjlaenglmdpboaaGreat.N17 Go.Proofs.YtjlaenglmdpboaaGreat.N18
set_option maxRecDepth 100000
set_option linter.unusedSimpArgs false
set_option linter.unusedVariables false

abbrev XT : Type := (Nat × Tk) × List Value
def tc4 (t : Nat × Tk) : List Value := [.int .i64 (t.2.kind : Int), .int .i64 (t.1 : Int), .string (runesBytes t.2.word), .int .i32 t.2.sign]
/-- The cells of tokens. -/
def xcs (xs : List XT) : List Value := xs.flatMap fun (x : XT) => tc4 x.1 ++ x.2
theorem xcs_append (xs ys : List XT) : xcs (xs ++ ys) = xcs xs ++ xcs ys := by simp [xcs]
theorem xcs_one (x : XT) : xcs [x] = tc4 x.1 ++ x.2 := by simp [xcs]
/-- The lexer's state. -/
def LX (low : Nat) (h : Heap) (xb : Nat) (tv : Value) (at' : Nat) (xs : List XT) : Prop := low ≤ xb ∧ xb < h.size ∧ xs.length ≤ at' ∧ (∀ x ∈ xs, Arr5 x.2) ∧
  ∃ ov, h.get xb = .cells [tv, .int .i64 (at' : Int), ov] 3 ∧ Own low h 9 ov xs.length (xcs xs) ∧ vblk ov ≠ some xb
theorem LX.ext {low : Nat} {h w : Heap} {xb : Nat} {tv : Value} {at' : Nat} {xs : List XT} (L : LX low h xb tv at' xs) (x : Ext h w) : LX low w xb tv at' xs := by
  obtain ⟨h1, h2, h3, h4, ov, h5, h6, h7⟩ := L
  exact ⟨h1, Nat.lt_of_lt_of_le h2 x.1, h3, h4, ov, (x.2 _ h2).trans h5, h6.ext x, h7⟩

theorem add_does {h0 h : Heap} (x : Ext h0 h) {xb at' to : Nat} {tv : Value} {xs : List XT} (L : LX h0.size h xb tv at' xs) (tk : Tk) {a : Option Addr} {n c : Nat} {b : Bool} {a2 : Option Addr} {n2 c2 : Nat} {a3 : Option Addr} {n3 c3 : Nat} {m : Bool} {z : Int} (hat : at' ≤ 1000000) (hto : at' < to) :
    Does K h0.size f_token_lexer_add #[.pointer (some ⟨xb, 0, none⟩), .agg #[.int .i64 (tk.kind : Int), .int .i64 z, .string (runesBytes tk.word), .int .i32 tk.sign, .slice a n c, .bool b, .slice a2 n2 c2, .slice a3 n3 c3, .bool m], .int .i64 (to : Int)] h fun v h' => v = .bool true ∧ LX h0.size h' xb tv to (xs ++ [((at', tk), [.slice a n c, .bool b, .slice a2 n2 c2, .slice a3 n3 c3, .bool m])]) := by
  obtain ⟨hl, hb, hbd, hall, ov, hg, own, hv⟩ := L
  refine Does.intro rfl (by decide +kernel) F_token_lexer_add rfl ?_
  obtain ⟨w1, e1, x1, hs1, g1⟩ := lay1 h (.cells [.int .i64 (tk.kind : Int), .int .i64 z, .string (runesBytes tk.word), .int .i32 tk.sign, .slice a n c, .bool b, .slice a2 n2 c2, .slice a3 n3 c3, .bool m] 9)
  have hg1 : w1.get xb = _ := (x1.2 _ hb).trans hg
  obtain ⟨w2, e2, x2, hs2, g2, k2⟩ := put1 x1 (Nat.le_refl _) (.cells [.int .i64 (tk.kind : Int), .int .i64 (at' : Int), .string (runesBytes tk.word), .int .i32 tk.sign, .slice a n c, .bool b, .slice a2 n2 c2, .slice a3 n3 c3, .bool m] 9)
  have hg2 : w2.get xb = _ := (k2 _ (by omega)).trans hg1
  have k1 := x.1
  obtain ⟨w3, e3, x3, hs3, g3⟩ := lay1 w2 (.cells [.int .i64 (tk.kind : Int), .int .i64 (at' : Int), .string (runesBytes tk.word), .int .i32 tk.sign, .slice a n c, .bool b, .slice a2 n2 c2, .slice a3 n3 c3, .bool m] 9)
  have x03 := x.trans (x2.trans x3)
  have own3 := own.ext (x2.trans x3)
  have hg3 : w3.get xb = _ := (x3.2 _ (by omega)).trans hg2
  obtain ⟨w4, e4, own4, hs4, k4⟩ := own_app (bytes := 128) (k := 1) (new := [.int .i64 (tk.kind : Int), .int .i64 (at' : Int), .string (runesBytes tk.word), .int .i32 tk.sign, .slice a n c, .bool b, .slice a2 n2 c2, .slice a3 n3 c3, .bool m]) own3 x03.1 (by omega) (by omega) rfl (by omega) (by omega)
  have hg4 : w4.get xb = _ := (k4 _ (by omega) hv).trans hg3
  have x04 : Ext h0 w4 := by
    refine ⟨by have := x03.1; omega, fun q hq => ?_⟩
    rw [k4 q (by have := x03.1; omega) ?_, x03.2 q hq]
    rcases own with ⟨rfl, _⟩ | ⟨b', rfl, h5, _⟩
    · simp [vblk]
    · simp only [vblk, ne_eq, Option.some.injEq]
      omega
  obtain ⟨w5, e5, x5, hs5, g5, k5⟩ := put1 x04 hl (.cells [tv, .int .i64 (at' : Int), .slice (some ⟨w3.size, 0, none⟩) (xs.length + 1) big] 3)
  obtain ⟨w6, e6, x6, hs6, g6, k6⟩ := put1 x5 hl (.cells [tv, .int .i64 (to : Int), .slice (some ⟨w3.size, 0, none⟩) (xs.length + 1) big] 3)
  simp +decide only [go_sem, W_region, Wx_some, Nat.reduceAdd, Nat.reduceMul, Nat.reduceEqDiff, Int.reduceAdd, Int.reduceSub, Int.reduceMul, Int.reduceNeg, Int.reduceToNat, e1, hg1, g1, k1, e2, hg2, g2, e3, g3, e4, hg4, hl, e5, g5, e6]
  refine ⟨hl, by omega, by simp; exact Nat.lt_of_le_of_lt hbd hto, fun y hy => ?_, _, g6, ?_, ?_⟩
  · rcases List.mem_append.1 hy with hy | hy
    · exact hall y hy
    · rw [List.mem_singleton] at hy
      rw [hy]
      exact ⟨_, _, _, _, _, _, _, _, _, _, _, rfl⟩
  · rw [xcs_append, xcs_one, List.length_append, List.length_singleton]
    refine own4.keep (Nat.le_refl _) fun q hq hvq => ?_
    simp only [vblk, Option.some.injEq] at hvq
    exact ⟨(k6 q (by omega)).trans (k5 q (by omega)), by omega⟩
  · simp only [vblk, ne_eq, Option.some.injEq]
    omega
end Go.Proofs.YtjlaenglmdpboaaGreat.N19
