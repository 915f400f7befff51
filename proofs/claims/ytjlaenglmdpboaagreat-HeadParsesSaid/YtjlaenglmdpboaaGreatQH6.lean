/- Proved here: a header's parts in memory; names at places; what a list of tokens is, step by step. -/
import Derived.Test.YtjlaenglmdpboaaGreatQH5
set_option linter.unusedSimpArgs false
set_option linter.unusedVariables false
namespace Go.Im.Heads
open Go.Im.Lexing
def nameAt (ts : List (Nat × Tk)) (i : Nat) : Bool := match ts[i]? with
  | some t => isN t
  | none => false
def fin (x : HdT) : Option HdT := if x.all.Nodup then some x else none
/-- What is still to come: names behind semicolons. -/
def restT (x : HdT) (ts : List (Nat × Tk)) : Option HdT := match locT ts with
  | none => none
  | some ls => fin { x with ls := x.ls ++ ls }
def hdp (l : List Int) : HdT × Bool := match lex l with
  | none => (hdZ, false)
  | some ts => match parseT ts with
    | none => (hdZ, false)
    | some x => (x, true)
theorem parseT_few {ts us : List (Nat × Tk)} {re : ByteArray} {k : Nat} (hr : resT ts = (re, us)) (hk : us.takeWhile isN = us.take k) (hle : k ≤ us.length) (h : k < 1 ∨ 3 < k) : parseT ts = none := by
  unfold parseT
  simp only [hr, hk]
  have hl : ((us.take k).map wd).length = k := by simp; omega
  have : ∀ ls, headT re ((us.take k).map wd) ls = none := by
    intro ls
    generalize (us.take k).map wd = ns at hl
    match ns, hl with
    | [], _ => rfl
    | [a], hl => simp at hl; omega
    | [a, b], hl => simp at hl; omega
    | [a, b, c], hl => simp at hl; omega
    | a :: b :: c :: d :: r, _ => rfl
  split
  · rfl
  · rw [this]
theorem parseT_one {ts us : List (Nat × Tk)} {re : ByteArray} {a : Nat × Tk} (hr : resT ts = (re, us)) (hk : us.takeWhile isN = us.take 1) (h0 : us[0]? = some a) : parseT ts = restT ⟨wd a, re, E, E, []⟩ (us.drop 1) := by
  have hn : us.take 1 = [a] := by
    match us, h0 with
    | x :: us, h0 => simp at h0; simp [h0]
  unfold parseT restT
  simp only [hr, hk, hn, List.map_cons, List.map_nil, List.length_singleton]
  cases locT (us.drop 1) <;> rfl
theorem parseT_two {ts us : List (Nat × Tk)} {re : ByteArray} {a b : Nat × Tk} (hr : resT ts = (re, us)) (hk : us.takeWhile isN = us.take 2) (h0 : us[0]? = some a) (h1 : us[1]? = some b) : parseT ts = restT ⟨wd a, re, E, wd b, []⟩ (us.drop 2) := by
  have hn : us.take 2 = [a, b] := by
    match us, h0, h1 with
    | x :: y :: us, h0, h1 => simp at h0 h1; simp [h0, h1]
  unfold parseT restT
  simp only [hr, hk, hn, List.map_cons, List.map_nil, List.length_cons, List.length_nil]
  cases locT (us.drop 2) <;> rfl
theorem parseT_three {ts us : List (Nat × Tk)} {re : ByteArray} {a b c : Nat × Tk} (hr : resT ts = (re, us)) (hk : us.takeWhile isN = us.take 3) (h0 : us[0]? = some a) (h1 : us[1]? = some b) (h2 : us[2]? = some c) : parseT ts = restT ⟨wd b, re, wd a, wd c, []⟩ (us.drop 3) := by
  have hn : us.take 3 = [a, b, c] := by
    match us, h0, h1, h2 with
    | x :: y :: z :: us, h0, h1, h2 => simp at h0 h1 h2; simp [h0, h1, h2]
  unfold parseT restT
  simp only [hr, hk, hn, List.map_cons, List.map_nil, List.length_cons, List.length_nil]
  cases locT (us.drop 3) <;> rfl
theorem restT_nil (x : HdT) : restT x [] = fin x := by
  simp only [restT, locT, List.append_nil]
theorem restT_step (x : HdT) {a b : Nat × Tk} {us : List (Nat × Tk)} : restT x (a :: b :: us) = if isM a.2 59 && isN b then restT { x with ls := x.ls ++ [wd b] } us else none := by
  simp only [restT, locT]
  by_cases h : (isM a.2 59 && isN b) = true
  · rw [if_pos h, if_pos h]
    cases locT us <;> simp
  · rw [if_neg h, if_neg h]
theorem restT_one (x : HdT) {a : Nat × Tk} : restT x [a] = none := rfl
end Go.Im.Heads
namespace Go.Proofs.YtjlaenglmdpboaaGreat.H6
open Go Go.Im Go.Im.Limbs Go.Im.Lexing Go.Im.Heads Go.Proofs Go.RowKit Go.Sort Go.Proofs.YtjlaenglmdpboaaGreat.Hd Go.Proofs.YtjlaenglmdpboaaGreat.N18 Go.Proofs.YtjlaenglmdpboaaGreat.N19 Go.Proofs.YtjlaenglmdpboaaGreat.N23 Go.Proofs.YtjlaenglmdpboaaGreat.N26 Go.Proofs.YtjlaenglmdpboaaGreat.R8 Go.Proofs.YtjlaenglmdpboaaGreat.R9 Go.Proofs.YtjlaenglmdpboaaGreat.T0 Go.Proofs.YtjlaenglmdpboaaGreat.H2 Go.Proofs.YtjlaenglmdpboaaGreat.H3 Go.Proofs.YtjlaenglmdpboaaGreat.H4 Go.Proofs.YtjlaenglmdpboaaGreat.H5
set_option maxRecDepth 100000

/-- A header that is being made, in a block of its own, beside all that there was. -/
structure SS (b0 : Heap) (q : Nat) (w : Heap) (x : HdT) (v : Value) : Prop where
  ext : Ext b0 w
  lq : b0.size ≤ q
  hq : q < w.size
  g : w.get q = .cells (hl x v) 5
  own : Own b0.size w 1 v x.ls.length (sv x.ls)
theorem SS.more {b0 w w' : Heap} {q : Nat} {x : HdT} {v : Value} (S : SS b0 q w x v) (k : Ext w w') : SS b0 q w' x v :=
  ⟨S.ext.trans k, S.lq, by have := S.hq; have := k.1; omega, (k.2 _ S.hq).trans S.g, S.own.ext k⟩
theorem SS.put {b0 w : Heap} {q : Nat} {x : HdT} {v : Value} (S : SS b0 q w x v) (x' : HdT) (hx : x'.ls = x.ls) : ∃ w', w.set q (.cells (hl x' v) 5) = w' ∧ SS b0 q w' x' v ∧ w'.size = w.size := by
  obtain ⟨w', e, k, hs, g, kk⟩ := put1 S.ext S.lq (.cells (hl x' v) 5)
  refine ⟨w', e, ⟨k, S.lq, by have := S.hq; omega, g, ?_⟩, hs⟩
  rw [hx]
  exact S.own.keep (Nat.le_refl _) fun b hb hv => ⟨kk b (fun e => (S.own.ne S.g (by omega)) (by rw [hv, e])), by omega⟩
theorem SS.app {b0 w : Heap} {q : Nat} {x : HdT} {v : Value} (S : SS b0 q w x v) {low : Nat} (hlow : low ≤ b0.size) (s : ByteArray) (hn : x.ls.length ≤ 1000) :
    ∃ w3 w4 w5 : Heap, w.push (.cells [.string s] 1) = w3 ∧ w3.get w.size = .cells [.string s] 1 ∧ w3.get q = .cells (hl x v) 5 ∧ iapp low w3 1 16 v 1 (some [.string s]) = some (.slice (some ⟨w3.size, 0, none⟩) (x.ls.length + 1) big, w4) ∧ w4.get q = .cells (hl x v) 5 ∧
      w4.set q (.cells (hl { x with ls := x.ls ++ [s] } (.slice (some ⟨w3.size, 0, none⟩) (x.ls.length + 1) big)) 5) = w5 ∧ SS b0 q w5 { x with ls := x.ls ++ [s] } (.slice (some ⟨w3.size, 0, none⟩) (x.ls.length + 1) big) := by
  obtain ⟨w3, e3, x3, hs3, z3⟩ := lay1 w (.cells [.string s] 1)
  have S3 := S.more x3
  obtain ⟨w4, e4, own4, hs4, k4⟩ := own_app (low := low) (bytes := 16) (k := 1) (new := [.string s]) (S3.own.keep hlow fun b hb _ => ⟨rfl, hb⟩) (Nat.le_trans hlow S3.ext.1) (by omega) (by omega) (by rfl) (by omega) (by omega)
  have hqv : vblk v ≠ some q := S3.own.ne S3.g (by omega)
  have g4 : w4.get q = .cells (hl x v) 5 := (k4 q S3.hq hqv).trans S3.g
  have hb3 := S3.ext.1
  have x4 : Ext b0 w4 := by
    refine ⟨by omega, fun b hb => ?_⟩
    rw [k4 b (by omega), S3.ext.2 b hb]
    rcases S3.own with ⟨rfl, _, _⟩ | ⟨b', rfl, hlo, _, _, _⟩
    · simp [vblk]
    · intro hh
      simp only [vblk, Option.some.injEq] at hh
      omega
  have own5 : Own b0.size w4 1 (.slice (some ⟨w3.size, 0, none⟩) (x.ls.length + 1) big) (x.ls.length + 1) (sv (x.ls ++ [s])) := by
    rw [sv_append]
    rcases own4 with ⟨hh, _⟩ | ⟨b, hh, h6, h7, h8, h9⟩
    · cases hh
    · cases hh
      exact .inr ⟨w3.size, rfl, hb3, h7, h8, h9⟩
  obtain ⟨w5, e5, x5, hs5, g5, k5⟩ := put1 x4 S.lq (.cells (hl { x with ls := x.ls ++ [s] } (.slice (some ⟨w3.size, 0, none⟩) (x.ls.length + 1) big)) 5)
  have hq3 := S3.hq
  refine ⟨w3, w4, w5, e3, z3, S3.g, e4, g4, e5, ⟨x5, S.lq, by omega, g5, ?_⟩⟩
  simp only [List.length_append, List.length_singleton]
  exact own5.keep (Nat.le_refl _) fun b hb hv => ⟨k5 b (fun e => by
    simp only [vblk, Option.some.injEq] at hv
    omega), by omega⟩

/-- Is the token at a place a name? -/
theorem name_run (ys : List XT) (h : Heap) {a : Option Addr} {c : Nat} (s : Sl h 8 a ys.length c (xcs ys)) (hA : ∀ x ∈ ys, Arr4 x.2) (hl : ys.length ≤ 1000) (i : Nat) : Runs K f_ref23_name #[.slice a ys.length c, .int .i64 (i : Int)] h fun r w => r = .bool (nameAt (ys.map (·.1)) i) ∧ w = h := by
  refine Runs.of Kok (Does.intro rfl (by decide +kernel) F_ref23_name rfl ?_)
  by_cases hil : (i : Int) < ((ys.length : Nat) : Int)
  · obtain ⟨Y, hY⟩ : ∃ Y, ys[i]? = some Y := ⟨_, List.getElem?_eq_getElem (by omega)⟩
    obtain ⟨b1, o1, cs1, rfl, p2, p3, p4, _, _, _, _, p5⟩ := Sl.tok8 s hA rfl hY
    have j0 : (0 : Int) ≤ (i : Int) := by omega
    simp +decide only [go_sem, W_region, Wx_some, Nat.reduceAdd, Nat.reduceMul, Nat.reduceEqDiff, Int.reduceAdd, Int.reduceSub, Int.reduceMul, Int.reduceNeg, Int.reduceToNat, hil, j0, Int.toNat_natCast, p3, p4, Nat.add_zero]
    simp only [nameAt, isN, List.getElem?_map, hY, Option.map_some, and_true]
    rw [show decide (((Y.1.2.kind : Nat) : Int) = 2) = decide (Y.1.2.kind = 2) from decide_eq_decide.2 (by omega)]
  · have : ys[i]? = none := List.getElem?_eq_none (by omega)
    simp +decide only [go_sem, W_region, Wx_some, Nat.reduceAdd, Nat.reduceMul, Nat.reduceEqDiff, Int.reduceAdd, Int.reduceSub, Int.reduceMul, Int.reduceNeg, Int.reduceToNat, hil]
    simp [nameAt, this]
end Go.Proofs.YtjlaenglmdpboaaGreat.H6
