/- Proved here: the lexer takes numbers that stand side by side; of every line of up to 512 signs. -/
import Derived.Test.YtjlaenglmdpboaaGreatQN21
namespace Go.Proofs.YtjlaenglmdpboaaGreat.N22
open Go Go.Im Go.Im.Limbs Go.Im.Lexing Go.Proofs Go.RowKit Go.Proofs.YtjlaenglmdpboaaGreat.Hd Go.Proofs.YtjlaenglmdpboaaGreat.N1 Go.Proofs.YtjlaenglmdpboaaGreat.N10 Go.Proofs.YtjlaenglmdpboaaGreat.N13 Go.Proofs.YtjlaenglmdpboaaGreat.N15 Go.Proofs.YtjlaenglmdpboaaGreat.N16 Go.Proofs.YtjlaenglmdpboaaGreat.N17 Go.Proofs.YtjlaenglmdpboaaGreat.N18 Go.Proofs.YtjlaenglmdpboaaGreat.N19 Go.Proofs.YtjlaenglmdpboaaGreat.N20 Go.Proofs.YtjlaenglmdpboaaGreat.N21
set_option maxRecDepth 100000
set_option linter.unusedSimpArgs false
set_option linter.unusedVariables false

def RatS (l : List Value) : Prop := ∃ a n c b a2 n2 c2, l = [.slice a n c, .bool b, .slice a2 n2 c2]
theorem num_shape (h : Heap) {l : List Value} (hl : RatS l) : Runs K f_array_Num #[.agg l.toArray] h fun r _ => ∃ l, r = .agg l.toArray ∧ Arr5 l := by
  obtain ⟨a, n, c, s, a', n', c', rfl⟩ := hl
  refine Runs.of Kok (Does.intro rfl (by decide +kernel) F_array_Num rfl ?_)
  simp +decide only [go_sem, W_region, Wx_some, Nat.reduceAdd, Nat.reduceMul, Nat.reduceEqDiff, Int.reduceAdd, Int.reduceSub, Int.reduceMul, Int.reduceNeg, Int.reduceToNat]
  exact ⟨_, rfl, _, _, _, _, _, _, _, _, _, _, _, rfl⟩
/-- What was taken, and what is to come. -/
def addN (at' n to p : Nat) (r : Nat × Nat) : Nat × Nat := if r.1 = 0 then (n, to - at') else (n + r.1, p - at' + r.2)
theorem blanks_at {l : List Int} {p j : Nat} (h : j < blanks (l.drop p)) : l[p + j]? = some 32 := by
  obtain ⟨c, h1, h2⟩ := tw_lt h
  rw [List.getElem?_drop] at h1
  rw [h1]
  simpa using h2
theorem blanks_end {l : List Int} {p : Nat} {c : Int} (h : l[p + blanks (l.drop p)]? = some c) : ¬ c = 32 := by
  rw [← List.getElem?_drop] at h
  simpa using tw_end h
theorem blanks_len {l : List Int} {p : Nat} (h : p ≤ l.length) : p + blanks (l.drop p) ≤ l.length := by
  have := tw_le (p := fun c => decide (c = 32)) (l.drop p)
  rw [List.length_drop] at this
  unfold blanks
  omega

theorem numsF_succ (f : Nat) (s : List Int) : numsF (f + 1) s = if begins s then match readS s with
      | none => none
      | some k => match numsF f (s.drop (k + blanks (s.drop k))) with
        | none => none
        | some (0, _) => some (1, k)
        | some (n + 1, m) => some (n + 2, k + blanks (s.drop k) + m)
    else some (0, 0) := rfl
theorem numsF_pos {f : Nat} {s : List Int} {m : Nat} (hb : begins s = true) : numsF (f + 1) s ≠ some (0, m) := by
  intro hq
  rw [numsF_succ, hb, if_pos rfl] at hq
  split at hq
  · cases hq
  · split at hq <;> cases hq
theorem numbers_does {h0 h : Heap} (x : Ext h0 h) {l : List Int} {tv : Value} (t : Tx h0 tv l) (hm : l.length ≤ 512) {xb at' : Nat} {xs : List XT} (L : LX h0.size h xb tv at' xs) (hat : at' < l.length) (hbg : begins (l.drop at') = true) :
    Does K h0.size f_token_lexer_numbers #[.pointer (some ⟨xb, 0, none⟩)] h fun v h' => (numsF 600 (l.drop at') = none ∧ v = .bool false) ∨
      ∃ n m rest, numsF 600 (l.drop at') = some (n, m) ∧ v = .bool true ∧ Arr5 rest ∧ at' < at' + m ∧ at' + m ≤ l.length ∧ LX h0.size h' xb tv (at' + m) (xs ++ [((at', ⟨1, [], 0⟩), rest)]) := by
  have t' := t
  rcases t with ⟨rfl, _⟩ | ⟨b, o, cs, rfl, hb, hgb, hol, hcs⟩
  · simp at hat
  have hne : l ≠ [] := by
    rintro rfl
    simp at hat
  have L' := L
  obtain ⟨hl, hxb, hbd, hall, ov, hg, own, hv⟩ := L
  refine Does.intro rfl (by decide +kernel) F_token_lexer_numbers rfl ?_
  have k1 := x.1
  simp +decide only [go_sem, W_region, Wx_some, Nat.reduceAdd, Nat.reduceMul, Nat.reduceEqDiff, Int.reduceAdd, Int.reduceSub, Int.reduceMul, Int.reduceNeg, Int.reduceToNat, hg]
  refine W_loop (α := Nat × Nat × Nat × List (List Value) × Value) (fun k e w => at' ≤ k.2.1 ∧ k.2.1 ≤ k.1 ∧ k.1 ≤ l.length ∧ numsF 600 (l.drop at') = (numsF k.2.2.1 (l.drop k.1)).map (addN at' k.2.2.2.1.length k.2.1 k.1) ∧ 513 ≤ k.2.2.1 + k.1 ∧ e.size = 86 ∧ Ext h w ∧ e.get 0 = .pointer (some ⟨xb, 0, none⟩) ∧ e.get 3 = k.2.2.2.2 ∧ e.get 4 = .int .i64 (k.1 : Int) ∧ e.get 5 = .int .i64 (k.2.1 : Int) ∧
    Own h.size w 3 k.2.2.2.2 k.2.2.2.1.length k.2.2.2.1.flatten ∧ k.2.2.2.1.length ≤ k.1 ∧ (∀ q ∈ k.2.2.2.1, RatS q) ∧ (k.2.2.2.1.length = 0 → k.1 = at') ∧ (0 < k.2.2.2.1.length → at' < k.2.1)) (fun k => l.length - k.1) (at', at', 600, [], .slice none 0 0) ?_ ?_
  · refine ⟨Nat.le_refl _, Nat.le_refl _, by omega, ?_, by simp only; omega, by simp +decide only [go_sem], Ext.refl h, by simp +decide only [go_sem], by simp +decide only [go_sem], by simp +decide only [go_sem], by simp +decide only [go_sem], Own.nil _ _ _, by simp, by simp, by simp, by simp⟩
    simp only [List.length_nil]
    cases hq : numsF 600 (l.drop at') with
    | none => rfl
    | some r =>
      obtain ⟨n, m⟩ := r
      simp only [Option.map_some, addN, Nat.sub_self, Nat.zero_add, Option.some.injEq]
      split
      · rename_i h0'
        have h0' : n = 0 := h0'
        subst h0'
        exact absurd hq (numsF_pos (f := 599) hbg)
      · rfl
  · rintro ⟨p, to, f, qs, sv⟩ e w ⟨hp1, hp2, hp3, hnm, hf, hsz, hxw, e0, e3, e4, e5, owns, hqs, hrs, hz, hpos⟩ next
    simp only at hp1 hp2 hp3 hnm hf e3 e4 e5 owns hqs hrs hz hpos
    have x0w := x.trans hxw
    have hgw : w.get xb = _ := (hxw.2 _ hxb).trans hg
    obtain ⟨g, rfl⟩ : ∃ g, f = g + 1 := ⟨f - 1, by omega⟩
    cases hbp : begins (l.drop p) with
    | false =>
      have hn : numsF (g + 1) (l.drop p) = some (0, 0) := by rw [numsF_succ, hbp]; rfl
      rw [hn] at hnm
      simp only [Option.map_some, addN, if_true] at hnm
      have hq0 : 0 < qs.length := by
        refine Nat.pos_of_ne_zero fun hh => ?_
        have := hz hh
        subst this
        rw [hbg] at hbp
        cases hbp
      have hto := hpos hq0
      have htl : at' + (to - at') = to := by omega
      rw [hnm]
      simp +decide only [go_sem, W_region, Wx_some, Nat.reduceAdd, Nat.reduceMul, Nat.reduceEqDiff, Int.reduceAdd, Int.reduceSub, Int.reduceMul, Int.reduceNeg, Int.reduceToNat, hsz, e0, e3, e4, e5, hgw]
      refine W_call Kok x0w.1 (begins_run l p w (t'.ext x0w) (by omega) hp3) fun r w1 x1 hr => ?_
      rw [hbp] at hr
      subst hr
      have x01 := x0w.trans x1
      have owns1 := owns.ext x1
      obtain ⟨a, c, rfl⟩ := owns.shape
      by_cases h1 : qs.length = 1
      · obtain ⟨q, rfl⟩ := List.length_eq_one_iff.1 h1
        rcases owns1 with ⟨_, h2, _⟩ | ⟨sb, h2, h3, h4, h5, h6⟩
        · simp at h2
        cases h2
        have hq := hrs q (by simp)
        have hq' := hq
        obtain ⟨aa, na, ca, ba, ab, nb, cb, rfl⟩ := hq'
        have h5' : w1.get sb = .cells [.slice aa na ca, .bool ba, .slice ab nb cb] 3 := h5
        simp +decide only [go_sem, W_region, Wx_some, Nat.reduceAdd, Nat.reduceMul, Nat.reduceEqDiff, Int.reduceAdd, Int.reduceSub, Int.reduceMul, Int.reduceNeg, Int.reduceToNat, hsz, e0, e3, e4, e5, h5']
        refine W_call Kok x01.1 (num_shape w1 hq) fun r w2 x2 hr => ?_
        obtain ⟨_, rfl, a, n, c, bb, a2, n2, c2, a3, n3, c3, m, rfl⟩ := hr
        simp +decide only [go_sem, W_region, Wx_some, Nat.reduceAdd, Nat.reduceMul, Nat.reduceEqDiff, Int.reduceAdd, Int.reduceSub, Int.reduceMul, Int.reduceNeg, Int.reduceToNat, hsz, e0, e3, e4, e5]
        refine W_does rfl (add_does (x01.trans x2) (L'.ext (hxw.trans (x1.trans x2))) ⟨1, [], 0⟩ (to := to) (by omega) (by omega)) fun r w3 hr => ?_
        obtain ⟨rfl, hL⟩ := hr
        simp +decide only [go_sem, W_region, Wx_some, Nat.reduceAdd, Nat.reduceMul, Nat.reduceEqDiff, Int.reduceAdd, Int.reduceSub, Int.reduceMul, Int.reduceNeg, Int.reduceToNat, hsz]
        exact .inr ⟨_, _, _, rfl, ⟨_, _, _, _, _, _, _, _, _, _, _, rfl⟩, by omega, by omega, by rw [htl]; exact hL⟩
      · have h1' : ¬ ((qs.length : Nat) : Int) = 1 := by omega
        obtain ⟨w2, e2', x2, hs2, g2⟩ := lay1 w1 (.cells [.int .i64 ((qs.length : Nat) : Int)] 1)
        simp +decide only [go_sem, W_region, Wx_some, Nat.reduceAdd, Nat.reduceMul, Nat.reduceEqDiff, Int.reduceAdd, Int.reduceSub, Int.reduceMul, Int.reduceNeg, Int.reduceToNat, hsz, e0, e3, e4, e5, h1', e2']
        refine W_call Kok (x01.trans x2).1 (nums_run (v := .bool true) w2 g2 (by omega) hq0 (by omega) (owns1.ext x2).sl) fun r w3 x3 hr => ?_
        obtain ⟨_, m0, rfl, a, n, c, bb, a2, n2, c2, a3, n3, c3, m, rfl⟩ := hr
        have x03 := x01.trans (x2.trans x3)
        obtain ⟨w4, e4', x4, hs4, g4⟩ := lay1 w3 (.cells [.slice none 0 0, .bool false, .slice none 0 0, .slice none 0 0, .bool false] 5)
        obtain ⟨w5, e5', x5, hs5, g5, k5⟩ := put1 x4 (Nat.le_refl _) (.cells [.slice a n c, .bool bb, .slice a2 n2 c2, .slice a3 n3 c3, .bool m] 5)
        simp +decide only [go_sem, W_region, Wx_some, Nat.reduceAdd, Nat.reduceMul, Nat.reduceEqDiff, Int.reduceAdd, Int.reduceSub, Int.reduceMul, Int.reduceNeg, Int.reduceToNat, hsz, e0, e3, e4, e5, e4', g4, x03.1, e5', g5]
        refine W_does rfl (add_does (x03.trans x5) (L'.ext (hxw.trans (x1.trans (x2.trans (x3.trans x5))))) ⟨1, [], 0⟩ (to := to) (by omega) (by omega)) fun r w6 hr => ?_
        obtain ⟨rfl, hL⟩ := hr
        simp +decide only [go_sem, W_region, Wx_some, Nat.reduceAdd, Nat.reduceMul, Nat.reduceEqDiff, Int.reduceAdd, Int.reduceSub, Int.reduceMul, Int.reduceNeg, Int.reduceToNat, hsz]
        exact .inr ⟨_, _, _, rfl, ⟨_, _, _, _, _, _, _, _, _, _, _, rfl⟩, by omega, by omega, by rw [htl]; exact hL⟩
    | true =>
      have hunf : numsF (g + 1) (l.drop p) = match readS (l.drop p) with
        | none => none
        | some k => match numsF g (l.drop (p + (k + blanks (l.drop (p + k))))) with
          | none => none
          | some (0, _) => some (1, k)
          | some (n + 1, m) => some (n + 2, k + blanks (l.drop (p + k)) + m) := by
        rw [numsF_succ, hbp, if_pos rfl]
        simp only [List.drop_drop]
      simp +decide only [go_sem, W_region, Wx_some, Nat.reduceAdd, Nat.reduceMul, Nat.reduceEqDiff, Int.reduceAdd, Int.reduceSub, Int.reduceMul, Int.reduceNeg, Int.reduceToNat, hsz, e0, e3, e4, e5, hgw]
      refine W_call Kok x0w.1 (begins_run l p w (t'.ext x0w) (by omega) hp3) fun r w1 x1 hr => ?_
      rw [hbp] at hr
      subst hr
      have x01 := x0w.trans x1
      have hgw1 : w1.get xb = _ := ((hxw.trans x1).2 _ hxb).trans hg
      simp +decide only [go_sem, W_region, Wx_some, Nat.reduceAdd, Nat.reduceMul, Nat.reduceEqDiff, Int.reduceAdd, Int.reduceSub, Int.reduceMul, Int.reduceNeg, Int.reduceToNat, hsz, e0, e3, e4, e5, hgw1]
      refine W_call Kok x01.1 (read_run l p w1 (t'.ext x01) hne hm hp3 hbp) fun r w2 x2 hr => ?_
      have x02 := x01.trans x2
      have hgw2 : w2.get xb = _ := ((hxw.trans (x1.trans x2)).2 _ hxb).trans hg
      rcases hr with ⟨hrd, q, y, m, s, d, rfl, hrat⟩ | ⟨k, q, m, s, d, hrd, hk1, hk2, rfl, hrat⟩
      · obtain ⟨pp, qq, rfl, hp', hq'⟩ := hrat
        obtain ⟨aa, na, ca, rfl⟩ := natv_slice hp'
        obtain ⟨ab, nb, cb, rfl⟩ := natv_slice hq'
        obtain ⟨w4, e4', x4, hs4, g4⟩ := lay1 w2 (.cells [.slice none 0 0, .bool false, .slice none 0 0] 3)
        obtain ⟨w5, e5', x5, hs5, g5, k5⟩ := put1 x4 (Nat.le_refl _) (.cells [.slice aa na ca, .bool s, .slice ab nb cb] 3)
        rw [hunf, hrd] at hnm
        simp only [Option.map_none] at hnm
        simp +decide only [go_sem, W_region, Wx_some, Nat.reduceAdd, Nat.reduceMul, Nat.reduceEqDiff, Int.reduceAdd, Int.reduceSub, Int.reduceMul, Int.reduceNeg, Int.reduceToNat, hsz, e0, e3, e4, e5, e4', g4, x02.1, e5']
        simp [hnm]
      obtain ⟨pp, qq, rfl, hp', hq'⟩ := hrat
      obtain ⟨aa, na, ca, rfl⟩ := natv_slice hp'
      obtain ⟨ab, nb, cb, rfl⟩ := natv_slice hq'
      obtain ⟨w4, e4', x4, hs4, g4⟩ := lay1 w2 (.cells [.slice none 0 0, .bool false, .slice none 0 0] 3)
      obtain ⟨w5, e5', x5, hs5, g5, k5⟩ := put1 x4 (Nat.le_refl _) (.cells [.slice aa na ca, .bool s, .slice ab nb cb] 3)
      obtain ⟨w6, e6', x6, hs6, g6⟩ := lay1 w5 (.cells [.slice aa na ca, .bool s, .slice ab nb cb] 3)
      have xw6 : Ext h w6 := hxw.trans (x1.trans (x2.trans (x5.trans x6)))
      obtain ⟨w7, e7', own7, hs7, x7⟩ := own_app2 (bytes := 56) (k := 1) (new := [.slice aa na ca, .bool s, .slice ab nb cb]) k1 xw6 (owns.ext (x1.trans (x2.trans (x5.trans x6)))) (by omega) (by omega) rfl (by omega) (by omega)
      have hgw7 : w7.get xb = _ := (x7.2 _ hxb).trans hg
      obtain ⟨B, hB⟩ : ∃ B, B = blanks (l.drop (p + k)) := ⟨_, rfl⟩
      have hBl : p + k + B ≤ l.length := by rw [hB]; exact blanks_len hk1
      rw [hunf, hrd] at hnm
      simp only [← hB] at hnm
      simp +decide only [go_sem, W_region, Wx_some, Nat.reduceAdd, Nat.reduceMul, Nat.reduceEqDiff, Int.reduceAdd, Int.reduceSub, Int.reduceMul, Int.reduceNeg, Int.reduceToNat, hsz, e0, e3, e4, e5, e4', g4, x02.1, e5', g5, e6', g6, e7']
      refine W_loop (α := Nat) (fun j e w' => j ≤ B ∧ e.size = 86 ∧ w' = w7 ∧ e.get 0 = .pointer (some ⟨xb, 0, none⟩) ∧ e.get 3 = .slice (some ⟨w6.size, 0, none⟩) (qs.length + 1) big ∧ e.get 4 = .int .i64 ((p + k + j : Nat) : Int) ∧ e.get 5 = .int .i64 ((p + k : Nat) : Int)) (fun j => B - j) 0 ?_ ?_
      · exact ⟨Nat.zero_le _, by simp +decide only [go_sem, hsz], rfl, by simp +decide only [go_sem, hsz, e0], by simp +decide only [go_sem, hsz], by simp +decide only [go_sem, hsz], by simp +decide only [go_sem, hsz]⟩
      · rintro j e w' ⟨hj, hsz, rfl, e0, e3, e4, e5⟩ next2
        have x07 := x.trans x7
        by_cases hjB : j < B
        · have hy := blanks_at (l := l) (p := p + k) (j := j) (by rw [← hB]; exact hjB)
          have hil : ((p + k + j : Nat) : Int) < ((l.length : Nat) : Int) := by omega
          have i0 : (0 : Int) ≤ ((p + k + j : Nat) : Int) := by omega
          have i1 : IntKind.i64.wrap (((p + k + j : Nat) : Int) + 1) = ((p + k + (j + 1) : Nat) : Int) := by rw [wrap_i64 (by omega) (by omega)]; omega
          obtain ⟨b', o', cs', q1, q2, q3, q4⟩ := (t'.ext x07).one hy
          cases q1
          simp +decide only [go_sem, W_region, Wx_some, Nat.reduceAdd, Nat.reduceMul, Nat.reduceEqDiff, Int.reduceAdd, Int.reduceSub, Int.reduceMul, Int.reduceNeg, Int.reduceToNat, hsz, e0, e3, e4, e5, hgw7, hil, i0, Int.toNat_natCast, Nat.mul_one, q3, q4, i1]
          exact next2 (j + 1) _ _ ⟨by omega, by simp +decide only [go_sem, hsz], rfl, by simp +decide only [go_sem, hsz, e0], by simp +decide only [go_sem, hsz, e3], by simp +decide only [go_sem, hsz], by simp +decide only [go_sem, hsz, e5]⟩ (by omega)
        · have hjB' : j = B := by omega
          subst hjB'
          have fin : ∀ e1 : Env, e1.size = 86 → e1.get 0 = .pointer (some ⟨xb, 0, none⟩) → e1.get 3 = .slice (some ⟨w6.size, 0, none⟩) (qs.length + 1) big → e1.get 4 = .int .i64 ((p + k + j : Nat) : Int) → e1.get 5 = .int .i64 ((p + k : Nat) : Int) → _ :=
            fun e1 f1 f2 f3 f4 f5 => next (p + k + j, p + k, g, qs ++ [[.slice aa na ca, .bool s, .slice ab nb cb]], .slice (some ⟨w6.size, 0, none⟩) (qs.length + 1) big) e1 w' ⟨by simp only; omega, by simp only; omega, by simp only; omega, by
              rw [hnm]
              simp only
              rw [show p + (k + j) = p + k + j by omega]
              cases numsF g (l.drop (p + k + j)) with
              | none => rfl
              | some r =>
                obtain ⟨n, m⟩ := r
                cases n with
                | zero => simp [addN]; omega
                | succ n => simp [addN]; omega, by simp only; omega, f1, x7, f2, f3, f4, f5, by
              rw [List.flatten_append, List.length_append]
              exact own7, by simp; omega, by
              intro q hq
              rcases List.mem_append.1 hq with hq | hq
              · exact hrs q hq
              · rw [List.mem_singleton] at hq
                exact ⟨_, _, _, _, _, _, _, hq⟩, by simp, fun _ => by simp only; omega⟩ (by simp only; omega)
          by_cases hil : ((p + k + j : Nat) : Int) < ((l.length : Nat) : Int)
          case neg =>
            simp +decide only [go_sem, W_region, Wx_some, Nat.reduceAdd, Nat.reduceMul, Nat.reduceEqDiff, Int.reduceAdd, Int.reduceSub, Int.reduceMul, Int.reduceNeg, Int.reduceToNat, hsz, e0, e3, e4, e5, hgw7, hil]
            exact fin _ (by simp +decide only [go_sem, hsz]) (by simp +decide only [go_sem, hsz, e0]) (by simp +decide only [go_sem, hsz, e3]) (by simp +decide only [go_sem, hsz, e4]) (by simp +decide only [go_sem, hsz, e5])
          obtain ⟨y, hy⟩ : ∃ y, l[p + k + j]? = some y := ⟨_, List.getElem?_eq_getElem (by omega)⟩
          have hy32 : ¬ y = 32 := blanks_end (by rw [← hB]; exact hy)
          have i0 : (0 : Int) ≤ ((p + k + j : Nat) : Int) := by omega
          obtain ⟨b', o', cs', q1, q2, q3, q4⟩ := (t'.ext x07).one hy
          cases q1
          simp +decide only [go_sem, W_region, Wx_some, Nat.reduceAdd, Nat.reduceMul, Nat.reduceEqDiff, Int.reduceAdd, Int.reduceSub, Int.reduceMul, Int.reduceNeg, Int.reduceToNat, hsz, e0, e3, e4, e5, hgw7, hil, i0, Int.toNat_natCast, Nat.mul_one, q3, q4, hy32]
          exact fin _ (by simp +decide only [go_sem, hsz]) (by simp +decide only [go_sem, hsz, e0]) (by simp +decide only [go_sem, hsz, e3]) (by simp +decide only [go_sem, hsz, e4]) (by simp +decide only [go_sem, hsz, e5])
end Go.Proofs.YtjlaenglmdpboaaGreat.N22
