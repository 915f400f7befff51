/- Proved here: tokens in memory, cell by cell; no condition beyond those that each rule names. -/
import Derived.Test.YtjlaenglmdpboaaQN25
set_option linter.unusedSimpArgs false
set_option linter.unusedVariables false
namespace Go.Im
/-- An append to a slice of blocks that are newer than h, of any number of elements. -/
theorem own_any {low : Nat} {h w : Heap} (hlow : low ≤ h.size) (x : Ext h w) {size bytes : Nat} {v : Value} {n k : Nat} {xs new : List Value} (H : Own h.size w size v n xs) (hs : 0 < size) (hn : new.length = k * size)
    (hb : 2 * (n + k) * bytes ≤ 140737488355328) (hc : n + k ≤ 4611686018427387904) :
    ∃ a c w', iapp low w size bytes v k (some new) = some (.slice a (n + k) c, w') ∧ Own h.size w' size (.slice a (n + k) c) (n + k) (xs ++ new) ∧ Ext h w' ∧ (c = 0 ∨ c = big) := by
  by_cases h0 : k = 0
  · subst h0
    have hn0 : new = [] := List.eq_nil_of_length_eq_zero (by omega)
    subst hn0
    rcases H with ⟨rfl, rfl, rfl⟩ | ⟨b, rfl, h2, h3, h4, h5⟩
    · refine ⟨none, 0, w, ?_, .inl ⟨rfl, rfl, rfl⟩, x, .inl rfl⟩
      simp [iapp]
    · refine ⟨some ⟨b, 0, none⟩, big, w, ?_, .inr ⟨b, rfl, h2, h3, by rw [List.append_nil]; exact h4, by rw [List.append_nil]; exact h5⟩, x, .inr rfl⟩
      simp only [iapp, Nat.add_zero] at hb hc ⊢
      rw [if_neg (by omega), if_pos trivial]
  · obtain ⟨w', h1, h2, _, h4⟩ := own_app2 hlow x H hs (by omega) hn hb hc
    exact ⟨_, _, w', h1, h2, h4, .inr rfl⟩
end Go.Im
namespace Go.Proofs.Ytjlaenglmdpboaa.N26
open Go Go.Im Go.Im.Limbs Go.Im.Lexing Go.Proofs Go.RowKit Go.Proofs.Ytjlaenglmdpboaa.Hd Go.Proofs.Ytjlaenglmdpboaa.N1 Go.Proofs.Ytjlaenglmdpboaa.N15 Go.Proofs.Ytjlaenglmdpboaa.N16 Go.Proofs.Ytjlaenglmdpboaa.N17 Go.Proofs.Ytjlaenglmdpboaa.N18 Go.Proofs.Ytjlaenglmdpboaa.N19 Go.Proofs.Ytjlaenglmdpboaa.N23
set_option maxRecDepth 100000
set_option linter.unusedSimpArgs false
set_option linter.unusedVariables false

theorem tok_len {x : XT} (h : Arr5 x.2) : (tc4 x.1 ++ x.2).length = 9 := by
  obtain ⟨a, n, c, b, a2, n2, c2, a3, n3, c3, m, h⟩ := h
  rw [h]
  rfl
theorem xcs_at : ∀ {xs : List XT} {i : Nat} {x : XT}, (∀ x ∈ xs, Arr5 x.2) → xs[i]? = some x → ((xcs xs).drop (i * 9)).take 9 = tc4 x.1 ++ x.2
  | [], i, x, _, h => by simp at h
  | y :: xs, 0, x, hA, h => by
    cases h
    have h1 := tok_len (hA y (by simp))
    simp only [xcs, List.flatMap_cons, Nat.zero_mul, List.drop_zero]
    rw [← h1, List.take_left']
    rfl
  | y :: xs, i + 1, x, hA, h => by
    have h1 := tok_len (hA y (by simp))
    have h2 := xcs_at (xs := xs) (i := i) (fun z hz => hA z (by simp [hz])) (by simpa using h)
    rw [← h2]
    simp only [xcs, List.flatMap_cons]
    have : (i + 1) * 9 = 9 + i * 9 := by omega
    rw [this, ← List.drop_drop, ← h1, List.drop_left']
    rfl
/-- A token in memory. -/
theorem Sl.tok {h : Heap} {a : Option Addr} {n c i : Nat} {xs : List XT} {x : XT} (s : Sl h 9 a n c (xcs xs)) (hA : ∀ x ∈ xs, Arr5 x.2) (hn : xs.length = n) (hx : xs[i]? = some x) :
    ∃ b o cs, a = some ⟨b, o, none⟩ ∧ b < h.size ∧ (h.get b).read = .cells cs 9 ∧ cs[o + i * 9]? = some (.int .i64 (x.1.2.kind : Int)) ∧ cs[o + i * 9 + 1]? = some (.int .i64 (x.1.1 : Int)) ∧ cs[o + i * 9 + 2]? = some (.string (runesBytes x.1.2.word)) ∧
      cs[o + i * 9 + 3]? = some (.int .i32 x.1.2.sign) ∧ (cs.drop (o + i * 9)).take 9 = tc4 x.1 ++ x.2 ∧ o + i * 9 + 9 ≤ cs.length := by
  have hi : i < n := by rw [← hn]; exact (List.getElem?_eq_some_iff.1 hx).1
  obtain ⟨b, o, cs, h1, h2, h3, h4, h5⟩ := s.at hi
  have h6 := xcs_at hA hx
  have h9 : i * 9 + 9 ≤ n * 9 := by omega
  rw [h5, List.drop_take, List.take_take, List.drop_drop, Nat.min_eq_left (by omega)] at h6
  have hj : ∀ j, j < 9 → cs[o + i * 9 + j]? = (tc4 x.1 ++ x.2)[j]? := by
    intro j hj
    rw [← h6, List.getElem?_take, if_pos hj, List.getElem?_drop]
  exact ⟨b, o, cs, h1, h2, h3, (hj 0 (by omega)).trans rfl, (hj 1 (by omega)).trans rfl, (hj 2 (by omega)).trans rfl, (hj 3 (by omega)).trans rfl, h6, by omega⟩

end Go.Proofs.Ytjlaenglmdpboaa.N26
