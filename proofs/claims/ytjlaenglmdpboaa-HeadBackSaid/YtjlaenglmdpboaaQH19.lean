/- Proved here: HeadParses answers true at every line laid in memory that is only read. -/
import Derived.Test.YtjlaenglmdpboaaQH18
set_option linter.unusedSimpArgs false
set_option linter.unusedVariables false
namespace Go.Im.Heads
open Go.Im.Lexing
theorem lexF_len : ∀ {f p : Nat} {s : List Int} {ts : List (Nat × Tk)}, lexF f p s = some ts → ts.length ≤ f
  | 0, p, s, ts, h => by cases h
  | f + 1, p, s, ts, h => by
    simp only [lexF] at h
    split at h
    · cases h
      simp
    · split at h
      · cases h
        simp
      · split at h
        · cases h
        · have := lexF_len h
          omega
        · obtain ⟨us, hu, rfl⟩ := Option.map_eq_some_iff.1 h
          have := lexF_len hu
          simp only [List.length_cons]
          omega
/-- What is known of a line's tokens. -/
def NT (ts : List (Nat × Tk)) : Prop := ∀ t ∈ ts, isN t = true → 0 < (wd t).size ∧ (wd t).size ≤ 96
theorem lex_nt {l : List Int} {ts : List (Nat × Tk)} (h : lex l = some ts) : NT ts ∧ ts.length ≤ 600 := by
  refine ⟨fun t ht hn => name_sizes (lex_ok h t ht (by simpa [isN] using hn)), ?_⟩
  unfold lex at h
  split at h
  · cases h
  · exact lexF_len h
theorem locT_ok : ∀ {ts : List (Nat × Tk)} {ls : List ByteArray}, NT ts → locT ts = some ls → (∀ y ∈ ls, y.size ≤ 96) ∧ ls.length ≤ ts.length
  | [], ls, _, h => by
    cases h
    simp
  | [a], ls, _, h => by cases h
  | a :: b :: r, ls, hN, h => by
    simp only [locT] at h
    split at h
    · rename_i hab
      simp only [Bool.and_eq_true] at hab
      obtain ⟨ms, hm, rfl⟩ := Option.map_eq_some_iff.1 h
      obtain ⟨h1, h2⟩ := locT_ok (fun t ht => hN t (by simp [ht])) hm
      refine ⟨fun y hy => ?_, by simp only [List.length_cons]; omega⟩
      rcases List.mem_cons.1 hy with rfl | hy
      · exact (hN b (by simp) hab.2).2
      · exact h1 y hy
    · cases h
theorem e96 : E.size ≤ 96 := by decide
theorem mem_tw {α : Type} {p : α → Bool} {t : α} : ∀ {l : List α}, t ∈ l.takeWhile p → p t = true
  | [], h => by simp at h
  | a :: l, h => by
    by_cases ha : p a = true
    · rw [List.takeWhile_cons_of_pos ha] at h
      rcases List.mem_cons.1 h with rfl | h
      · exact ha
      · exact mem_tw h
    · rw [List.takeWhile_cons_of_neg ha] at h
      simp at h
theorem resT_ok {ts : List (Nat × Tk)} (hN : NT ts) : (resT ts).1.size ≤ 96 ∧ NT (resT ts).2 ∧ (resT ts).2.length ≤ ts.length := by
  match ts, hN with
  | [], hN => exact ⟨e96, hN, Nat.le_refl _⟩
  | [a], hN => exact ⟨e96, hN, Nat.le_refl _⟩
  | a :: b :: r, hN =>
    simp only [resT]
    split
    · rename_i hab
      simp only [Bool.and_eq_true] at hab
      exact ⟨(hN a (by simp) hab.1).2, fun t ht => hN t (by simp [ht]), by simp only [List.length_cons]; omega⟩
    · exact ⟨e96, hN, Nat.le_refl _⟩
structure Good (x : HdT) : Prop where
  nm : x.nm.size ≤ 96
  re : x.re.size ≤ 96
  le : x.le.size ≤ 96
  ri : x.ri.size ≤ 96
  ls : ∀ y ∈ x.ls, y.size ≤ 96
  few : x.ls.length ≤ 600
  two : x.ri = E → x.le = E
theorem good_z : Good hdZ := ⟨by decide, by decide, by decide, by decide, by simp [hdZ], by simp [hdZ], fun _ => rfl⟩
theorem parseT_good {ts : List (Nat × Tk)} {x : HdT} (hN : NT ts) (hl : ts.length ≤ 600) (h : parseT ts = some x) : Good x := by
  obtain ⟨r1, r2, r3⟩ := resT_ok hN
  have hns : ∀ y ∈ ((resT ts).2.takeWhile isN).map wd, 0 < y.size ∧ y.size ≤ 96 := by
    intro y hy
    obtain ⟨t, ht, rfl⟩ := List.mem_map.1 hy
    exact r2 t ((List.takeWhile_prefix isN).sublist.subset ht) (mem_tw ht)
  unfold parseT at h
  simp only at h
  split at h
  · cases h
  · rename_i ls hls
    obtain ⟨l1, l2⟩ := locT_ok (fun t ht => r2 t (List.mem_of_mem_drop ht)) hls
    rw [List.length_drop] at l2
    split at h
    · cases h
    · rename_i y hy
      split at h
      · cases h
        have e0 : ∀ {p : Prop}, (E.size ≤ 96 → p) → p := fun f => f (by decide)
        generalize ((resT ts).2.takeWhile isN).map wd = ns at hns hy
        match ns, hns, hy with
        | [f], hns, hy =>
          cases hy
          exact ⟨(hns f (by simp)).2, r1, e96, e96, l1, by simp only; omega, fun _ => rfl⟩
        | [f, b], hns, hy =>
          cases hy
          exact ⟨(hns f (by simp)).2, r1, e96, (hns b (by simp)).2, l1, by simp only; omega, fun _ => rfl⟩
        | [a, f, b], hns, hy =>
          cases hy
          refine ⟨(hns f (by simp)).2, r1, (hns a (by simp)).2, (hns b (by simp)).2, l1, by simp only; omega, fun hh => ?_⟩
          simp only at hh
          have := (hns b (by simp)).1
          rw [hh] at this
          exact absurd this (by decide)
      · cases h
theorem hdp_good (l : List Int) : Good (hdp l).1 := by
  unfold hdp
  split
  · exact good_z
  · rename_i ts hts
    obtain ⟨h1, h2⟩ := lex_nt hts
    split
    · exact good_z
    · rename_i x hx
      exact parseT_good h1 h2 hx
end Go.Im.Heads
namespace Go.Proofs.Ytjlaenglmdpboaa.H9
open Go Go.Im Go.Im.Limbs Go.Im.Lexing Go.Im.Heads Go.Proofs Go.RowKit Go.Sort Go.Proofs.Ytjlaenglmdpboaa.Hd Go.Proofs.Ytjlaenglmdpboaa.N18 Go.Proofs.Ytjlaenglmdpboaa.N19 Go.Proofs.Ytjlaenglmdpboaa.N23 Go.Proofs.Ytjlaenglmdpboaa.N26 Go.Proofs.Ytjlaenglmdpboaa.T9 Go.Proofs.Ytjlaenglmdpboaa.H2 Go.Proofs.Ytjlaenglmdpboaa.H3 Go.Proofs.Ytjlaenglmdpboaa.H4 Go.Proofs.Ytjlaenglmdpboaa.H5 Go.Proofs.Ytjlaenglmdpboaa.H6 Go.Proofs.Ytjlaenglmdpboaa.H8
set_option maxRecDepth 100000

end Go.Proofs.Ytjlaenglmdpboaa.H9
