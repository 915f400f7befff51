/- Proved here: HeadParses answers true at every line laid in memory that is only read. -/
import Derived.Test.YtjlaenglmdpboaaGreatQH8
set_option linter.unusedSimpArgs false
set_option linter.unusedVariables false
namespace Go.Im.Heads
open Go.Im.Lexing
theorem lexF_len : ∀ {f p : Nat} {s : List Int} {ts : List (Nat × Tk)}, lexF f p s = some ts → ts.length ≤ f
  | 0, p, s, ts, h => by cases h
  | f + 1, p, s, ts, h => by
    simp only [lexF] at h
    split at h
    · cases h
      simp
    · split at h
      · cases h
        simp
      · split at h
        · cases h
        · have := lexF_len h
          omega
        · obtain ⟨us, hu, rfl⟩ := Option.map_eq_some_iff.1 h
          have := lexF_len hu
          simp only [List.length_cons]
          omega
/-- What is known of a line's tokens. -/
def NT (ts : List (Nat × Tk)) : Prop := ∀ t ∈ ts, isN t = true → 0 < (wd t).size ∧ (wd t).size ≤ 96
theorem lex_nt {l : List Int} {ts : List (Nat × Tk)} (h : lex l = some ts) : NT ts ∧ ts.length ≤ 600 := by
  refine ⟨fun t ht hn => name_sizes (lex_ok h t ht (by simpa [isN] using hn)), ?_⟩
  unfold lex at h
  split at h
  · cases h
  · exact lexF_len h
theorem locT_ok : ∀ {ts : List (Nat × Tk)} {ls : List ByteArray}, NT ts → locT ts = some ls → (∀ y ∈ ls, y.size ≤ 96) ∧ ls.length ≤ ts.length
  | [], ls, _, h => by
    cases h
    simp
  | [a], ls, _, h => by cases h
  | a :: b :: r, ls, hN, h => by
    simp only [locT] at h
    split at h
    · rename_i hab
      simp only [Bool.and_eq_true] at hab
      obtain ⟨ms, hm, rfl⟩ := Option.map_eq_some_iff.1 h
      obtain ⟨h1, h2⟩ := locT_ok (fun t ht => hN t (by simp [ht])) hm
      refine ⟨fun y hy => ?_, by simp only [List.length_cons]; omega⟩
      rcases List.mem_cons.1 hy with rfl | hy
      · exact (hN b (by simp) hab.2).2
      · exact h1 y hy
    · cases h
theorem e96 : E.size ≤ 96 := by decide
theorem mem_tw {α : Type} {p : α → Bool} {t : α} : ∀ {l : List α}, t ∈ l.takeWhile p → p t = true
  | [], h => by simp at h
  | a :: l, h => by
    by_cases ha : p a = true
    · rw [List.takeWhile_cons_of_pos ha] at h
      rcases List.mem_cons.1 h with rfl | h
      · exact ha
      · exact mem_tw h
    · rw [List.takeWhile_cons_of_neg ha] at h
      simp at h
theorem resT_ok {ts : List (Nat × Tk)} (hN : NT ts) : (resT ts).1.size ≤ 96 ∧ NT (resT ts).2 ∧ (resT ts).2.length ≤ ts.length := by
  match ts, hN with
  | [], hN => exact ⟨e96, hN, Nat.le_refl _⟩
  | [a], hN => exact ⟨e96, hN, Nat.le_refl _⟩
  | a :: b :: r, hN =>
    simp only [resT]
    split
    · rename_i hab
      simp only [Bool.and_eq_true] at hab
      exact ⟨(hN a (by simp) hab.1).2, fun t ht => hN t (by simp [ht]), by simp only [List.length_cons]; omega⟩
    · exact ⟨e96, hN, Nat.le_refl _⟩
structure Good (x : HdT) : Prop where
  nm : x.nm.size ≤ 96
  re : x.re.size ≤ 96
  le : x.le.size ≤ 96
  ri : x.ri.size ≤ 96
  ls : ∀ y ∈ x.ls, y.size ≤ 96
  few : x.ls.length ≤ 600
  two : x.ri = E → x.le = E
theorem good_z : Good hdZ := ⟨by decide, by decide, by decide, by decide, by simp [hdZ], by simp [hdZ], fun _ => rfl⟩
theorem parseT_good {ts : List (Nat × Tk)} {x : HdT} (hN : NT ts) (hl : ts.length ≤ 600) (h : parseT ts = some x) : Good x := by
  obtain ⟨r1, r2, r3⟩ := resT_ok hN
  have hns : ∀ y ∈ ((resT ts).2.takeWhile isN).map wd, 0 < y.size ∧ y.size ≤ 96 := by
    intro y hy
    obtain ⟨t, ht, rfl⟩ := List.mem_map.1 hy
    exact r2 t ((List.takeWhile_prefix isN).sublist.subset ht) (mem_tw ht)
  unfold parseT at h
  simp only at h
  split at h
  · cases h
  · rename_i ls hls
    obtain ⟨l1, l2⟩ := locT_ok (fun t ht => r2 t (List.mem_of_mem_drop ht)) hls
    rw [List.length_drop] at l2
    split at h
    · cases h
    · rename_i y hy
      split at h
      · cases h
        have e0 : ∀ {p : Prop}, (E.size ≤ 96 → p) → p := fun f => f (by decide)
        generalize ((resT ts).2.takeWhile isN).map wd = ns at hns hy
        match ns, hns, hy with
        | [f], hns, hy =>
          cases hy
          exact ⟨(hns f (by simp)).2, r1, e96, e96, l1, by simp only; omega, fun _ => rfl⟩
        | [f, b], hns, hy =>
          cases hy
          exact ⟨(hns f (by simp)).2, r1, e96, (hns b (by simp)).2, l1, by simp only; omega, fun _ => rfl⟩
        | [a, f, b], hns, hy =>
          cases hy
          refine ⟨(hns f (by simp)).2, r1, (hns a (by simp)).2, (hns b (by simp)).2, l1, by simp only; omega, fun hh => ?_⟩
          simp only at hh
          have := (hns b (by simp)).1
          rw [hh] at this
          exact absurd this (by decide)
      · cases h
theorem hdp_good (l : List Int) : Good (hdp l).1 := by
  unfold hdp
  split
  · exact good_z
  · rename_i ts hts
    obtain ⟨h1, h2⟩ := lex_nt hts
    split
    · exact good_z
    · rename_i x hx
      exact parseT_good h1 h2 hx
end Go.Im.Heads
namespace Go.Proofs.YtjlaenglmdpboaaGreat.H9
open Go Go.Im Go.Im.Limbs Go.Im.Lexing Go.Im.Heads Go.Proofs Go.RowKit Go.Sort Go.Proofs.YtjlaenglmdpboaaGreat.Hd Go.Proofs.YtjlaenglmdpboaaGreat.N18 Go.Proofs.YtjlaenglmdpboaaGreat.N19 Go.Proofs.YtjlaenglmdpboaaGreat.N23 Go.Proofs.YtjlaenglmdpboaaGreat.N26 Go.Proofs.YtjlaenglmdpboaaGreat.R8 Go.Proofs.YtjlaenglmdpboaaGreat.R9 Go.Proofs.YtjlaenglmdpboaaGreat.T0 Go.Proofs.YtjlaenglmdpboaaGreat.H2 Go.Proofs.YtjlaenglmdpboaaGreat.H3 Go.Proofs.YtjlaenglmdpboaaGreat.H4 Go.Proofs.YtjlaenglmdpboaaGreat.H5 Go.Proofs.YtjlaenglmdpboaaGreat.H6 Go.Proofs.YtjlaenglmdpboaaGreat.H7 Go.Proofs.YtjlaenglmdpboaaGreat.H8
set_option maxRecDepth 100000

set_option maxHeartbeats 4000000 in
theorem hparses_run (l : List Int) (h : Heap) {a : Option Addr} {c : Nat} (sl : Sl h 1 a l.length c (rv l)) (hc : c = 0 ∨ c = big) :
    Runs K f_law23_HeadParses #[.slice a l.length c] h fun r _ => r = .bool true := by
  have t := Tx.all sl hc
  refine Runs.of Kok (Does.intro rfl (by decide +kernel) F_law23_HeadParses rfl ?_)
  by_cases h3 : (300 : Int) < ((l.length : Nat) : Int)
  · simp +decide only [go_sem, W_region, Wx_some, Nat.reduceAdd, Nat.reduceMul, Nat.reduceEqDiff, Int.reduceAdd, Int.reduceSub, Int.reduceMul, Int.reduceNeg, Int.reduceToNat, h3]
    refine W_call Kok (Nat.le_refl _) (law23_awake_runs h) fun r w x hr => ?_
    subst hr
    simp +decide only [go_sem, W_region, Wx_some, Nat.reduceAdd, Nat.reduceMul, Nat.reduceEqDiff, Int.reduceAdd, Int.reduceSub, Int.reduceMul, Int.reduceNeg, Int.reduceToNat]
  have G := hdp_good l
  simp +decide only [go_sem, W_region, Wx_some, Nat.reduceAdd, Nat.reduceMul, Nat.reduceEqDiff, Int.reduceAdd, Int.reduceSub, Int.reduceMul, Int.reduceNeg, Int.reduceToNat, h3]
  refine W_call Kok (Nat.le_refl _) (parse_run l h t (by omega)) fun r w1 x1 hr => ?_
  obtain ⟨pa, pc, rfl, s1⟩ := hr
  generalize hX : hdp l = X at s1 G
  obtain ⟨x, ok⟩ := X
  simp only at s1 G
  obtain ⟨w2, e2, x2, hs2, z2⟩ := lay1 w1 (.cells [.string ByteArray.empty, .string ByteArray.empty, .string ByteArray.empty, .string ByteArray.empty, .slice none 0 0] 5)
  obtain ⟨w3, e3, x3, hs3, z3, k3⟩ := put1 x2 (Nat.le_refl _) (.cells (hl x (.slice pa x.ls.length pc)) 5)
  have x03 := x1.trans x3
  have r2 := rparse_run l w3 (t.ext x03) (by omega)
  rw [hX] at r2
  simp only [hl] at e3 z3
  have j1 : h.size ≤ w1.size := x1.1
  simp +decide only [go_sem, W_region, Wx_some, Nat.reduceAdd, Nat.reduceMul, Nat.reduceEqDiff, Int.reduceAdd, Int.reduceSub, Int.reduceMul, Int.reduceNeg, Int.reduceToNat, hl, e2, z2, j1, e3]
  refine W_call Kok x03.1 r2 fun r w4 x4 hr => ?_
  obtain ⟨qa, qc, rfl, s4⟩ := hr
  simp only at s4
  obtain ⟨w5, e5, x5, hs5, z5⟩ := lay1 w4 (.cells [.string ByteArray.empty, .string ByteArray.empty, .string ByteArray.empty, .string ByteArray.empty, .slice none 0 0] 5)
  obtain ⟨w6, e6, x6, hs6, z6, k6⟩ := put1 x5 (Nat.le_refl _) (.cells (hl x (.slice qa x.ls.length qc)) 5)
  have j4 : h.size ≤ w4.size := (x03.trans x4).1
  simp only [hl] at e6 z6
  have y3 : w6.get w1.size = _ := ((x4.trans x6).2 _ (by omega)).trans z3
  have x06 := x03.trans (x4.trans x6)
  have sp := s1.ext (x3.trans (x4.trans x6))
  have sq := s4.ext x6
  simp +decide only [go_sem, Wx_some, Nat.reduceAdd, Nat.reduceMul, Nat.reduceEqDiff, Int.reduceAdd, Int.reduceSub, Int.reduceMul, Int.reduceNeg, Int.reduceToNat, hl, e5, z5, j4, e6]
  apply W_join (α := Unit) (fun _ e w => e.size = 60 ∧ w = w6 ∧ e.get 3 = .pointer (some ⟨w1.size, 0, none⟩) ∧ e.get 4 = .bool ok ∧ e.get 5 = .pointer (some ⟨w4.size, 0, none⟩) ∧ e.get 6 = .bool ok ∧ e.get 7 = .int .i64 (valT x))
  · intro cont
    (rw [W_region]; simp +decide only [go_sem, Wx_some, Nat.reduceAdd, Nat.reduceMul, Nat.reduceEqDiff, Int.reduceAdd, Int.reduceSub, Int.reduceMul, Int.reduceNeg, Int.reduceToNat])
    by_cases h1 : x.ri = E
    · have h1' : x.ri = ⟨#[]⟩ := h1
      have h2 := G.two h1
      have h2' : x.le = ⟨#[]⟩ := h2
      (rw [W_region]; simp +decide only [go_sem, Wx_some, Nat.reduceAdd, Nat.reduceMul, Nat.reduceEqDiff, Int.reduceAdd, Int.reduceSub, Int.reduceMul, Int.reduceNeg, Int.reduceToNat, z6, h1'])
      (rw [W_region]; simp +decide only [go_sem, Wx_some, Nat.reduceAdd, Nat.reduceMul, Nat.reduceEqDiff, Int.reduceAdd, Int.reduceSub, Int.reduceMul, Int.reduceNeg, Int.reduceToNat, z6, h2'])
      exact cont () _ _ ⟨by simp +decide only [go_sem], rfl, by simp +decide only [go_sem], by simp +decide only [go_sem], by simp +decide only [go_sem], by simp +decide only [go_sem], by simp only [valT, if_pos h1]; simp +decide only [go_sem, W_region, Wx_some, Nat.reduceAdd, Nat.reduceMul, Nat.reduceEqDiff, Int.reduceAdd, Int.reduceSub, Int.reduceMul, Int.reduceNeg, Int.reduceToNat]⟩
    · have h1' : ¬ x.ri = ⟨#[]⟩ := h1
      (rw [W_region]; simp +decide only [go_sem, Wx_some, Nat.reduceAdd, Nat.reduceMul, Nat.reduceEqDiff, Int.reduceAdd, Int.reduceSub, Int.reduceMul, Int.reduceNeg, Int.reduceToNat, z6, h1'])
      (rw [W_region]; simp +decide only [go_sem, Wx_some, Nat.reduceAdd, Nat.reduceMul, Nat.reduceEqDiff, Int.reduceAdd, Int.reduceSub, Int.reduceMul, Int.reduceNeg, Int.reduceToNat, z6])
      by_cases h2 : x.le = E
      · have h2' : x.le = ⟨#[]⟩ := h2
        (rw [W_region]; simp +decide only [go_sem, Wx_some, Nat.reduceAdd, Nat.reduceMul, Nat.reduceEqDiff, Int.reduceAdd, Int.reduceSub, Int.reduceMul, Int.reduceNeg, Int.reduceToNat, z6, h2'])
        exact cont () _ _ ⟨by simp +decide only [go_sem], rfl, by simp +decide only [go_sem], by simp +decide only [go_sem], by simp +decide only [go_sem], by simp +decide only [go_sem], by simp only [valT, if_neg h1, if_pos h2]; simp +decide only [go_sem, W_region, Wx_some, Nat.reduceAdd, Nat.reduceMul, Nat.reduceEqDiff, Int.reduceAdd, Int.reduceSub, Int.reduceMul, Int.reduceNeg, Int.reduceToNat]⟩
      · have h2' : ¬ x.le = ⟨#[]⟩ := h2
        (rw [W_region]; simp +decide only [go_sem, Wx_some, Nat.reduceAdd, Nat.reduceMul, Nat.reduceEqDiff, Int.reduceAdd, Int.reduceSub, Int.reduceMul, Int.reduceNeg, Int.reduceToNat, z6, h2'])
        (rw [W_region]; simp +decide only [go_sem, Wx_some, Nat.reduceAdd, Nat.reduceMul, Nat.reduceEqDiff, Int.reduceAdd, Int.reduceSub, Int.reduceMul, Int.reduceNeg, Int.reduceToNat, z6])
        exact cont () _ _ ⟨by simp +decide only [go_sem], rfl, by simp +decide only [go_sem], by simp +decide only [go_sem], by simp +decide only [go_sem], by simp +decide only [go_sem], by simp only [valT, if_neg h1, if_neg h2]; simp +decide only [go_sem, W_region, Wx_some, Nat.reduceAdd, Nat.reduceMul, Nat.reduceEqDiff, Int.reduceAdd, Int.reduceSub, Int.reduceMul, Int.reduceNeg, Int.reduceToNat]⟩
  rintro _ e w ⟨hsz, hw, g3, g4, g5, g6, g7⟩
  subst hw
  have hz : x.nm.size ≤ 1000000 ∧ x.re.size ≤ 1000000 ∧ x.le.size ≤ 1000000 ∧ x.ri.size ≤ 1000000 ∧ ∀ y ∈ x.ls, y.size ≤ 1000000 := ⟨Nat.le_trans G.nm (by decide), Nat.le_trans G.re (by decide), Nat.le_trans G.le (by decide), Nat.le_trans G.ri (by decide), fun y hy => Nat.le_trans (G.ls y hy) (by decide)⟩
  have few := G.few
  obtain ⟨pv, hpv⟩ : ∃ pv, pv = Value.agg (hl x (.slice pa x.ls.length pc)).toArray := ⟨_, rfl⟩
  obtain ⟨qv, hqv⟩ : ∃ qv, qv = Value.agg (hl x (.slice qa x.ls.length qc)).toArray := ⟨_, rfl⟩
  have keep : ∀ {u : Heap}, Ext w u → u.get w1.size = .cells [.string x.nm, .string x.re, .string x.le, .string x.ri, .slice pa x.ls.length pc] 5 ∧ u.get w4.size = .cells [.string x.nm, .string x.re, .string x.le, .string x.ri, .slice qa x.ls.length qc] 5 ∧ h.size ≤ u.size := fun k => ⟨(k.2 _ (by have := x4.1; omega)).trans y3, (k.2 _ (by omega)).trans z6, (x06.trans k).1⟩
  have ofR := fun (u : Heap) => of_run x (.slice pa x.ls.length pc) ⟨_, _, _, rfl⟩ u
  have saR := fun {u : Heap} (k : Ext w u) => same_run x u (sp.ext k) (sq.ext k) (by omega)
  have vaR := fun (u : Heap) => valence_run x (.slice pa x.ls.length pc) ⟨_, _, _, rfl⟩ u
  have nmR := fun {u : Heap} (k : Ext w u) => hnames_run x u (sp.ext k) (by omega)
  have rnR := fun {u : Heap} (k : Ext w u) => rnames_run x u (sq.ext k) (by omega)
  have txR := fun {u : Heap} (k : Ext w u) => text_run x u (sp.ext k) (by omega) hz
  have rtR := fun {u : Heap} (k : Ext w u) => rtext_run x u (sq.ext k) (by omega) hz
  simp only [hl] at ofR saR vaR nmR rnR txR rtR
  simp +decide only [go_sem, W_region, Wx_some, Nat.reduceAdd, Nat.reduceMul, Nat.reduceEqDiff, Int.reduceAdd, Int.reduceSub, Int.reduceMul, Int.reduceNeg, Int.reduceToNat, hsz, g3, y3]
  refine W_call Kok x06.1 (ofR w) fun r u1 k1 hr => ?_
  subst hr
  obtain ⟨a1, b1, c1⟩ := keep k1
  simp +decide only [go_sem, W_region, Wx_some, Nat.reduceAdd, Nat.reduceMul, Nat.reduceEqDiff, Int.reduceAdd, Int.reduceSub, Int.reduceMul, Int.reduceNeg, Int.reduceToNat, hsz, g5, b1]
  refine W_call Kok c1 (saR k1) fun r u2 k2 hr => ?_
  subst hr
  have K2 := k1.trans k2
  obtain ⟨a2, b2, c2⟩ := keep K2
  simp +decide only [go_sem, W_region, Wx_some, Nat.reduceAdd, Nat.reduceMul, Nat.reduceEqDiff, Int.reduceAdd, Int.reduceSub, Int.reduceMul, Int.reduceNeg, Int.reduceToNat, hsz, g3, g4, g6, a2]
  refine W_call Kok c2 (vaR u2) fun r u3 k3' hr => ?_
  subst hr
  have K3 := K2.trans k3'
  obtain ⟨a3, b3, c3⟩ := keep K3
  simp +decide only [go_sem, W_region, Wx_some, Nat.reduceAdd, Nat.reduceMul, Nat.reduceEqDiff, Int.reduceAdd, Int.reduceSub, Int.reduceMul, Int.reduceNeg, Int.reduceToNat, hsz, g3, g7, a3]
  refine W_call Kok c3 (nmR K3) fun r u4 k4 hr => ?_
  obtain ⟨m1, m2, rfl⟩ := hr.shape
  have n1 := hr.sl
  have K4 := K3.trans k4
  obtain ⟨a4, b4, c4⟩ := keep K4
  simp +decide only [go_sem, W_region, Wx_some, Nat.reduceAdd, Nat.reduceMul, Nat.reduceEqDiff, Int.reduceAdd, Int.reduceSub, Int.reduceMul, Int.reduceNeg, Int.reduceToNat, hsz, g5, b4]
  refine W_call Kok c4 (rnR K4) fun r u5 k5 hr => ?_
  obtain ⟨m3, m4, rfl⟩ := hr.shape
  have n2 := hr.sl
  have K5 := K4.trans k5
  obtain ⟨a5, b5, c5⟩ := keep K5
  simp +decide only [go_sem, W_region, Wx_some, Nat.reduceAdd, Nat.reduceMul, Nat.reduceEqDiff, Int.reduceAdd, Int.reduceSub, Int.reduceMul, Int.reduceNeg, Int.reduceToNat, hsz]
  refine W_call Kok c5 (texts_run x.names u5 (n1.ext k5) n2 (by have := names_len x; omega)) fun r u6 k6' hr => ?_
  obtain ⟨rfl, hw⟩ := hr
  have hw := hw.symm
  subst hw
  simp +decide only [go_sem, W_region, Wx_some, Nat.reduceAdd, Nat.reduceMul, Nat.reduceEqDiff, Int.reduceAdd, Int.reduceSub, Int.reduceMul, Int.reduceNeg, Int.reduceToNat, hsz, g3, a5]
  refine W_call Kok c5 (txR K5) fun r u7 k7 hr => ?_
  subst hr
  have K7 := K5.trans k7
  obtain ⟨a7, b7, c7⟩ := keep K7
  simp +decide only [go_sem, W_region, Wx_some, Nat.reduceAdd, Nat.reduceMul, Nat.reduceEqDiff, Int.reduceAdd, Int.reduceSub, Int.reduceMul, Int.reduceNeg, Int.reduceToNat, hsz, g5, b7]
  refine W_call Kok c7 (rtR K7) fun r u8 k8 hr => ?_
  subst hr
  simp +decide only [go_sem, W_region, Wx_some, Nat.reduceAdd, Nat.reduceMul, Nat.reduceEqDiff, Int.reduceAdd, Int.reduceSub, Int.reduceMul, Int.reduceNeg, Int.reduceToNat, hsz]
  refine W_call Kok (x06.trans (K7.trans k8)).1 (law23_awake_runs u8) fun r w x hr => ?_
  subst hr
  simp +decide only [go_sem, W_region, Wx_some, Nat.reduceAdd, Nat.reduceMul, Nat.reduceEqDiff, Int.reduceAdd, Int.reduceSub, Int.reduceMul, Int.reduceNeg, Int.reduceToNat, hsz]
end Go.Proofs.YtjlaenglmdpboaaGreat.H9
