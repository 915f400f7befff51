/- Proved here: the document's header of every line. -/
import Derived.Test.YtjlaenglmdpboaaGreatQH6
set_option linter.unusedSimpArgs false
set_option linter.unusedVariables false
namespace Go.Im.Heads
open Go.Im.Lexing
theorem resT_a {ts : List (Nat × Tk)} (h : nameAt ts 0 = false) : resT ts = (E, ts) := by
  match ts, h with
  | [], _ => rfl
  | [a], _ => rfl
  | a :: b :: r, h =>
    simp only [nameAt, List.getElem?_cons_zero] at h
    simp [resT, h]
theorem resT_b {ts : List (Nat × Tk)} (h : ts.length ≤ 1) : resT ts = (E, ts) := by
  match ts, h with
  | [], _ => rfl
  | [a], _ => rfl
  | a :: b :: r, h => simp at h
theorem resT_c {ts : List (Nat × Tk)} {b : Nat × Tk} (h : ts[1]? = some b) (hm : isM b.2 8592 = false) : resT ts = (E, ts) := by
  match ts, h with
  | a :: b' :: r, h =>
    simp at h
    subst h
    simp [resT, hm]
theorem resT_d {ts : List (Nat × Tk)} {a b : Nat × Tk} (h0 : ts[0]? = some a) (hn : nameAt ts 0 = true) (h : ts[1]? = some b) (hm : isM b.2 8592 = true) : resT ts = (wd a, ts.drop 2) := by
  match ts, h0, h with
  | a' :: b' :: r, h0, h =>
    simp at h h0
    subst h h0
    simp only [nameAt, List.getElem?_cons_zero] at hn
    simp [resT, hm, hn]
theorem restT_bad1 (x : HdT) {a : Nat × Tk} {us : List (Nat × Tk)} (h : isM a.2 59 = false) : restT x (a :: us) = none := by
  cases us with
  | nil => rfl
  | cons b us => rw [restT_step, h]; rfl
theorem restT_bad2 (x : HdT) {a : Nat × Tk} {us : List (Nat × Tk)} (h : nameAt us 0 = false) : restT x (a :: us) = none := by
  cases us with
  | nil => rfl
  | cons b us =>
    simp only [nameAt, List.getElem?_cons_zero] at h
    rw [restT_step, h, Bool.and_false]
    rfl
theorem names_len (x : HdT) : x.names.length ≤ 3 + x.ls.length := by
  simp only [HdT.names, List.length_append]
  have := List.length_filter_le (fun s => !decide (s = E)) [x.re, x.le, x.ri]
  simp only [List.length_cons, List.length_nil] at this
  omega
end Go.Im.Heads
namespace Go.Proofs.YtjlaenglmdpboaaGreat.H7
open Go Go.Im Go.Im.Limbs Go.Im.Lexing Go.Im.Heads Go.Proofs Go.RowKit Go.Sort Go.Proofs.YtjlaenglmdpboaaGreat.Hd Go.Proofs.YtjlaenglmdpboaaGreat.N18 Go.Proofs.YtjlaenglmdpboaaGreat.N19 Go.Proofs.YtjlaenglmdpboaaGreat.N23 Go.Proofs.YtjlaenglmdpboaaGreat.N26 Go.Proofs.YtjlaenglmdpboaaGreat.R8 Go.Proofs.YtjlaenglmdpboaaGreat.R9 Go.Proofs.YtjlaenglmdpboaaGreat.T0 Go.Proofs.YtjlaenglmdpboaaGreat.H2 Go.Proofs.YtjlaenglmdpboaaGreat.H3 Go.Proofs.YtjlaenglmdpboaaGreat.H4 Go.Proofs.YtjlaenglmdpboaaGreat.H5 Go.Proofs.YtjlaenglmdpboaaGreat.H6
set_option maxRecDepth 100000

theorem own_lo {low : Nat} {h : Heap} {size n b : Nat} {v : Value} {xs : List Value} (H : Own low h size v n xs) (hv : vblk v = some b) : low ≤ b := by
  rcases H with ⟨rfl, _⟩ | ⟨b', rfl, h1, _⟩
  · simp [vblk] at hv
  · simp only [vblk, Option.some.injEq] at hv
    omega
/-- A token of the document's, by its place. -/
theorem tok8 {ys : List XT} {w : Heap} {a : Option Addr} {c : Nat} (s : Sl w 8 a ys.length c (xcs ys)) (hA : ∀ x ∈ ys, Arr4 x.2) {ts : List (Nat × Tk)} (hts : ts = ys.map (·.1)) {i : Nat} (hi : i < ts.length) :
    ∃ Y b o cs, ys[i]? = some Y ∧ ts[i]? = some Y.1 ∧ a = some ⟨b, o, none⟩ ∧ b < w.size ∧ (w.get b).read = .cells cs 8 ∧ cs[o + i * 8 + 2]? = some (.string (wd Y.1)) ∧ (cs.drop (o + i * 8)).take 8 = tc4 Y.1 ++ Y.2 ∧ o + i * 8 + 8 ≤ cs.length ∧ Arr4 Y.2 := by
  have hi' : i < ys.length := by rw [hts, List.length_map] at hi; exact hi
  obtain ⟨Y, hY⟩ : ∃ Y, ys[i]? = some Y := ⟨_, List.getElem?_eq_getElem hi'⟩
  have hYm : ts[i]? = some Y.1 := by rw [hts, List.getElem?_map, hY]; rfl
  obtain ⟨b1, o1, cs1, rfl, p2, p3, p4, _, p5, p6, p7, p8⟩ := Sl.tok8 s hA rfl hY
  exact ⟨Y, b1, o1, cs1, hY, hYm, rfl, p2, p3, p5, p7, p8, hA Y (List.mem_of_getElem? hY)⟩

set_option maxHeartbeats 4000000 in
theorem rparse_run (l : List Int) (h : Heap) {tv : Value} (t : Tx h tv l) (hm : l.length ≤ 600) :
    Runs K f_ref23_Parse #[tv] h fun r w => ∃ a c, r = .tuple #[.agg (hl (hdp l).1 (.slice a (hdp l).1.ls.length c)).toArray, .bool (hdp l).2] ∧ Sl w 1 a (hdp l).1.ls.length c (sv (hdp l).1.ls) := by
  obtain ⟨ta, tc, rfl⟩ := t.open
  refine Runs.of Kok (Does.intro rfl (by decide +kernel) F_ref23_Parse rfl ?_)
  obtain ⟨w0, e0, x0, hs0, z0⟩ := lay1 h (.cells [.string ByteArray.empty, .string ByteArray.empty, .string ByteArray.empty, .string ByteArray.empty, .slice none 0 0] 5)
  have j0 : h.size ≤ h.size := Nat.le_refl _
  have fin0 : ∀ (w : Heap) (C : List Value), Ext h w → ∃ w', w.set h.size (.cells C 5) = w' ∧ w'.get h.size = .cells C 5 ∧ w'.size = w.size ∧ ∀ b, b ≠ h.size → w'.get b = w.get b := fun w C xw => by
    obtain ⟨w1, e1, x1, hs1, g1, k1⟩ := put1 xw j0 (.cells C 5)
    exact ⟨w1, e1, g1, hs1, k1⟩
  simp +decide only [go_sem, W_region, Wx_some, Nat.reduceAdd, Nat.reduceMul, Nat.reduceEqDiff, Int.reduceAdd, Int.reduceSub, Int.reduceMul, Int.reduceNeg, Int.reduceToNat, e0]
  refine W_call Kok x0.1 (rlex_run w0 (t.ext x0)) fun r w1 x1 hr => ?_
  have x01 := x0.trans x1
  rcases hr with ⟨hlex, rfl⟩ | ⟨ys, a, c, hlex, hA, hyl, rfl, s1⟩
  · have hp : hdp l = (hdZ, false) := by simp only [hdp, hlex]
    obtain ⟨w', ew, gw, _⟩ := fin0 w1 [.string ByteArray.empty, .string ByteArray.empty, .string ByteArray.empty, .string ByteArray.empty, .slice none 0 0] x01
    have z1 : w1.get h.size = _ := (x1.2 _ (by omega)).trans z0
    simp +decide only [go_sem, W_region, Wx_some, Nat.reduceAdd, Nat.reduceMul, Nat.reduceEqDiff, Int.reduceAdd, Int.reduceSub, Int.reduceMul, Int.reduceNeg, Int.reduceToNat, z1, j0, ew, gw]
    rw [hp]
    exact ⟨none, 0, rfl, Sl.nil _ _⟩
  obtain ⟨ts, hts⟩ : ∃ ts, ts = ys.map (·.1) := ⟨_, rfl⟩
  have hlen : ts.length = ys.length := by rw [hts, List.length_map]
  rw [← hts] at hlex
  have hbad : parseT ts = none → hdp l = (hdZ, false) := fun hn => by simp only [hdp, hlex, hn]
  obtain ⟨w2, e2, x2, hs2, z2⟩ := lay1 w1 (.cells [.string ByteArray.empty, .string ByteArray.empty, .string ByteArray.empty, .string ByteArray.empty, .slice none 0 0] 5)
  have S2 : SS w1 w1.size w2 hdZ (.slice none 0 0) := ⟨x2, Nat.le_refl _, by omega, z2, Own.nil _ _ _⟩
  have q1 : h.size ≤ w1.size := x01.1
  have q1' : h.size < w1.size := by have := x1.1; omega
  have zz : ∀ {w x v}, SS w1 w1.size w x v → w.get h.size = .cells [.string ByteArray.empty, .string ByteArray.empty, .string ByteArray.empty, .string ByteArray.empty, .slice none 0 0] 5 := fun S => (S.ext.2 _ q1').trans ((x1.2 _ (by omega)).trans z0)
  apply W_join (α := ByteArray × Nat) (fun k e w => e.size = 118 ∧ SS w1 w1.size w ⟨E, k.1, E, E, []⟩ (.slice none 0 0) ∧ e.get 2 = .pointer (some ⟨h.size, 0, none⟩) ∧ e.get 4 = .slice a ys.length c ∧ e.get 6 = .pointer (some ⟨w1.size, 0, none⟩) ∧ e.get 7 = .int .i64 (k.2 : Int) ∧ k.2 ≤ ts.length ∧ resT ts = (k.1, ts.drop k.2))
  · intro cont
    simp +decide only [go_sem, Wx_some, Nat.reduceAdd, Nat.reduceMul, Nat.reduceEqDiff, Int.reduceAdd, Int.reduceSub, Int.reduceMul, Int.reduceNeg, Int.reduceToNat]
    (rw [W_region]; simp +decide only [go_sem, Wx_some, Nat.reduceAdd, Nat.reduceMul, Nat.reduceEqDiff, Int.reduceAdd, Int.reduceSub, Int.reduceMul, Int.reduceNeg, Int.reduceToNat])
    (rw [W_region]; simp +decide only [go_sem, Wx_some, Nat.reduceAdd, Nat.reduceMul, Nat.reduceEqDiff, Int.reduceAdd, Int.reduceSub, Int.reduceMul, Int.reduceNeg, Int.reduceToNat, e2])
    (rw [W_region]; simp +decide only [go_sem, Wx_some, Nat.reduceAdd, Nat.reduceMul, Nat.reduceEqDiff, Int.reduceAdd, Int.reduceSub, Int.reduceMul, Int.reduceNeg, Int.reduceToNat])
    have hnm := name_run ys w2 (s1.ext x2) hA (by omega) 0
    rw [← hts] at hnm
    (rw [W_region]; simp +decide only [go_sem, Wx_some, Nat.reduceAdd, Nat.reduceMul, Nat.reduceEqDiff, Int.reduceAdd, Int.reduceSub, Int.reduceMul, Int.reduceNeg, Int.reduceToNat])
    refine W_call Kok (x01.trans x2).1 hnm fun r w' x hr => ?_
    obtain ⟨rfl, hw⟩ := hr
    have hw := hw.symm
    subst hw
    cases hn0 : nameAt ts 0 with
    | false =>
      simp +decide only [go_sem, Wx_some, Nat.reduceAdd, Nat.reduceMul, Nat.reduceEqDiff, Int.reduceAdd, Int.reduceSub, Int.reduceMul, Int.reduceNeg, Int.reduceToNat]
      exact cont (E, 0) _ _ ⟨by simp +decide only [go_sem], S2, by simp +decide only [go_sem], by simp +decide only [go_sem], by simp +decide only [go_sem], by simp +decide only [go_sem]; rfl, Nat.zero_le _, resT_a hn0⟩
    | true =>
    by_cases hl1 : (1 : Int) < ((ys.length : Nat) : Int)
    case neg =>
      simp +decide only [go_sem, Wx_some, Nat.reduceAdd, Nat.reduceMul, Nat.reduceEqDiff, Int.reduceAdd, Int.reduceSub, Int.reduceMul, Int.reduceNeg, Int.reduceToNat, hl1]
      exact cont (E, 0) _ _ ⟨by simp +decide only [go_sem], S2, by simp +decide only [go_sem], by simp +decide only [go_sem], by simp +decide only [go_sem], by simp +decide only [go_sem]; rfl, Nat.zero_le _, resT_b (by omega)⟩
    obtain ⟨Y, b, o, cs, hY, hYt, rfl, p2, p3, p5, p7, p8, hYA⟩ := tok8 (s1.ext x2) hA hts (i := 1) (by omega)
    rw [Nat.one_mul] at p5 p7 p8
    have c0 : (0 : Int) ≤ 1 := by omega
    simp +decide only [go_sem, Wx_some, Nat.reduceAdd, Nat.reduceMul, Nat.reduceEqDiff, Int.reduceAdd, Int.reduceSub, Int.reduceMul, Int.reduceNeg, Int.reduceToNat, hl1, c0, show Int.toNat 1 = 1 from rfl, Nat.one_mul, p3, p8, p7]
    refine W_call Kok (x01.trans x2).1 (ris_run Y.1 hYA 8592 w2) fun r w3 x3 hr => ?_
    subst hr
    have S3 := S2.more x3
    cases hm8 : isM Y.1.2 8592 with
    | false =>
      simp +decide only [go_sem, Wx_some, Nat.reduceAdd, Nat.reduceMul, Nat.reduceEqDiff, Int.reduceAdd, Int.reduceSub, Int.reduceMul, Int.reduceNeg, Int.reduceToNat]
      exact cont (E, 0) _ _ ⟨by simp +decide only [go_sem], S3, by simp +decide only [go_sem], by simp +decide only [go_sem], by simp +decide only [go_sem], by simp +decide only [go_sem]; rfl, Nat.zero_le _, resT_c hYt hm8⟩
    | true =>
    obtain ⟨Z, b2, o2, cs2, hZ, hZt, hq, _, r3, r5, r7, r8, hZA⟩ := tok8 (s1.ext (x2.trans x3)) hA hts (i := 0) (by omega)
    cases hq
    rw [Nat.zero_mul, Nat.add_zero] at r5 r7 r8
    obtain ⟨w4, e4, S4, hs4⟩ := S3.put ⟨E, wd Z.1, E, E, []⟩ rfl
    have g3 := S3.g
    simp only [hl, hdZ] at g3 e4
    have d1 : (0 : Int) < ((ys.length : Nat) : Int) := by omega
    simp +decide only [go_sem, Wx_some, Nat.reduceAdd, Nat.reduceMul, Nat.reduceEqDiff, Int.reduceAdd, Int.reduceSub, Int.reduceMul, Int.reduceNeg, Int.reduceToNat]
    (rw [W_region]; simp +decide only [go_sem, Wx_some, Nat.reduceAdd, Nat.reduceMul, Nat.reduceEqDiff, Int.reduceAdd, Int.reduceSub, Int.reduceMul, Int.reduceNeg, Int.reduceToNat, show Int.toNat 0 = 0 from rfl, d1, Nat.zero_mul, Nat.add_zero, r3, r5, g3, q1, e4])
    (rw [W_region]; simp +decide only [go_sem, Wx_some, Nat.reduceAdd, Nat.reduceMul, Nat.reduceEqDiff, Int.reduceAdd, Int.reduceSub, Int.reduceMul, Int.reduceNeg, Int.reduceToNat])
    refine cont (wd Z.1, 2) _ _ ⟨by simp +decide only [go_sem], S4, by simp +decide only [go_sem], by simp +decide only [go_sem], by simp +decide only [go_sem], by simp +decide only [go_sem]; rfl, by simp only; omega, resT_d hZt hn0 hYt hm8⟩
  rintro ⟨re, at'⟩ e w ⟨hsz, S, g2, g4, g6, g7, hat, hres⟩
  simp only at S g7 hat hres
  obtain ⟨us, hus⟩ : ∃ us, us = ts.drop at' := ⟨_, rfl⟩
  have hul : us.length = ys.length - at' := by rw [hus, List.length_drop, hlen]
  have hug : ∀ i, us[i]? = ts[at' + i]? := fun i => by rw [hus, List.getElem?_drop]
  rw [← hus] at hres
  have sw := s1.ext S.ext
  (rw [W_region]; simp +decide only [go_sem, Wx_some, Nat.reduceAdd, Nat.reduceMul, Nat.reduceEqDiff, Int.reduceAdd, Int.reduceSub, Int.reduceMul, Int.reduceNeg, Int.reduceToNat, hsz])
  refine W_loop (α := Nat) (fun n e w' => e.size = 118 ∧ w' = w ∧ e.get 2 = .pointer (some ⟨h.size, 0, none⟩) ∧ e.get 4 = .slice a ys.length c ∧ e.get 6 = .pointer (some ⟨w1.size, 0, none⟩) ∧ e.get 7 = .int .i64 (at' : Int) ∧ e.get 8 = .int .i64 (n : Int) ∧ n ≤ us.length ∧ us.takeWhile isN = us.take n ++ (us.drop n).takeWhile isN) (fun n => us.length - n) 0 ?_ ?_
  · exact ⟨by simp +decide only [go_sem, hsz], rfl, by simp +decide only [go_sem, hsz, g2], by simp +decide only [go_sem, hsz, g4], by simp +decide only [go_sem, hsz, g6], by simp +decide only [go_sem, hsz, g7], by simp +decide only [go_sem, hsz]; rfl, Nat.zero_le _, by simp⟩
  rintro n e w' ⟨hsz, hw, g2, g4, g6, g7, g8, hn, htw⟩ next
  subst hw
  have hnm := name_run ys w' sw hA (by omega) (at' + n)
  rw [← hts] at hnm
  have i1 : IntKind.i64.wrap ((at' : Int) + (n : Int)) = ((at' + n : Nat) : Int) := by rw [wrap_i64 (by omega) (by omega)]; omega
  simp +decide only [go_sem, W_region, Wx_some, Nat.reduceAdd, Nat.reduceMul, Nat.reduceEqDiff, Int.reduceAdd, Int.reduceSub, Int.reduceMul, Int.reduceNeg, Int.reduceToNat, hsz, g4, g7, g8, i1]
  refine W_call Kok (x01.trans S.ext).1 hnm fun r w2' x hr => ?_
  obtain ⟨rfl, hw⟩ := hr
  have hw := hw.symm
  subst hw
  cases hna : nameAt ts (at' + n) with
  | true =>
    obtain ⟨t0, ht0⟩ : ∃ t0, us[n]? = some t0 := by
      rw [hug]
      simp only [nameAt] at hna
      split at hna
      · rename_i t0 h0
        exact ⟨t0, h0⟩
      · cases hna
    have ht0N : isN t0 = true := by
      rw [hug] at ht0
      simpa only [nameAt, ht0] using hna
    obtain ⟨hnl, hng⟩ := List.getElem?_eq_some_iff.1 ht0
    have i2 : IntKind.i64.wrap ((n : Int) + 1) = ((n + 1 : Nat) : Int) := by rw [wrap_i64 (by omega) (by omega)]; omega
    simp +decide only [go_sem, W_region, Wx_some, Nat.reduceAdd, Nat.reduceMul, Nat.reduceEqDiff, Int.reduceAdd, Int.reduceSub, Int.reduceMul, Int.reduceNeg, Int.reduceToNat, hsz, g8, i2]
    refine next (n + 1) _ _ ⟨by simp +decide only [go_sem, hsz], rfl, by simp +decide only [go_sem, hsz, g2], by simp +decide only [go_sem, hsz, g4], by simp +decide only [go_sem, hsz, g6], by simp +decide only [go_sem, hsz, g7], by simp +decide only [go_sem, hsz], by omega, ?_⟩ (by omega)
    rw [htw, List.drop_eq_getElem_cons hnl, hng, List.takeWhile_cons_of_pos ht0N, List.take_add_one, ht0]
    simp
  | false =>
  have hk : us.takeWhile isN = us.take n := by
    rw [htw]
    have : (us.drop n).takeWhile isN = [] := by
      cases hd : us.drop n with
      | nil => rfl
      | cons t0 r =>
        have h0 : us[n]? = some t0 := by
          have := congrArg (fun z => z[0]?) hd
          simpa using this
        rw [hug] at h0
        simp only [nameAt, h0] at hna
        rw [List.takeWhile_cons_of_neg (by simp [hna])]
    rw [this, List.append_nil]
  simp +decide only [go_sem, Wx_some, Nat.reduceAdd, Nat.reduceMul, Nat.reduceEqDiff, Int.reduceAdd, Int.reduceSub, Int.reduceMul, Int.reduceNeg, Int.reduceToNat, hsz]
  have zero : ∀ {w' : Heap} {x : HdT} {v : Value}, SS w1 w1.size w' x v → ∃ w'', w'.set h.size (.cells [.string ByteArray.empty, .string ByteArray.empty, .string ByteArray.empty, .string ByteArray.empty, .slice none 0 0] 5) = w'' ∧ w''.get h.size = .cells [.string ByteArray.empty, .string ByteArray.empty, .string ByteArray.empty, .string ByteArray.empty, .slice none 0 0] 5 := fun S => by
    obtain ⟨w'', e1, e2, _⟩ := fin0 _ [.string ByteArray.empty, .string ByteArray.empty, .string ByteArray.empty, .string ByteArray.empty, .slice none 0 0] (x01.trans S.ext)
    exact ⟨w'', e1, e2⟩
  apply W_join (α := HdT × Nat) (fun k e w => e.size = 118 ∧ SS w1 w1.size w k.1 (.slice none 0 0) ∧ k.1.ls = [] ∧ e.get 2 = .pointer (some ⟨h.size, 0, none⟩) ∧ e.get 4 = .slice a ys.length c ∧ e.get 6 = .pointer (some ⟨w1.size, 0, none⟩) ∧ e.get 7 = .int .i64 (k.2 : Int) ∧ k.2 ≤ ts.length ∧ parseT ts = restT k.1 (ts.drop k.2))
  · intro cont
    have zS := zz S
    have sg := S.g
    simp only [hl] at sg
    by_cases hn1 : (n : Int) < 1
    · have hp := hbad (parseT_few hres hk hn (.inl (by omega)))
      obtain ⟨w'', ew, gw⟩ := zero S
      simp +decide only [go_sem, W_region, Wx_some, Nat.reduceAdd, Nat.reduceMul, Nat.reduceEqDiff, Int.reduceAdd, Int.reduceSub, Int.reduceMul, Int.reduceNeg, Int.reduceToNat, hsz, g2, g8, hn1, zS, j0, ew, gw]
      rw [hp]
      exact ⟨none, 0, rfl, Sl.nil _ _⟩
    by_cases hn3 : (3 : Int) < (n : Int)
    · have hp := hbad (parseT_few hres hk hn (.inr (by omega)))
      obtain ⟨w'', ew, gw⟩ := zero S
      simp +decide only [go_sem, W_region, Wx_some, Nat.reduceAdd, Nat.reduceMul, Nat.reduceEqDiff, Int.reduceAdd, Int.reduceSub, Int.reduceMul, Int.reduceNeg, Int.reduceToNat, hsz, g2, g8, hn1, hn3, zS, j0, ew, gw]
      rw [hp]
      exact ⟨none, 0, rfl, Sl.nil _ _⟩
    obtain ⟨A, ba, oa, ca, hA0, hAt, rfl, _, a3, a5, _, _, _⟩ := tok8 sw hA hts (i := at') (by omega)
    have hbl : ba < w1.size := by
      obtain ⟨_, _, _, _, _, _, hq, hb, _⟩ := tok8 s1 hA hts (i := at') (by omega)
      cases hq
      exact hb
    have j1 : (0 : Int) ≤ (at' : Int) := by omega
    have j2 : (at' : Int) < ((ys.length : Nat) : Int) := by omega
    have u1 : IntKind.i64.wrap ((at' : Int) + 1) = ((at' + 1 : Nat) : Int) := by rw [wrap_i64 (by omega) (by omega)]; omega
    have hu0 : us[0]? = some A.1 := by rw [hug]; exact hAt
    have hcase : n = 1 ∨ n = 2 ∨ n = 3 := by omega
    rcases hcase with rfl | rfl | rfl
    · have g8' : e.get 8 = .int .i64 1 := g8
      obtain ⟨w5, e5, S5, hs5⟩ := S.put ⟨wd A.1, re, E, E, []⟩ rfl
      simp only [hl] at e5
      (rw [W_region]; simp +decide only [go_sem, Wx_some, Nat.reduceAdd, Nat.reduceMul, Nat.reduceEqDiff, Int.reduceAdd, Int.reduceSub, Int.reduceMul, Int.reduceNeg, Int.reduceToNat, hsz, g8'])
      (rw [W_region]; simp +decide only [go_sem, Wx_some, Nat.reduceAdd, Nat.reduceMul, Nat.reduceEqDiff, Int.reduceAdd, Int.reduceSub, Int.reduceMul, Int.reduceNeg, Int.reduceToNat, hsz, g8'])
      (rw [W_region]; simp +decide only [go_sem, Wx_some, Nat.reduceAdd, Nat.reduceMul, Nat.reduceEqDiff, Int.reduceAdd, Int.reduceSub, Int.reduceMul, Int.reduceNeg, Int.reduceToNat, hsz, g4, g6, g7, j1, j2, Int.toNat_natCast, a3, a5, sg, q1, e5])
      (rw [W_region]; simp +decide only [go_sem, Wx_some, Nat.reduceAdd, Nat.reduceMul, Nat.reduceEqDiff, Int.reduceAdd, Int.reduceSub, Int.reduceMul, Int.reduceNeg, Int.reduceToNat, hsz, g7, u1])
      (rw [W_region]; simp +decide only [go_sem, Wx_some, Nat.reduceAdd, Nat.reduceMul, Nat.reduceEqDiff, Int.reduceAdd, Int.reduceSub, Int.reduceMul, Int.reduceNeg, Int.reduceToNat, hsz, g8'])
      refine cont (⟨wd A.1, re, E, E, []⟩, at' + 1) _ _ ⟨by simp +decide only [go_sem, hsz], S5, rfl, by simp +decide only [go_sem, hsz, g2], by simp +decide only [go_sem, hsz, g4], by simp +decide only [go_sem, hsz, g6], by simp +decide only [go_sem, hsz, u1], by simp only; omega, ?_⟩
      rw [parseT_one hres hk hu0, hus, List.drop_drop]
    · have g8' : e.get 8 = .int .i64 2 := g8
      obtain ⟨B, bb, ob, cb, hB0, hBt, hq, _, b3, b5, _, _, _⟩ := tok8 sw hA hts (i := at' + 1) (by omega)
      cases hq
      have i2 : IntKind.i64.wrap (((at' + 1 : Nat) : Int) + 1) = ((at' + 2 : Nat) : Int) := by rw [wrap_i64 (by omega) (by omega)]; omega
      have k1 : (0 : Int) ≤ ((at' + 1 : Nat) : Int) := by omega
      have k2 : ((at' + 1 : Nat) : Int) < ((ys.length : Nat) : Int) := by omega
      have hu1 : us[1]? = some B.1 := by rw [hug]; exact hBt
      obtain ⟨w5, e5, S5, hs5⟩ := S.put ⟨wd A.1, re, E, E, []⟩ rfl
      have sg5 := S5.g
      obtain ⟨w6, e6, S6, hs6⟩ := S5.put ⟨wd A.1, re, E, wd B.1, []⟩ rfl
      simp only [hl] at e5 sg5 e6
      have b3' : (w5.get ba).read = .cells cb 8 := by
        have h1 : (w5.get ba).read = (w'.get ba).read := by rw [S5.ext.2 _ hbl, S.ext.2 _ hbl]
        rw [h1]
        exact b3
      (rw [W_region]; simp +decide only [go_sem, Wx_some, Nat.reduceAdd, Nat.reduceMul, Nat.reduceEqDiff, Int.reduceAdd, Int.reduceSub, Int.reduceMul, Int.reduceNeg, Int.reduceToNat, hsz, g8'])
      (rw [W_region]; simp +decide only [go_sem, Wx_some, Nat.reduceAdd, Nat.reduceMul, Nat.reduceEqDiff, Int.reduceAdd, Int.reduceSub, Int.reduceMul, Int.reduceNeg, Int.reduceToNat, hsz, g8'])
      (rw [W_region]; simp +decide only [go_sem, Wx_some, Nat.reduceAdd, Nat.reduceMul, Nat.reduceEqDiff, Int.reduceAdd, Int.reduceSub, Int.reduceMul, Int.reduceNeg, Int.reduceToNat, hsz, g4, g6, g7, j1, j2, Int.toNat_natCast, a3, a5, sg, q1, e5])
      (rw [W_region]; simp +decide only [go_sem, Wx_some, Nat.reduceAdd, Nat.reduceMul, Nat.reduceEqDiff, Int.reduceAdd, Int.reduceSub, Int.reduceMul, Int.reduceNeg, Int.reduceToNat, hsz, g7, u1])
      (rw [W_region]; simp +decide only [go_sem, Wx_some, Nat.reduceAdd, Nat.reduceMul, Nat.reduceEqDiff, Int.reduceAdd, Int.reduceSub, Int.reduceMul, Int.reduceNeg, Int.reduceToNat, hsz, g8'])
      (rw [W_region]; simp +decide only [go_sem, Wx_some, Nat.reduceAdd, Nat.reduceMul, Nat.reduceEqDiff, Int.reduceAdd, Int.reduceSub, Int.reduceMul, Int.reduceNeg, Int.reduceToNat, hsz, g4, g6, k1, k2, u1, Int.toNat_natCast, b3', b5, sg5, q1, e6])
      (rw [W_region]; simp +decide only [go_sem, Wx_some, Nat.reduceAdd, Nat.reduceMul, Nat.reduceEqDiff, Int.reduceAdd, Int.reduceSub, Int.reduceMul, Int.reduceNeg, Int.reduceToNat, hsz, u1, i2])
      refine cont (⟨wd A.1, re, E, wd B.1, []⟩, at' + 2) _ _ ⟨by simp +decide only [go_sem, hsz], S6, rfl, by simp +decide only [go_sem, hsz, g2], by simp +decide only [go_sem, hsz, g4], by simp +decide only [go_sem, hsz, g6], by simp +decide only [go_sem, hsz, u1, i2], by simp only; omega, ?_⟩
      rw [parseT_two hres hk hu0 hu1, hus, List.drop_drop]
    · have g8' : e.get 8 = .int .i64 3 := g8
      obtain ⟨B, bb, ob, cb, hB0, hBt, hq, _, b3, b5, _, _, _⟩ := tok8 sw hA hts (i := at' + 1) (by omega)
      cases hq
      have i2 : IntKind.i64.wrap (((at' + 1 : Nat) : Int) + 1) = ((at' + 2 : Nat) : Int) := by rw [wrap_i64 (by omega) (by omega)]; omega
      have k1 : (0 : Int) ≤ ((at' + 1 : Nat) : Int) := by omega
      have k2 : ((at' + 1 : Nat) : Int) < ((ys.length : Nat) : Int) := by omega
      have hu1 : us[1]? = some B.1 := by rw [hug]; exact hBt
      obtain ⟨C, bc, oc, cc, hC0, hCt, hq, _, c3, c5, _, _, _⟩ := tok8 sw hA hts (i := at' + 2) (by omega)
      cases hq
      have i3 : IntKind.i64.wrap (((at' + 2 : Nat) : Int) + 1) = ((at' + 3 : Nat) : Int) := by rw [wrap_i64 (by omega) (by omega)]; omega
      have m1 : (0 : Int) ≤ ((at' + 2 : Nat) : Int) := by omega
      have m2 : ((at' + 2 : Nat) : Int) < ((ys.length : Nat) : Int) := by omega
      have hu2 : us[2]? = some C.1 := by rw [hug]; exact hCt
      obtain ⟨w5, e5, S5, hs5⟩ := S.put ⟨E, re, wd A.1, E, []⟩ rfl
      have sg5 := S5.g
      obtain ⟨w6, e6, S6, hs6⟩ := S5.put ⟨wd B.1, re, wd A.1, E, []⟩ rfl
      have sg6 := S6.g
      obtain ⟨w7, e7, S7, hs7⟩ := S6.put ⟨wd B.1, re, wd A.1, wd C.1, []⟩ rfl
      simp only [hl] at e5 sg5 e6 sg6 e7
      have b3' : (w5.get ba).read = .cells cb 8 := by
        have h1 : (w5.get ba).read = (w'.get ba).read := by rw [S5.ext.2 _ hbl, S.ext.2 _ hbl]
        rw [h1]
        exact b3
      have c3' : (w6.get ba).read = .cells cc 8 := by
        have h1 : (w6.get ba).read = (w'.get ba).read := by rw [S6.ext.2 _ hbl, S.ext.2 _ hbl]
        rw [h1]
        exact c3
      (rw [W_region]; simp +decide only [go_sem, Wx_some, Nat.reduceAdd, Nat.reduceMul, Nat.reduceEqDiff, Int.reduceAdd, Int.reduceSub, Int.reduceMul, Int.reduceNeg, Int.reduceToNat, hsz, g8'])
      (rw [W_region]; simp +decide only [go_sem, Wx_some, Nat.reduceAdd, Nat.reduceMul, Nat.reduceEqDiff, Int.reduceAdd, Int.reduceSub, Int.reduceMul, Int.reduceNeg, Int.reduceToNat, hsz, g8'])
      (rw [W_region]; simp +decide only [go_sem, Wx_some, Nat.reduceAdd, Nat.reduceMul, Nat.reduceEqDiff, Int.reduceAdd, Int.reduceSub, Int.reduceMul, Int.reduceNeg, Int.reduceToNat, hsz, g4, g6, g7, j1, j2, Int.toNat_natCast, a3, a5, sg, q1, e5])
      (rw [W_region]; simp +decide only [go_sem, Wx_some, Nat.reduceAdd, Nat.reduceMul, Nat.reduceEqDiff, Int.reduceAdd, Int.reduceSub, Int.reduceMul, Int.reduceNeg, Int.reduceToNat, hsz, g7, u1])
      (rw [W_region]; simp +decide only [go_sem, Wx_some, Nat.reduceAdd, Nat.reduceMul, Nat.reduceEqDiff, Int.reduceAdd, Int.reduceSub, Int.reduceMul, Int.reduceNeg, Int.reduceToNat, hsz, g4, g6, k1, k2, u1, Int.toNat_natCast, b3', b5, sg5, q1, e6])
      (rw [W_region]; simp +decide only [go_sem, Wx_some, Nat.reduceAdd, Nat.reduceMul, Nat.reduceEqDiff, Int.reduceAdd, Int.reduceSub, Int.reduceMul, Int.reduceNeg, Int.reduceToNat, hsz, u1, i2])
      (rw [W_region]; simp +decide only [go_sem, Wx_some, Nat.reduceAdd, Nat.reduceMul, Nat.reduceEqDiff, Int.reduceAdd, Int.reduceSub, Int.reduceMul, Int.reduceNeg, Int.reduceToNat, hsz, g8'])
      (rw [W_region]; simp +decide only [go_sem, Wx_some, Nat.reduceAdd, Nat.reduceMul, Nat.reduceEqDiff, Int.reduceAdd, Int.reduceSub, Int.reduceMul, Int.reduceNeg, Int.reduceToNat, hsz, g4, g6, m1, m2, u1, i2, Int.toNat_natCast, c3', c5, sg6, q1, e7])
      (rw [W_region]; simp +decide only [go_sem, Wx_some, Nat.reduceAdd, Nat.reduceMul, Nat.reduceEqDiff, Int.reduceAdd, Int.reduceSub, Int.reduceMul, Int.reduceNeg, Int.reduceToNat, hsz, u1, i2, i3])
      refine cont (⟨wd B.1, re, wd A.1, wd C.1, []⟩, at' + 3) _ _ ⟨by simp +decide only [go_sem, hsz], S7, rfl, by simp +decide only [go_sem, hsz, g2], by simp +decide only [go_sem, hsz, g4], by simp +decide only [go_sem, hsz, g6], by simp +decide only [go_sem, hsz, u1, i2, i3], by simp only; omega, ?_⟩
      rw [parseT_three hres hk hu0 hu1 hu2, hus, List.drop_drop]
  rintro ⟨x, p⟩ e w3 ⟨hsz, T, hx0, g2, g4, g6, g7, hp, hps⟩
  simp only at T hx0 g7 hp hps
  refine W_loop (α := HdT × Value × Nat) (fun k e w => e.size = 118 ∧ SS w1 w1.size w k.1 k.2.1 ∧ e.get 2 = .pointer (some ⟨h.size, 0, none⟩) ∧ e.get 4 = .slice a ys.length c ∧ e.get 6 = .pointer (some ⟨w1.size, 0, none⟩) ∧ e.get 7 = .int .i64 (k.2.2 : Int) ∧ k.2.2 ≤ ts.length ∧ parseT ts = restT k.1 (ts.drop k.2.2) ∧ k.1.ls.length ≤ k.2.2) (fun k => ts.length - k.2.2) (x, .slice none 0 0, p) ?_ ?_
  · exact ⟨hsz, T, g2, g4, g6, g7, hp, hps, by rw [hx0]; exact Nat.zero_le _⟩
  clear hsz T hx0 g2 g4 g6 g7 hp hps
  rintro ⟨x, v, p⟩ e w ⟨hsz, T, g2, g4, g6, g7, hp, hps, hxl⟩ next
  simp only at T g7 hp hps hxl
  have st := s1.ext T.ext
  have zT := zz T
  have tg := T.g
  obtain ⟨va, vc, rfl⟩ := T.own.shape
  by_cases hc : (p : Int) < ((ys.length : Nat) : Int)
  · obtain ⟨A, ba, oa, ca, hA0, hAt, rfl, _, a3, a5, a7, a8, hAA⟩ := tok8 st hA hts (i := p) (by omega)
    have hbl : ba < w1.size := by
      obtain ⟨_, _, _, _, _, _, hq, hb, _⟩ := tok8 s1 hA hts (i := p) (by omega)
      cases hq
      exact hb
    have j1 : (0 : Int) ≤ (p : Int) := by omega
    have hd : ts.drop p = A.1 :: ts.drop (p + 1) := by
      obtain ⟨h1, h2⟩ := List.getElem?_eq_some_iff.1 hAt
      rw [← h2]
      exact List.drop_eq_getElem_cons h1
    rw [hd] at hps
    simp +decide only [go_sem, W_region, Wx_some, Nat.reduceAdd, Nat.reduceMul, Nat.reduceEqDiff, Int.reduceAdd, Int.reduceSub, Int.reduceMul, Int.reduceNeg, Int.reduceToNat, hsz, g4, g7, hc, j1, Int.toNat_natCast, a3, a8, a7]
    refine W_call Kok (x01.trans T.ext).1 (ris_run A.1 hAA 59 w) fun r w4 x4 hr => ?_
    subst hr
    have T4 := T.more x4
    have z4 := zz T4
    have i1 : IntKind.i64.wrap ((p : Int) + 1) = ((p + 1 : Nat) : Int) := by rw [wrap_i64 (by omega) (by omega)]; omega
    cases hm : isM A.1.2 59 with
    | false =>
      rw [restT_bad1 _ hm] at hps
      obtain ⟨w'', ew, gw⟩ := zero T4
      simp +decide only [go_sem, W_region, Wx_some, Nat.reduceAdd, Nat.reduceMul, Nat.reduceEqDiff, Int.reduceAdd, Int.reduceSub, Int.reduceMul, Int.reduceNeg, Int.reduceToNat, hsz, g2, z4, j0, ew, gw]
      rw [hbad hps]
      exact ⟨none, 0, rfl, Sl.nil _ _⟩
    | true =>
    have hnm := name_run ys w4 (s1.ext T4.ext) hA (by omega) (p + 1)
    rw [← hts] at hnm
    simp +decide only [go_sem, W_region, Wx_some, Nat.reduceAdd, Nat.reduceMul, Nat.reduceEqDiff, Int.reduceAdd, Int.reduceSub, Int.reduceMul, Int.reduceNeg, Int.reduceToNat, hsz, g4, g7, i1]
    refine W_call Kok (x01.trans T4.ext).1 hnm fun r w5 _ hr => ?_
    obtain ⟨rfl, hw⟩ := hr
    have hw := hw.symm
    subst hw
    cases hna : nameAt ts (p + 1) with
    | false =>
      have hn' : nameAt (ts.drop (p + 1)) 0 = false := by
        simp only [nameAt, List.getElem?_drop, Nat.add_zero] at hna ⊢
        exact hna
      rw [restT_bad2 _ hn'] at hps
      obtain ⟨w'', ew, gw⟩ := zero T4
      simp +decide only [go_sem, W_region, Wx_some, Nat.reduceAdd, Nat.reduceMul, Nat.reduceEqDiff, Int.reduceAdd, Int.reduceSub, Int.reduceMul, Int.reduceNeg, Int.reduceToNat, hsz, g2, z4, j0, ew, gw]
      rw [hbad hps]
      exact ⟨none, 0, rfl, Sl.nil _ _⟩
    | true =>
    have hp1 : p + 1 < ts.length := by
      simp only [nameAt] at hna
      split at hna
      · rename_i h0
        exact (List.getElem?_eq_some_iff.1 h0).1
      · cases hna
    obtain ⟨B, bb, ob, cb, hB0, hBt, hq, _, b3, b5, b7, b8, hBA⟩ := tok8 (s1.ext T4.ext) hA hts (i := p + 1) hp1
    cases hq
    have hBN : isN B.1 = true := by simpa only [nameAt, hBt] using hna
    have hd2 : ts.drop (p + 1) = B.1 :: ts.drop (p + 2) := by
      obtain ⟨h1, h2⟩ := List.getElem?_eq_some_iff.1 hBt
      rw [← h2]
      exact List.drop_eq_getElem_cons h1
    rw [hd2, restT_step, hm, hBN, Bool.and_self, if_pos rfl] at hps
    have k1 : (0 : Int) ≤ ((p + 1 : Nat) : Int) := by omega
    have k2 : ((p + 1 : Nat) : Int) < ((ys.length : Nat) : Int) := by omega
    have i2 : IntKind.i64.wrap ((p : Int) + 2) = ((p + 2 : Nat) : Int) := by rw [wrap_i64 (by omega) (by omega)]; omega
    obtain ⟨u3, u4, u5, f3, fz3, fg3, f4, fg4, f5, T5⟩ := T4.app (low := h.size) q1 (wd B.1) (by omega)
    have tg4 := T4.g
    simp only [hl] at tg4 fg3 fg4 f5
    simp +decide only [go_sem, W_region, Wx_some, Nat.reduceAdd, Nat.reduceMul, Nat.reduceEqDiff, Int.reduceAdd, Int.reduceSub, Int.reduceMul, Int.reduceNeg, Int.reduceToNat, hsz, g4, g6, g7, i1, k1, k2, Int.toNat_natCast, b3, b5, tg4, f3, fz3, f4, fg4, q1, f5, i2]
    exact next ({ x with ls := x.ls ++ [wd B.1] }, _, p + 2) _ _ ⟨by simp +decide only [go_sem, hsz], T5, by simp +decide only [go_sem, hsz, g2], by simp +decide only [go_sem, hsz, g4], by simp +decide only [go_sem, hsz, g6], by simp +decide only [go_sem, hsz], by simp only; omega, hps, by simp only [List.length_append, List.length_singleton]; omega⟩ (by simp only; omega)
  · have hpe : ts.drop p = [] := List.drop_of_length_le (by omega)
    rw [hpe, restT_nil] at hps
    simp only [hl] at tg
    simp +decide only [go_sem, W_region, Wx_some, Nat.reduceAdd, Nat.reduceMul, Nat.reduceEqDiff, Int.reduceAdd, Int.reduceSub, Int.reduceMul, Int.reduceNeg, Int.reduceToNat, hsz, g4, g6, g7, hc, tg]
    refine W_call Kok (x01.trans T.ext).1 (rnames_run x w T.own.sl (by omega)) fun r w4 x4 hr => ?_
    obtain ⟨na, nc, rfl⟩ := hr.shape
    have T4 := T.more x4
    have tg4 := T4.g
    have hxn := names_len x
    obtain ⟨w5, e5, x5, hs5, z5⟩ := lay1 w4 (.cells [.string x.nm] 1)
    have hlow : h.size ≤ w.size := (x01.trans T.ext).1
    obtain ⟨w6, e6, own6, hs6, x6⟩ := app_text (low := h.size) (s := x.nm) hlow (x4.trans x5) (hr.ext x5) (by omega)
    have T6 := T.more x6
    have tg6 := T6.g
    have z6 := zz T6
    have hal : x.all.length = x.names.length + 1 := by simp [HdT.all]
    have own6' : Own w.size w6 1 (.slice (some ⟨w5.size, 0, none⟩) (x.names.length + 1) big) (x.names.length + 1) (sv x.all) := own6
    have hap := apart_run x.all w6 (a := some ⟨w5.size, 0, none⟩) (c := big) (by rw [hal]; exact own6'.sl) (by omega)
    rw [hal] at hap
    simp only [hl] at tg4 tg6
    simp +decide only [go_sem, W_region, Wx_some, Nat.reduceAdd, Nat.reduceMul, Nat.reduceEqDiff, Int.reduceAdd, Int.reduceSub, Int.reduceMul, Int.reduceNeg, Int.reduceToNat, hsz, g6, tg4, e5, z5, e6]
    refine W_call Kok (x01.trans T6.ext).1 hap fun r w7 x7 hr2 => ?_
    obtain ⟨rfl, hw⟩ := hr2
    have hw := hw.symm
    subst hw
    by_cases hnd : x.all.Nodup
    · have hp2 : hdp l = (x, true) := by simp only [hdp, hlex, hps, fin, if_pos hnd]
      obtain ⟨w8, e8, g8, hs8, k8⟩ := fin0 w6 [.string x.nm, .string x.re, .string x.le, .string x.ri, .slice va x.ls.length vc] (x01.trans T6.ext)
      have hdt : decide x.all.Nodup = true := decide_eq_true hnd
      simp +decide only [go_sem, W_region, Wx_some, Nat.reduceAdd, Nat.reduceMul, Nat.reduceEqDiff, Int.reduceAdd, Int.reduceSub, Int.reduceMul, Int.reduceNeg, Int.reduceToNat, hsz, g2, g6, hdt, tg6, z6, j0, e8, g8]
      rw [hp2]
      refine ⟨va, vc, rfl, ?_⟩
      exact (T6.own.keep (Nat.le_refl _) fun b hb hv => ⟨k8 b (by have := own_lo T6.own hv; omega), by omega⟩).sl
    · have hp2 : parseT ts = none := by rw [hps, fin, if_neg hnd]
      obtain ⟨w'', ew, gw⟩ := zero T6
      have hdf : decide x.all.Nodup = false := decide_eq_false hnd
      simp +decide only [go_sem, W_region, Wx_some, Nat.reduceAdd, Nat.reduceMul, Nat.reduceEqDiff, Int.reduceAdd, Int.reduceSub, Int.reduceMul, Int.reduceNeg, Int.reduceToNat, hsz, g2, g6, hdf, z6, j0, ew, gw]
      rw [hbad hp2]
      exact ⟨none, 0, rfl, Sl.nil _ _⟩
end Go.Proofs.YtjlaenglmdpboaaGreat.H7
