/- Proved here: how a number is read at a place of a line; of every line of up to 512 signs. -/
import Derived.Test.YtjlaenglmdpboaaGreatQN16
namespace Go.Proofs.YtjlaenglmdpboaaGreat.N17
open Go Go.Im Go.Im.Limbs Go.Im.Lexing Go.Proofs Go.RowKit Go.Proofs.YtjlaenglmdpboaaGreat.Hd Go.Proofs.YtjlaenglmdpboaaGreat.N1 Go.Proofs.YtjlaenglmdpboaaGreat.N10 Go.Proofs.YtjlaenglmdpboaaGreat.N11 Go.Proofs.YtjlaenglmdpboaaGreat.N12 Go.Proofs.YtjlaenglmdpboaaGreat.N13 Go.Proofs.YtjlaenglmdpboaaGreat.N14 Go.Proofs.YtjlaenglmdpboaaGreat.N15 Go.Proofs.YtjlaenglmdpboaaGreat.N16
set_option maxRecDepth 100000
set_option linter.unusedSimpArgs false
set_option linter.unusedVariables false

theorem parse_any (t : List UInt8) (h : Heap) (ht : Digs t) (hl : t.length ≤ 2000) : Runs K f_nat_Parse #[.string (text t)] h fun r w => ∃ a n c, r = .tuple #[.agg #[.slice a n c], .bool (decide (t ≠ []))] ∧ NatV w (.agg #[.slice a n c]) (dec t) := by
  by_cases h0 : t = []
  · subst h0
    refine (parse_none h).mono fun r w ⟨hx, q, h1, h2⟩ => ?_
    obtain ⟨a, n, c, rfl, h3⟩ := h2
    exact ⟨hx, a, n, c, by simpa using h1, ⟨a, n, c, rfl, h3⟩⟩
  · refine (parse_run t h ht h0 hl).mono fun r w ⟨hx, q, h1, h2⟩ => ?_
    obtain ⟨a, n, c, rfl, h3⟩ := h2
    exact ⟨hx, a, n, c, by simpa [h0] using h1, ⟨a, n, c, rfl, h3⟩⟩

theorem pt_drop (l : List Int) (i : Nat) : pt (l.drop i) = if l[i]? = some 46 then 1 else 0 := by
  unfold pt
  rw [List.getElem?_drop, Nat.add_zero]

/-- A number's parts: its sign, its digits ahead of and behind the point, and the place behind them. -/
theorem readS_eq {l : List Int} {i A B C : Nat} {D T : List Int} {neg p : Bool} (hn : neg = decide (l[i]? = some 175)) (hA : A = i + if neg then 1 else 0) (hD : D = digs (l.drop A)) (hB : B = A + D.length) (hp : p = decide (l[B]? = some 46)) (hT : T = if p then digs (l.drop (B + 1)) else []) (hC : C = B + if p then 1 + T.length else 0) :
    readS (l.drop i) = if p = true ∧ T = [] then none else match expoS (l.drop C) with
      | none => none
      | some k => if D.length + T.length = 0 ∨ 200 < D.length + T.length then none else some (C - i + k) := by
  have e1 : hi (l.drop i) = if neg then 1 else 0 := by
    unfold hi
    rw [List.getElem?_drop, hn]
    simp
  have e2 : i + hi (l.drop i) = A := by rw [e1, hA]
  have e3 : pt (l.drop B) = if p then 1 else 0 := by
    rw [pt_drop, hp]
    simp
  unfold readS
  simp only [List.drop_drop]
  rw [e2, ← hD, ← Nat.add_assoc, e2, ← hB, e3]
  cases p with
  | false =>
    have hT' : T = [] := hT
    subst hT'
    simp only [Bool.false_eq_true, if_false, Nat.add_zero, false_and, List.length_nil] at hC ⊢
    have : i + (hi (l.drop i) + D.length) = C := by omega
    simp only [Nat.zero_ne_one, if_false, false_and, Nat.add_zero, this]
    cases expoS (l.drop C) with
    | none => rfl
    | some k => simp only [show hi (l.drop i) + D.length + k = C - i + k by omega]
  | true =>
    have hT' : T = digs (l.drop (B + 1)) := hT
    simp only [if_true, true_and] at hC ⊢
    have q1 : i + (hi (l.drop i) + D.length + 1) = B + 1 := by omega
    rw [q1, ← hT']
    have q2 : i + (hi (l.drop i) + D.length + 1 + T.length) = C := by omega
    rw [q2]
    by_cases h0 : T = []
    · simp [h0]
    · rw [if_neg (by simpa using h0), if_neg h0]
      cases expoS (l.drop C) with
      | none => rfl
      | some k => simp only [show hi (l.drop i) + D.length + 1 + T.length + k = C - i + k by omega]

set_option maxHeartbeats 4000000 in
theorem read_run (l : List Int) (i : Nat) {v : Value} (h : Heap) (t : Tx h v l) (hne : l ≠ []) (hm : l.length ≤ 512) (hi' : i ≤ l.length) (hb : begins (l.drop i) = true) :
    Runs K f_deci_Read #[v, .int .i64 (i : Int)] h fun r w => (readS (l.drop i) = none ∧ ∃ q y m s d, r = .tuple #[q, .int .i64 y, .bool false] ∧ RatV w q m s d) ∨
      ∃ k q m s d, readS (l.drop i) = some k ∧ i + k ≤ l.length ∧ i < i + k ∧ r = .tuple #[q, .int .i64 ((i + k : Nat) : Int), .bool true] ∧ RatV w q m s d := by
  obtain ⟨a, c, rfl⟩ := t.open
  refine Runs.of Kok (Does.intro rfl (by decide +kernel) F_deci_Read rfl ?_)
  have i0 : (0 : Int) ≤ (i : Int) := by omega
  obtain ⟨w0, e0', x0, hs0, z0⟩ := lay1 h (.cells [.slice none 0 0, .bool false, .slice none 0 0] 3)
  have t0 := t.ext x0
  have il : i < l.length := by
    refine Nat.lt_of_not_le fun hh => ?_
    rw [List.drop_of_length_le hh] at hb
    cases hb
  have il' : (i : Int) < ((l.length : Nat) : Int) := by omega
  obtain ⟨x, hx⟩ : ∃ x, l[i]? = some x := ⟨_, List.getElem?_eq_getElem il⟩
  obtain ⟨neg, hneg⟩ : ∃ neg, neg = decide (l[i]? = some 175) := ⟨_, rfl⟩
  obtain ⟨A, hA⟩ : ∃ A, A = i + (if neg then 1 else 0) := ⟨_, rfl⟩
  have hAl : A ≤ l.length := by rw [hA]; split <;> omega
  obtain ⟨D, hD⟩ : ∃ D, D = digs (l.drop A) := ⟨_, rfl⟩
  obtain ⟨B, hB⟩ : ∃ B, B = A + D.length := ⟨_, rfl⟩
  have hBl : B ≤ l.length := by rw [hB, hD]; exact digs_len hAl
  obtain ⟨p, hp⟩ : ∃ p, p = decide (l[B]? = some 46) := ⟨_, rfl⟩
  obtain ⟨T, hT⟩ : ∃ T, T = if p then digs (l.drop (B + 1)) else [] := ⟨_, rfl⟩
  obtain ⟨C, hC⟩ : ∃ C, C = B + if p then 1 + T.length else 0 := ⟨_, rfl⟩
  have hBp : p = true → B + 1 ≤ l.length := fun hh => by
    rw [hp, decide_eq_true_eq] at hh
    exact (List.getElem?_eq_some_iff.1 hh).1
  have hCl : C ≤ l.length := by
    rw [hC]
    cases hpp : p with
    | false => simpa using hBl
    | true =>
      rw [hpp] at hT
      have := digs_len (hBp hpp)
      simp only [if_true] at hT ⊢
      rw [← hT] at this
      omega
  rw [readS_eq hneg hA hD hB hp hT hC]
  simp +decide only [go_sem, W_region, Wx_some, Nat.reduceAdd, Nat.reduceMul, Nat.reduceEqDiff, Int.reduceAdd, Int.reduceSub, Int.reduceMul, Int.reduceNeg, Int.reduceToNat, e0']
  refine W_call Kok (by omega) (begins_run l i w0 t0 (by omega) (by omega)) fun r w1 x1 hr => ?_
  rw [hb] at hr
  subst hr
  have h01 := x0.trans x1
  have t1 := t.ext h01
  have z1 : w1.get h.size = _ := (x1.2 _ (by omega)).trans z0
  obtain ⟨b, o, cs, q1, q2, q3, q4⟩ := t1.one hx
  cases q1
  have hng : neg = decide (x = 175) := by rw [hneg, hx]; simp
  simp +decide only [go_sem, W_region, Wx_some, Nat.reduceAdd, Nat.reduceMul, Nat.reduceEqDiff, Int.reduceAdd, Int.reduceSub, Int.reduceMul, Int.reduceNeg, Int.reduceToNat, il', i0, Int.toNat_natCast, Nat.mul_one, q3, q4, ← hng]
  refine Wc_cut (J := fun e w => e.size = 93 ∧ e.get 0 = .slice (some ⟨b, o, none⟩) l.length big ∧ e.get 1 = .int .i64 (A : Int) ∧ e.get 4 = .pointer (some ⟨h.size, 0, none⟩) ∧ e.get 7 = .bool neg ∧ w = w1) (by simp only [straight, KD]; rfl) rfl ?_ ?_ ?_
  · intro hn
    have i2 : IntKind.i64.wrap ((i : Int) + 1) = (A : Int) := by rw [wrap_i64 (by omega) (by omega), hA, hn]; simp
    simp +decide only [go_sem, W_region, Wx_some, Nat.reduceAdd, Nat.reduceMul, Nat.reduceEqDiff, Int.reduceAdd, Int.reduceSub, Int.reduceMul, Int.reduceNeg, Int.reduceToNat, i2]
  · intro hn
    have i2 : (i : Int) = (A : Int) := by rw [hA, hn]; simp
    simp +decide only [go_sem, W_region, Wx_some, Nat.reduceAdd, Nat.reduceMul, Nat.reduceEqDiff, Int.reduceAdd, Int.reduceSub, Int.reduceMul, Int.reduceNeg, Int.reduceToNat, i2]
  rintro e w ⟨hsz, e0, e1, e4, e7, rfl⟩
  simp +decide only [go_sem, W_region, Wx_some, Nat.reduceAdd, Nat.reduceMul, Nat.reduceEqDiff, Int.reduceAdd, Int.reduceSub, Int.reduceMul, Int.reduceNeg, Int.reduceToNat, hsz, e0, e1]
  refine W_call Kok (by have := h01.1; omega) (digits_run l A _ t1 hne (by omega) hAl) fun r w2 x2 hr => ?_
  subst hr
  rw [← hD, ← hB]
  have h02 := h01.trans x2
  have t2 := t.ext h02
  have z2 : w2.get h.size = _ := (x2.2 _ (by have := x1.1; omega)).trans z1
  have i2 : (0 : Int) ≤ (B : Int) := by omega
  have hpd : ∀ (J : Prop), (p = false → (B : Int) < ((l.length : Nat) : Int) → ∃ y, l[B]? = some y ∧ ¬ y = 46) := by
    intro _ hpf hlt
    obtain ⟨y, hy⟩ : ∃ y, l[B]? = some y := ⟨_, List.getElem?_eq_getElem (by omega)⟩
    refine ⟨y, hy, ?_⟩
    intro hh
    rw [hp, hy, hh] at hpf
    simp at hpf
  apply W_join (α := Unit) (fun _ e w => e.size = 93 ∧ e.get 0 = .slice (some ⟨b, o, none⟩) l.length big ∧ e.get 1 = .int .i64 (C : Int) ∧ e.get 4 = .pointer (some ⟨h.size, 0, none⟩) ∧ e.get 7 = .bool neg ∧ e.get 8 = .string (text (dbs D)) ∧ e.get 9 = .string (text (dbs T)) ∧ Ext h w ∧ h.size < w.size ∧ w.get h.size = .cells [.slice none 0 0, .bool false, .slice none 0 0] 3 ∧ ¬ (p = true ∧ T = []))
  · intro cont
    by_cases hpp : p = true
    case neg =>
      have hpp : p = false := by simpa using hpp
      have hT0 : T = [] := by rw [hT, hpp]; rfl
      have hCB : C = B := by rw [hC, hpp]; rfl
      have ct : text (dbs T) = ⟨#[]⟩ := by rw [hT0]; rfl
      by_cases hlt : (B : Int) < ((l.length : Nat) : Int)
      · obtain ⟨y, hy, hy46⟩ := hpd True hpp hlt
        obtain ⟨b', o', cs', p1, p2, p3, p4⟩ := t2.one hy
        cases p1
        simp +decide only [go_sem, Wx_some, Nat.reduceAdd, Nat.reduceMul, Nat.reduceEqDiff, Int.reduceAdd, Int.reduceSub, Int.reduceMul, Int.reduceNeg, Int.reduceToNat, hsz, e0, e1, e4, e7]
        (rw [W_region]; simp +decide only [go_sem, Wx_some, Nat.reduceAdd, Nat.reduceMul, Nat.reduceEqDiff, Int.reduceAdd, Int.reduceSub, Int.reduceMul, Int.reduceNeg, Int.reduceToNat, hsz, e0, e1, e4, e7])
        (rw [W_region]; simp +decide only [go_sem, Wx_some, Nat.reduceAdd, Nat.reduceMul, Nat.reduceEqDiff, Int.reduceAdd, Int.reduceSub, Int.reduceMul, Int.reduceNeg, Int.reduceToNat, hsz, e0, e1, e4, e7, hlt, i2, Int.toNat_natCast, Nat.mul_one, p3, p4, hy46])
        exact cont () _ _ ⟨by simp +decide only [go_sem, hsz], by simp +decide only [go_sem, hsz, e0], by rw [hCB]; simp +decide only [go_sem, W_region, Wx_some, Nat.reduceAdd, Nat.reduceMul, Nat.reduceEqDiff, Int.reduceAdd, Int.reduceSub, Int.reduceMul, Int.reduceNeg, Int.reduceToNat, hsz], by simp +decide only [go_sem, hsz, e4], by simp +decide only [go_sem, hsz, e7], by simp +decide only [go_sem, hsz], by simp +decide only [go_sem, hsz, ct], h02, by have := h02.1; have := x1.1; have := x2.1; omega, z2, by simp [hpp]⟩
      · simp +decide only [go_sem, Wx_some, Nat.reduceAdd, Nat.reduceMul, Nat.reduceEqDiff, Int.reduceAdd, Int.reduceSub, Int.reduceMul, Int.reduceNeg, Int.reduceToNat, hsz, e0, e1, e4, e7]
        (rw [W_region]; simp +decide only [go_sem, Wx_some, Nat.reduceAdd, Nat.reduceMul, Nat.reduceEqDiff, Int.reduceAdd, Int.reduceSub, Int.reduceMul, Int.reduceNeg, Int.reduceToNat, hsz, e0, e1, e4, e7])
        (rw [W_region]; simp +decide only [go_sem, Wx_some, Nat.reduceAdd, Nat.reduceMul, Nat.reduceEqDiff, Int.reduceAdd, Int.reduceSub, Int.reduceMul, Int.reduceNeg, Int.reduceToNat, hsz, e0, e1, e4, e7, hlt])
        exact cont () _ _ ⟨by simp +decide only [go_sem, hsz], by simp +decide only [go_sem, hsz, e0], by rw [hCB]; simp +decide only [go_sem, W_region, Wx_some, Nat.reduceAdd, Nat.reduceMul, Nat.reduceEqDiff, Int.reduceAdd, Int.reduceSub, Int.reduceMul, Int.reduceNeg, Int.reduceToNat, hsz], by simp +decide only [go_sem, hsz, e4], by simp +decide only [go_sem, hsz, e7], by simp +decide only [go_sem, hsz], by simp +decide only [go_sem, hsz, ct], h02, by have := h02.1; have := x1.1; have := x2.1; omega, z2, by simp [hpp]⟩
    have hy : l[B]? = some 46 := by rw [hp, decide_eq_true_eq] at hpp; exact hpp
    have hB1 := hBp hpp
    have hlt : (B : Int) < ((l.length : Nat) : Int) := by omega
    rw [hpp] at hT hC
    simp only [if_true] at hT hC
    obtain ⟨b', o', cs', p1, p2, p3, p4⟩ := t2.one hy
    cases p1
    have i3 : IntKind.i64.wrap ((B : Int) + 1) = ((B + 1 : Nat) : Int) := by rw [wrap_i64 (by omega) (by omega)]; omega
    simp +decide only [go_sem, Wx_some, Nat.reduceAdd, Nat.reduceMul, Nat.reduceEqDiff, Int.reduceAdd, Int.reduceSub, Int.reduceMul, Int.reduceNeg, Int.reduceToNat, hsz, e0, e1, e4, e7]
    (rw [W_region]; simp +decide only [go_sem, Wx_some, Nat.reduceAdd, Nat.reduceMul, Nat.reduceEqDiff, Int.reduceAdd, Int.reduceSub, Int.reduceMul, Int.reduceNeg, Int.reduceToNat, hsz, e0, e1, e4, e7])
    (rw [W_region]; simp +decide only [go_sem, Wx_some, Nat.reduceAdd, Nat.reduceMul, Nat.reduceEqDiff, Int.reduceAdd, Int.reduceSub, Int.reduceMul, Int.reduceNeg, Int.reduceToNat, hsz, e0, e1, e4, e7, hlt, i2, Int.toNat_natCast, Nat.mul_one, p3, p4])
    (rw [W_region]; simp +decide only [go_sem, Wx_some, Nat.reduceAdd, Nat.reduceMul, Nat.reduceEqDiff, Int.reduceAdd, Int.reduceSub, Int.reduceMul, Int.reduceNeg, Int.reduceToNat, hsz, e0, e1, e4, e7, i3])
    refine W_call Kok (by have := h02.1; omega) (digits_run l (B + 1) _ t2 hne (by omega) hB1) fun r w3 x3 hr => ?_
    subst hr
    have h03 := h02.trans x3
    have z3 : w3.get h.size = _ := (x3.2 _ (by have := x1.1; have := x2.1; omega)).trans z2
    rw [← hT, show B + 1 + T.length = C by omega]
    by_cases hT0 : T = []
    · have c0 : text (dbs T) = ⟨#[]⟩ := by rw [hT0]; rfl
      have jj : h.size ≤ h.size := Nat.le_refl _
      obtain ⟨wd, ed, xd, hsd, gd, kd⟩ := put1 h03 jj (.cells [.slice none 0 0, .bool false, .slice none 0 0] 3)
      simp +decide only [go_sem, W_region, Wx_some, Nat.reduceAdd, Nat.reduceMul, Nat.reduceEqDiff, Int.reduceAdd, Int.reduceSub, Int.reduceMul, Int.reduceNeg, Int.reduceToNat, hsz, e0, e1, e4, e7, c0, z3, ed, gd]
      refine .inl ⟨by rw [if_pos ⟨hpp, hT0⟩], _, _, 0, false, 0, rfl, ⟨_, _, rfl, NatV.zero _, NatV.zero _⟩⟩
    · have c0 : ¬ text (dbs T) = ⟨#[]⟩ := by
        intro hh
        have := congrArg ByteArray.size hh
        rw [text_size, dbs_length] at this
        exact hT0 (List.eq_nil_of_length_eq_zero this)
      simp +decide only [go_sem, Wx_some, Nat.reduceAdd, Nat.reduceMul, Nat.reduceEqDiff, Int.reduceAdd, Int.reduceSub, Int.reduceMul, Int.reduceNeg, Int.reduceToNat, hsz, e0, e1, e4, e7]
      (rw [W_region]; simp +decide only [go_sem, Wx_some, Nat.reduceAdd, Nat.reduceMul, Nat.reduceEqDiff, Int.reduceAdd, Int.reduceSub, Int.reduceMul, Int.reduceNeg, Int.reduceToNat, hsz, e0, e1, e4, e7, c0])
      exact cont () _ _ ⟨by simp +decide only [go_sem, hsz], by simp +decide only [go_sem, hsz, e0], by simp +decide only [go_sem, hsz], by simp +decide only [go_sem, hsz, e4], by simp +decide only [go_sem, hsz, e7], by simp +decide only [go_sem, hsz], by simp +decide only [go_sem, hsz], h03, by have := h03.1; have := x1.1; have := x2.1; have := x3.1; omega, z3, by simp [hT0]⟩
  rintro _ e w ⟨hsz, e0, e1, e4, e7, e8, e9, hxw, hws, gw, hpT⟩
  rw [if_neg hpT]
  have t3 := t.ext hxw
  simp +decide only [go_sem, W_region, Wx_some, Nat.reduceAdd, Nat.reduceMul, Nat.reduceEqDiff, Int.reduceAdd, Int.reduceSub, Int.reduceMul, Int.reduceNeg, Int.reduceToNat, hsz, e0, e1]
  refine W_call Kok hxw.1 (expo_run l C _ t3 hne (by omega) hCl) fun r w4 x4 hr => ?_
  have h04 := hxw.trans x4
  have gw4 : w4.get h.size = _ := (x4.2 _ hws).trans gw
  have hDT : Digs (dbs D ++ dbs T) := by
    intro u hu
    rcases List.mem_append.1 hu with hu | hu
    · exact digs_Digs (l.drop A) u (by rw [← hD]; exact hu)
    · rw [hT] at hu
      split at hu
      · exact digs_Digs _ u hu
      · cases hu
  have hDTl : (dbs D ++ dbs T).length = D.length + T.length := by rw [List.length_append, dbs_length, dbs_length]
  have hDl : D.length ≤ 512 := by omega
  have hTl : T.length ≤ 512 := by
    rw [hT]
    split
    · rename_i hpp
      have := digs_len (hBp hpp)
      omega
    · simp
  have hcat := ibinop_cat (P := Tryz.prog) (t := 9) (s := text (dbs D)) (u := text (dbs T)) (by rw [text_size, text_size, dbs_length, dbs_length]; omega)
  rw [text_append] at hcat
  have hadd : IntKind.i64.wrap (((D.length : Nat) : Int) + ((T.length : Nat) : Int)) = ((D.length + T.length : Nat) : Int) := by rw [wrap_i64 (by omega) (by omega)]; omega
  have jj : h.size ≤ h.size := Nat.le_refl _
  rcases hr with ⟨hexp, y1, y2, rfl⟩ | ⟨k, n, hexp, hk, hn1, hn2, rfl⟩
  · simp +decide only [go_sem, W_region, Wx_some, Nat.reduceAdd, Nat.reduceMul, Nat.reduceEqDiff, Int.reduceAdd, Int.reduceSub, Int.reduceMul, Int.reduceNeg, Int.reduceToNat, hsz, e0, e1, e4, e7, e8, e9, hcat]
    refine W_call Kok h04.1 (parse_any _ w4 hDT (by omega)) fun r w5 x5 hr => ?_
    obtain ⟨an, nn, cn, rfl, hnat⟩ := hr
    have h05 := h04.trans x5
    have gw5 : w5.get h.size = _ := (x5.2 _ (by have := x4.1; omega)).trans gw4
    obtain ⟨w6, e6', x6, hs6, z6⟩ := lay1 w5 (.cells [.slice none 0 0] 1)
    obtain ⟨w7, e7', x7, hs7, z7, k7⟩ := put1 x6 (Nat.le_refl _) (.cells [.slice an nn cn] 1)
    have h07 := h05.trans x7
    have gw7 : w7.get h.size = _ := (x7.2 _ (by have := x4.1; have := x5.1; omega)).trans gw5
    obtain ⟨wd, ed, xd, hsd, gd, kd⟩ := put1 h07 jj (.cells [.slice none 0 0, .bool false, .slice none 0 0] 3)
    simp +decide only [go_sem, W_region, Wx_some, Nat.reduceAdd, Nat.reduceMul, Nat.reduceEqDiff, Int.reduceAdd, Int.reduceSub, Int.reduceMul, Int.reduceNeg, Int.reduceToNat, hsz, e0, e1, e4, e7, e8, e9, e6', z6, h05.1, e7', gw7, ed, gd]
    refine .inl ⟨by rw [hexp], _, _, 0, false, 0, rfl, ⟨_, _, rfl, NatV.zero _, NatV.zero _⟩⟩
  rw [hexp]
  simp only
  simp +decide only [go_sem, W_region, Wx_some, Nat.reduceAdd, Nat.reduceMul, Nat.reduceEqDiff, Int.reduceAdd, Int.reduceSub, Int.reduceMul, Int.reduceNeg, Int.reduceToNat, hsz, e0, e1, e4, e7, e8, e9, hcat]
  refine W_call Kok h04.1 (parse_any _ w4 hDT (by omega)) fun r w5 x5 hr => ?_
  obtain ⟨an, nn, cn, rfl, hnat⟩ := hr
  have h05 := h04.trans x5
  have gw5 : w5.get h.size = _ := (x5.2 _ (by have := x4.1; omega)).trans gw4
  obtain ⟨w6, e6', x6, hs6, z6⟩ := lay1 w5 (.cells [.slice none 0 0] 1)
  obtain ⟨w7, e7', x7, hs7, z7, k7⟩ := put1 x6 (Nat.le_refl _) (.cells [.slice an nn cn] 1)
  have h07 := h05.trans x7
  have hs57 : w5.size < w7.size := by omega
  have gw7 : w7.get h.size = _ := (x7.2 _ (by have := x4.1; have := x5.1; omega)).trans gw5
  obtain ⟨wd, ed, xd, hsd, gd, kd⟩ := put1 h07 jj (.cells [.slice none 0 0, .bool false, .slice none 0 0] 3)
  by_cases hz : D.length + T.length = 0
  · have hz1 : dbs D ++ dbs T = [] := List.eq_nil_of_length_eq_zero (by omega)
    simp +decide only [go_sem, W_region, Wx_some, Nat.reduceAdd, Nat.reduceMul, Nat.reduceEqDiff, Int.reduceAdd, Int.reduceSub, Int.reduceMul, Int.reduceNeg, Int.reduceToNat, hsz, e0, e1, e4, e7, e8, e9, e6', z6, h05.1, e7', gw7, ed, gd, hz1]
    refine .inl ⟨by rw [if_pos (.inl hz)], _, _, 0, false, 0, rfl, ⟨_, _, rfl, NatV.zero _, NatV.zero _⟩⟩
  have hz1 : dbs D ++ dbs T ≠ [] := by
    intro hh
    rw [hh] at hDTl
    exact hz (by simpa using hDTl.symm)
  by_cases h200 : (200 : Int) < ((D.length + T.length : Nat) : Int)
  · simp +decide only [go_sem, W_region, Wx_some, Nat.reduceAdd, Nat.reduceMul, Nat.reduceEqDiff, Int.reduceAdd, Int.reduceSub, Int.reduceMul, Int.reduceNeg, Int.reduceToNat, hsz, e0, e1, e4, e7, e8, e9, e6', z6, h05.1, e7', gw7, ed, gd, hz1, ne_eq, not_false_eq_true, dbs_length, hadd, h200]
    refine .inl ⟨by rw [if_pos (.inr (by omega))], _, _, 0, false, 0, rfl, ⟨_, _, rfl, NatV.zero _, NatV.zero _⟩⟩
  rw [if_neg (by omega)]
  simp +decide only [go_sem, W_region, Wx_some, Nat.reduceAdd, Nat.reduceMul, Nat.reduceEqDiff, Int.reduceAdd, Int.reduceSub, Int.reduceMul, Int.reduceNeg, Int.reduceToNat, hsz, e0, e1, e4, e7, e8, e9, e6', z6, h05.1, e7', z7, hz1, ne_eq, not_false_eq_true, dbs_length, hadd, h200]
  refine W_call Kok h07.1 (wof_run w7 neg (hnat.ext x7)) fun r w8 x8 hr => ?_
  simp +decide only [go_sem, W_region, Wx_some, Nat.reduceAdd, Nat.reduceMul, Nat.reduceEqDiff, Int.reduceAdd, Int.reduceSub, Int.reduceMul, Int.reduceNeg, Int.reduceToNat, hsz]
  refine W_call Kok (by have := h07.1; have := x8.1; omega) (whole_run w8 hr) fun r w9 x9 hr => ?_
  have hsub : IntKind.i64.wrap (n - ((T.length : Nat) : Int)) = n - ((T.length : Nat) : Int) := wrap_i64 (by omega) (by omega)
  simp +decide only [go_sem, W_region, Wx_some, Nat.reduceAdd, Nat.reduceMul, Nat.reduceEqDiff, Int.reduceAdd, Int.reduceSub, Int.reduceMul, Int.reduceNeg, Int.reduceToNat, hsz, e0, e1, e4, e7, e8, e9, dbs_length, hsub]
  have hdec : (dig (dec (dbs D ++ dbs T))).length ≤ 100000000 := by
    have := dig_ten (dec_lt hDT)
    omega
  refine W_call Kok (by have := h07.1; have := x8.1; have := x9.1; omega) (scaled_run w9 hr (by simp) hdec (by omega) (by omega)) fun r w10 x10 hr => ?_
  obtain ⟨pr, qr, rfl, hpr, hqr⟩ := hr
  obtain ⟨a1, n1, c1, rfl⟩ := natv_slice hpr
  obtain ⟨a2, n2, c2, rfl⟩ := natv_slice hqr
  have h710 := x8.trans (x9.trans x10)
  have h0a := h07.trans h710
  have gwa : w10.get h.size = _ := (h710.2 _ (by have := x4.1; have := x5.1; omega)).trans gw7
  obtain ⟨wd, ed, xd, hsd, gd, kd⟩ := put1 h0a jj (.cells [.slice a1 n1 c1, .bool (neg && decide (dec (dbs D ++ dbs T) ≠ 0)), .slice a2 n2 c2] 3)
  simp only [ne_eq] at ed gd
  simp +decide only [go_sem, W_region, Wx_some, Nat.reduceAdd, Nat.reduceMul, Nat.reduceEqDiff, Int.reduceAdd, Int.reduceSub, Int.reduceMul, Int.reduceNeg, Int.reduceToNat, hsz, e0, e1, e4, gwa, ed, gd]
  have hCk : i + (C - i + k) = C + k := by
    have : i ≤ C := by rw [hC, hB, hA]; omega
    omega
  refine .inr ⟨_, _, _, _, _, rfl, by omega, ?_, by rw [hCk], ⟨_, _, rfl, hpr.over gwa (by rfl) (by rfl) hsd gd kd, hqr.over gwa (by rfl) (by rfl) hsd gd kd⟩⟩
  have : D.length + T.length ≤ C - i := by
    rw [hC, hB, hA]
    cases p with
    | false =>
      have : T = [] := hT
      simp [this]
      omega
    | true => simp; omega
  omega
end Go.Proofs.YtjlaenglmdpboaaGreat.N17
