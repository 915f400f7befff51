/- Proved here: signs of the language, and numbers as texts: the kinds of signs, of every sign; where numbers begin, and how they are read; of every line of up to 512 signs. -/
import Derived.Test.YtjlaenglmdpboaaGreatQN14
namespace Go.Proofs.YtjlaenglmdpboaaGreat.N15
open Go Go.Im Go.Im.Limbs Go.Im.Lexing Go.Proofs Go.RowKit Go.Proofs.YtjlaenglmdpboaaGreat.Hd Go.Proofs.YtjlaenglmdpboaaGreat.N1 Go.Proofs.YtjlaenglmdpboaaGreat.N11 Go.Proofs.YtjlaenglmdpboaaGreat.N12 Go.Proofs.YtjlaenglmdpboaaGreat.N13 Go.Proofs.YtjlaenglmdpboaaGreat.N14
set_option maxRecDepth 100000
set_option linter.unusedSimpArgs false
set_option linter.unusedVariables false

theorem in_run (s : ByteArray) (l : List Int) (c : Int) (h : Heap) (hd : decB s 0 l = true) : Runs K f_glyph_in #[.string s, .int .i32 c] h fun r _ => r = .bool (l.elem c) := by
  refine Runs.of Kok (Does.intro rfl (by decide +kernel) F_glyph_in rfl ?_)
  obtain ⟨w0, e0, x0, hs0, z0⟩ := lay1 h (.siter s 0)
  simp +decide only [go_sem, W_region, Wx_some, Nat.reduceAdd, Nat.reduceMul, Nat.reduceEqDiff, Int.reduceAdd, Int.reduceSub, Int.reduceMul, Int.reduceNeg, Int.reduceToNat, e0]
  refine W_loop (α := Nat × List Int) (fun k e w => e.size = 15 ∧ Ext h w ∧ h.size < w.size ∧ w.get h.size = .siter s k.1 ∧ e.get 1 = .int .i32 c ∧ e.get 8 = .pointer (some ⟨h.size, 0, none⟩) ∧ decB s k.1 k.2 = true ∧ l.elem c = k.2.elem c) (fun k => k.2.length) (0, l) ?_ ?_
  · exact ⟨by simp +decide only [go_sem], x0, by omega, z0, by simp +decide only [go_sem], by simp +decide only [go_sem], hd, rfl⟩
  · rintro ⟨pos, l'⟩ e w ⟨hsz, hxw, hws, g0, e1, e8, hdec, hl⟩ next
    simp only at g0 hdec hl
    cases l' with
    | nil =>
      simp only [decB, decide_eq_true_eq] at hdec
      simp +decide only [go_sem, W_region, Wx_some, Nat.reduceAdd, Nat.reduceMul, Nat.reduceEqDiff, Int.reduceAdd, Int.reduceSub, Int.reduceMul, Int.reduceNeg, Int.reduceToNat, hsz, e1, e8, g0, inxt_end (Nat.le_refl _) hdec, hl]
      rfl
    | cons x l' =>
      simp only [decB, Bool.and_eq_true, decide_eq_true_eq] at hdec
      obtain ⟨⟨d1, d2⟩, d3⟩ := hdec
      obtain ⟨w1, e1', x1, hs1, g1, k1⟩ := put1 hxw (Nat.le_refl _) (.siter s (pos + (Utf8.decode s pos).2))
      by_cases hx : x = c
      · simp +decide only [go_sem, W_region, Wx_some, Nat.reduceAdd, Nat.reduceMul, Nat.reduceEqDiff, Int.reduceAdd, Int.reduceSub, Int.reduceMul, Int.reduceNeg, Int.reduceToNat, hsz, e1, e8, g0, inxt_more (Nat.le_refl _) d1, d2, e1', hx, hl]
        simp
      · simp +decide only [go_sem, W_region, Wx_some, Nat.reduceAdd, Nat.reduceMul, Nat.reduceEqDiff, Int.reduceAdd, Int.reduceSub, Int.reduceMul, Int.reduceNeg, Int.reduceToNat, hsz, e1, e8, g0, inxt_more (Nat.le_refl _) d1, d2, e1', hx]
        refine next (pos + (Utf8.decode s pos).2, l') _ _ ⟨by simp +decide only [go_sem, hsz], x1, by omega, g1, by simp +decide only [go_sem, hsz, e1], by simp +decide only [go_sem, hsz, e8], d3, ?_⟩ (by simp)
        simp only [hl, List.elem_cons]
        have : (c == x) = false := by simp; exact fun hh => hx hh.symm
        rw [this]


theorem kind_run (c : Int) (h : Heap) : Runs K f_glyph_Kind #[.int .i32 c] h fun r _ => r = .int .i64 (kindOf c) := by
  refine Runs.of Kok (Does.intro rfl (by decide +kernel) F_glyph_Kind rfl ?_)
  by_cases h32 : c = 32
  · subst h32
    simp +decide only [go_sem, W_region, Wx_some, Nat.reduceAdd, Nat.reduceMul, Nat.reduceEqDiff, Int.reduceAdd, Int.reduceSub, Int.reduceMul, Int.reduceNeg, Int.reduceToNat]
    rfl
  simp +decide only [go_sem, W_region, Wx_some, Nat.reduceAdd, Nat.reduceMul, Nat.reduceEqDiff, Int.reduceAdd, Int.reduceSub, Int.reduceMul, Int.reduceNeg, Int.reduceToNat]
  rw [decide_eq_false h32, Wc_false, W_seq]
  refine W_cut (J := fun e w => e.size = 55 ∧ e.get 0 = .int .i32 c ∧ e.get 6 = .bool (isL c) ∧ w = h) (by simp only [straight, KD]; rfl) ?_ ?_
  · by_cases a1 : 97 ≤ c
    · by_cases a2 : c ≤ 122
      · have il : isL c = true := by simp [isL]; omega
        simp +decide only [go_sem, W_region, Wx_some, Nat.reduceAdd, Nat.reduceMul, Nat.reduceEqDiff, Int.reduceAdd, Int.reduceSub, Int.reduceMul, Int.reduceNeg, Int.reduceToNat, a1, a2, il]
      · have a3 : 65 ≤ c := by omega
        have a4 : ¬ c ≤ 90 := by omega
        have a5 : ¬ c = 95 := by omega
        have il : isL c = decide (c = 8710) := by simp [isL, a2, a4, a5]
        by_cases a6 : c = 8710
        · simp +decide only [go_sem, W_region, Wx_some, Nat.reduceAdd, Nat.reduceMul, Nat.reduceEqDiff, Int.reduceAdd, Int.reduceSub, Int.reduceMul, Int.reduceNeg, Int.reduceToNat, a1, a2, a3, a4, a5, a6, il]
          rfl
        · simp +decide only [go_sem, W_region, Wx_some, Nat.reduceAdd, Nat.reduceMul, Nat.reduceEqDiff, Int.reduceAdd, Int.reduceSub, Int.reduceMul, Int.reduceNeg, Int.reduceToNat, a1, a2, a3, a4, a5, a6, il]
    · by_cases a3 : 65 ≤ c
      · by_cases a4 : c ≤ 90
        · have il : isL c = true := by simp [isL]; omega
          simp +decide only [go_sem, W_region, Wx_some, Nat.reduceAdd, Nat.reduceMul, Nat.reduceEqDiff, Int.reduceAdd, Int.reduceSub, Int.reduceMul, Int.reduceNeg, Int.reduceToNat, a1, a3, a4, il]
        · have a6 : ¬ c = 8710 := by omega
          have il : isL c = decide (c = 95) := by simp [isL, a1, a4, a6]
          by_cases a5 : c = 95
          · simp +decide only [go_sem, W_region, Wx_some, Nat.reduceAdd, Nat.reduceMul, Nat.reduceEqDiff, Int.reduceAdd, Int.reduceSub, Int.reduceMul, Int.reduceNeg, Int.reduceToNat, a1, a3, a4, a5, il]
            rfl
          · simp +decide only [go_sem, W_region, Wx_some, Nat.reduceAdd, Nat.reduceMul, Nat.reduceEqDiff, Int.reduceAdd, Int.reduceSub, Int.reduceMul, Int.reduceNeg, Int.reduceToNat, a1, a3, a4, a5, a6, il]
      · have a5 : ¬ c = 95 := by omega
        have a6 : ¬ c = 8710 := by omega
        have il : isL c = false := by simp [isL, a1, a3, a5, a6]
        simp +decide only [go_sem, W_region, Wx_some, Nat.reduceAdd, Nat.reduceMul, Nat.reduceEqDiff, Int.reduceAdd, Int.reduceSub, Int.reduceMul, Int.reduceNeg, Int.reduceToNat, a1, a3, a5, a6, il]
  rintro e w ⟨hsz, e0, e6, rfl⟩
  cases hl : isL c with
  | true =>
    rw [hl] at e6
    simp +decide only [go_sem, W_region, Wx_some, Nat.reduceAdd, Nat.reduceMul, Nat.reduceEqDiff, Int.reduceAdd, Int.reduceSub, Int.reduceMul, Int.reduceNeg, Int.reduceToNat, hsz, e0, e6]
    simp only [kindOf, h32, hl, if_true, if_false]
    rfl
  | false =>
  rw [hl] at e6
  rw [W_cond, Env.eval_tmp, e6, Wc_false, W_seq]
  refine W_cut (J := fun e w' => e.size = 55 ∧ e.get 0 = .int .i32 c ∧ e.get 29 = .bool (isD c || decide (c = 175)) ∧ w' = w) (by simp only [straight, KD]; rfl) ?_ ?_
  · by_cases a1 : 48 ≤ c
    · by_cases a2 : c ≤ 57
      · have il : isD c = true := by simp [isD, a1, a2]
        simp +decide only [go_sem, W_region, Wx_some, Nat.reduceAdd, Nat.reduceMul, Nat.reduceEqDiff, Int.reduceAdd, Int.reduceSub, Int.reduceMul, Int.reduceNeg, Int.reduceToNat, hsz, e0, a1, a2, il]
      · have il : isD c = false := by simp [isD, a2]
        by_cases a3 : c = 175
        · simp +decide only [go_sem, W_region, Wx_some, Nat.reduceAdd, Nat.reduceMul, Nat.reduceEqDiff, Int.reduceAdd, Int.reduceSub, Int.reduceMul, Int.reduceNeg, Int.reduceToNat, hsz, e0, a1, a2, il, a3]
        · simp +decide only [go_sem, W_region, Wx_some, Nat.reduceAdd, Nat.reduceMul, Nat.reduceEqDiff, Int.reduceAdd, Int.reduceSub, Int.reduceMul, Int.reduceNeg, Int.reduceToNat, hsz, e0, a1, a2, il, a3]
    · have il : isD c = false := by simp [isD, a1]
      have a3 : ¬ c = 175 := by omega
      simp +decide only [go_sem, W_region, Wx_some, Nat.reduceAdd, Nat.reduceMul, Nat.reduceEqDiff, Int.reduceAdd, Int.reduceSub, Int.reduceMul, Int.reduceNeg, Int.reduceToNat, hsz, e0, a1, il, a3]
  rintro e w' ⟨hsz, e0, e29, rfl⟩
  cases hd : (isD c || decide (c = 175)) with
  | true =>
    rw [hd] at e29
    simp +decide only [go_sem, W_region, Wx_some, Nat.reduceAdd, Nat.reduceMul, Nat.reduceEqDiff, Int.reduceAdd, Int.reduceSub, Int.reduceMul, Int.reduceNeg, Int.reduceToNat, hsz, e0, e29]
    simp only [kindOf, h32, hl, hd, if_true, if_false, Bool.false_eq_true]
    rfl
  | false =>
  rw [hd] at e29
  simp +decide only [go_sem, W_region, Wx_some, Nat.reduceAdd, Nat.reduceMul, Nat.reduceEqDiff, Int.reduceAdd, Int.reduceSub, Int.reduceMul, Int.reduceNeg, Int.reduceToNat, hsz, e0, e29]
  refine W_call Kok (Nat.le_refl _) (in_run _ t4 c _ (by decide +kernel)) fun r w1 x1 hr => ?_
  subst hr
  cases h4 : t4.elem c with
  | true =>
    simp +decide only [go_sem, W_region, Wx_some, Nat.reduceAdd, Nat.reduceMul, Nat.reduceEqDiff, Int.reduceAdd, Int.reduceSub, Int.reduceMul, Int.reduceNeg, Int.reduceToNat, hsz, e0]
    simp only [kindOf, h32, hl, hd, h4, if_true, if_false, Bool.false_eq_true]
    rfl
  | false =>
  simp +decide only [go_sem, W_region, Wx_some, Nat.reduceAdd, Nat.reduceMul, Nat.reduceEqDiff, Int.reduceAdd, Int.reduceSub, Int.reduceMul, Int.reduceNeg, Int.reduceToNat, hsz, e0]
  refine W_call Kok (by have := x1.1; omega) (in_run _ t5 c _ (by decide +kernel)) fun r w2 x2 hr => ?_
  subst hr
  cases h5 : t5.elem c with
  | true =>
    simp +decide only [go_sem, W_region, Wx_some, Nat.reduceAdd, Nat.reduceMul, Nat.reduceEqDiff, Int.reduceAdd, Int.reduceSub, Int.reduceMul, Int.reduceNeg, Int.reduceToNat, hsz, e0]
    simp only [kindOf, h32, hl, hd, h4, h5, if_true, if_false, Bool.false_eq_true]
    rfl
  | false =>
  simp +decide only [go_sem, W_region, Wx_some, Nat.reduceAdd, Nat.reduceMul, Nat.reduceEqDiff, Int.reduceAdd, Int.reduceSub, Int.reduceMul, Int.reduceNeg, Int.reduceToNat, hsz, e0]
  refine W_call Kok (by have := x1.1; have := x2.1; omega) (in_run _ t6 c _ (by decide +kernel)) fun r w3 x3 hr => ?_
  subst hr
  cases h6 : t6.elem c with
  | true =>
    simp +decide only [go_sem, W_region, Wx_some, Nat.reduceAdd, Nat.reduceMul, Nat.reduceEqDiff, Int.reduceAdd, Int.reduceSub, Int.reduceMul, Int.reduceNeg, Int.reduceToNat, hsz, e0]
    simp only [kindOf, h32, hl, hd, h4, h5, h6, if_true, if_false, Bool.false_eq_true]
    rfl
  | false =>
  simp +decide only [go_sem, W_region, Wx_some, Nat.reduceAdd, Nat.reduceMul, Nat.reduceEqDiff, Int.reduceAdd, Int.reduceSub, Int.reduceMul, Int.reduceNeg, Int.reduceToNat, hsz, e0]
  refine W_call Kok (by have := x1.1; have := x2.1; have := x3.1; omega) (in_run _ t7 c _ (by decide +kernel)) fun r w4 x4 hr => ?_
  subst hr
  cases h7 : t7.elem c with
  | true =>
    simp +decide only [go_sem, W_region, Wx_some, Nat.reduceAdd, Nat.reduceMul, Nat.reduceEqDiff, Int.reduceAdd, Int.reduceSub, Int.reduceMul, Int.reduceNeg, Int.reduceToNat, hsz, e0]
    simp only [kindOf, h32, hl, hd, h4, h5, h6, h7, if_true, if_false, Bool.false_eq_true]
    rfl
  | false =>
  simp +decide only [go_sem, W_region, Wx_some, Nat.reduceAdd, Nat.reduceMul, Nat.reduceEqDiff, Int.reduceAdd, Int.reduceSub, Int.reduceMul, Int.reduceNeg, Int.reduceToNat, hsz, e0]
  refine W_call Kok (by have := x1.1; have := x2.1; have := x3.1; have := x4.1; omega) (in_run _ t8 c _ (by decide +kernel)) fun r w5 x5 hr => ?_
  subst hr
  cases h8 : t8.elem c with
  | true =>
    simp +decide only [go_sem, W_region, Wx_some, Nat.reduceAdd, Nat.reduceMul, Nat.reduceEqDiff, Int.reduceAdd, Int.reduceSub, Int.reduceMul, Int.reduceNeg, Int.reduceToNat, hsz, e0]
    simp only [kindOf, h32, hl, hd, h4, h5, h6, h7, h8, if_true, if_false, Bool.false_eq_true]
    rfl
  | false =>
    simp +decide only [go_sem, W_region, Wx_some, Nat.reduceAdd, Nat.reduceMul, Nat.reduceEqDiff, Int.reduceAdd, Int.reduceSub, Int.reduceMul, Int.reduceNeg, Int.reduceToNat, hsz, e0]
    simp only [kindOf, h32, hl, hd, h4, h5, h6, h7, h8, if_true, if_false, Bool.false_eq_true]
    rfl

theorem word_run (c : Int) (h : Heap) : Runs K f_glyph_Word #[.int .i32 c] h fun r _ => r = .bool (isW c) := by
  refine Runs.of Kok (Does.intro rfl (by decide +kernel) F_glyph_Word rfl ?_)
  simp +decide only [go_sem, W_region, Wx_some, Nat.reduceAdd, Nat.reduceMul, Nat.reduceEqDiff, Int.reduceAdd, Int.reduceSub, Int.reduceMul, Int.reduceNeg, Int.reduceToNat]
  refine W_call Kok (Nat.le_refl _) (kind_run c h) fun r w1 x1 hr => ?_
  subst hr
  by_cases h2 : kindOf c = 2
  · have h2' : ((kindOf c : Nat) : Int) = 2 := by omega
    simp +decide only [go_sem, W_region, Wx_some, Nat.reduceAdd, Nat.reduceMul, Nat.reduceEqDiff, Int.reduceAdd, Int.reduceSub, Int.reduceMul, Int.reduceNeg, Int.reduceToNat, h2']
    simp [isW, h2]
  · have h2' : ¬ ((kindOf c : Nat) : Int) = 2 := by omega
    by_cases a1 : 48 ≤ c
    · simp +decide only [go_sem, W_region, Wx_some, Nat.reduceAdd, Nat.reduceMul, Nat.reduceEqDiff, Int.reduceAdd, Int.reduceSub, Int.reduceMul, Int.reduceNeg, Int.reduceToNat, h2', a1]
      simp [isW, h2, isD, a1]
    · simp +decide only [go_sem, W_region, Wx_some, Nat.reduceAdd, Nat.reduceMul, Nat.reduceEqDiff, Int.reduceAdd, Int.reduceSub, Int.reduceMul, Int.reduceNeg, Int.reduceToNat, h2', a1]
      simp [isW, h2, isD, a1]

theorem name_run (l : List Int) {v : Value} (h : Heap) (t : Tx h v l) (hm : l.length ≤ 1099511627776) : Runs K f_glyph_Name #[v] h fun r _ => r = .bool (nameOK l) := by
  obtain ⟨a, c, rfl⟩ := t.open
  refine Runs.of Kok (Does.intro rfl (by decide +kernel) F_glyph_Name rfl ?_)
  by_cases h0 : ((l.length : Nat) : Int) = 0
  · have : ¬ 1 ≤ l.length := by omega
    simp +decide only [go_sem, W_region, Wx_some, Nat.reduceAdd, Nat.reduceMul, Nat.reduceEqDiff, Int.reduceAdd, Int.reduceSub, Int.reduceMul, Int.reduceNeg, Int.reduceToNat, h0]
    simp [nameOK, this]
  by_cases h24 : (24 : Int) < ((l.length : Nat) : Int)
  · have : ¬ l.length ≤ 24 := by omega
    simp +decide only [go_sem, W_region, Wx_some, Nat.reduceAdd, Nat.reduceMul, Nat.reduceEqDiff, Int.reduceAdd, Int.reduceSub, Int.reduceMul, Int.reduceNeg, Int.reduceToNat, h0, h24]
    simp [nameOK, this]
  obtain ⟨x, hx⟩ : ∃ x, l[0]? = some x := ⟨_, List.getElem?_eq_getElem (by omega)⟩
  obtain ⟨b, o, cs, e1, e2, e3, e4⟩ := t.one hx
  cases e1
  have p0 : (0 : Int) < ((l.length : Nat) : Int) := by omega
  have e4' : cs[o]? = some (.int .i32 x) := e4
  simp +decide only [go_sem, W_region, Wx_some, Nat.reduceAdd, Nat.reduceMul, Nat.reduceEqDiff, Int.reduceAdd, Int.reduceSub, Int.reduceMul, Int.reduceNeg, Int.reduceToNat, h0, h24, e3, e4', p0]
  refine W_call Kok (Nat.le_refl _) (kind_run x h) fun r w1 x1 hr => ?_
  subst hr
  by_cases h2 : kindOf x = 2
  case neg =>
    have h2' : ¬ ((kindOf x : Nat) : Int) = 2 := by omega
    simp +decide only [go_sem, W_region, Wx_some, Nat.reduceAdd, Nat.reduceMul, Nat.reduceEqDiff, Int.reduceAdd, Int.reduceSub, Int.reduceMul, Int.reduceNeg, Int.reduceToNat, h2']
    simp [nameOK, hx, h2]
  have h2' : ((kindOf x : Nat) : Int) = 2 := by omega
  have hbase : nameOK l = l.all isW := by
    have q1 : 1 ≤ l.length := by omega
    have q2 : l.length ≤ 24 := by omega
    simp only [nameOK, hx, q1, q2, h2, decide_true, Bool.true_and]
  rw [hbase]
  simp +decide only [go_sem, W_region, Wx_some, Nat.reduceAdd, Nat.reduceMul, Nat.reduceEqDiff, Int.reduceAdd, Int.reduceSub, Int.reduceMul, Int.reduceNeg, Int.reduceToNat, h2']
  refine W_loop (α := Nat) (fun i e w => i ≤ l.length ∧ e.size = 30 ∧ Ext h w ∧ e.get 20 = .slice (some ⟨b, o, none⟩) l.length big ∧ e.get 21 = .int .i64 ((l.length : Nat) : Int) ∧ e.get 22 = .int .i64 (i : Int) ∧ (l.take i).all isW = true) (fun i => l.length - i) 0 ?_ ?_
  · exact ⟨Nat.zero_le _, by simp +decide only [go_sem], x1, by simp +decide only [go_sem], by simp +decide only [go_sem], by simp +decide only [go_sem]; rfl, by simp⟩
  · rintro i e w ⟨hi, hsz, hxw, e20, e21, e22, hall⟩ next
    by_cases hil : (i : Int) < ((l.length : Nat) : Int)
    case neg =>
      have : l.all isW = true := by rw [List.take_of_length_le (by omega)] at hall; exact hall
      simp +decide only [go_sem, W_region, Wx_some, Nat.reduceAdd, Nat.reduceMul, Nat.reduceEqDiff, Int.reduceAdd, Int.reduceSub, Int.reduceMul, Int.reduceNeg, Int.reduceToNat, hsz, e20, e21, e22, hil, this]
    obtain ⟨y, hy⟩ : ∃ y, l[i]? = some y := ⟨_, List.getElem?_eq_getElem (by omega)⟩
    obtain ⟨b', o', cs', q1, q2, q3, q4⟩ := (t.ext hxw).one hy
    cases q1
    have i0 : (0 : Int) ≤ (i : Int) := by omega
    have i1 : IntKind.i64.wrap ((i : Int) + 1) = ((i + 1 : Nat) : Int) := by rw [wrap_i64 (by omega) (by omega)]; omega
    simp +decide only [go_sem, W_region, Wx_some, Nat.reduceAdd, Nat.reduceMul, Nat.reduceEqDiff, Int.reduceAdd, Int.reduceSub, Int.reduceMul, Int.reduceNeg, Int.reduceToNat, hsz, e20, e21, e22, hil, i0, Int.toNat_natCast, Nat.mul_one, q3, q4]
    refine W_call Kok hxw.1 (word_run y w) fun r w2 x2 hr => ?_
    subst hr
    cases hw : isW y with
    | false =>
      have : l.all isW = false := by
        rw [List.all_eq_false]
        exact ⟨y, List.mem_of_getElem? hy, by simp [hw]⟩
      simp +decide only [go_sem, W_region, Wx_some, Nat.reduceAdd, Nat.reduceMul, Nat.reduceEqDiff, Int.reduceAdd, Int.reduceSub, Int.reduceMul, Int.reduceNeg, Int.reduceToNat, hsz, e20, e21, e22, this]
    | true =>
      simp +decide only [go_sem, W_region, Wx_some, Nat.reduceAdd, Nat.reduceMul, Nat.reduceEqDiff, Int.reduceAdd, Int.reduceSub, Int.reduceMul, Int.reduceNeg, Int.reduceToNat, hsz, e20, e21, e22, i1]
      refine next (i + 1) _ _ ⟨by omega, by simp +decide only [go_sem, hsz], hxw.trans x2, by simp +decide only [go_sem, hsz, e20], by simp +decide only [go_sem, hsz, e21], by simp +decide only [go_sem, hsz], ?_⟩ (by omega)
      rw [List.take_add_one, List.all_append, hall, hy]
      simp [hw]
end Go.Proofs.YtjlaenglmdpboaaGreat.N15
