/- Proved here: where the bracket or parenthesis begins that ends at a token, in the program and in the document. -/
import Derived.Test.YtjlaenglmdpboaaGreatR9
set_option linter.unusedSimpArgs false
set_option linter.unusedVariables false
namespace Go.Im.Lexing
/-- Is a token a mark? -/
def isM (t : Tk) (c : Int) : Bool := decide (t.kind = 6) && decide (t.sign = c)
/-- One deeper, one less deep, or neither. -/
def deltaT (t : Tk) : Int := if isM t 41 || isM t 93 then 1 else if isM t 40 || isM t 91 then -1 else 0
/-- The place where what ends at a place begins; -1: nowhere. -/
def openT (ts : List (Nat × Tk)) : Nat → Int → Int
  | 0, _ => -1
  | k + 1, n => match ts[k]? with
    | none => -1
    | some t => if n + deltaT t.2 = 0 then (k : Int) else openT ts k (n + deltaT t.2)
theorem openT_at {ts : List (Nat × Tk)} {k : Nat} {t : Nat × Tk} (h : ts[k]? = some t) (n : Int) : openT ts (k + 1) n = if n + deltaT t.2 = 0 then (k : Int) else openT ts k (n + deltaT t.2) := by
  rw [openT, h]
/-- One deeper, or not; and one less deep, or not. -/
theorem delta_two (t : Tk) : deltaT t = (if isM t 41 || isM t 93 then 1 else 0) - (if isM t 40 || isM t 91 then 1 else 0) := by
  unfold deltaT isM
  by_cases hk : t.kind = 6
  · by_cases h1 : t.sign = 41
    · simp [hk, h1]
    · by_cases h2 : t.sign = 93
      · simp [hk, h2]
      · by_cases h3 : t.sign = 40
        · simp [hk, h3]
        · by_cases h4 : t.sign = 91
          · simp [hk, h4]
          · simp [hk, h1, h2, h3, h4]
  · simp [hk]
theorem delta_le (t : Tk) : -1 ≤ deltaT t ∧ deltaT t ≤ 1 := by
  unfold deltaT
  repeat' split
  all_goals omega
end Go.Im.Lexing
namespace Go.Proofs.YtjlaenglmdpboaaGreat.T1
open Go Go.Im Go.Im.Limbs Go.Im.Lexing Go.Proofs Go.RowKit Go.Proofs.YtjlaenglmdpboaaGreat.Hd Go.Proofs.YtjlaenglmdpboaaGreat.N18 Go.Proofs.YtjlaenglmdpboaaGreat.N19 Go.Proofs.YtjlaenglmdpboaaGreat.N23 Go.Proofs.YtjlaenglmdpboaaGreat.N26 Go.Proofs.YtjlaenglmdpboaaGreat.R8 Go.Proofs.YtjlaenglmdpboaaGreat.R9
set_option maxRecDepth 100000

theorem tok_len8 {x : XT} (h : Arr4 x.2) : (tc4 x.1 ++ x.2).length = 8 := by
  obtain ⟨a, n, c, b, a2, n2, c2, a3, n3, c3, h⟩ := h
  rw [h]
  rfl
theorem xcs_at8 : ∀ {xs : List XT} {i : Nat} {x : XT}, (∀ x ∈ xs, Arr4 x.2) → xs[i]? = some x → ((xcs xs).drop (i * 8)).take 8 = tc4 x.1 ++ x.2
  | [], i, x, _, h => by simp at h
  | y :: xs, 0, x, hA, h => by
    cases h
    have h1 := tok_len8 (hA y (by simp))
    simp only [xcs, List.flatMap_cons, Nat.zero_mul, List.drop_zero]
    rw [← h1, List.take_left']
    rfl
  | y :: xs, i + 1, x, hA, h => by
    have h1 := tok_len8 (hA y (by simp))
    have h2 := xcs_at8 (xs := xs) (i := i) (fun z hz => hA z (by simp [hz])) (by simpa using h)
    rw [← h2]
    simp only [xcs, List.flatMap_cons]
    have : (i + 1) * 8 = 8 + i * 8 := by omega
    rw [this, ← List.drop_drop, ← h1, List.drop_left']
    rfl
/-- A token in memory. -/
theorem Sl.tok8 {h : Heap} {a : Option Addr} {n c i : Nat} {xs : List XT} {x : XT} (s : Sl h 8 a n c (xcs xs)) (hA : ∀ x ∈ xs, Arr4 x.2) (hn : xs.length = n) (hx : xs[i]? = some x) :
    ∃ b o cs, a = some ⟨b, o, none⟩ ∧ b < h.size ∧ (h.get b).read = .cells cs 8 ∧ cs[o + i * 8]? = some (.int .i64 (x.1.2.kind : Int)) ∧ cs[o + i * 8 + 1]? = some (.int .i64 (x.1.1 : Int)) ∧ cs[o + i * 8 + 2]? = some (.string (runesBytes x.1.2.word)) ∧
      cs[o + i * 8 + 3]? = some (.int .i32 x.1.2.sign) ∧ (cs.drop (o + i * 8)).take 8 = tc4 x.1 ++ x.2 ∧ o + i * 8 + 8 ≤ cs.length := by
  have hi : i < n := by rw [← hn]; exact (List.getElem?_eq_some_iff.1 hx).1
  obtain ⟨b, o, cs, h1, h2, h3, h4, h5⟩ := s.at hi
  have h6 := xcs_at8 hA hx
  have h9 : i * 8 + 8 ≤ n * 8 := by omega
  rw [h5, List.drop_take, List.take_take, List.drop_drop, Nat.min_eq_left (by omega)] at h6
  have hj : ∀ j, j < 8 → cs[o + i * 8 + j]? = (tc4 x.1 ++ x.2)[j]? := by
    intro j hj
    rw [← h6, List.getElem?_take, if_pos hj, List.getElem?_drop]
  exact ⟨b, o, cs, h1, h2, h3, (hj 0 (by omega)).trans rfl, (hj 1 (by omega)).trans rfl, (hj 2 (by omega)).trans rfl, (hj 3 (by omega)).trans rfl, h6, by omega⟩

theorem is_run (x : Nat × Tk) {rest : List Value} (hA : Arr5 rest) (y : Int) (h : Heap) : Runs K f_token_Token_Is #[.agg (tc4 x ++ rest).toArray, .int .i32 y] h fun r _ => r = .bool (isM x.2 y) := by
  obtain ⟨a, n, c, b, a2, n2, c2, a3, n3, c3, m, rfl⟩ := hA
  refine Runs.of Kok (Does.intro rfl (by decide +kernel) F_token_Token_Is rfl ?_)
  obtain ⟨w0, e0, x0, hs0, z0⟩ := lay1 h (.cells [.int .i64 (x.2.kind : Int), .int .i64 (x.1 : Int), .string (runesBytes x.2.word), .int .i32 x.2.sign, .slice a n c, .bool b, .slice a2 n2 c2, .slice a3 n3 c3, .bool m] 9)
  simp only [tc4, List.cons_append, List.nil_append]
  by_cases hk : x.2.kind = 6
  · have hk' : ((x.2.kind : Nat) : Int) = 6 := by omega
    rw [hk'] at e0 z0
    simp (decide := true) only [go_sem, W_region, Wx_some, Nat.reduceAdd, Nat.reduceMul, Nat.reduceEqDiff, Int.reduceAdd, Int.reduceSub, Int.reduceMul, Int.reduceNeg, Int.reduceToNat, hk', e0, z0]
    simp [isM, hk]
  · have hk' : ¬ ((x.2.kind : Nat) : Int) = 6 := by omega
    simp (decide := true) only [go_sem, W_region, Wx_some, Nat.reduceAdd, Nat.reduceMul, Nat.reduceEqDiff, Int.reduceAdd, Int.reduceSub, Int.reduceMul, Int.reduceNeg, Int.reduceToNat, e0, z0, hk']
    simp [isM, hk]
theorem ris_run (x : Nat × Tk) {rest : List Value} (hA : Arr4 rest) (y : Int) (h : Heap) : Runs K f_ref22_Is #[.agg (tc4 x ++ rest).toArray, .int .i32 y] h fun r _ => r = .bool (isM x.2 y) := by
  obtain ⟨a, n, c, b, a2, n2, c2, a3, n3, c3, rfl⟩ := hA
  refine Runs.of Kok (Does.intro rfl (by decide +kernel) F_ref22_Is rfl ?_)
  obtain ⟨w0, e0, x0, hs0, z0⟩ := lay1 h (.cells [.int .i64 (x.2.kind : Int), .int .i64 (x.1 : Int), .string (runesBytes x.2.word), .int .i32 x.2.sign, .slice a n c, .bool b, .slice a2 n2 c2, .slice a3 n3 c3] 8)
  simp only [tc4, List.cons_append, List.nil_append]
  by_cases hk : x.2.kind = 6
  · have hk' : ((x.2.kind : Nat) : Int) = 6 := by omega
    rw [hk'] at e0 z0
    simp (decide := true) only [go_sem, W_region, Wx_some, Nat.reduceAdd, Nat.reduceMul, Nat.reduceEqDiff, Int.reduceAdd, Int.reduceSub, Int.reduceMul, Int.reduceNeg, Int.reduceToNat, hk', e0, z0]
    simp [isM, hk]
  · have hk' : ¬ ((x.2.kind : Nat) : Int) = 6 := by omega
    simp (decide := true) only [go_sem, W_region, Wx_some, Nat.reduceAdd, Nat.reduceMul, Nat.reduceEqDiff, Int.reduceAdd, Int.reduceSub, Int.reduceMul, Int.reduceNeg, Int.reduceToNat, e0, z0, hk']
    simp [isM, hk]
theorem opener_run (xs : List XT) (i : Nat) (h : Heap) {a : Option Addr} {c : Nat} (s : Sl h 9 a xs.length c (xcs xs)) (hA : ∀ x ∈ xs, Arr5 x.2) (hi : i < xs.length) (hl : xs.length ≤ 1000) :
    Runs K f_token_Opener #[.slice a xs.length c, .int .i64 (i : Int)] h fun r _ => r = .int .i64 (openT (xs.map (·.1)) (i + 1) 0) := by
  refine Runs.of Kok (Does.intro rfl (by decide +kernel) F_token_Opener rfl ?_)
  simp (decide := true) only [go_sem, W_region, Wx_some, Nat.reduceAdd, Nat.reduceMul, Nat.reduceEqDiff, Int.reduceAdd, Int.reduceSub, Int.reduceMul, Int.reduceNeg, Int.reduceToNat]
  refine W_loop (α := Nat × Int) (fun k e w => k.1 ≤ i + 1 ∧ -((i + 1 - k.1 : Nat) : Int) ≤ k.2 ∧ k.2 ≤ ((i + 1 - k.1 : Nat) : Int) ∧ e.size = 45 ∧ Ext h w ∧ e.get 0 = .slice a xs.length c ∧ e.get 5 = .int .i64 k.2 ∧ e.get 6 = .int .i64 ((k.1 : Int) - 1) ∧
    openT (xs.map (·.1)) (i + 1) 0 = openT (xs.map (·.1)) k.1 k.2) (fun k => k.1) (i + 1, 0) ?_ ?_
  · exact ⟨Nat.le_refl _, by simp, by simp, by simp (decide := true) only [go_sem], Ext.refl h, by simp (decide := true) only [go_sem], by simp (decide := true) only [go_sem], by simp (decide := true) only [go_sem]; congr 1; omega, rfl⟩
  · rintro ⟨k, n⟩ e w ⟨hk, hn1, hn2, hsz, hxw, e0, e5, e6, hop⟩ next
    simp only at hk hn1 hn2 e5 e6 hop
    cases k with
    | zero =>
      have c1 : ¬ (0 : Int) ≤ ((0 : Nat) : Int) - 1 := by omega
      simp (decide := true) only [go_sem, W_region, Wx_some, Nat.reduceAdd, Nat.reduceMul, Nat.reduceEqDiff, Int.reduceAdd, Int.reduceSub, Int.reduceMul, Int.reduceNeg, Int.reduceToNat, hsz, e0, e5, e6, c1]
      rw [hop]
      rfl
    | succ k =>
    have e6' : ((k + 1 : Nat) : Int) - 1 = (k : Int) := by omega
    rw [e6'] at e6
    have c1 : (0 : Int) ≤ (k : Int) := by omega
    have c2 : (k : Int) < ((xs.length : Nat) : Int) := by omega
    obtain ⟨X, hX⟩ : ∃ X, xs[k]? = some X := ⟨_, List.getElem?_eq_getElem (by omega)⟩
    have hXA := hA X (List.mem_of_getElem? hX)
    have hXm : (xs.map (·.1))[k]? = some X.1 := by rw [List.getElem?_map, hX]; rfl
    rw [openT_at hXm] at hop
    obtain ⟨b1, o1, cs1, p1, p2, p3, _, _, _, _, p4, p5⟩ := Sl.tok s hA rfl hX
    subst p1
    have g0 : ∀ {w' : Heap}, Ext h w' → (w'.get b1).read = .cells cs1 9 := fun x' => by rw [x'.2 _ p2]; exact p3
    have hd := delta_le X.1.2
    have gw := g0 hxw
    simp (decide := true) only [go_sem, W_region, Wx_some, Nat.reduceAdd, Nat.reduceMul, Nat.reduceEqDiff, Int.reduceAdd, Int.reduceSub, Int.reduceMul, Int.reduceNeg, Int.reduceToNat, hsz, e0, e5, e6, c1, c2, Int.toNat_natCast, gw, p5, p4]
    apply W_join (α := Unit) (fun _ e w => e.size = 45 ∧ Ext h w ∧ e.get 0 = .slice (some ⟨b1, o1, none⟩) xs.length c ∧ e.get 5 = .int .i64 (n + deltaT X.1.2) ∧ e.get 6 = .int .i64 (k : Int))
    · intro cont
      have i1 : IntKind.i64.wrap (n + 1) = n + 1 := wrap_i64 (by omega) (by omega)
      have i2 : IntKind.i64.wrap (n - 1) = n - 1 := wrap_i64 (by omega) (by omega)
      refine W_call Kok hxw.1 (is_run X.1 hXA 41 w) fun r w1 x1 hr => ?_
      subst hr
      have y1 := hxw.trans x1
      cases h41 : isM X.1.2 41 with
      | true =>
        have hde : deltaT X.1.2 = 1 := by simp [deltaT, h41]
        simp (decide := true) only [go_sem, Wx_some, Nat.reduceAdd, Nat.reduceMul, Nat.reduceEqDiff, Int.reduceAdd, Int.reduceSub, Int.reduceMul, Int.reduceNeg, Int.reduceToNat, hsz, e0, e5, e6]
        (rw [W_region]; simp (decide := true) only [go_sem, Wx_some, Nat.reduceAdd, Nat.reduceMul, Nat.reduceEqDiff, Int.reduceAdd, Int.reduceSub, Int.reduceMul, Int.reduceNeg, Int.reduceToNat, hsz, e0, e5, e6, i1])
        exact cont () _ _ ⟨by simp (decide := true) only [go_sem, hsz], y1, by simp (decide := true) only [go_sem, hsz, e0], by rw [hde]; simp (decide := true) only [go_sem, W_region, Wx_some, Nat.reduceAdd, Nat.reduceMul, Nat.reduceEqDiff, Int.reduceAdd, Int.reduceSub, Int.reduceMul, Int.reduceNeg, Int.reduceToNat, hsz], by simp (decide := true) only [go_sem, hsz, e6]⟩
      | false =>
      simp (decide := true) only [go_sem, Wx_some, Nat.reduceAdd, Nat.reduceMul, Nat.reduceEqDiff, Int.reduceAdd, Int.reduceSub, Int.reduceMul, Int.reduceNeg, Int.reduceToNat, hsz, e0, e5, e6, c1, c2, Int.toNat_natCast, g0 y1, p5, p4]
      refine W_call Kok y1.1 (is_run X.1 hXA 93 w1) fun r w2 x2 hr => ?_
      subst hr
      have y2 := y1.trans x2
      cases h93 : isM X.1.2 93 with
      | true =>
        have hde : deltaT X.1.2 = 1 := by simp [deltaT, h93]
        simp (decide := true) only [go_sem, Wx_some, Nat.reduceAdd, Nat.reduceMul, Nat.reduceEqDiff, Int.reduceAdd, Int.reduceSub, Int.reduceMul, Int.reduceNeg, Int.reduceToNat, hsz, e0, e5, e6]
        (rw [W_region]; simp (decide := true) only [go_sem, Wx_some, Nat.reduceAdd, Nat.reduceMul, Nat.reduceEqDiff, Int.reduceAdd, Int.reduceSub, Int.reduceMul, Int.reduceNeg, Int.reduceToNat, hsz, e0, e5, e6, i1])
        exact cont () _ _ ⟨by simp (decide := true) only [go_sem, hsz], y2, by simp (decide := true) only [go_sem, hsz, e0], by rw [hde]; simp (decide := true) only [go_sem, W_region, Wx_some, Nat.reduceAdd, Nat.reduceMul, Nat.reduceEqDiff, Int.reduceAdd, Int.reduceSub, Int.reduceMul, Int.reduceNeg, Int.reduceToNat, hsz], by simp (decide := true) only [go_sem, hsz, e6]⟩
      | false =>
      simp (decide := true) only [go_sem, Wx_some, Nat.reduceAdd, Nat.reduceMul, Nat.reduceEqDiff, Int.reduceAdd, Int.reduceSub, Int.reduceMul, Int.reduceNeg, Int.reduceToNat, hsz, e0, e5, e6]
      (rw [W_region]; simp (decide := true) only [go_sem, Wx_some, Nat.reduceAdd, Nat.reduceMul, Nat.reduceEqDiff, Int.reduceAdd, Int.reduceSub, Int.reduceMul, Int.reduceNeg, Int.reduceToNat, hsz, e0, e5, e6, c1, c2, Int.toNat_natCast, g0 y2, p5, p4])
      refine W_call Kok y2.1 (is_run X.1 hXA 40 w2) fun r w3 x3 hr => ?_
      subst hr
      have y3 := y2.trans x3
      cases h40 : isM X.1.2 40 with
      | true =>
        have hde : deltaT X.1.2 = -1 := by simp [deltaT, h41, h93, h40]
        simp (decide := true) only [go_sem, Wx_some, Nat.reduceAdd, Nat.reduceMul, Nat.reduceEqDiff, Int.reduceAdd, Int.reduceSub, Int.reduceMul, Int.reduceNeg, Int.reduceToNat, hsz, e0, e5, e6]
        (rw [W_region]; simp (decide := true) only [go_sem, Wx_some, Nat.reduceAdd, Nat.reduceMul, Nat.reduceEqDiff, Int.reduceAdd, Int.reduceSub, Int.reduceMul, Int.reduceNeg, Int.reduceToNat, hsz, e0, e5, e6, i2])
        exact cont () _ _ ⟨by simp (decide := true) only [go_sem, hsz], y3, by simp (decide := true) only [go_sem, hsz, e0], by rw [hde]; simp (decide := true) only [go_sem, W_region, Wx_some, Nat.reduceAdd, Nat.reduceMul, Nat.reduceEqDiff, Int.reduceAdd, Int.reduceSub, Int.reduceMul, Int.reduceNeg, Int.reduceToNat, hsz]; rfl, by simp (decide := true) only [go_sem, hsz, e6]⟩
      | false =>
      simp (decide := true) only [go_sem, Wx_some, Nat.reduceAdd, Nat.reduceMul, Nat.reduceEqDiff, Int.reduceAdd, Int.reduceSub, Int.reduceMul, Int.reduceNeg, Int.reduceToNat, hsz, e0, e5, e6, c1, c2, Int.toNat_natCast, g0 y3, p5, p4]
      refine W_call Kok y3.1 (is_run X.1 hXA 91 w3) fun r w4 x4 hr => ?_
      subst hr
      have y4 := y3.trans x4
      cases h91 : isM X.1.2 91 with
      | true =>
        have hde : deltaT X.1.2 = -1 := by simp [deltaT, h41, h93, h91]
        simp (decide := true) only [go_sem, Wx_some, Nat.reduceAdd, Nat.reduceMul, Nat.reduceEqDiff, Int.reduceAdd, Int.reduceSub, Int.reduceMul, Int.reduceNeg, Int.reduceToNat, hsz, e0, e5, e6]
        (rw [W_region]; simp (decide := true) only [go_sem, Wx_some, Nat.reduceAdd, Nat.reduceMul, Nat.reduceEqDiff, Int.reduceAdd, Int.reduceSub, Int.reduceMul, Int.reduceNeg, Int.reduceToNat, hsz, e0, e5, e6, i2])
        exact cont () _ _ ⟨by simp (decide := true) only [go_sem, hsz], y4, by simp (decide := true) only [go_sem, hsz, e0], by rw [hde]; simp (decide := true) only [go_sem, W_region, Wx_some, Nat.reduceAdd, Nat.reduceMul, Nat.reduceEqDiff, Int.reduceAdd, Int.reduceSub, Int.reduceMul, Int.reduceNeg, Int.reduceToNat, hsz]; rfl, by simp (decide := true) only [go_sem, hsz, e6]⟩
      | false =>
        have hde : deltaT X.1.2 = 0 := by simp [deltaT, h41, h93, h40, h91]
        simp (decide := true) only [go_sem, Wx_some, Nat.reduceAdd, Nat.reduceMul, Nat.reduceEqDiff, Int.reduceAdd, Int.reduceSub, Int.reduceMul, Int.reduceNeg, Int.reduceToNat, hsz, e0, e5, e6]
        exact cont () _ _ ⟨by simp (decide := true) only [go_sem, hsz], y4, by simp (decide := true) only [go_sem, hsz, e0], by rw [hde, Int.add_zero]; simp (decide := true) only [go_sem, W_region, Wx_some, Nat.reduceAdd, Nat.reduceMul, Nat.reduceEqDiff, Int.reduceAdd, Int.reduceSub, Int.reduceMul, Int.reduceNeg, Int.reduceToNat, hsz, e5], by simp (decide := true) only [go_sem, hsz, e6]⟩
    rintro _ e w' ⟨hsz, hxw', e0, e5, e6⟩
    have i3 : IntKind.i64.wrap ((k : Int) - 1) = (k : Int) - 1 := wrap_i64 (by omega) (by omega)
    by_cases hz : n + deltaT X.1.2 = 0
    · rw [if_pos hz] at hop
      rw [hz] at e5
      simp (decide := true) only [go_sem, W_region, Wx_some, Nat.reduceAdd, Nat.reduceMul, Nat.reduceEqDiff, Int.reduceAdd, Int.reduceSub, Int.reduceMul, Int.reduceNeg, Int.reduceToNat, hsz, e5, e6]
      rw [hop]
    · rw [if_neg hz] at hop
      simp (decide := true) only [go_sem, W_region, Wx_some, Nat.reduceAdd, Nat.reduceMul, Nat.reduceEqDiff, Int.reduceAdd, Int.reduceSub, Int.reduceMul, Int.reduceNeg, Int.reduceToNat, hsz, e0, e5, e6, hz, i3]
      exact next (k, n + deltaT X.1.2) _ _ ⟨by simp only; omega, by simp only; omega, by simp only; omega, by simp (decide := true) only [go_sem, hsz], hxw', by simp (decide := true) only [go_sem, hsz, e0], by simp (decide := true) only [go_sem, hsz, e5], by simp (decide := true) only [go_sem, hsz], hop⟩ (by simp only; omega)
theorem ropener_run (xs : List XT) (i : Nat) (h : Heap) {a : Option Addr} {c : Nat} (s : Sl h 8 a xs.length c (xcs xs)) (hA : ∀ x ∈ xs, Arr4 x.2) (hi : i < xs.length) (hl : xs.length ≤ 1000) :
    Runs K f_ref22_Opener #[.slice a xs.length c, .int .i64 (i : Int)] h fun r _ => r = .int .i64 (openT (xs.map (·.1)) (i + 1) 0) := by
  refine Runs.of Kok (Does.intro rfl (by decide +kernel) F_ref22_Opener rfl ?_)
  simp (decide := true) only [go_sem, W_region, Wx_some, Nat.reduceAdd, Nat.reduceMul, Nat.reduceEqDiff, Int.reduceAdd, Int.reduceSub, Int.reduceMul, Int.reduceNeg, Int.reduceToNat]
  refine W_loop (α := Nat × Int) (fun k e w => k.1 ≤ i + 1 ∧ -((i + 1 - k.1 : Nat) : Int) ≤ k.2 ∧ k.2 ≤ ((i + 1 - k.1 : Nat) : Int) ∧ e.size = 43 ∧ Ext h w ∧ e.get 0 = .slice a xs.length c ∧ e.get 5 = .int .i64 k.2 ∧ e.get 6 = .int .i64 ((k.1 : Int) - 1) ∧
    openT (xs.map (·.1)) (i + 1) 0 = openT (xs.map (·.1)) k.1 k.2) (fun k => k.1) (i + 1, 0) ?_ ?_
  · exact ⟨Nat.le_refl _, by simp, by simp, by simp (decide := true) only [go_sem], Ext.refl h, by simp (decide := true) only [go_sem], by simp (decide := true) only [go_sem], by simp (decide := true) only [go_sem]; congr 1; omega, rfl⟩
  · rintro ⟨k, n⟩ e w ⟨hk, hn1, hn2, hsz, hxw, e0, e5, e6, hop⟩ next
    simp only at hk hn1 hn2 e5 e6 hop
    cases k with
    | zero =>
      have c1 : ¬ (0 : Int) ≤ ((0 : Nat) : Int) - 1 := by omega
      simp (decide := true) only [go_sem, W_region, Wx_some, Nat.reduceAdd, Nat.reduceMul, Nat.reduceEqDiff, Int.reduceAdd, Int.reduceSub, Int.reduceMul, Int.reduceNeg, Int.reduceToNat, hsz, e0, e5, e6, c1]
      rw [hop]
      rfl
    | succ k =>
    have e6' : ((k + 1 : Nat) : Int) - 1 = (k : Int) := by omega
    rw [e6'] at e6
    have c1 : (0 : Int) ≤ (k : Int) := by omega
    have c2 : (k : Int) < ((xs.length : Nat) : Int) := by omega
    obtain ⟨X, hX⟩ : ∃ X, xs[k]? = some X := ⟨_, List.getElem?_eq_getElem (by omega)⟩
    have hXA := hA X (List.mem_of_getElem? hX)
    have hXm : (xs.map (·.1))[k]? = some X.1 := by rw [List.getElem?_map, hX]; rfl
    rw [openT_at hXm] at hop
    obtain ⟨b1, o1, cs1, p1, p2, p3, _, _, _, _, p4, p5⟩ := Sl.tok8 s hA rfl hX
    subst p1
    have g0 : ∀ {w' : Heap}, Ext h w' → (w'.get b1).read = .cells cs1 8 := fun x' => by rw [x'.2 _ p2]; exact p3
    have hd := delta_le X.1.2
    have gw := g0 hxw
    simp (decide := true) only [go_sem, W_region, Wx_some, Nat.reduceAdd, Nat.reduceMul, Nat.reduceEqDiff, Int.reduceAdd, Int.reduceSub, Int.reduceMul, Int.reduceNeg, Int.reduceToNat, hsz, e0, e5, e6, c1, c2, Int.toNat_natCast, gw, p5, p4]
    apply W_join (α := Unit) (fun _ e w => e.size = 43 ∧ Ext h w ∧ e.get 0 = .slice (some ⟨b1, o1, none⟩) xs.length c ∧ e.get 5 = .int .i64 (n + if isM X.1.2 41 || isM X.1.2 93 then 1 else 0) ∧ e.get 6 = .int .i64 (k : Int))
    · intro cont
      have i1 : IntKind.i64.wrap (n + 1) = n + 1 := wrap_i64 (by omega) (by omega)
      refine W_call Kok hxw.1 (ris_run X.1 hXA 41 w) fun r w1 x1 hr => ?_
      subst hr
      have y1 := hxw.trans x1
      cases h41 : isM X.1.2 41 with
      | true =>
        simp (decide := true) only [go_sem, Wx_some, Nat.reduceAdd, Nat.reduceMul, Nat.reduceEqDiff, Int.reduceAdd, Int.reduceSub, Int.reduceMul, Int.reduceNeg, Int.reduceToNat, hsz, e0, e5, e6]
        (rw [W_region]; simp (decide := true) only [go_sem, Wx_some, Nat.reduceAdd, Nat.reduceMul, Nat.reduceEqDiff, Int.reduceAdd, Int.reduceSub, Int.reduceMul, Int.reduceNeg, Int.reduceToNat, hsz, e0, e5, e6, i1])
        exact cont () _ _ ⟨by simp (decide := true) only [go_sem, hsz], y1, by simp (decide := true) only [go_sem, hsz, e0], by rw [h41]; simp (decide := true) only [go_sem, W_region, Wx_some, Nat.reduceAdd, Nat.reduceMul, Nat.reduceEqDiff, Int.reduceAdd, Int.reduceSub, Int.reduceMul, Int.reduceNeg, Int.reduceToNat, hsz], by simp (decide := true) only [go_sem, hsz, e6]⟩
      | false =>
      simp (decide := true) only [go_sem, Wx_some, Nat.reduceAdd, Nat.reduceMul, Nat.reduceEqDiff, Int.reduceAdd, Int.reduceSub, Int.reduceMul, Int.reduceNeg, Int.reduceToNat, hsz, e0, e5, e6, c1, c2, Int.toNat_natCast, g0 y1, p5, p4]
      refine W_call Kok y1.1 (ris_run X.1 hXA 93 w1) fun r w2 x2 hr => ?_
      subst hr
      have y2 := y1.trans x2
      cases h93 : isM X.1.2 93 with
      | true =>
        simp (decide := true) only [go_sem, Wx_some, Nat.reduceAdd, Nat.reduceMul, Nat.reduceEqDiff, Int.reduceAdd, Int.reduceSub, Int.reduceMul, Int.reduceNeg, Int.reduceToNat, hsz, e0, e5, e6]
        (rw [W_region]; simp (decide := true) only [go_sem, Wx_some, Nat.reduceAdd, Nat.reduceMul, Nat.reduceEqDiff, Int.reduceAdd, Int.reduceSub, Int.reduceMul, Int.reduceNeg, Int.reduceToNat, hsz, e0, e5, e6, i1])
        exact cont () _ _ ⟨by simp (decide := true) only [go_sem, hsz], y2, by simp (decide := true) only [go_sem, hsz, e0], by rw [h41, h93]; simp (decide := true) only [go_sem, W_region, Wx_some, Nat.reduceAdd, Nat.reduceMul, Nat.reduceEqDiff, Int.reduceAdd, Int.reduceSub, Int.reduceMul, Int.reduceNeg, Int.reduceToNat, hsz], by simp (decide := true) only [go_sem, hsz, e6]⟩
      | false =>
        simp (decide := true) only [go_sem, Wx_some, Nat.reduceAdd, Nat.reduceMul, Nat.reduceEqDiff, Int.reduceAdd, Int.reduceSub, Int.reduceMul, Int.reduceNeg, Int.reduceToNat, hsz, e0, e5, e6]
        exact cont () _ _ ⟨by simp (decide := true) only [go_sem, hsz], y2, by simp (decide := true) only [go_sem, hsz, e0], by rw [h41, h93]; simp (decide := true) only [go_sem, W_region, Wx_some, Nat.reduceAdd, Nat.reduceMul, Nat.reduceEqDiff, Int.reduceAdd, Int.reduceSub, Int.reduceMul, Int.reduceNeg, Int.reduceToNat, hsz, e5]; simp, by simp (decide := true) only [go_sem, hsz, e6]⟩
    have hd2 := delta_two X.1.2
    obtain ⟨n1, hn1'⟩ : ∃ n1, n1 = n + (if isM X.1.2 41 || isM X.1.2 93 then (1 : Int) else 0) := ⟨_, rfl⟩
    have hnb : n ≤ n1 ∧ n1 ≤ n + 1 := by
      rw [hn1']
      split <;> omega
    rw [← hn1']
    have hdn : n + deltaT X.1.2 = n1 - (if isM X.1.2 40 || isM X.1.2 91 then (1 : Int) else 0) := by rw [hd2, hn1']; omega
    rintro _ e w ⟨hsz, hxw, e0, e5, e6⟩
    have gw := g0 hxw
    apply W_join (α := Unit) (fun _ e w => e.size = 43 ∧ Ext h w ∧ e.get 0 = .slice (some ⟨b1, o1, none⟩) xs.length c ∧ e.get 5 = .int .i64 (n + deltaT X.1.2) ∧ e.get 6 = .int .i64 (k : Int))
    · intro cont
      have i2 : IntKind.i64.wrap (n1 - 1) = n1 - 1 := wrap_i64 (by omega) (by omega)
      (rw [W_region]; simp (decide := true) only [go_sem, Wx_some, Nat.reduceAdd, Nat.reduceMul, Nat.reduceEqDiff, Int.reduceAdd, Int.reduceSub, Int.reduceMul, Int.reduceNeg, Int.reduceToNat, hsz, e0, e5, e6, c1, c2, Int.toNat_natCast, gw, p5, p4])
      refine W_call Kok hxw.1 (ris_run X.1 hXA 40 w) fun r w3 x3 hr => ?_
      subst hr
      have y3 := hxw.trans x3
      cases h40 : isM X.1.2 40 with
      | true =>
        rw [h40] at hdn
        simp (decide := true) only [go_sem, Wx_some, Nat.reduceAdd, Nat.reduceMul, Nat.reduceEqDiff, Int.reduceAdd, Int.reduceSub, Int.reduceMul, Int.reduceNeg, Int.reduceToNat, hsz, e0, e5, e6]
        (rw [W_region]; simp (decide := true) only [go_sem, Wx_some, Nat.reduceAdd, Nat.reduceMul, Nat.reduceEqDiff, Int.reduceAdd, Int.reduceSub, Int.reduceMul, Int.reduceNeg, Int.reduceToNat, hsz, e0, e5, e6, i2])
        exact cont () _ _ ⟨by simp (decide := true) only [go_sem, hsz], y3, by simp (decide := true) only [go_sem, hsz, e0], by rw [hdn]; simp (decide := true) only [go_sem, W_region, Wx_some, Nat.reduceAdd, Nat.reduceMul, Nat.reduceEqDiff, Int.reduceAdd, Int.reduceSub, Int.reduceMul, Int.reduceNeg, Int.reduceToNat, hsz], by simp (decide := true) only [go_sem, hsz, e6]⟩
      | false =>
      simp (decide := true) only [go_sem, Wx_some, Nat.reduceAdd, Nat.reduceMul, Nat.reduceEqDiff, Int.reduceAdd, Int.reduceSub, Int.reduceMul, Int.reduceNeg, Int.reduceToNat, hsz, e0, e5, e6, c1, c2, Int.toNat_natCast, g0 y3, p5, p4]
      refine W_call Kok y3.1 (ris_run X.1 hXA 91 w3) fun r w4 x4 hr => ?_
      subst hr
      have y4 := y3.trans x4
      cases h91 : isM X.1.2 91 with
      | true =>
        rw [h40, h91] at hdn
        simp (decide := true) only [go_sem, Wx_some, Nat.reduceAdd, Nat.reduceMul, Nat.reduceEqDiff, Int.reduceAdd, Int.reduceSub, Int.reduceMul, Int.reduceNeg, Int.reduceToNat, hsz, e0, e5, e6]
        (rw [W_region]; simp (decide := true) only [go_sem, Wx_some, Nat.reduceAdd, Nat.reduceMul, Nat.reduceEqDiff, Int.reduceAdd, Int.reduceSub, Int.reduceMul, Int.reduceNeg, Int.reduceToNat, hsz, e0, e5, e6, i2])
        exact cont () _ _ ⟨by simp (decide := true) only [go_sem, hsz], y4, by simp (decide := true) only [go_sem, hsz, e0], by rw [hdn]; simp (decide := true) only [go_sem, W_region, Wx_some, Nat.reduceAdd, Nat.reduceMul, Nat.reduceEqDiff, Int.reduceAdd, Int.reduceSub, Int.reduceMul, Int.reduceNeg, Int.reduceToNat, hsz], by simp (decide := true) only [go_sem, hsz, e6]⟩
      | false =>
        rw [h40, h91] at hdn
        simp (decide := true) only [go_sem, Wx_some, Nat.reduceAdd, Nat.reduceMul, Nat.reduceEqDiff, Int.reduceAdd, Int.reduceSub, Int.reduceMul, Int.reduceNeg, Int.reduceToNat, hsz, e0, e5, e6]
        exact cont () _ _ ⟨by simp (decide := true) only [go_sem, hsz], y4, by simp (decide := true) only [go_sem, hsz, e0], by rw [hdn]; simp (decide := true) only [go_sem, W_region, Wx_some, Nat.reduceAdd, Nat.reduceMul, Nat.reduceEqDiff, Int.reduceAdd, Int.reduceSub, Int.reduceMul, Int.reduceNeg, Int.reduceToNat, hsz, e5]; simp, by simp (decide := true) only [go_sem, hsz, e6]⟩
    rintro _ e w' ⟨hsz, hxw', e0, e5, e6⟩
    have i3 : IntKind.i64.wrap ((k : Int) - 1) = (k : Int) - 1 := wrap_i64 (by omega) (by omega)
    by_cases hz : n + deltaT X.1.2 = 0
    · rw [if_pos hz] at hop
      rw [hz] at e5
      simp (decide := true) only [go_sem, W_region, Wx_some, Nat.reduceAdd, Nat.reduceMul, Nat.reduceEqDiff, Int.reduceAdd, Int.reduceSub, Int.reduceMul, Int.reduceNeg, Int.reduceToNat, hsz, e5, e6]
      rw [hop]
    · rw [if_neg hz] at hop
      simp (decide := true) only [go_sem, W_region, Wx_some, Nat.reduceAdd, Nat.reduceMul, Nat.reduceEqDiff, Int.reduceAdd, Int.reduceSub, Int.reduceMul, Int.reduceNeg, Int.reduceToNat, hsz, e0, e5, e6, hz, i3]
      exact next (k, n + deltaT X.1.2) _ _ ⟨by simp only; omega, by simp only; omega, by simp only; omega, by simp (decide := true) only [go_sem, hsz], hxw', by simp (decide := true) only [go_sem, hsz, e0], by simp (decide := true) only [go_sem, hsz, e5], by simp (decide := true) only [go_sem, hsz], hop⟩ (by simp only; omega)
end Go.Proofs.YtjlaenglmdpboaaGreat.T1
