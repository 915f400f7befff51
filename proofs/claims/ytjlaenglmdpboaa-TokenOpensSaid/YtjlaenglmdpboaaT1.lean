/- Proved here: where the bracket or parenthesis begins that ends at a token, in the program and in the document; TokenOpens answers true at every line laid in memory that is only read, and every sign. -/
import Derived.Test.YtjlaenglmdpboaaR9
set_option linter.unusedSimpArgs false
set_option linter.unusedVariables false
namespace Go.Im.Lexing
/-- Is a token a mark? -/
def isM (t : Tk) (c : Int) : Bool := decide (t.kind = 6) && decide (t.sign = c)
/-- One deeper, one less deep, or neither. -/
def deltaT (t : Tk) : Int := if isM t 41 || isM t 93 then 1 else if isM t 40 || isM t 91 then -1 else 0
/-- The place where what ends at a place begins; -1: nowhere. -/
def openT (ts : List (Nat × Tk)) : Nat → Int → Int
  | 0, _ => -1
  | k + 1, n => match ts[k]? with
    | none => -1
    | some t => if n + deltaT t.2 = 0 then (k : Int) else openT ts k (n + deltaT t.2)
theorem openT_at {ts : List (Nat × Tk)} {k : Nat} {t : Nat × Tk} (h : ts[k]? = some t) (n : Int) : openT ts (k + 1) n = if n + deltaT t.2 = 0 then (k : Int) else openT ts k (n + deltaT t.2) := by
  rw [openT, h]
/-- One deeper, or not; and one less deep, or not. -/
theorem delta_two (t : Tk) : deltaT t = (if isM t 41 || isM t 93 then 1 else 0) - (if isM t 40 || isM t 91 then 1 else 0) := by
  unfold deltaT isM
  by_cases hk : t.kind = 6
  · by_cases h1 : t.sign = 41
    · simp [hk, h1]
    · by_cases h2 : t.sign = 93
      · simp [hk, h2]
      · by_cases h3 : t.sign = 40
        · simp [hk, h3]
        · by_cases h4 : t.sign = 91
          · simp [hk, h4]
          · simp [hk, h1, h2, h3, h4]
  · simp [hk]
theorem delta_le (t : Tk) : -1 ≤ deltaT t ∧ deltaT t ≤ 1 := by
  unfold deltaT
  repeat' split
  all_goals omega
end Go.Im.Lexing
namespace Go.Proofs.Ytjlaenglmdpboaa.T1
open Go Go.Im Go.Im.Limbs Go.Im.Lexing Go.Proofs Go.RowKit Go.Proofs.Ytjlaenglmdpboaa.Hd Go.Proofs.Ytjlaenglmdpboaa.N18 Go.Proofs.Ytjlaenglmdpboaa.N19 Go.Proofs.Ytjlaenglmdpboaa.N23 Go.Proofs.Ytjlaenglmdpboaa.N26 Go.Proofs.Ytjlaenglmdpboaa.R8 Go.Proofs.Ytjlaenglmdpboaa.R9
set_option maxRecDepth 100000

theorem tok_len8 {x : XT} (h : Arr4 x.2) : (tc4 x.1 ++ x.2).length = 8 := by
  obtain ⟨a, n, c, b, a2, n2, c2, a3, n3, c3, h⟩ := h
  rw [h]
  rfl
theorem xcs_at8 : ∀ {xs : List XT} {i : Nat} {x : XT}, (∀ x ∈ xs, Arr4 x.2) → xs[i]? = some x → ((xcs xs).drop (i * 8)).take 8 = tc4 x.1 ++ x.2
  | [], i, x, _, h => by simp at h
  | y :: xs, 0, x, hA, h => by
    cases h
    have h1 := tok_len8 (hA y (by simp))
    simp only [xcs, List.flatMap_cons, Nat.zero_mul, List.drop_zero]
    rw [← h1, List.take_left']
    rfl
  | y :: xs, i + 1, x, hA, h => by
    have h1 := tok_len8 (hA y (by simp))
    have h2 := xcs_at8 (xs := xs) (i := i) (fun z hz => hA z (by simp [hz])) (by simpa using h)
    rw [← h2]
    simp only [xcs, List.flatMap_cons]
    have : (i + 1) * 8 = 8 + i * 8 := by omega
    rw [this, ← List.drop_drop, ← h1, List.drop_left']
    rfl
/-- A token in memory. -/
theorem Sl.tok8 {h : Heap} {a : Option Addr} {n c i : Nat} {xs : List XT} {x : XT} (s : Sl h 8 a n c (xcs xs)) (hA : ∀ x ∈ xs, Arr4 x.2) (hn : xs.length = n) (hx : xs[i]? = some x) :
    ∃ b o cs, a = some ⟨b, o, none⟩ ∧ b < h.size ∧ (h.get b).read = .cells cs 8 ∧ cs[o + i * 8]? = some (.int .i64 (x.1.2.kind : Int)) ∧ cs[o + i * 8 + 1]? = some (.int .i64 (x.1.1 : Int)) ∧ cs[o + i * 8 + 2]? = some (.string (runesBytes x.1.2.word)) ∧
      cs[o + i * 8 + 3]? = some (.int .i32 x.1.2.sign) ∧ (cs.drop (o + i * 8)).take 8 = tc4 x.1 ++ x.2 ∧ o + i * 8 + 8 ≤ cs.length := by
  have hi : i < n := by rw [← hn]; exact (List.getElem?_eq_some_iff.1 hx).1
  obtain ⟨b, o, cs, h1, h2, h3, h4, h5⟩ := s.at hi
  have h6 := xcs_at8 hA hx
  have h9 : i * 8 + 8 ≤ n * 8 := by omega
  rw [h5, List.drop_take, List.take_take, List.drop_drop, Nat.min_eq_left (by omega)] at h6
  have hj : ∀ j, j < 8 → cs[o + i * 8 + j]? = (tc4 x.1 ++ x.2)[j]? := by
    intro j hj
    rw [← h6, List.getElem?_take, if_pos hj, List.getElem?_drop]
  exact ⟨b, o, cs, h1, h2, h3, (hj 0 (by omega)).trans rfl, (hj 1 (by omega)).trans rfl, (hj 2 (by omega)).trans rfl, (hj 3 (by omega)).trans rfl, h6, by omega⟩

theorem is_run (x : Nat × Tk) {rest : List Value} (hA : Arr5 rest) (y : Int) (h : Heap) : Runs K f_token_Token_Is #[.agg (tc4 x ++ rest).toArray, .int .i32 y] h fun r _ => r = .bool (isM x.2 y) := by
  obtain ⟨a, n, c, b, a2, n2, c2, a3, n3, c3, m, rfl⟩ := hA
  refine Runs.of Kok (Does.intro rfl (by decide +kernel) F_token_Token_Is rfl ?_)
  obtain ⟨w0, e0, x0, hs0, z0⟩ := lay1 h (.cells [.int .i64 (x.2.kind : Int), .int .i64 (x.1 : Int), .string (runesBytes x.2.word), .int .i32 x.2.sign, .slice a n c, .bool b, .slice a2 n2 c2, .slice a3 n3 c3, .bool m] 9)
  simp only [tc4, List.cons_append, List.nil_append]
  by_cases hk : x.2.kind = 6
  · have hk' : ((x.2.kind : Nat) : Int) = 6 := by omega
    rw [hk'] at e0 z0
    simp (decide := true) only [go_sem, W_region, KP, Wx_some, Nat.reduceAdd, Nat.reduceMul, Nat.reduceEqDiff, Nat.add_eq_left, Nat.left_eq_add, Int.reduceAdd, Int.reduceSub, Int.reduceMul, Int.reduceNeg, Int.reduceToNat, hk', e0, z0]
    simp [isM, hk]
  · have hk' : ¬ ((x.2.kind : Nat) : Int) = 6 := by omega
    simp (decide := true) only [go_sem, W_region, KP, Wx_some, Nat.reduceAdd, Nat.reduceMul, Nat.reduceEqDiff, Nat.add_eq_left, Nat.left_eq_add, Int.reduceAdd, Int.reduceSub, Int.reduceMul, Int.reduceNeg, Int.reduceToNat, e0, z0, hk']
    simp [isM, hk]
theorem ris_run (x : Nat × Tk) {rest : List Value} (hA : Arr4 rest) (y : Int) (h : Heap) : Runs K f_ref22_Is #[.agg (tc4 x ++ rest).toArray, .int .i32 y] h fun r _ => r = .bool (isM x.2 y) := by
  obtain ⟨a, n, c, b, a2, n2, c2, a3, n3, c3, rfl⟩ := hA
  refine Runs.of Kok (Does.intro rfl (by decide +kernel) F_ref22_Is rfl ?_)
  obtain ⟨w0, e0, x0, hs0, z0⟩ := lay1 h (.cells [.int .i64 (x.2.kind : Int), .int .i64 (x.1 : Int), .string (runesBytes x.2.word), .int .i32 x.2.sign, .slice a n c, .bool b, .slice a2 n2 c2, .slice a3 n3 c3] 8)
  simp only [tc4, List.cons_append, List.nil_append]
  by_cases hk : x.2.kind = 6
  · have hk' : ((x.2.kind : Nat) : Int) = 6 := by omega
    rw [hk'] at e0 z0
    simp (decide := true) only [go_sem, W_region, KP, Wx_some, Nat.reduceAdd, Nat.reduceMul, Nat.reduceEqDiff, Nat.add_eq_left, Nat.left_eq_add, Int.reduceAdd, Int.reduceSub, Int.reduceMul, Int.reduceNeg, Int.reduceToNat, hk', e0, z0]
    simp [isM, hk]
  · have hk' : ¬ ((x.2.kind : Nat) : Int) = 6 := by omega
    simp (decide := true) only [go_sem, W_region, KP, Wx_some, Nat.reduceAdd, Nat.reduceMul, Nat.reduceEqDiff, Nat.add_eq_left, Nat.left_eq_add, Int.reduceAdd, Int.reduceSub, Int.reduceMul, Int.reduceNeg, Int.reduceToNat, e0, z0, hk']
    simp [isM, hk]
theorem opener_run (xs : List XT) (i : Nat) (h : Heap) {a : Option Addr} {c : Nat} (s : Sl h 9 a xs.length c (xcs xs)) (hA : ∀ x ∈ xs, Arr5 x.2) (hi : i < xs.length) (hl : xs.length ≤ 1000) :
    Runs K f_token_Opener #[.slice a xs.length c, .int .i64 (i : Int)] h fun r _ => r = .int .i64 (openT (xs.map (·.1)) (i + 1) 0) := by
  refine Runs.of Kok (Does.intro rfl (by decide +kernel) F_token_Opener rfl ?_)
  simp (decide := true) only [go_sem, W_region, KP, Wx_some, Nat.reduceAdd, Nat.reduceMul, Nat.reduceEqDiff, Nat.add_eq_left, Nat.left_eq_add, Int.reduceAdd, Int.reduceSub, Int.reduceMul, Int.reduceNeg, Int.reduceToNat, KP]
  refine W_loop (α := Nat × Int) (fun k e w => k.1 ≤ i + 1 ∧ -((i + 1 - k.1 : Nat) : Int) ≤ k.2 ∧ k.2 ≤ ((i + 1 - k.1 : Nat) : Int) ∧ e.size = 45 ∧ Ext h w ∧ e.get 0 = .slice a xs.length c ∧ e.get 5 = .int .i64 k.2 ∧ e.get 6 = .int .i64 ((k.1 : Int) - 1) ∧
    openT (xs.map (·.1)) (i + 1) 0 = openT (xs.map (·.1)) k.1 k.2) (fun k => k.1) (i + 1, 0) ?_ ?_
  · exact ⟨Nat.le_refl _, by simp, by simp, by simp (decide := true) only [go_sem, W_region, KP, Wx_some, Nat.reduceAdd, Nat.reduceMul, Nat.reduceEqDiff, Nat.add_eq_left, Nat.left_eq_add, Int.reduceAdd, Int.reduceSub, Int.reduceMul, Int.reduceNeg, Int.reduceToNat, KP], Ext.refl h, by simp (decide := true) only [go_sem, W_region, KP, Wx_some, Nat.reduceAdd, Nat.reduceMul, Nat.reduceEqDiff, Nat.add_eq_left, Nat.left_eq_add, Int.reduceAdd, Int.reduceSub, Int.reduceMul, Int.reduceNeg, Int.reduceToNat, KP], by simp (decide := true) only [go_sem, W_region, KP, Wx_some, Nat.reduceAdd, Nat.reduceMul, Nat.reduceEqDiff, Nat.add_eq_left, Nat.left_eq_add, Int.reduceAdd, Int.reduceSub, Int.reduceMul, Int.reduceNeg, Int.reduceToNat, KP], by simp (decide := true) only [go_sem, W_region, KP, Wx_some, Nat.reduceAdd, Nat.reduceMul, Nat.reduceEqDiff, Nat.add_eq_left, Nat.left_eq_add, Int.reduceAdd, Int.reduceSub, Int.reduceMul, Int.reduceNeg, Int.reduceToNat, KP]; congr 1; omega, rfl⟩
  · rintro ⟨k, n⟩ e w ⟨hk, hn1, hn2, hsz, hxw, e0, e5, e6, hop⟩ next
    simp only at hk hn1 hn2 e5 e6 hop
    cases k with
    | zero =>
      have c1 : ¬ (0 : Int) ≤ ((0 : Nat) : Int) - 1 := by omega
      simp (decide := true) only [go_sem, W_region, KP, Wx_some, Nat.reduceAdd, Nat.reduceMul, Nat.reduceEqDiff, Nat.add_eq_left, Nat.left_eq_add, Int.reduceAdd, Int.reduceSub, Int.reduceMul, Int.reduceNeg, Int.reduceToNat, hsz, e0, e5, e6, c1]
      rw [hop]
      rfl
    | succ k =>
    have e6' : ((k + 1 : Nat) : Int) - 1 = (k : Int) := by omega
    rw [e6'] at e6
    have c1 : (0 : Int) ≤ (k : Int) := by omega
    have c2 : (k : Int) < ((xs.length : Nat) : Int) := by omega
    obtain ⟨X, hX⟩ : ∃ X, xs[k]? = some X := ⟨_, List.getElem?_eq_getElem (by omega)⟩
    have hXA := hA X (List.mem_of_getElem? hX)
    have hXm : (xs.map (·.1))[k]? = some X.1 := by rw [List.getElem?_map, hX]; rfl
    rw [openT_at hXm] at hop
    obtain ⟨b1, o1, cs1, p1, p2, p3, _, _, _, _, p4, p5⟩ := Sl.tok s hA rfl hX
    subst p1
    have g0 : ∀ {w' : Heap}, Ext h w' → (w'.get b1).read = .cells cs1 9 := fun x' => by rw [x'.2 _ p2]; exact p3
    have hd := delta_le X.1.2
    have gw := g0 hxw
    simp (decide := true) only [go_sem, W_region, KP, Wx_some, Nat.reduceAdd, Nat.reduceMul, Nat.reduceEqDiff, Nat.add_eq_left, Nat.left_eq_add, Int.reduceAdd, Int.reduceSub, Int.reduceMul, Int.reduceNeg, Int.reduceToNat, hsz, e0, e5, e6, c1, c2, Int.toNat_natCast, gw, p5, p4]
    apply W_join (α := Unit) (fun _ e w => e.size = 45 ∧ Ext h w ∧ e.get 0 = .slice (some ⟨b1, o1, none⟩) xs.length c ∧ e.get 5 = .int .i64 (n + deltaT X.1.2) ∧ e.get 6 = .int .i64 (k : Int))
    · intro cont
      have i1 : IntKind.i64.wrap (n + 1) = n + 1 := wrap_i64 (by omega) (by omega)
      have i2 : IntKind.i64.wrap (n - 1) = n - 1 := wrap_i64 (by omega) (by omega)
      refine W_call Kok hxw.1 (is_run X.1 hXA 41 w) fun r w1 x1 hr => ?_
      subst hr
      have y1 := hxw.trans x1
      cases h41 : isM X.1.2 41 with
      | true =>
        have hde : deltaT X.1.2 = 1 := by simp [deltaT, h41]
        simp (decide := true) only [go_sem, KP, Wx_some, Nat.reduceAdd, Nat.reduceMul, Nat.reduceEqDiff, Nat.add_eq_left, Nat.left_eq_add, Int.reduceAdd, Int.reduceSub, Int.reduceMul, Int.reduceNeg, Int.reduceToNat, hsz, e0, e5, e6]
        (rw [W_region]; simp (decide := true) only [go_sem, KP, Wx_some, Nat.reduceAdd, Nat.reduceMul, Nat.reduceEqDiff, Nat.add_eq_left, Nat.left_eq_add, Int.reduceAdd, Int.reduceSub, Int.reduceMul, Int.reduceNeg, Int.reduceToNat, hsz, e0, e5, e6, i1])
        exact cont () _ _ ⟨by simp (decide := true) only [go_sem, W_region, KP, Wx_some, Nat.reduceAdd, Nat.reduceMul, Nat.reduceEqDiff, Nat.add_eq_left, Nat.left_eq_add, Int.reduceAdd, Int.reduceSub, Int.reduceMul, Int.reduceNeg, Int.reduceToNat, hsz], y1, by simp (decide := true) only [go_sem, W_region, KP, Wx_some, Nat.reduceAdd, Nat.reduceMul, Nat.reduceEqDiff, Nat.add_eq_left, Nat.left_eq_add, Int.reduceAdd, Int.reduceSub, Int.reduceMul, Int.reduceNeg, Int.reduceToNat, hsz, e0], by rw [hde]; simp (decide := true) only [go_sem, W_region, KP, Wx_some, Nat.reduceAdd, Nat.reduceMul, Nat.reduceEqDiff, Nat.add_eq_left, Nat.left_eq_add, Int.reduceAdd, Int.reduceSub, Int.reduceMul, Int.reduceNeg, Int.reduceToNat, hsz], by simp (decide := true) only [go_sem, W_region, KP, Wx_some, Nat.reduceAdd, Nat.reduceMul, Nat.reduceEqDiff, Nat.add_eq_left, Nat.left_eq_add, Int.reduceAdd, Int.reduceSub, Int.reduceMul, Int.reduceNeg, Int.reduceToNat, hsz, e6]⟩
      | false =>
      simp (decide := true) only [go_sem, KP, Wx_some, Nat.reduceAdd, Nat.reduceMul, Nat.reduceEqDiff, Nat.add_eq_left, Nat.left_eq_add, Int.reduceAdd, Int.reduceSub, Int.reduceMul, Int.reduceNeg, Int.reduceToNat, hsz, e0, e5, e6, c1, c2, Int.toNat_natCast, g0 y1, p5, p4]
      refine W_call Kok y1.1 (is_run X.1 hXA 93 w1) fun r w2 x2 hr => ?_
      subst hr
      have y2 := y1.trans x2
      cases h93 : isM X.1.2 93 with
      | true =>
        have hde : deltaT X.1.2 = 1 := by simp [deltaT, h93]
        simp (decide := true) only [go_sem, KP, Wx_some, Nat.reduceAdd, Nat.reduceMul, Nat.reduceEqDiff, Nat.add_eq_left, Nat.left_eq_add, Int.reduceAdd, Int.reduceSub, Int.reduceMul, Int.reduceNeg, Int.reduceToNat, hsz, e0, e5, e6]
        (rw [W_region]; simp (decide := true) only [go_sem, KP, Wx_some, Nat.reduceAdd, Nat.reduceMul, Nat.reduceEqDiff, Nat.add_eq_left, Nat.left_eq_add, Int.reduceAdd, Int.reduceSub, Int.reduceMul, Int.reduceNeg, Int.reduceToNat, hsz, e0, e5, e6, i1])
        exact cont () _ _ ⟨by simp (decide := true) only [go_sem, W_region, KP, Wx_some, Nat.reduceAdd, Nat.reduceMul, Nat.reduceEqDiff, Nat.add_eq_left, Nat.left_eq_add, Int.reduceAdd, Int.reduceSub, Int.reduceMul, Int.reduceNeg, Int.reduceToNat, hsz], y2, by simp (decide := true) only [go_sem, W_region, KP, Wx_some, Nat.reduceAdd, Nat.reduceMul, Nat.reduceEqDiff, Nat.add_eq_left, Nat.left_eq_add, Int.reduceAdd, Int.reduceSub, Int.reduceMul, Int.reduceNeg, Int.reduceToNat, hsz, e0], by rw [hde]; simp (decide := true) only [go_sem, W_region, KP, Wx_some, Nat.reduceAdd, Nat.reduceMul, Nat.reduceEqDiff, Nat.add_eq_left, Nat.left_eq_add, Int.reduceAdd, Int.reduceSub, Int.reduceMul, Int.reduceNeg, Int.reduceToNat, hsz], by simp (decide := true) only [go_sem, W_region, KP, Wx_some, Nat.reduceAdd, Nat.reduceMul, Nat.reduceEqDiff, Nat.add_eq_left, Nat.left_eq_add, Int.reduceAdd, Int.reduceSub, Int.reduceMul, Int.reduceNeg, Int.reduceToNat, hsz, e6]⟩
      | false =>
      simp (decide := true) only [go_sem, KP, Wx_some, Nat.reduceAdd, Nat.reduceMul, Nat.reduceEqDiff, Nat.add_eq_left, Nat.left_eq_add, Int.reduceAdd, Int.reduceSub, Int.reduceMul, Int.reduceNeg, Int.reduceToNat, hsz, e0, e5, e6]
      (rw [W_region]; simp (decide := true) only [go_sem, KP, Wx_some, Nat.reduceAdd, Nat.reduceMul, Nat.reduceEqDiff, Nat.add_eq_left, Nat.left_eq_add, Int.reduceAdd, Int.reduceSub, Int.reduceMul, Int.reduceNeg, Int.reduceToNat, hsz, e0, e5, e6, c1, c2, Int.toNat_natCast, g0 y2, p5, p4])
      refine W_call Kok y2.1 (is_run X.1 hXA 40 w2) fun r w3 x3 hr => ?_
      subst hr
      have y3 := y2.trans x3
      cases h40 : isM X.1.2 40 with
      | true =>
        have hde : deltaT X.1.2 = -1 := by simp [deltaT, h41, h93, h40]
        simp (decide := true) only [go_sem, KP, Wx_some, Nat.reduceAdd, Nat.reduceMul, Nat.reduceEqDiff, Nat.add_eq_left, Nat.left_eq_add, Int.reduceAdd, Int.reduceSub, Int.reduceMul, Int.reduceNeg, Int.reduceToNat, hsz, e0, e5, e6]
        (rw [W_region]; simp (decide := true) only [go_sem, KP, Wx_some, Nat.reduceAdd, Nat.reduceMul, Nat.reduceEqDiff, Nat.add_eq_left, Nat.left_eq_add, Int.reduceAdd, Int.reduceSub, Int.reduceMul, Int.reduceNeg, Int.reduceToNat, hsz, e0, e5, e6, i2])
        exact cont () _ _ ⟨by simp (decide := true) only [go_sem, W_region, KP, Wx_some, Nat.reduceAdd, Nat.reduceMul, Nat.reduceEqDiff, Nat.add_eq_left, Nat.left_eq_add, Int.reduceAdd, Int.reduceSub, Int.reduceMul, Int.reduceNeg, Int.reduceToNat, hsz], y3, by simp (decide := true) only [go_sem, W_region, KP, Wx_some, Nat.reduceAdd, Nat.reduceMul, Nat.reduceEqDiff, Nat.add_eq_left, Nat.left_eq_add, Int.reduceAdd, Int.reduceSub, Int.reduceMul, Int.reduceNeg, Int.reduceToNat, hsz, e0], by rw [hde]; simp (decide := true) only [go_sem, W_region, KP, Wx_some, Nat.reduceAdd, Nat.reduceMul, Nat.reduceEqDiff, Nat.add_eq_left, Nat.left_eq_add, Int.reduceAdd, Int.reduceSub, Int.reduceMul, Int.reduceNeg, Int.reduceToNat, hsz]; rfl, by simp (decide := true) only [go_sem, W_region, KP, Wx_some, Nat.reduceAdd, Nat.reduceMul, Nat.reduceEqDiff, Nat.add_eq_left, Nat.left_eq_add, Int.reduceAdd, Int.reduceSub, Int.reduceMul, Int.reduceNeg, Int.reduceToNat, hsz, e6]⟩
      | false =>
      simp (decide := true) only [go_sem, KP, Wx_some, Nat.reduceAdd, Nat.reduceMul, Nat.reduceEqDiff, Nat.add_eq_left, Nat.left_eq_add, Int.reduceAdd, Int.reduceSub, Int.reduceMul, Int.reduceNeg, Int.reduceToNat, hsz, e0, e5, e6, c1, c2, Int.toNat_natCast, g0 y3, p5, p4]
      refine W_call Kok y3.1 (is_run X.1 hXA 91 w3) fun r w4 x4 hr => ?_
      subst hr
      have y4 := y3.trans x4
      cases h91 : isM X.1.2 91 with
      | true =>
        have hde : deltaT X.1.2 = -1 := by simp [deltaT, h41, h93, h91]
        simp (decide := true) only [go_sem, KP, Wx_some, Nat.reduceAdd, Nat.reduceMul, Nat.reduceEqDiff, Nat.add_eq_left, Nat.left_eq_add, Int.reduceAdd, Int.reduceSub, Int.reduceMul, Int.reduceNeg, Int.reduceToNat, hsz, e0, e5, e6]
        (rw [W_region]; simp (decide := true) only [go_sem, KP, Wx_some, Nat.reduceAdd, Nat.reduceMul, Nat.reduceEqDiff, Nat.add_eq_left, Nat.left_eq_add, Int.reduceAdd, Int.reduceSub, Int.reduceMul, Int.reduceNeg, Int.reduceToNat, hsz, e0, e5, e6, i2])
        exact cont () _ _ ⟨by simp (decide := true) only [go_sem, W_region, KP, Wx_some, Nat.reduceAdd, Nat.reduceMul, Nat.reduceEqDiff, Nat.add_eq_left, Nat.left_eq_add, Int.reduceAdd, Int.reduceSub, Int.reduceMul, Int.reduceNeg, Int.reduceToNat, hsz], y4, by simp (decide := true) only [go_sem, W_region, KP, Wx_some, Nat.reduceAdd, Nat.reduceMul, Nat.reduceEqDiff, Nat.add_eq_left, Nat.left_eq_add, Int.reduceAdd, Int.reduceSub, Int.reduceMul, Int.reduceNeg, Int.reduceToNat, hsz, e0], by rw [hde]; simp (decide := true) only [go_sem, W_region, KP, Wx_some, Nat.reduceAdd, Nat.reduceMul, Nat.reduceEqDiff, Nat.add_eq_left, Nat.left_eq_add, Int.reduceAdd, Int.reduceSub, Int.reduceMul, Int.reduceNeg, Int.reduceToNat, hsz]; rfl, by simp (decide := true) only [go_sem, W_region, KP, Wx_some, Nat.reduceAdd, Nat.reduceMul, Nat.reduceEqDiff, Nat.add_eq_left, Nat.left_eq_add, Int.reduceAdd, Int.reduceSub, Int.reduceMul, Int.reduceNeg, Int.reduceToNat, hsz, e6]⟩
      | false =>
        have hde : deltaT X.1.2 = 0 := by simp [deltaT, h41, h93, h40, h91]
        simp (decide := true) only [go_sem, KP, Wx_some, Nat.reduceAdd, Nat.reduceMul, Nat.reduceEqDiff, Nat.add_eq_left, Nat.left_eq_add, Int.reduceAdd, Int.reduceSub, Int.reduceMul, Int.reduceNeg, Int.reduceToNat, hsz, e0, e5, e6]
        exact cont () _ _ ⟨by simp (decide := true) only [go_sem, W_region, KP, Wx_some, Nat.reduceAdd, Nat.reduceMul, Nat.reduceEqDiff, Nat.add_eq_left, Nat.left_eq_add, Int.reduceAdd, Int.reduceSub, Int.reduceMul, Int.reduceNeg, Int.reduceToNat, hsz], y4, by simp (decide := true) only [go_sem, W_region, KP, Wx_some, Nat.reduceAdd, Nat.reduceMul, Nat.reduceEqDiff, Nat.add_eq_left, Nat.left_eq_add, Int.reduceAdd, Int.reduceSub, Int.reduceMul, Int.reduceNeg, Int.reduceToNat, hsz, e0], by rw [hde, Int.add_zero]; simp (decide := true) only [go_sem, W_region, KP, Wx_some, Nat.reduceAdd, Nat.reduceMul, Nat.reduceEqDiff, Nat.add_eq_left, Nat.left_eq_add, Int.reduceAdd, Int.reduceSub, Int.reduceMul, Int.reduceNeg, Int.reduceToNat, hsz, e5], by simp (decide := true) only [go_sem, W_region, KP, Wx_some, Nat.reduceAdd, Nat.reduceMul, Nat.reduceEqDiff, Nat.add_eq_left, Nat.left_eq_add, Int.reduceAdd, Int.reduceSub, Int.reduceMul, Int.reduceNeg, Int.reduceToNat, hsz, e6]⟩
    rintro _ e w' ⟨hsz, hxw', e0, e5, e6⟩
    have i3 : IntKind.i64.wrap ((k : Int) - 1) = (k : Int) - 1 := wrap_i64 (by omega) (by omega)
    by_cases hz : n + deltaT X.1.2 = 0
    · rw [if_pos hz] at hop
      rw [hz] at e5
      simp (decide := true) only [go_sem, W_region, KP, Wx_some, Nat.reduceAdd, Nat.reduceMul, Nat.reduceEqDiff, Nat.add_eq_left, Nat.left_eq_add, Int.reduceAdd, Int.reduceSub, Int.reduceMul, Int.reduceNeg, Int.reduceToNat, hsz, e5, e6]
      rw [hop]
    · rw [if_neg hz] at hop
      simp (decide := true) only [go_sem, W_region, KP, Wx_some, Nat.reduceAdd, Nat.reduceMul, Nat.reduceEqDiff, Nat.add_eq_left, Nat.left_eq_add, Int.reduceAdd, Int.reduceSub, Int.reduceMul, Int.reduceNeg, Int.reduceToNat, hsz, e0, e5, e6, hz, i3]
      exact next (k, n + deltaT X.1.2) _ _ ⟨by simp only; omega, by simp only; omega, by simp only; omega, by simp (decide := true) only [go_sem, W_region, KP, Wx_some, Nat.reduceAdd, Nat.reduceMul, Nat.reduceEqDiff, Nat.add_eq_left, Nat.left_eq_add, Int.reduceAdd, Int.reduceSub, Int.reduceMul, Int.reduceNeg, Int.reduceToNat, hsz], hxw', by simp (decide := true) only [go_sem, W_region, KP, Wx_some, Nat.reduceAdd, Nat.reduceMul, Nat.reduceEqDiff, Nat.add_eq_left, Nat.left_eq_add, Int.reduceAdd, Int.reduceSub, Int.reduceMul, Int.reduceNeg, Int.reduceToNat, hsz, e0], by simp (decide := true) only [go_sem, W_region, KP, Wx_some, Nat.reduceAdd, Nat.reduceMul, Nat.reduceEqDiff, Nat.add_eq_left, Nat.left_eq_add, Int.reduceAdd, Int.reduceSub, Int.reduceMul, Int.reduceNeg, Int.reduceToNat, hsz, e5], by simp (decide := true) only [go_sem, W_region, KP, Wx_some, Nat.reduceAdd, Nat.reduceMul, Nat.reduceEqDiff, Nat.add_eq_left, Nat.left_eq_add, Int.reduceAdd, Int.reduceSub, Int.reduceMul, Int.reduceNeg, Int.reduceToNat, hsz], hop⟩ (by simp only; omega)
theorem ropener_run (xs : List XT) (i : Nat) (h : Heap) {a : Option Addr} {c : Nat} (s : Sl h 8 a xs.length c (xcs xs)) (hA : ∀ x ∈ xs, Arr4 x.2) (hi : i < xs.length) (hl : xs.length ≤ 1000) :
    Runs K f_ref22_Opener #[.slice a xs.length c, .int .i64 (i : Int)] h fun r _ => r = .int .i64 (openT (xs.map (·.1)) (i + 1) 0) := by
  refine Runs.of Kok (Does.intro rfl (by decide +kernel) F_ref22_Opener rfl ?_)
  simp (decide := true) only [go_sem, W_region, KP, Wx_some, Nat.reduceAdd, Nat.reduceMul, Nat.reduceEqDiff, Nat.add_eq_left, Nat.left_eq_add, Int.reduceAdd, Int.reduceSub, Int.reduceMul, Int.reduceNeg, Int.reduceToNat, KP]
  refine W_loop (α := Nat × Int) (fun k e w => k.1 ≤ i + 1 ∧ -((i + 1 - k.1 : Nat) : Int) ≤ k.2 ∧ k.2 ≤ ((i + 1 - k.1 : Nat) : Int) ∧ e.size = 43 ∧ Ext h w ∧ e.get 0 = .slice a xs.length c ∧ e.get 5 = .int .i64 k.2 ∧ e.get 6 = .int .i64 ((k.1 : Int) - 1) ∧
    openT (xs.map (·.1)) (i + 1) 0 = openT (xs.map (·.1)) k.1 k.2) (fun k => k.1) (i + 1, 0) ?_ ?_
  · exact ⟨Nat.le_refl _, by simp, by simp, by simp (decide := true) only [go_sem, W_region, KP, Wx_some, Nat.reduceAdd, Nat.reduceMul, Nat.reduceEqDiff, Nat.add_eq_left, Nat.left_eq_add, Int.reduceAdd, Int.reduceSub, Int.reduceMul, Int.reduceNeg, Int.reduceToNat, KP], Ext.refl h, by simp (decide := true) only [go_sem, W_region, KP, Wx_some, Nat.reduceAdd, Nat.reduceMul, Nat.reduceEqDiff, Nat.add_eq_left, Nat.left_eq_add, Int.reduceAdd, Int.reduceSub, Int.reduceMul, Int.reduceNeg, Int.reduceToNat, KP], by simp (decide := true) only [go_sem, W_region, KP, Wx_some, Nat.reduceAdd, Nat.reduceMul, Nat.reduceEqDiff, Nat.add_eq_left, Nat.left_eq_add, Int.reduceAdd, Int.reduceSub, Int.reduceMul, Int.reduceNeg, Int.reduceToNat, KP], by simp (decide := true) only [go_sem, W_region, KP, Wx_some, Nat.reduceAdd, Nat.reduceMul, Nat.reduceEqDiff, Nat.add_eq_left, Nat.left_eq_add, Int.reduceAdd, Int.reduceSub, Int.reduceMul, Int.reduceNeg, Int.reduceToNat, KP]; congr 1; omega, rfl⟩
  · rintro ⟨k, n⟩ e w ⟨hk, hn1, hn2, hsz, hxw, e0, e5, e6, hop⟩ next
    simp only at hk hn1 hn2 e5 e6 hop
    cases k with
    | zero =>
      have c1 : ¬ (0 : Int) ≤ ((0 : Nat) : Int) - 1 := by omega
      simp (decide := true) only [go_sem, W_region, KP, Wx_some, Nat.reduceAdd, Nat.reduceMul, Nat.reduceEqDiff, Nat.add_eq_left, Nat.left_eq_add, Int.reduceAdd, Int.reduceSub, Int.reduceMul, Int.reduceNeg, Int.reduceToNat, hsz, e0, e5, e6, c1]
      rw [hop]
      rfl
    | succ k =>
    have e6' : ((k + 1 : Nat) : Int) - 1 = (k : Int) := by omega
    rw [e6'] at e6
    have c1 : (0 : Int) ≤ (k : Int) := by omega
    have c2 : (k : Int) < ((xs.length : Nat) : Int) := by omega
    obtain ⟨X, hX⟩ : ∃ X, xs[k]? = some X := ⟨_, List.getElem?_eq_getElem (by omega)⟩
    have hXA := hA X (List.mem_of_getElem? hX)
    have hXm : (xs.map (·.1))[k]? = some X.1 := by rw [List.getElem?_map, hX]; rfl
    rw [openT_at hXm] at hop
    obtain ⟨b1, o1, cs1, p1, p2, p3, _, _, _, _, p4, p5⟩ := Sl.tok8 s hA rfl hX
    subst p1
    have g0 : ∀ {w' : Heap}, Ext h w' → (w'.get b1).read = .cells cs1 8 := fun x' => by rw [x'.2 _ p2]; exact p3
    have hd := delta_le X.1.2
    have gw := g0 hxw
    simp (decide := true) only [go_sem, W_region, KP, Wx_some, Nat.reduceAdd, Nat.reduceMul, Nat.reduceEqDiff, Nat.add_eq_left, Nat.left_eq_add, Int.reduceAdd, Int.reduceSub, Int.reduceMul, Int.reduceNeg, Int.reduceToNat, hsz, e0, e5, e6, c1, c2, Int.toNat_natCast, gw, p5, p4]
    apply W_join (α := Unit) (fun _ e w => e.size = 43 ∧ Ext h w ∧ e.get 0 = .slice (some ⟨b1, o1, none⟩) xs.length c ∧ e.get 5 = .int .i64 (n + if isM X.1.2 41 || isM X.1.2 93 then 1 else 0) ∧ e.get 6 = .int .i64 (k : Int))
    · intro cont
      have i1 : IntKind.i64.wrap (n + 1) = n + 1 := wrap_i64 (by omega) (by omega)
      refine W_call Kok hxw.1 (ris_run X.1 hXA 41 w) fun r w1 x1 hr => ?_
      subst hr
      have y1 := hxw.trans x1
      cases h41 : isM X.1.2 41 with
      | true =>
        simp (decide := true) only [go_sem, KP, Wx_some, Nat.reduceAdd, Nat.reduceMul, Nat.reduceEqDiff, Nat.add_eq_left, Nat.left_eq_add, Int.reduceAdd, Int.reduceSub, Int.reduceMul, Int.reduceNeg, Int.reduceToNat, hsz, e0, e5, e6]
        (rw [W_region]; simp (decide := true) only [go_sem, KP, Wx_some, Nat.reduceAdd, Nat.reduceMul, Nat.reduceEqDiff, Nat.add_eq_left, Nat.left_eq_add, Int.reduceAdd, Int.reduceSub, Int.reduceMul, Int.reduceNeg, Int.reduceToNat, hsz, e0, e5, e6, i1])
        exact cont () _ _ ⟨by simp (decide := true) only [go_sem, W_region, KP, Wx_some, Nat.reduceAdd, Nat.reduceMul, Nat.reduceEqDiff, Nat.add_eq_left, Nat.left_eq_add, Int.reduceAdd, Int.reduceSub, Int.reduceMul, Int.reduceNeg, Int.reduceToNat, hsz], y1, by simp (decide := true) only [go_sem, W_region, KP, Wx_some, Nat.reduceAdd, Nat.reduceMul, Nat.reduceEqDiff, Nat.add_eq_left, Nat.left_eq_add, Int.reduceAdd, Int.reduceSub, Int.reduceMul, Int.reduceNeg, Int.reduceToNat, hsz, e0], by rw [h41]; simp (decide := true) only [go_sem, W_region, KP, Wx_some, Nat.reduceAdd, Nat.reduceMul, Nat.reduceEqDiff, Nat.add_eq_left, Nat.left_eq_add, Int.reduceAdd, Int.reduceSub, Int.reduceMul, Int.reduceNeg, Int.reduceToNat, hsz], by simp (decide := true) only [go_sem, W_region, KP, Wx_some, Nat.reduceAdd, Nat.reduceMul, Nat.reduceEqDiff, Nat.add_eq_left, Nat.left_eq_add, Int.reduceAdd, Int.reduceSub, Int.reduceMul, Int.reduceNeg, Int.reduceToNat, hsz, e6]⟩
      | false =>
      simp (decide := true) only [go_sem, KP, Wx_some, Nat.reduceAdd, Nat.reduceMul, Nat.reduceEqDiff, Nat.add_eq_left, Nat.left_eq_add, Int.reduceAdd, Int.reduceSub, Int.reduceMul, Int.reduceNeg, Int.reduceToNat, hsz, e0, e5, e6, c1, c2, Int.toNat_natCast, g0 y1, p5, p4]
      refine W_call Kok y1.1 (ris_run X.1 hXA 93 w1) fun r w2 x2 hr => ?_
      subst hr
      have y2 := y1.trans x2
      cases h93 : isM X.1.2 93 with
      | true =>
        simp (decide := true) only [go_sem, KP, Wx_some, Nat.reduceAdd, Nat.reduceMul, Nat.reduceEqDiff, Nat.add_eq_left, Nat.left_eq_add, Int.reduceAdd, Int.reduceSub, Int.reduceMul, Int.reduceNeg, Int.reduceToNat, hsz, e0, e5, e6]
        (rw [W_region]; simp (decide := true) only [go_sem, KP, Wx_some, Nat.reduceAdd, Nat.reduceMul, Nat.reduceEqDiff, Nat.add_eq_left, Nat.left_eq_add, Int.reduceAdd, Int.reduceSub, Int.reduceMul, Int.reduceNeg, Int.reduceToNat, hsz, e0, e5, e6, i1])
        exact cont () _ _ ⟨by simp (decide := true) only [go_sem, W_region, KP, Wx_some, Nat.reduceAdd, Nat.reduceMul, Nat.reduceEqDiff, Nat.add_eq_left, Nat.left_eq_add, Int.reduceAdd, Int.reduceSub, Int.reduceMul, Int.reduceNeg, Int.reduceToNat, hsz], y2, by simp (decide := true) only [go_sem, W_region, KP, Wx_some, Nat.reduceAdd, Nat.reduceMul, Nat.reduceEqDiff, Nat.add_eq_left, Nat.left_eq_add, Int.reduceAdd, Int.reduceSub, Int.reduceMul, Int.reduceNeg, Int.reduceToNat, hsz, e0], by rw [h41, h93]; simp (decide := true) only [go_sem, W_region, KP, Wx_some, Nat.reduceAdd, Nat.reduceMul, Nat.reduceEqDiff, Nat.add_eq_left, Nat.left_eq_add, Int.reduceAdd, Int.reduceSub, Int.reduceMul, Int.reduceNeg, Int.reduceToNat, hsz], by simp (decide := true) only [go_sem, W_region, KP, Wx_some, Nat.reduceAdd, Nat.reduceMul, Nat.reduceEqDiff, Nat.add_eq_left, Nat.left_eq_add, Int.reduceAdd, Int.reduceSub, Int.reduceMul, Int.reduceNeg, Int.reduceToNat, hsz, e6]⟩
      | false =>
        simp (decide := true) only [go_sem, KP, Wx_some, Nat.reduceAdd, Nat.reduceMul, Nat.reduceEqDiff, Nat.add_eq_left, Nat.left_eq_add, Int.reduceAdd, Int.reduceSub, Int.reduceMul, Int.reduceNeg, Int.reduceToNat, hsz, e0, e5, e6]
        exact cont () _ _ ⟨by simp (decide := true) only [go_sem, W_region, KP, Wx_some, Nat.reduceAdd, Nat.reduceMul, Nat.reduceEqDiff, Nat.add_eq_left, Nat.left_eq_add, Int.reduceAdd, Int.reduceSub, Int.reduceMul, Int.reduceNeg, Int.reduceToNat, hsz], y2, by simp (decide := true) only [go_sem, W_region, KP, Wx_some, Nat.reduceAdd, Nat.reduceMul, Nat.reduceEqDiff, Nat.add_eq_left, Nat.left_eq_add, Int.reduceAdd, Int.reduceSub, Int.reduceMul, Int.reduceNeg, Int.reduceToNat, hsz, e0], by rw [h41, h93]; simp (decide := true) only [go_sem, W_region, KP, Wx_some, Nat.reduceAdd, Nat.reduceMul, Nat.reduceEqDiff, Nat.add_eq_left, Nat.left_eq_add, Int.reduceAdd, Int.reduceSub, Int.reduceMul, Int.reduceNeg, Int.reduceToNat, hsz, e5]; simp, by simp (decide := true) only [go_sem, W_region, KP, Wx_some, Nat.reduceAdd, Nat.reduceMul, Nat.reduceEqDiff, Nat.add_eq_left, Nat.left_eq_add, Int.reduceAdd, Int.reduceSub, Int.reduceMul, Int.reduceNeg, Int.reduceToNat, hsz, e6]⟩
    have hd2 := delta_two X.1.2
    obtain ⟨n1, hn1'⟩ : ∃ n1, n1 = n + (if isM X.1.2 41 || isM X.1.2 93 then (1 : Int) else 0) := ⟨_, rfl⟩
    have hnb : n ≤ n1 ∧ n1 ≤ n + 1 := by
      rw [hn1']
      split <;> omega
    rw [← hn1']
    have hdn : n + deltaT X.1.2 = n1 - (if isM X.1.2 40 || isM X.1.2 91 then (1 : Int) else 0) := by rw [hd2, hn1']; omega
    rintro _ e w ⟨hsz, hxw, e0, e5, e6⟩
    have gw := g0 hxw
    apply W_join (α := Unit) (fun _ e w => e.size = 43 ∧ Ext h w ∧ e.get 0 = .slice (some ⟨b1, o1, none⟩) xs.length c ∧ e.get 5 = .int .i64 (n + deltaT X.1.2) ∧ e.get 6 = .int .i64 (k : Int))
    · intro cont
      have i2 : IntKind.i64.wrap (n1 - 1) = n1 - 1 := wrap_i64 (by omega) (by omega)
      (rw [W_region]; simp (decide := true) only [go_sem, KP, Wx_some, Nat.reduceAdd, Nat.reduceMul, Nat.reduceEqDiff, Nat.add_eq_left, Nat.left_eq_add, Int.reduceAdd, Int.reduceSub, Int.reduceMul, Int.reduceNeg, Int.reduceToNat, hsz, e0, e5, e6, c1, c2, Int.toNat_natCast, gw, p5, p4])
      refine W_call Kok hxw.1 (ris_run X.1 hXA 40 w) fun r w3 x3 hr => ?_
      subst hr
      have y3 := hxw.trans x3
      cases h40 : isM X.1.2 40 with
      | true =>
        rw [h40] at hdn
        simp (decide := true) only [go_sem, KP, Wx_some, Nat.reduceAdd, Nat.reduceMul, Nat.reduceEqDiff, Nat.add_eq_left, Nat.left_eq_add, Int.reduceAdd, Int.reduceSub, Int.reduceMul, Int.reduceNeg, Int.reduceToNat, hsz, e0, e5, e6]
        (rw [W_region]; simp (decide := true) only [go_sem, KP, Wx_some, Nat.reduceAdd, Nat.reduceMul, Nat.reduceEqDiff, Nat.add_eq_left, Nat.left_eq_add, Int.reduceAdd, Int.reduceSub, Int.reduceMul, Int.reduceNeg, Int.reduceToNat, hsz, e0, e5, e6, i2])
        exact cont () _ _ ⟨by simp (decide := true) only [go_sem, W_region, KP, Wx_some, Nat.reduceAdd, Nat.reduceMul, Nat.reduceEqDiff, Nat.add_eq_left, Nat.left_eq_add, Int.reduceAdd, Int.reduceSub, Int.reduceMul, Int.reduceNeg, Int.reduceToNat, hsz], y3, by simp (decide := true) only [go_sem, W_region, KP, Wx_some, Nat.reduceAdd, Nat.reduceMul, Nat.reduceEqDiff, Nat.add_eq_left, Nat.left_eq_add, Int.reduceAdd, Int.reduceSub, Int.reduceMul, Int.reduceNeg, Int.reduceToNat, hsz, e0], by rw [hdn]; simp (decide := true) only [go_sem, W_region, KP, Wx_some, Nat.reduceAdd, Nat.reduceMul, Nat.reduceEqDiff, Nat.add_eq_left, Nat.left_eq_add, Int.reduceAdd, Int.reduceSub, Int.reduceMul, Int.reduceNeg, Int.reduceToNat, hsz], by simp (decide := true) only [go_sem, W_region, KP, Wx_some, Nat.reduceAdd, Nat.reduceMul, Nat.reduceEqDiff, Nat.add_eq_left, Nat.left_eq_add, Int.reduceAdd, Int.reduceSub, Int.reduceMul, Int.reduceNeg, Int.reduceToNat, hsz, e6]⟩
      | false =>
      simp (decide := true) only [go_sem, KP, Wx_some, Nat.reduceAdd, Nat.reduceMul, Nat.reduceEqDiff, Nat.add_eq_left, Nat.left_eq_add, Int.reduceAdd, Int.reduceSub, Int.reduceMul, Int.reduceNeg, Int.reduceToNat, hsz, e0, e5, e6, c1, c2, Int.toNat_natCast, g0 y3, p5, p4]
      refine W_call Kok y3.1 (ris_run X.1 hXA 91 w3) fun r w4 x4 hr => ?_
      subst hr
      have y4 := y3.trans x4
      cases h91 : isM X.1.2 91 with
      | true =>
        rw [h40, h91] at hdn
        simp (decide := true) only [go_sem, KP, Wx_some, Nat.reduceAdd, Nat.reduceMul, Nat.reduceEqDiff, Nat.add_eq_left, Nat.left_eq_add, Int.reduceAdd, Int.reduceSub, Int.reduceMul, Int.reduceNeg, Int.reduceToNat, hsz, e0, e5, e6]
        (rw [W_region]; simp (decide := true) only [go_sem, KP, Wx_some, Nat.reduceAdd, Nat.reduceMul, Nat.reduceEqDiff, Nat.add_eq_left, Nat.left_eq_add, Int.reduceAdd, Int.reduceSub, Int.reduceMul, Int.reduceNeg, Int.reduceToNat, hsz, e0, e5, e6, i2])
        exact cont () _ _ ⟨by simp (decide := true) only [go_sem, W_region, KP, Wx_some, Nat.reduceAdd, Nat.reduceMul, Nat.reduceEqDiff, Nat.add_eq_left, Nat.left_eq_add, Int.reduceAdd, Int.reduceSub, Int.reduceMul, Int.reduceNeg, Int.reduceToNat, hsz], y4, by simp (decide := true) only [go_sem, W_region, KP, Wx_some, Nat.reduceAdd, Nat.reduceMul, Nat.reduceEqDiff, Nat.add_eq_left, Nat.left_eq_add, Int.reduceAdd, Int.reduceSub, Int.reduceMul, Int.reduceNeg, Int.reduceToNat, hsz, e0], by rw [hdn]; simp (decide := true) only [go_sem, W_region, KP, Wx_some, Nat.reduceAdd, Nat.reduceMul, Nat.reduceEqDiff, Nat.add_eq_left, Nat.left_eq_add, Int.reduceAdd, Int.reduceSub, Int.reduceMul, Int.reduceNeg, Int.reduceToNat, hsz], by simp (decide := true) only [go_sem, W_region, KP, Wx_some, Nat.reduceAdd, Nat.reduceMul, Nat.reduceEqDiff, Nat.add_eq_left, Nat.left_eq_add, Int.reduceAdd, Int.reduceSub, Int.reduceMul, Int.reduceNeg, Int.reduceToNat, hsz, e6]⟩
      | false =>
        rw [h40, h91] at hdn
        simp (decide := true) only [go_sem, KP, Wx_some, Nat.reduceAdd, Nat.reduceMul, Nat.reduceEqDiff, Nat.add_eq_left, Nat.left_eq_add, Int.reduceAdd, Int.reduceSub, Int.reduceMul, Int.reduceNeg, Int.reduceToNat, hsz, e0, e5, e6]
        exact cont () _ _ ⟨by simp (decide := true) only [go_sem, W_region, KP, Wx_some, Nat.reduceAdd, Nat.reduceMul, Nat.reduceEqDiff, Nat.add_eq_left, Nat.left_eq_add, Int.reduceAdd, Int.reduceSub, Int.reduceMul, Int.reduceNeg, Int.reduceToNat, hsz], y4, by simp (decide := true) only [go_sem, W_region, KP, Wx_some, Nat.reduceAdd, Nat.reduceMul, Nat.reduceEqDiff, Nat.add_eq_left, Nat.left_eq_add, Int.reduceAdd, Int.reduceSub, Int.reduceMul, Int.reduceNeg, Int.reduceToNat, hsz, e0], by rw [hdn]; simp (decide := true) only [go_sem, W_region, KP, Wx_some, Nat.reduceAdd, Nat.reduceMul, Nat.reduceEqDiff, Nat.add_eq_left, Nat.left_eq_add, Int.reduceAdd, Int.reduceSub, Int.reduceMul, Int.reduceNeg, Int.reduceToNat, hsz, e5]; simp, by simp (decide := true) only [go_sem, W_region, KP, Wx_some, Nat.reduceAdd, Nat.reduceMul, Nat.reduceEqDiff, Nat.add_eq_left, Nat.left_eq_add, Int.reduceAdd, Int.reduceSub, Int.reduceMul, Int.reduceNeg, Int.reduceToNat, hsz, e6]⟩
    rintro _ e w' ⟨hsz, hxw', e0, e5, e6⟩
    have i3 : IntKind.i64.wrap ((k : Int) - 1) = (k : Int) - 1 := wrap_i64 (by omega) (by omega)
    by_cases hz : n + deltaT X.1.2 = 0
    · rw [if_pos hz] at hop
      rw [hz] at e5
      simp (decide := true) only [go_sem, W_region, KP, Wx_some, Nat.reduceAdd, Nat.reduceMul, Nat.reduceEqDiff, Nat.add_eq_left, Nat.left_eq_add, Int.reduceAdd, Int.reduceSub, Int.reduceMul, Int.reduceNeg, Int.reduceToNat, hsz, e5, e6]
      rw [hop]
    · rw [if_neg hz] at hop
      simp (decide := true) only [go_sem, W_region, KP, Wx_some, Nat.reduceAdd, Nat.reduceMul, Nat.reduceEqDiff, Nat.add_eq_left, Nat.left_eq_add, Int.reduceAdd, Int.reduceSub, Int.reduceMul, Int.reduceNeg, Int.reduceToNat, hsz, e0, e5, e6, hz, i3]
      exact next (k, n + deltaT X.1.2) _ _ ⟨by simp only; omega, by simp only; omega, by simp only; omega, by simp (decide := true) only [go_sem, W_region, KP, Wx_some, Nat.reduceAdd, Nat.reduceMul, Nat.reduceEqDiff, Nat.add_eq_left, Nat.left_eq_add, Int.reduceAdd, Int.reduceSub, Int.reduceMul, Int.reduceNeg, Int.reduceToNat, hsz], hxw', by simp (decide := true) only [go_sem, W_region, KP, Wx_some, Nat.reduceAdd, Nat.reduceMul, Nat.reduceEqDiff, Nat.add_eq_left, Nat.left_eq_add, Int.reduceAdd, Int.reduceSub, Int.reduceMul, Int.reduceNeg, Int.reduceToNat, hsz, e0], by simp (decide := true) only [go_sem, W_region, KP, Wx_some, Nat.reduceAdd, Nat.reduceMul, Nat.reduceEqDiff, Nat.add_eq_left, Nat.left_eq_add, Int.reduceAdd, Int.reduceSub, Int.reduceMul, Int.reduceNeg, Int.reduceToNat, hsz, e5], by simp (decide := true) only [go_sem, W_region, KP, Wx_some, Nat.reduceAdd, Nat.reduceMul, Nat.reduceEqDiff, Nat.add_eq_left, Nat.left_eq_add, Int.reduceAdd, Int.reduceSub, Int.reduceMul, Int.reduceNeg, Int.reduceToNat, hsz], hop⟩ (by simp only; omega)

theorem opens_run (l : List Int) (y : Int) (h : Heap) {a : Option Addr} {c : Nat} (sl : Sl h 1 a l.length c (rv l)) (hc : c = 0 ∨ c = big) :
    Runs K f_law22_TokenOpens #[.slice a l.length c, .int .i32 y] h fun r _ => r = .bool true := by
  have t := Tx.all sl hc
  refine Runs.of Kok (Does.intro rfl (by decide +kernel) F_law22_TokenOpens rfl ?_)
  by_cases h1 : (120 : Int) < ((l.length : Nat) : Int)
  · simp (decide := true) only [go_sem, W_region, KP, Wx_some, Nat.reduceAdd, Nat.reduceMul, Nat.reduceEqDiff, Nat.add_eq_left, Nat.left_eq_add, Int.reduceAdd, Int.reduceSub, Int.reduceMul, Int.reduceNeg, Int.reduceToNat, h1]
    refine W_call Kok (Nat.le_refl _) (law22_awake_runs h) fun r w x hr => ?_
    subst hr
    simp (decide := true) only [go_sem, W_region, KP, Wx_some, Nat.reduceAdd, Nat.reduceMul, Nat.reduceEqDiff, Nat.add_eq_left, Nat.left_eq_add, Int.reduceAdd, Int.reduceSub, Int.reduceMul, Int.reduceNeg, Int.reduceToNat, KP]
  simp (decide := true) only [go_sem, W_region, KP, Wx_some, Nat.reduceAdd, Nat.reduceMul, Nat.reduceEqDiff, Nat.add_eq_left, Nat.left_eq_add, Int.reduceAdd, Int.reduceSub, Int.reduceMul, Int.reduceNeg, Int.reduceToNat, h1]
  refine W_call Kok (Nat.le_refl _) (lex_run h t) fun r w1 x1 hr => ?_
  rcases hr with ⟨hlex, rfl⟩ | ⟨xs, a1, c1, hlex, hA, hxl, rfl, s1⟩
  · simp (decide := true) only [go_sem, W_region, KP, Wx_some, Nat.reduceAdd, Nat.reduceMul, Nat.reduceEqDiff, Nat.add_eq_left, Nat.left_eq_add, Int.reduceAdd, Int.reduceSub, Int.reduceMul, Int.reduceNeg, Int.reduceToNat, KP]
    refine W_call Kok x1.1 (rlex_run w1 (t.ext x1)) fun r w2 x2 hr => ?_
    rcases hr with ⟨_, rfl⟩ | ⟨_, _, _, hlex2, _⟩
    · simp (decide := true) only [go_sem, W_region, KP, Wx_some, Nat.reduceAdd, Nat.reduceMul, Nat.reduceEqDiff, Nat.add_eq_left, Nat.left_eq_add, Int.reduceAdd, Int.reduceSub, Int.reduceMul, Int.reduceNeg, Int.reduceToNat, KP]
      refine W_call Kok (x1.trans x2).1 (law22_awake_runs w2) fun r w x hr => ?_
      subst hr
      simp (decide := true) only [go_sem, W_region, KP, Wx_some, Nat.reduceAdd, Nat.reduceMul, Nat.reduceEqDiff, Nat.add_eq_left, Nat.left_eq_add, Int.reduceAdd, Int.reduceSub, Int.reduceMul, Int.reduceNeg, Int.reduceToNat, KP]
    · rw [hlex] at hlex2
      cases hlex2
  simp (decide := true) only [go_sem, W_region, KP, Wx_some, Nat.reduceAdd, Nat.reduceMul, Nat.reduceEqDiff, Nat.add_eq_left, Nat.left_eq_add, Int.reduceAdd, Int.reduceSub, Int.reduceMul, Int.reduceNeg, Int.reduceToNat, KP]
  refine W_call Kok x1.1 (rlex_run w1 (t.ext x1)) fun r w2 x2 hr => ?_
  rcases hr with ⟨hlex2, _⟩ | ⟨ys, a2, c2, hlex2, hB, hyl, rfl, s2⟩
  · rw [hlex] at hlex2
    cases hlex2
  rw [hlex, Option.some.injEq] at hlex2
  have hxy : ys.length = xs.length := by
    have := congrArg List.length hlex2
    simpa using this.symm
  have x12 := x1.trans x2
  have s1' := s1.ext x2
  rw [hxy] at s2 ⊢
  simp (decide := true) only [go_sem, W_region, KP, Wx_some, Nat.reduceAdd, Nat.reduceMul, Nat.reduceEqDiff, Nat.add_eq_left, Nat.left_eq_add, Int.reduceAdd, Int.reduceSub, Int.reduceMul, Int.reduceNeg, Int.reduceToNat, KP]
  refine W_loop (α := Nat) (fun i e w => i ≤ xs.length ∧ e.size = 79 ∧ Ext w2 w ∧ e.get 1 = .int .i32 y ∧ e.get 5 = .slice a1 xs.length c1 ∧ e.get 7 = .slice a2 xs.length c2 ∧ e.get 9 = .int .i64 (i : Int)) (fun i => xs.length - i) 0 ?_ ?_
  · exact ⟨Nat.zero_le _, by simp (decide := true) only [go_sem, W_region, KP, Wx_some, Nat.reduceAdd, Nat.reduceMul, Nat.reduceEqDiff, Nat.add_eq_left, Nat.left_eq_add, Int.reduceAdd, Int.reduceSub, Int.reduceMul, Int.reduceNeg, Int.reduceToNat, KP], Ext.refl _, by simp (decide := true) only [go_sem, W_region, KP, Wx_some, Nat.reduceAdd, Nat.reduceMul, Nat.reduceEqDiff, Nat.add_eq_left, Nat.left_eq_add, Int.reduceAdd, Int.reduceSub, Int.reduceMul, Int.reduceNeg, Int.reduceToNat, KP], by simp (decide := true) only [go_sem, W_region, KP, Wx_some, Nat.reduceAdd, Nat.reduceMul, Nat.reduceEqDiff, Nat.add_eq_left, Nat.left_eq_add, Int.reduceAdd, Int.reduceSub, Int.reduceMul, Int.reduceNeg, Int.reduceToNat, KP], by simp (decide := true) only [go_sem, W_region, KP, Wx_some, Nat.reduceAdd, Nat.reduceMul, Nat.reduceEqDiff, Nat.add_eq_left, Nat.left_eq_add, Int.reduceAdd, Int.reduceSub, Int.reduceMul, Int.reduceNeg, Int.reduceToNat, KP], by simp (decide := true) only [go_sem, W_region, KP, Wx_some, Nat.reduceAdd, Nat.reduceMul, Nat.reduceEqDiff, Nat.add_eq_left, Nat.left_eq_add, Int.reduceAdd, Int.reduceSub, Int.reduceMul, Int.reduceNeg, Int.reduceToNat, KP]; rfl⟩
  · rintro i e w ⟨hi, hsz, hxw, e1, e5, e7, e9⟩ next
    have y0 := x12.trans hxw
    by_cases hil : (i : Int) < ((xs.length : Nat) : Int)
    case neg =>
      simp (decide := true) only [go_sem, W_region, KP, Wx_some, Nat.reduceAdd, Nat.reduceMul, Nat.reduceEqDiff, Nat.add_eq_left, Nat.left_eq_add, Int.reduceAdd, Int.reduceSub, Int.reduceMul, Int.reduceNeg, Int.reduceToNat, hsz, e5, e7, e9, hil]
      refine W_call Kok y0.1 (law22_awake_runs w) fun r w x hr => ?_
      subst hr
      simp (decide := true) only [go_sem, W_region, KP, Wx_some, Nat.reduceAdd, Nat.reduceMul, Nat.reduceEqDiff, Nat.add_eq_left, Nat.left_eq_add, Int.reduceAdd, Int.reduceSub, Int.reduceMul, Int.reduceNeg, Int.reduceToNat, hsz]
    obtain ⟨X, hX⟩ : ∃ X, xs[i]? = some X := ⟨_, List.getElem?_eq_getElem (by omega)⟩
    obtain ⟨Y, hY⟩ : ∃ Y, ys[i]? = some Y := ⟨_, List.getElem?_eq_getElem (by omega)⟩
    have hXY : Y.1 = X.1 := by
      have h8 : (xs.map (·.1))[i]? = (ys.map (·.1))[i]? := by rw [hlex2]
      rw [List.getElem?_map, List.getElem?_map, hX, hY] at h8
      simpa using h8.symm
    obtain ⟨b1, o1, cs1, p1, p2, p3, _, _, _, _, p4, p5⟩ := Sl.tok s1' hA rfl hX
    obtain ⟨b2, o2, cs2, r1, r2, r3, _, _, _, _, r4, r5⟩ := Sl.tok8 s2 hB hxy hY
    subst p1
    subst r1
    have j0 : (0 : Int) ≤ (i : Int) := by omega
    have j5 : IntKind.i64.wrap ((i : Int) + 1) = ((i + 1 : Nat) : Int) := by rw [wrap_i64 (by omega) (by omega)]; omega
    simp (decide := true) only [go_sem, W_region, KP, Wx_some, Nat.reduceAdd, Nat.reduceMul, Nat.reduceEqDiff, Nat.add_eq_left, Nat.left_eq_add, Int.reduceAdd, Int.reduceSub, Int.reduceMul, Int.reduceNeg, Int.reduceToNat, hsz, e1, e5, e7, e9, hil]
    refine W_call Kok y0.1 (opener_run xs i w (s1'.ext hxw) hA (by omega) (by omega)) fun r w3 x3 hr => ?_
    subst hr
    simp (decide := true) only [go_sem, W_region, KP, Wx_some, Nat.reduceAdd, Nat.reduceMul, Nat.reduceEqDiff, Nat.add_eq_left, Nat.left_eq_add, Int.reduceAdd, Int.reduceSub, Int.reduceMul, Int.reduceNeg, Int.reduceToNat, hsz, e1, e5, e7, e9]
    have s2' := (s2.ext hxw).ext x3
    rw [← hxy] at s2'
    have y3 := y0.trans x3
    have hop := ropener_run ys i w3 s2' hB (by omega) (by omega)
    rw [← hlex2, hxy] at hop
    refine W_call Kok y3.1 hop fun r w4 x4 hr => ?_
    subst hr
    have y4 := y3.trans x4
    have h24 := hxw.trans (x3.trans x4)
    have p3' : (w4.get b1).read = .cells cs1 9 := by rw [h24.2 _ p2]; exact p3
    simp (decide := true) only [go_sem, W_region, KP, Wx_some, Nat.reduceAdd, Nat.reduceMul, Nat.reduceEqDiff, Nat.add_eq_left, Nat.left_eq_add, Int.reduceAdd, Int.reduceSub, Int.reduceMul, Int.reduceNeg, Int.reduceToNat, hsz, e1, e5, e7, e9, hil, j0, Int.toNat_natCast, p3', p5, p4]
    refine W_call Kok y4.1 (is_run X.1 (hA X (List.mem_of_getElem? hX)) y w4) fun r w5 x5 hr => ?_
    subst hr
    have r3' : (w5.get b2).read = .cells cs2 8 := by rw [(h24.trans x5).2 _ r2]; exact r3
    simp (decide := true) only [go_sem, W_region, KP, Wx_some, Nat.reduceAdd, Nat.reduceMul, Nat.reduceEqDiff, Nat.add_eq_left, Nat.left_eq_add, Int.reduceAdd, Int.reduceSub, Int.reduceMul, Int.reduceNeg, Int.reduceToNat, hsz, e1, e5, e7, e9, hil, j0, Int.toNat_natCast, r3', r5, r4]
    refine W_call Kok (y4.trans x5).1 (ris_run Y.1 (hB Y (List.mem_of_getElem? hY)) y w5) fun r w6 x6 hr => ?_
    subst hr
    rw [hXY]
    simp (decide := true) only [go_sem, W_region, KP, Wx_some, Nat.reduceAdd, Nat.reduceMul, Nat.reduceEqDiff, Nat.add_eq_left, Nat.left_eq_add, Int.reduceAdd, Int.reduceSub, Int.reduceMul, Int.reduceNeg, Int.reduceToNat, hsz, e1, e5, e7, e9, j5]
    exact next (i + 1) _ _ ⟨by omega, by simp (decide := true) only [go_sem, W_region, KP, Wx_some, Nat.reduceAdd, Nat.reduceMul, Nat.reduceEqDiff, Nat.add_eq_left, Nat.left_eq_add, Int.reduceAdd, Int.reduceSub, Int.reduceMul, Int.reduceNeg, Int.reduceToNat, hsz], h24.trans (x5.trans x6), by simp (decide := true) only [go_sem, W_region, KP, Wx_some, Nat.reduceAdd, Nat.reduceMul, Nat.reduceEqDiff, Nat.add_eq_left, Nat.left_eq_add, Int.reduceAdd, Int.reduceSub, Int.reduceMul, Int.reduceNeg, Int.reduceToNat, hsz, e1], by simp (decide := true) only [go_sem, W_region, KP, Wx_some, Nat.reduceAdd, Nat.reduceMul, Nat.reduceEqDiff, Nat.add_eq_left, Nat.left_eq_add, Int.reduceAdd, Int.reduceSub, Int.reduceMul, Int.reduceNeg, Int.reduceToNat, hsz, e5], by simp (decide := true) only [go_sem, W_region, KP, Wx_some, Nat.reduceAdd, Nat.reduceMul, Nat.reduceEqDiff, Nat.add_eq_left, Nat.left_eq_add, Int.reduceAdd, Int.reduceSub, Int.reduceMul, Int.reduceNeg, Int.reduceToNat, hsz, e7], by simp (decide := true) only [go_sem, W_region, KP, Wx_some, Nat.reduceAdd, Nat.reduceMul, Nat.reduceEqDiff, Nat.add_eq_left, Nat.left_eq_add, Int.reduceAdd, Int.reduceSub, Int.reduceMul, Int.reduceNeg, Int.reduceToNat, hsz]⟩ (by omega)
end Go.Proofs.Ytjlaenglmdpboaa.T1
