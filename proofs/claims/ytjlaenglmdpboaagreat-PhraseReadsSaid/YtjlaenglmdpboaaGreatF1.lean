/- Proved here: phrases: classes of names, kinds and marks at places, which brackets are axes, whether an operand ends at a token; in the program and in the document, of every list of tokens. -/
import Derived.Test.YtjlaenglmdpboaaGreatT1
set_option linter.unusedSimpArgs false
set_option linter.unusedVariables false
namespace Go.Im.Lexing
/-- Names and their classes. -/
abbrev NR : Type := ByteArray × Int
def classN : List NR → ByteArray → Int
  | [], _ => 0
  | p :: l, x => if p.1 = x then p.2 else classN l x
def ncells (l : List NR) : List Value := l.flatMap fun p => [.string p.1, .int .i64 p.2]
theorem ncells_get : ∀ {l : List NR} {i : Nat} {p : NR}, l[i]? = some p → (ncells l)[i * 2]? = some (.string p.1) ∧ (ncells l)[i * 2 + 1]? = some (.int .i64 p.2)
  | [], i, p, h => by simp at h
  | q :: l, 0, p, h => by
    cases h
    exact ⟨rfl, rfl⟩
  | q :: l, i + 1, p, h => by
    have := ncells_get (l := l) (i := i) (p := p) (by simpa using h)
    rw [show (i + 1) * 2 = i * 2 + 2 by omega]
    exact this
/-- The system's names. -/
def sysL : List NR := [(⟨#[73, 79]⟩, 1), (⟨#[80, 80]⟩, 1), (⟨#[80, 87]⟩, 1), (⟨#[82, 76]⟩, 1), (⟨#[76, 88]⟩, 1), (⟨#[67, 82]⟩, 3), (⟨#[70, 88]⟩, 3), (⟨#[78, 67]⟩, 3), (⟨#[69, 88]⟩, 3), (⟨#[69, 83]⟩, 3), (⟨#[69, 65]⟩, 4)]
def kindT (ts : List (Nat × Tk)) (i : Int) : Nat := if i < 0 then 0 else match ts[i.toNat]? with
  | some t => t.2.kind
  | none => 0
def markT (ts : List (Nat × Tk)) (i c : Int) : Bool := if i < 0 then false else match ts[i.toNat]? with
  | some t => isM t.2 c
  | none => false
def axisT (ts : List (Nat × Tk)) (i : Int) : Bool := markT ts i 93 && (decide (0 ≤ openT ts (i.toNat + 1) 0 - 1) && (decide (kindT ts (openT ts (i.toNat + 1) 0 - 1) = 4) || decide (kindT ts (openT ts (i.toNat + 1) 0 - 1) = 5)))
def wordT (ts : List (Nat × Tk)) (i : Int) : ByteArray := match ts[i.toNat]? with
  | some t => runesBytes t.2.word
  | none => ⟨#[]⟩
def signT (ts : List (Nat × Tk)) (i : Int) : Int := match ts[i.toNat]? with
  | some t => t.2.sign
  | none => 0
def classT (names : List NR) (ts : List (Nat × Tk)) (i : Int) : Int := if kindT ts i = 2 then classN names (wordT ts i) else classN sysL (wordT ts i)
def noFn (c : Int) : Bool := !decide (c = 3) && !decide (c = 4)
def operandT (names : List NR) (ts : List (Nat × Tk)) (i : Int) : Bool :=
  if kindT ts i = 2 ∨ kindT ts i = 3 then noFn (classT names ts i)
  else if markT ts i 93 then !axisT ts i
  else decide (kindT ts i = 1) || (markT ts i 41 || (markT ts i 9109 || markT ts i 9054))
theorem openT_bounds (ts : List (Nat × Tk)) : ∀ (k : Nat) (n : Int), -1 ≤ openT ts k n ∧ openT ts k n < k
  | 0, n => by simp [openT]
  | k + 1, n => by
    rw [openT]
    split
    · simp
      omega
    · split
      · omega
      · have := openT_bounds ts k (n + deltaT (by assumption : Nat × Tk).2)
        omega
theorem kindT_at {ts : List (Nat × Tk)} {i : Nat} {t : Nat × Tk} (h : ts[i]? = some t) : kindT ts (i : Int) = t.2.kind := by
  simp only [kindT, Int.toNat_natCast, h]
  rw [if_neg (by omega)]
theorem markT_at {ts : List (Nat × Tk)} {i : Nat} {t : Nat × Tk} (h : ts[i]? = some t) (c : Int) : markT ts (i : Int) c = isM t.2 c := by
  simp only [markT, Int.toNat_natCast, h]
  rw [if_neg (by omega)]
theorem markT_kind {ts : List (Nat × Tk)} {i c : Int} (h : kindT ts i ≠ 6) : markT ts i c = false := by
  unfold markT
  unfold kindT at h
  split
  · rfl
  · rename_i hi
    rw [if_neg hi] at h
    split
    · rename_i t ht
      simp only [ht] at h
      simp [isM, h]
    · rfl
theorem out_of {ts : List (Nat × Tk)} {i : Int} (h : i < 0 ∨ (ts.length : Int) ≤ i) : kindT ts i = 0 ∧ ∀ c, markT ts i c = false := by
  unfold kindT markT
  by_cases h0 : i < 0
  · simp [h0]
  · have : ts[i.toNat]? = none := List.getElem?_eq_none (by omega)
    simp [h0, this]
theorem classN_sys (x : ByteArray) : classN sysL x = if x = ⟨#[73, 79]⟩ ∨ x = ⟨#[80, 80]⟩ ∨ x = ⟨#[80, 87]⟩ ∨ x = ⟨#[82, 76]⟩ ∨ x = ⟨#[76, 88]⟩ then 1 else if x = ⟨#[67, 82]⟩ ∨ x = ⟨#[70, 88]⟩ ∨ x = ⟨#[78, 67]⟩ ∨ x = ⟨#[69, 88]⟩ ∨ x = ⟨#[69, 83]⟩ then 3 else if x = ⟨#[69, 65]⟩ then 4 else 0 := by
  simp only [sysL, classN, eq_comm (b := x)]
  repeat' split
  all_goals simp_all
end Go.Im.Lexing
namespace Go.Proofs.YtjlaenglmdpboaaGreat.F1
open Go Go.Im Go.Im.Limbs Go.Im.Lexing Go.Proofs Go.RowKit Go.Proofs.YtjlaenglmdpboaaGreat.Hd Go.Proofs.YtjlaenglmdpboaaGreat.N18 Go.Proofs.YtjlaenglmdpboaaGreat.N19 Go.Proofs.YtjlaenglmdpboaaGreat.N23 Go.Proofs.YtjlaenglmdpboaaGreat.N26 Go.Proofs.YtjlaenglmdpboaaGreat.R8 Go.Proofs.YtjlaenglmdpboaaGreat.R9 Go.Proofs.YtjlaenglmdpboaaGreat.T1
set_option maxRecDepth 100000

theorem rclass_run (l : List NR) (x : ByteArray) (h : Heap) {a : Option Addr} {c : Nat} (s : Sl h 2 a l.length c (ncells l)) (hl : l.length ≤ 1000) : Runs K f_ref32_Class #[.slice a l.length c, .string x] h fun r w => r = .int .i64 (classN l x) ∧ w = h := by
  refine Runs.of Kok (Does.intro rfl (by decide +kernel) F_ref32_Class rfl ?_)
  simp (decide := true) only [go_sem, W_region, Wx_some, Nat.reduceAdd, Nat.reduceMul, Nat.reduceEqDiff, Int.reduceAdd, Int.reduceSub, Int.reduceMul, Int.reduceNeg, Int.reduceToNat]
  refine W_loop (α := Nat) (fun i e w => i ≤ l.length ∧ e.size = 24 ∧ w = h ∧ e.get 0 = .slice a l.length c ∧ e.get 1 = .string x ∧ e.get 5 = .int .i64 (i : Int) ∧ classN l x = classN (l.drop i) x) (fun i => l.length - i) 0 ?_ ?_
  · exact ⟨Nat.zero_le _, by simp (decide := true) only [go_sem], rfl, by simp (decide := true) only [go_sem], by simp (decide := true) only [go_sem], by simp (decide := true) only [go_sem]; rfl, rfl⟩
  · rintro i e w ⟨hi, hsz, rfl, e0, e1, e5, hcl⟩ next
    by_cases hc : (i : Int) < ((l.length : Nat) : Int)
    · obtain ⟨p, hp⟩ : ∃ p, l[i]? = some p := ⟨_, List.getElem?_eq_getElem (by omega)⟩
      obtain ⟨hil, hpg⟩ := List.getElem?_eq_some_iff.1 hp
      obtain ⟨b, o, cs, rfl, h2, h3, h4, h5⟩ := s.at hil
      obtain ⟨g1, g2⟩ := ncells_get hp
      rw [h5, List.getElem?_take, if_pos (by omega), List.getElem?_drop] at g1 g2
      rw [← Nat.add_assoc] at g2
      rw [List.drop_eq_getElem_cons hil, hpg, classN] at hcl
      have j0 : (0 : Int) ≤ (i : Int) := by omega
      by_cases hpx : p.1 = x
      · rw [if_pos hpx] at hcl
        simp (decide := true) only [go_sem, W_region, Wx_some, Nat.reduceAdd, Nat.reduceMul, Nat.reduceEqDiff, Int.reduceAdd, Int.reduceSub, Int.reduceMul, Int.reduceNeg, Int.reduceToNat, hsz, e0, e1, e5, hc, j0, Int.toNat_natCast, h3, g1, g2, hpx, Nat.add_zero]
        simp [hcl]
      · rw [if_neg hpx] at hcl
        have j5 : IntKind.i64.wrap ((i : Int) + 1) = ((i + 1 : Nat) : Int) := by rw [wrap_i64 (by omega) (by omega)]; omega
        simp (decide := true) only [go_sem, W_region, Wx_some, Nat.reduceAdd, Nat.reduceMul, Nat.reduceEqDiff, Int.reduceAdd, Int.reduceSub, Int.reduceMul, Int.reduceNeg, Int.reduceToNat, hsz, e0, e1, e5, hc, j0, Int.toNat_natCast, h3, g1, g2, hpx, j5, Nat.add_zero]
        exact next (i + 1) _ _ ⟨by omega, by simp (decide := true) only [go_sem, hsz], rfl, by simp (decide := true) only [go_sem, hsz, e0], by simp (decide := true) only [go_sem, hsz, e1], by simp (decide := true) only [go_sem, hsz], hcl⟩ (by omega)
    · rw [List.drop_of_length_le (by omega)] at hcl
      simp (decide := true) only [go_sem, W_region, Wx_some, Nat.reduceAdd, Nat.reduceMul, Nat.reduceEqDiff, Int.reduceAdd, Int.reduceSub, Int.reduceMul, Int.reduceNeg, Int.reduceToNat, hsz, e0, e1, e5, hc]
      simp [hcl, classN]

theorem rsys_run (x : ByteArray) (h : Heap) : Runs K f_ref32_System #[.string x] h fun r w => r = .int .i64 (classN sysL x) := by
  refine Runs.of Kok (Does.intro rfl (by decide +kernel) F_ref32_System rfl ?_)
  obtain ⟨w0, e0, x0, hs0, z0⟩ := lay1 h (.cells (ncells sysL) 2)
  have hn : ncells sysL = [.string ⟨#[73, 79]⟩, .int .i64 1, .string ⟨#[80, 80]⟩, .int .i64 1, .string ⟨#[80, 87]⟩, .int .i64 1, .string ⟨#[82, 76]⟩, .int .i64 1, .string ⟨#[76, 88]⟩, .int .i64 1, .string ⟨#[67, 82]⟩, .int .i64 3, .string ⟨#[70, 88]⟩, .int .i64 3, .string ⟨#[78, 67]⟩, .int .i64 3, .string ⟨#[69, 88]⟩, .int .i64 3, .string ⟨#[69, 83]⟩, .int .i64 3, .string ⟨#[69, 65]⟩, .int .i64 4] := rfl
  rw [hn] at e0
  simp (decide := true) only [go_sem, W_region, Wx_some, Nat.reduceAdd, Nat.reduceMul, Nat.reduceEqDiff, Int.reduceAdd, Int.reduceSub, Int.reduceMul, Int.reduceNeg, Int.reduceToNat, e0]
  refine W_call Kok x0.1 (rclass_run sysL x w0 (a := some ⟨h.size, 0, none⟩) (c := 11) (Sl.made (by omega) z0 rfl (by simp [big, sysL])) (by decide)) fun r w1 x1 hr => ?_
  obtain ⟨rfl, rfl⟩ := hr
  simp (decide := true) only [go_sem, W_region, Wx_some, Nat.reduceAdd, Nat.reduceMul, Nat.reduceEqDiff, Int.reduceAdd, Int.reduceSub, Int.reduceMul, Int.reduceNeg, Int.reduceToNat]

theorem psys_run (x : ByteArray) (h : Heap) : Runs K f_phrase_SystemClass #[.string x] h fun r w => r = .int .i64 (classN sysL x) := by
  refine Runs.of Kok (Does.intro rfl (by decide +kernel) F_phrase_SystemClass rfl ?_)
  rw [classN_sys]
  by_cases h1 : x = ⟨#[73, 79]⟩
  · simp (decide := true) only [go_sem, W_region, Wx_some, Nat.reduceAdd, Nat.reduceMul, Nat.reduceEqDiff, Int.reduceAdd, Int.reduceSub, Int.reduceMul, Int.reduceNeg, Int.reduceToNat, h1]
  by_cases h2 : x = ⟨#[80, 80]⟩
  · simp (decide := true) only [go_sem, W_region, Wx_some, Nat.reduceAdd, Nat.reduceMul, Nat.reduceEqDiff, Int.reduceAdd, Int.reduceSub, Int.reduceMul, Int.reduceNeg, Int.reduceToNat, h1, h2]
  by_cases h3 : x = ⟨#[80, 87]⟩
  · simp (decide := true) only [go_sem, W_region, Wx_some, Nat.reduceAdd, Nat.reduceMul, Nat.reduceEqDiff, Int.reduceAdd, Int.reduceSub, Int.reduceMul, Int.reduceNeg, Int.reduceToNat, h1, h2, h3]
  by_cases h4 : x = ⟨#[82, 76]⟩
  · simp (decide := true) only [go_sem, W_region, Wx_some, Nat.reduceAdd, Nat.reduceMul, Nat.reduceEqDiff, Int.reduceAdd, Int.reduceSub, Int.reduceMul, Int.reduceNeg, Int.reduceToNat, h1, h2, h3, h4]
  by_cases h5 : x = ⟨#[76, 88]⟩
  · simp (decide := true) only [go_sem, W_region, Wx_some, Nat.reduceAdd, Nat.reduceMul, Nat.reduceEqDiff, Int.reduceAdd, Int.reduceSub, Int.reduceMul, Int.reduceNeg, Int.reduceToNat, h1, h2, h3, h4, h5]
  by_cases g1 : x = ⟨#[67, 82]⟩
  · simp (decide := true) only [go_sem, W_region, Wx_some, Nat.reduceAdd, Nat.reduceMul, Nat.reduceEqDiff, Int.reduceAdd, Int.reduceSub, Int.reduceMul, Int.reduceNeg, Int.reduceToNat, h1, h2, h3, h4, h5, g1]
  by_cases g2 : x = ⟨#[70, 88]⟩
  · simp (decide := true) only [go_sem, W_region, Wx_some, Nat.reduceAdd, Nat.reduceMul, Nat.reduceEqDiff, Int.reduceAdd, Int.reduceSub, Int.reduceMul, Int.reduceNeg, Int.reduceToNat, h1, h2, h3, h4, h5, g1, g2]
  by_cases g3 : x = ⟨#[78, 67]⟩
  · simp (decide := true) only [go_sem, W_region, Wx_some, Nat.reduceAdd, Nat.reduceMul, Nat.reduceEqDiff, Int.reduceAdd, Int.reduceSub, Int.reduceMul, Int.reduceNeg, Int.reduceToNat, h1, h2, h3, h4, h5, g1, g2, g3]
  by_cases g4 : x = ⟨#[69, 88]⟩
  · simp (decide := true) only [go_sem, W_region, Wx_some, Nat.reduceAdd, Nat.reduceMul, Nat.reduceEqDiff, Int.reduceAdd, Int.reduceSub, Int.reduceMul, Int.reduceNeg, Int.reduceToNat, h1, h2, h3, h4, h5, g1, g2, g3, g4]
  by_cases g5 : x = ⟨#[69, 83]⟩
  · simp (decide := true) only [go_sem, W_region, Wx_some, Nat.reduceAdd, Nat.reduceMul, Nat.reduceEqDiff, Int.reduceAdd, Int.reduceSub, Int.reduceMul, Int.reduceNeg, Int.reduceToNat, h1, h2, h3, h4, h5, g1, g2, g3, g4, g5]
  by_cases k1 : x = ⟨#[69, 65]⟩
  · simp (decide := true) only [go_sem, W_region, Wx_some, Nat.reduceAdd, Nat.reduceMul, Nat.reduceEqDiff, Int.reduceAdd, Int.reduceSub, Int.reduceMul, Int.reduceNeg, Int.reduceToNat, h1, h2, h3, h4, h5, g1, g2, g3, g4, g5, k1]
  simp (decide := true) only [go_sem, W_region, Wx_some, Nat.reduceAdd, Nat.reduceMul, Nat.reduceEqDiff, Int.reduceAdd, Int.reduceSub, Int.reduceMul, Int.reduceNeg, Int.reduceToNat, h1, h2, h3, h4, h5, g1, g2, g3, g4, g5, k1]

section
variable (ys : List XT) (h : Heap) {a : Option Addr} {c : Nat} (s : Sl h 8 a ys.length c (xcs ys)) (hA : ∀ x ∈ ys, Arr4 x.2)
include s hA
theorem kind22_run (i : Int) : Runs K f_ref32_kind #[.slice a ys.length c, .int .i64 i] h fun r w => r = .int .i64 ((kindT (ys.map (·.1)) i : Nat) : Int) ∧ w = h := by
  refine Runs.of Kok (Does.intro rfl (by decide +kernel) F_ref32_kind rfl ?_)
  by_cases h0 : i < 0
  · simp (decide := true) only [go_sem, W_region, Wx_some, Nat.reduceAdd, Nat.reduceMul, Nat.reduceEqDiff, Int.reduceAdd, Int.reduceSub, Int.reduceMul, Int.reduceNeg, Int.reduceToNat, h0]
    simp [(out_of (ts := ys.map (·.1)) (.inl h0)).1]
  by_cases h1 : ((ys.length : Nat) : Int) ≤ i
  · simp (decide := true) only [go_sem, W_region, Wx_some, Nat.reduceAdd, Nat.reduceMul, Nat.reduceEqDiff, Int.reduceAdd, Int.reduceSub, Int.reduceMul, Int.reduceNeg, Int.reduceToNat, h0, h1]
    simp [(out_of (ts := ys.map (·.1)) (.inr (by simpa using h1))).1]
  obtain ⟨n, rfl⟩ := Int.eq_ofNat_of_zero_le (show 0 ≤ i by omega)
  obtain ⟨Y, hY⟩ : ∃ Y, ys[n]? = some Y := ⟨_, List.getElem?_eq_getElem (by omega)⟩
  have hYm : (ys.map (·.1))[n]? = some Y.1 := by rw [List.getElem?_map, hY]; rfl
  obtain ⟨b1, o1, cs1, rfl, p2, p3, p4, _, _, _, _, p5⟩ := Sl.tok8 s hA rfl hY
  have j0 : (0 : Int) ≤ (n : Int) := by omega
  have j1 : (n : Int) < ((ys.length : Nat) : Int) := by omega
  simp (decide := true) only [go_sem, W_region, Wx_some, Nat.reduceAdd, Nat.reduceMul, Nat.reduceEqDiff, Int.reduceAdd, Int.reduceSub, Int.reduceMul, Int.reduceNeg, Int.reduceToNat, h0, h1, j0, j1, Int.toNat_natCast, p3, p4, Nat.add_zero]
  simp [kindT_at hYm]
theorem mark22_run (i y : Int) : Runs K f_ref32_mark #[.slice a ys.length c, .int .i64 i, .int .i32 y] h fun r w => r = .bool (markT (ys.map (·.1)) i y) ∧ w = h := by
  refine Runs.of Kok (Does.intro rfl (by decide +kernel) F_ref32_mark rfl ?_)
  simp (decide := true) only [go_sem, W_region, Wx_some, Nat.reduceAdd, Nat.reduceMul, Nat.reduceEqDiff, Int.reduceAdd, Int.reduceSub, Int.reduceMul, Int.reduceNeg, Int.reduceToNat]
  refine W_call Kok (Nat.le_refl _) (kind22_run ys h s hA i) fun r w x hr => ?_
  obtain ⟨rfl, rfl⟩ := hr
  by_cases hk : kindT (ys.map (·.1)) i = 6
  · have hk' : ((kindT (ys.map (·.1)) i : Nat) : Int) = 6 := by omega
    have h0 : ¬ i < 0 := by
      intro hh
      rw [(out_of (.inl hh)).1] at hk
      cases hk
    have h1 : ¬ ((ys.length : Nat) : Int) ≤ i := by
      intro hh
      rw [(out_of (.inr (by simpa using hh))).1] at hk
      cases hk
    obtain ⟨n, rfl⟩ := Int.eq_ofNat_of_zero_le (show 0 ≤ i by omega)
    obtain ⟨Y, hY⟩ : ∃ Y, ys[n]? = some Y := ⟨_, List.getElem?_eq_getElem (by omega)⟩
    have hYm : (ys.map (·.1))[n]? = some Y.1 := by rw [List.getElem?_map, hY]; rfl
    obtain ⟨b1, o1, cs1, rfl, p2, p3, _, _, _, p4, _, p5⟩ := Sl.tok8 s hA rfl hY
    have j0 : (0 : Int) ≤ (n : Int) := by omega
    have j1 : (n : Int) < ((ys.length : Nat) : Int) := by omega
    rw [kindT_at hYm] at hk hk'
    rw [kindT_at hYm]
    simp (decide := true) only [go_sem, W_region, Wx_some, Nat.reduceAdd, Nat.reduceMul, Nat.reduceEqDiff, Int.reduceAdd, Int.reduceSub, Int.reduceMul, Int.reduceNeg, Int.reduceToNat, hk', j0, j1, Int.toNat_natCast, p3, p4]
    simp [markT_at hYm, isM, hk]
  · have hk' : ¬ ((kindT (ys.map (·.1)) i : Nat) : Int) = 6 := by omega
    simp (decide := true) only [go_sem, W_region, Wx_some, Nat.reduceAdd, Nat.reduceMul, Nat.reduceEqDiff, Int.reduceAdd, Int.reduceSub, Int.reduceMul, Int.reduceNeg, Int.reduceToNat, hk']
    simp [markT_kind hk]
theorem class22_run (names : List NR) (i : Int) (hk : kindT (ys.map (·.1)) i = 2 ∨ kindT (ys.map (·.1)) i = 3) {na : Option Addr} {nc : Nat} (sn : Sl h 2 na names.length nc (ncells names)) (hn : names.length ≤ 1000) :
    Runs K f_ref32_class #[.slice a ys.length c, .int .i64 i, .slice na names.length nc] h fun r w => r = .int .i64 (classT names (ys.map (·.1)) i) := by
  refine Runs.of Kok (Does.intro rfl (by decide +kernel) F_ref32_class rfl ?_)
  simp (decide := true) only [go_sem, W_region, Wx_some, Nat.reduceAdd, Nat.reduceMul, Nat.reduceEqDiff, Int.reduceAdd, Int.reduceSub, Int.reduceMul, Int.reduceNeg, Int.reduceToNat]
  refine W_call Kok (Nat.le_refl _) (kind22_run ys h s hA i) fun r w x hr => ?_
  obtain ⟨rfl, rfl⟩ := hr
  have h0 : ¬ i < 0 := by
    intro hh
    rw [(out_of (.inl hh)).1] at hk
    rcases hk with hk | hk <;> cases hk
  have h1 : ¬ ((ys.length : Nat) : Int) ≤ i := by
    intro hh
    rw [(out_of (.inr (by simpa using hh))).1] at hk
    rcases hk with hk | hk <;> cases hk
  obtain ⟨n, rfl⟩ := Int.eq_ofNat_of_zero_le (show 0 ≤ i by omega)
  obtain ⟨Y, hY⟩ : ∃ Y, ys[n]? = some Y := ⟨_, List.getElem?_eq_getElem (by omega)⟩
  have hYm : (ys.map (·.1))[n]? = some Y.1 := by rw [List.getElem?_map, hY]; rfl
  obtain ⟨b1, o1, cs1, rfl, p2, p3, _, _, p4, _, _, p5⟩ := Sl.tok8 s hA rfl hY
  have j0 : (0 : Int) ≤ (n : Int) := by omega
  have j1 : (n : Int) < ((ys.length : Nat) : Int) := by omega
  have hw : wordT (ys.map (·.1)) (n : Int) = runesBytes Y.1.2.word := by simp only [wordT, Int.toNat_natCast, hYm]
  unfold classT
  rw [hw]
  by_cases hk2 : kindT (ys.map (·.1)) (n : Int) = 2
  · have hk' : ((kindT (ys.map (·.1)) (n : Int) : Nat) : Int) = 2 := by omega
    simp (decide := true) only [go_sem, W_region, Wx_some, Nat.reduceAdd, Nat.reduceMul, Nat.reduceEqDiff, Int.reduceAdd, Int.reduceSub, Int.reduceMul, Int.reduceNeg, Int.reduceToNat, hk', j0, j1, Int.toNat_natCast, p3, p4]
    refine W_call Kok (Nat.le_refl _) (rclass_run names _ _ sn hn) fun r w x hr => ?_
    obtain ⟨rfl, rfl⟩ := hr
    simp (decide := true) only [go_sem, W_region, Wx_some, Nat.reduceAdd, Nat.reduceMul, Nat.reduceEqDiff, Int.reduceAdd, Int.reduceSub, Int.reduceMul, Int.reduceNeg, Int.reduceToNat]
    simp [hk2]
  · have hk' : ¬ ((kindT (ys.map (·.1)) (n : Int) : Nat) : Int) = 2 := by omega
    simp (decide := true) only [go_sem, W_region, Wx_some, Nat.reduceAdd, Nat.reduceMul, Nat.reduceEqDiff, Int.reduceAdd, Int.reduceSub, Int.reduceMul, Int.reduceNeg, Int.reduceToNat, hk', j0, j1, Int.toNat_natCast, p3, p4]
    refine W_call Kok (Nat.le_refl _) (rsys_run _ _) fun r w x hr => ?_
    subst hr
    simp (decide := true) only [go_sem, W_region, Wx_some, Nat.reduceAdd, Nat.reduceMul, Nat.reduceEqDiff, Int.reduceAdd, Int.reduceSub, Int.reduceMul, Int.reduceNeg, Int.reduceToNat]
    simp [hk2]
theorem raxis_run (hl : ys.length ≤ 1000) (i : Int) : Runs K f_ref32_Axis #[.slice a ys.length c, .int .i64 i] h fun r w => r = .bool (axisT (ys.map (·.1)) i) := by
  refine Runs.of Kok (Does.intro rfl (by decide +kernel) F_ref32_Axis rfl ?_)
  simp (decide := true) only [go_sem, W_region, Wx_some, Nat.reduceAdd, Nat.reduceMul, Nat.reduceEqDiff, Int.reduceAdd, Int.reduceSub, Int.reduceMul, Int.reduceNeg, Int.reduceToNat]
  refine W_call Kok (Nat.le_refl _) (mark22_run ys h s hA i 93) fun r w x hr => ?_
  obtain ⟨rfl, rfl⟩ := hr
  cases hm : markT (ys.map (·.1)) i 93 with
  | false =>
    simp (decide := true) only [go_sem, W_region, Wx_some, Nat.reduceAdd, Nat.reduceMul, Nat.reduceEqDiff, Int.reduceAdd, Int.reduceSub, Int.reduceMul, Int.reduceNeg, Int.reduceToNat]
    simp [axisT, hm]
  | true =>
    have h0 : ¬ i < 0 := by
      intro hh
      rw [(out_of (.inl hh)).2] at hm
      cases hm
    have h1 : ¬ ((ys.length : Nat) : Int) ≤ i := by
      intro hh
      rw [(out_of (.inr (by simpa using hh))).2] at hm
      cases hm
    obtain ⟨n, rfl⟩ := Int.eq_ofNat_of_zero_le (show 0 ≤ i by omega)
    unfold axisT
    rw [hm, Bool.true_and, Int.toNat_natCast]
    simp (decide := true) only [go_sem, W_region, Wx_some, Nat.reduceAdd, Nat.reduceMul, Nat.reduceEqDiff, Int.reduceAdd, Int.reduceSub, Int.reduceMul, Int.reduceNeg, Int.reduceToNat]
    refine W_call Kok (Nat.le_refl _) (ropener_run ys n w s hA (by omega) hl) fun r w1 x1 hr => ?_
    subst hr
    obtain ⟨j, hj⟩ : ∃ j, j = openT (ys.map (·.1)) (n + 1) 0 := ⟨_, rfl⟩
    have hb := openT_bounds (ys.map (·.1)) (n + 1) 0
    rw [← hj] at hb ⊢
    have i1 : IntKind.i64.wrap (j - 1) = j - 1 := wrap_i64 (by omega) (by omega)
    simp (decide := true) only [go_sem, W_region, Wx_some, Nat.reduceAdd, Nat.reduceMul, Nat.reduceEqDiff, Int.reduceAdd, Int.reduceSub, Int.reduceMul, Int.reduceNeg, Int.reduceToNat, i1]
    refine W_call Kok x1.1 (kind22_run ys w1 (s.ext x1) hA (j - 1)) fun r w2 x2 hr => ?_
    obtain ⟨rfl, rfl⟩ := hr
    generalize hk : kindT (ys.map (·.1)) (j - 1) = k
    by_cases hj0 : (0 : Int) < j
    · have hj1 : (0 : Int) ≤ j - 1 := by omega
      by_cases hk4 : k = 4
      · have hk4' : ((k : Nat) : Int) = 4 := by omega
        simp (decide := true) only [go_sem, W_region, Wx_some, Nat.reduceAdd, Nat.reduceMul, Nat.reduceEqDiff, Int.reduceAdd, Int.reduceSub, Int.reduceMul, Int.reduceNeg, Int.reduceToNat, hj0, hk4']
        rw [decide_eq_true hj1, decide_eq_true hk4]
        rfl
      · have hk4' : ¬ ((k : Nat) : Int) = 4 := by omega
        simp (decide := true) only [go_sem, W_region, Wx_some, Nat.reduceAdd, Nat.reduceMul, Nat.reduceEqDiff, Int.reduceAdd, Int.reduceSub, Int.reduceMul, Int.reduceNeg, Int.reduceToNat, hj0, hk4']
        rw [decide_eq_true hj1, decide_eq_false hk4, show decide (((k : Nat) : Int) = 5) = decide (k = 5) from decide_eq_decide.2 (by omega), Bool.true_and, Bool.false_or]
    · have hj1 : ¬ (0 : Int) ≤ j - 1 := by omega
      simp (decide := true) only [go_sem, W_region, Wx_some, Nat.reduceAdd, Nat.reduceMul, Nat.reduceEqDiff, Int.reduceAdd, Int.reduceSub, Int.reduceMul, Int.reduceNeg, Int.reduceToNat, hj0]
      rw [decide_eq_false hj1, Bool.false_and]
theorem roperand_run (hl : ys.length ≤ 1000) (names : List NR) (i : Int) {na : Option Addr} {nc : Nat} (sn : Sl h 2 na names.length nc (ncells names)) (hn : names.length ≤ 1000) :
    Runs K f_ref32_Operand #[.slice a ys.length c, .int .i64 i, .slice na names.length nc] h fun r w => r = .bool (operandT names (ys.map (·.1)) i) := by
  refine Runs.of Kok (Does.intro rfl (by decide +kernel) F_ref32_Operand rfl ?_)
  simp (decide := true) only [go_sem, W_region, Wx_some, Nat.reduceAdd, Nat.reduceMul, Nat.reduceEqDiff, Int.reduceAdd, Int.reduceSub, Int.reduceMul, Int.reduceNeg, Int.reduceToNat]
  refine W_call Kok (Nat.le_refl _) (kind22_run ys h s hA i) fun r w x hr => ?_
  obtain ⟨rfl, rfl⟩ := hr
  generalize hts : ys.map (·.1) = ts
  unfold operandT
  by_cases h23 : kindT ts i = 2 ∨ kindT ts i = 3
  · rw [if_pos h23]
    have hcl : Runs K f_ref32_class #[.slice a ys.length c, .int .i64 i, .slice na names.length nc] w fun r w => r = .int .i64 (classT names ts i) := by
      have := class22_run ys w s hA names i (by rw [hts]; exact h23) sn hn
      rwa [hts] at this
    have fin : ∀ {r : Value}, (r = Value.bool (!decide (classT names ts i = 3) && !decide (classT names ts i = 4))) → r = .bool (noFn (classT names ts i)) := fun h => h
    rcases h23 with h2 | h3
    · have h2' : ((kindT ts i : Nat) : Int) = 2 := by omega
      simp (decide := true) only [go_sem, W_region, Wx_some, Nat.reduceAdd, Nat.reduceMul, Nat.reduceEqDiff, Int.reduceAdd, Int.reduceSub, Int.reduceMul, Int.reduceNeg, Int.reduceToNat, h2']
      refine W_call Kok (Nat.le_refl _) hcl fun r w1 x1 hr => ?_
      subst hr
      by_cases c3 : classT names ts i = 3
      · simp (decide := true) only [go_sem, W_region, Wx_some, Nat.reduceAdd, Nat.reduceMul, Nat.reduceEqDiff, Int.reduceAdd, Int.reduceSub, Int.reduceMul, Int.reduceNeg, Int.reduceToNat, c3]
        rfl
      · simp (decide := true) only [go_sem, W_region, Wx_some, Nat.reduceAdd, Nat.reduceMul, Nat.reduceEqDiff, Int.reduceAdd, Int.reduceSub, Int.reduceMul, Int.reduceNeg, Int.reduceToNat, c3]
        simp [noFn, c3]
    · have h2' : ¬ ((kindT ts i : Nat) : Int) = 2 := by omega
      have h3' : ((kindT ts i : Nat) : Int) = 3 := by omega
      simp (decide := true) only [go_sem, W_region, Wx_some, Nat.reduceAdd, Nat.reduceMul, Nat.reduceEqDiff, Int.reduceAdd, Int.reduceSub, Int.reduceMul, Int.reduceNeg, Int.reduceToNat, h2', h3']
      refine W_call Kok (Nat.le_refl _) hcl fun r w1 x1 hr => ?_
      subst hr
      by_cases c3 : classT names ts i = 3
      · simp (decide := true) only [go_sem, W_region, Wx_some, Nat.reduceAdd, Nat.reduceMul, Nat.reduceEqDiff, Int.reduceAdd, Int.reduceSub, Int.reduceMul, Int.reduceNeg, Int.reduceToNat, c3]
        rfl
      · simp (decide := true) only [go_sem, W_region, Wx_some, Nat.reduceAdd, Nat.reduceMul, Nat.reduceEqDiff, Int.reduceAdd, Int.reduceSub, Int.reduceMul, Int.reduceNeg, Int.reduceToNat, c3]
        simp [noFn, c3]
  rw [if_neg h23]
  have h2' : ¬ ((kindT ts i : Nat) : Int) = 2 := by omega
  have h3' : ¬ ((kindT ts i : Nat) : Int) = 3 := by omega
  have mk : ∀ y, Runs K f_ref32_mark #[.slice a ys.length c, .int .i64 i, .int .i32 y] w fun r w' => r = .bool (markT ts i y) ∧ w' = w := fun y => by
    have := mark22_run ys w s hA i y
    rwa [hts] at this
  simp (decide := true) only [go_sem, W_region, Wx_some, Nat.reduceAdd, Nat.reduceMul, Nat.reduceEqDiff, Int.reduceAdd, Int.reduceSub, Int.reduceMul, Int.reduceNeg, Int.reduceToNat, h2', h3']
  refine W_call Kok (Nat.le_refl _) (mk 93) fun r w1 x1 hr => ?_
  obtain ⟨rfl, rfl⟩ := hr
  cases h93 : markT ts i 93 with
  | true =>
    have hax : Runs K f_ref32_Axis #[.slice a ys.length c, .int .i64 i] w1 fun r w => r = .bool (axisT ts i) := by
      have := raxis_run ys w1 s hA hl i
      rwa [hts] at this
    simp (decide := true) only [go_sem, W_region, Wx_some, Nat.reduceAdd, Nat.reduceMul, Nat.reduceEqDiff, Int.reduceAdd, Int.reduceSub, Int.reduceMul, Int.reduceNeg, Int.reduceToNat]
    refine W_call Kok (Nat.le_refl _) hax fun r w2 x2 hr => ?_
    subst hr
    simp (decide := true) only [go_sem, W_region, Wx_some, Nat.reduceAdd, Nat.reduceMul, Nat.reduceEqDiff, Int.reduceAdd, Int.reduceSub, Int.reduceMul, Int.reduceNeg, Int.reduceToNat]
  | false =>
  by_cases k1 : kindT ts i = 1
  · have k1' : ((kindT ts i : Nat) : Int) = 1 := by omega
    simp (decide := true) only [go_sem, W_region, Wx_some, Nat.reduceAdd, Nat.reduceMul, Nat.reduceEqDiff, Int.reduceAdd, Int.reduceSub, Int.reduceMul, Int.reduceNeg, Int.reduceToNat, k1']
    simp [k1]
  have k1' : ¬ ((kindT ts i : Nat) : Int) = 1 := by omega
  simp (decide := true) only [go_sem, W_region, Wx_some, Nat.reduceAdd, Nat.reduceMul, Nat.reduceEqDiff, Int.reduceAdd, Int.reduceSub, Int.reduceMul, Int.reduceNeg, Int.reduceToNat, k1']
  refine W_call Kok (Nat.le_refl _) (mk 41) fun r w2 x2 hr => ?_
  obtain ⟨rfl, rfl⟩ := hr
  cases h41 : markT ts i 41 with
  | true =>
    simp (decide := true) only [go_sem, W_region, Wx_some, Nat.reduceAdd, Nat.reduceMul, Nat.reduceEqDiff, Int.reduceAdd, Int.reduceSub, Int.reduceMul, Int.reduceNeg, Int.reduceToNat]
  | false =>
  simp (decide := true) only [go_sem, W_region, Wx_some, Nat.reduceAdd, Nat.reduceMul, Nat.reduceEqDiff, Int.reduceAdd, Int.reduceSub, Int.reduceMul, Int.reduceNeg, Int.reduceToNat]
  refine W_call Kok (Nat.le_refl _) (mk 9109) fun r w3 x3 hr => ?_
  obtain ⟨rfl, rfl⟩ := hr
  cases h9 : markT ts i 9109 with
  | true =>
    simp (decide := true) only [go_sem, W_region, Wx_some, Nat.reduceAdd, Nat.reduceMul, Nat.reduceEqDiff, Int.reduceAdd, Int.reduceSub, Int.reduceMul, Int.reduceNeg, Int.reduceToNat]
  | false =>
  simp (decide := true) only [go_sem, W_region, Wx_some, Nat.reduceAdd, Nat.reduceMul, Nat.reduceEqDiff, Int.reduceAdd, Int.reduceSub, Int.reduceMul, Int.reduceNeg, Int.reduceToNat]
  refine W_call Kok (Nat.le_refl _) (mk 9054) fun r w4 x4 hr => ?_
  obtain ⟨rfl, rfl⟩ := hr
  simp (decide := true) only [go_sem, W_region, Wx_some, Nat.reduceAdd, Nat.reduceMul, Nat.reduceEqDiff, Int.reduceAdd, Int.reduceSub, Int.reduceMul, Int.reduceNeg, Int.reduceToNat]
  simp [k1]
end
end Go.Proofs.YtjlaenglmdpboaaGreat.F1
