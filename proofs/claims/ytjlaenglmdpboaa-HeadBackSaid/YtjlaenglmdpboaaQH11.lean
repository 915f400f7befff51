/- Proved here: headers in plain Lean: which header a list of tokens is; names side by side; a sorted list that is compacted; no condition, no program. -/
import Derived.Test.YtjlaenglmdpboaaQT9
set_option linter.unusedSimpArgs false
set_option linter.unusedVariables false
namespace Go.Im.Heads
open Go Go.Im Go.Im.Lexing Go.Sort
/-! ### Sorted, compacted -/
theorem compact_le (zs : List (List UInt8)) : (Lib.compact zs).length ≤ zs.length := by
  simp only [Lib.compact, Lib.compactUpTo, List.length_map]
  have := List.length_filter_le (Lib.keeps zs.toArray) (List.range zs.length)
  simpa using this
theorem compact_eq (zs : List (List UInt8)) : (Lib.compact zs).length = zs.length ↔ ∀ j, j < zs.length → Lib.keeps zs.toArray j = true := by
  simp only [Lib.compact, Lib.compactUpTo, List.length_map]
  have := List.length_filter_eq_length_iff (p := Lib.keeps zs.toArray) (l := List.range zs.length)
  simp only [List.length_range, List.mem_range] at this
  exact this
theorem sorted_pair (ss : List (List UInt8)) : (sorted ss).Pairwise fun x y => x ≤ y := by
  have := List.pairwise_mergeSort (le := fun (x y : List UInt8) => decide (x ≤ y)) (fun a b c h1 h2 => by
    simp only [decide_eq_true_eq] at *
    exact List.le_trans h1 h2) (fun a b => by
    simp only [Bool.or_eq_true, decide_eq_true_eq]
    exact List.le_total a b) ss
  simpa [sorted] using this
theorem keeps_nodup {zs : List (List UInt8)} (hs : zs.Pairwise fun x y => x ≤ y) : (∀ j, j < zs.length → Lib.keeps zs.toArray j = true) ↔ zs.Nodup := by
  have get : ∀ j, j < zs.length → zs.toArray[j]! = zs[j]! := fun j hj => by simp
  constructor
  · intro h
    rw [List.Nodup, List.pairwise_iff_getElem] at *
    intro i j hi hj hij he
    have hk := h j hj
    simp only [Lib.keeps, decide_eq_true_eq] at hk
    rcases hk with hk | hk
    · omega
    · apply hk
      rw [get j hj, get (j - 1) (by omega), getElem!_pos zs j hj, getElem!_pos zs (j - 1) (by omega)]
      rcases Nat.lt_or_ge i (j - 1) with hlt | hge
      · exact List.le_antisymm (by rw [← he]; exact hs i (j - 1) hi (by omega) hlt) (hs (j - 1) j (by omega) hj (by omega))
      · have : i = j - 1 := by omega
        subst this
        exact he.symm
  · intro h j hj
    simp only [Lib.keeps, decide_eq_true_eq]
    by_cases h0 : j = 0
    · exact .inl h0
    · right
      rw [List.Nodup, List.pairwise_iff_getElem] at h
      rw [get j hj, get (j - 1) (by omega), getElem!_pos zs j hj, getElem!_pos zs (j - 1) (by omega)]
      exact fun e => h (j - 1) j (by omega) hj (by omega) e.symm
theorem sorted_length (ss : List (List UInt8)) : (sorted ss).length = ss.length := by simp [sorted]
theorem apart_iff (ss : List (List UInt8)) : (Lib.compact (sorted ss)).length = ss.length ↔ ss.Nodup := by
  rw [← sorted_length ss, compact_eq, keeps_nodup (sorted_pair ss)]
  exact (List.mergeSort_perm ss _).nodup_iff

/-! ### Texts that are runes -/
theorem encode_pos (i : Int) : 0 < (Utf8.encode i).size := by
  unfold Utf8.encode
  simp only
  repeat' split
  all_goals simp [ByteArray.size]
theorem foldl_le (ns : List Int) : ∀ s : ByteArray, s.size ≤ (ns.foldl (fun r n => r ++ Utf8.encode n) s).size := by
  induction ns with
  | nil => intro s; simp
  | cons n ns ih =>
    intro s
    have h1 := ih (s ++ Utf8.encode n)
    simp only [List.foldl_cons]
    rw [ByteArray.size_append] at h1
    omega
theorem runes_pos {ns : List Int} (h : ns ≠ []) : 0 < (runesBytes ns).size := by
  cases ns with
  | nil => exact absurd rfl h
  | cons n ns =>
    have h1 := foldl_le ns (ByteArray.empty ++ Utf8.encode n)
    have h2 := encode_pos n
    simp only [runesBytes, List.foldl_cons]
    rw [ByteArray.size_append] at h1
    omega

/-! ### Names among tokens -/
theorem word_ok {k : Nat} {s : List Int} {t : Tk} {m : Nat} (h : wordS k s = some (t, m)) : t.kind = k ∧ nameOK t.word = true := by
  unfold wordS at h
  split at h
  · rename_i hn
    cases h
    exact ⟨rfl, hn⟩
  · cases h
theorem tok_ok {s : List Int} {t : Tk} {k : Nat} (h : tokS s = some (some t, k)) (h2 : t.kind = 2) : nameOK t.word = true := by
  unfold tokS at h
  have two : ∀ {k' : Nat} {u : Tk} {s' : List Int} {o : Option (Tk × Nat)} {g : Tk × Nat → Nat}, o = wordS k' s' → o.map (fun x => (some x.1, g x)) = some (some t, k) → nameOK t.word = true := by
    intro k' u s' o g ho h
    obtain ⟨x, hw, hx⟩ := Option.map_eq_some_iff.1 h
    cases hx
    rw [ho] at hw
    exact (word_ok hw).2
  have one : ∀ {α : Type} {o : Option α} {g : α → Option Tk × Nat}, (∀ x, (g x).1 = some ⟨1, [], 0⟩) → o.map g = some (some t, k) → nameOK t.word = true := by
    intro α o g hg h
    obtain ⟨x, hw, hx⟩ := Option.map_eq_some_iff.1 h
    have := hg x
    rw [hx] at this
    cases this
    cases h2
  cases hd : s[1]? <;> simp only [hd] at h
  all_goals
    split at h
    · cases h
    · split at h
      · cases h
      · split at h
        · exact one (fun _ => rfl) h
        · split at h
          · exact two (u := t) rfl h
          · split at h
            · exact one (fun _ => rfl) h
            · split at h
              · exact two (u := t) rfl h
              · split at h
                · cases h
                  cases h2
                · split at h
                  · cases h
                    cases h2
                  · split at h
                    · cases h
                      cases h2
                    · cases h
theorem lexF_ok : ∀ {f p : Nat} {s : List Int} {ts : List (Nat × Tk)}, lexF f p s = some ts → ∀ t ∈ ts, t.2.kind = 2 → nameOK t.2.word = true
  | 0, p, s, ts, h => by cases h
  | f + 1, p, s, ts, h => by
    simp only [lexF] at h
    split at h
    · cases h
      simp
    · split at h
      · cases h
        simp
      · split at h
        · cases h
        · exact lexF_ok h
        · rename_i t k ht
          obtain ⟨us, hu, rfl⟩ := Option.map_eq_some_iff.1 h
          intro x hx h2
          rcases List.mem_cons.1 hx with rfl | hx
          · exact tok_ok ht h2
          · exact lexF_ok hu x hx h2
theorem lex_ok {l : List Int} {ts : List (Nat × Tk)} (h : lex l = some ts) : ∀ t ∈ ts, t.2.kind = 2 → nameOK t.2.word = true := by
  unfold lex at h
  split at h
  · cases h
  · exact lexF_ok h
theorem name_sizes {w : List Int} (h : nameOK w = true) : 0 < (runesBytes w).size ∧ (runesBytes w).size ≤ 96 := by
  simp only [nameOK, Bool.and_eq_true, decide_eq_true_eq] at h
  have h1 := runesBytes_size_le w
  exact ⟨runes_pos (by intro e; subst e; simp at h), by omega⟩

/-! ### Headers -/
structure HdT where
  nm : ByteArray
  re : ByteArray
  le : ByteArray
  ri : ByteArray
  ls : List ByteArray
abbrev E : ByteArray := ByteArray.empty
def hdZ : HdT := ⟨E, E, E, E, []⟩
def wd (t : Nat × Tk) : ByteArray := runesBytes t.2.word
def isN (t : Nat × Tk) : Bool := decide (t.2.kind = 2)
/-- The names behind semicolons. -/
def locT : List (Nat × Tk) → Option (List ByteArray)
  | [] => some []
  | [_] => none
  | a :: b :: r => if isM a.2 59 && isN b then (locT r).map (wd b :: ·) else none
/-- The result's name, and what stands behind its arrow. -/
def resT (ts : List (Nat × Tk)) : ByteArray × List (Nat × Tk) := match ts with
  | a :: b :: r => if isN a && isM b.2 8592 then (wd a, r) else (E, ts)
  | _ => (E, ts)
def headT (re : ByteArray) (ns : List ByteArray) (ls : List ByteArray) : Option HdT := match ns with
  | [f] => some ⟨f, re, E, E, ls⟩
  | [f, b] => some ⟨f, re, E, b, ls⟩
  | [a, f, b] => some ⟨f, re, a, b, ls⟩
  | _ => none
def HdT.names (x : HdT) : List ByteArray := ([x.re, x.le, x.ri].filter fun s => !decide (s = E)) ++ x.ls
def HdT.all (x : HdT) : List ByteArray := x.names ++ [x.nm]
instance : Inhabited HdT := ⟨hdZ⟩
def parseT (ts : List (Nat × Tk)) : Option HdT :=
  let r := resT ts
  let ns := (r.2.takeWhile isN).map wd
  match locT (r.2.drop ns.length) with
  | none => none
  | some ls => match headT r.1 ns ls with
    | none => none
    | some x => if x.all.Nodup then some x else none
end Go.Im.Heads
