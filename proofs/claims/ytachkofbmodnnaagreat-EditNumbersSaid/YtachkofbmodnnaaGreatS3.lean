/- Proved here: a header's text, over this program, at a header whose names' cells are known. -/
import Derived.Test.YtachkofbmodnnaaGreatS2
import Derived.BigCall
set_option linter.unusedVariables false
set_option linter.unusedSimpArgs false
namespace Go.Proofs.YtachkofbmodnnaaGreat.S3
open Go Go.RowKit Go.Proofs

/-- A header's text. -/
def txt (nm re le ri : List UInt8) (ls : List (List UInt8)) : List UInt8 :=
  (if re = [] then [] else re ++ [226, 134, 144]) ++ ((if le = [] then [] else le ++ [32]) ++ (nm ++ ((if ri = [] then [] else 32 :: ri) ++ ls.flatMap fun x => 59 :: x)))

theorem extra : Go.Proofs.Builder.Extra Tryz.prog Tryz.lays169_ren where
  sizeBuilder := by kernel_rfl
  liesBuilder := by kernel_rfl
  t5 := Tryz.underlying5
  a5 := Tryz.isAgg5
  z5 := Tryz.sizeOf5
  v5 := Tryz.zeroValue5
  infoByte := by kernel_rfl
  cellsByte := by kernel_rfl
  sizeByte := by kernel_rfl
  neB5 := by decide
theorem tx (nm re le ri : ByteArray) (ls : List (List UInt8)) : txt nm.data.toList re.data.toList le.data.toList ri.data.toList ls =
    (if (!re.toList.isEmpty) = true then (re ++ ⟨#[226, 134, 144]⟩).data.toList else []) ++ ((if (!le.toList.isEmpty) = true then (le ++ ⟨#[32]⟩).data.toList else []) ++ (nm.data.toList ++ ((if (!ri.toList.isEmpty) = true then ((⟨#[32]⟩ : ByteArray) ++ ri).data.toList else []) ++ ls.flatMap fun x => 59 :: x))) := by
  simp only [txt, ByteArray.toList_eq, ByteArray.data_append, Array.toList_append]
  cases re.data.toList <;> cases le.data.toList <;> cases ri.data.toList <;> simp

structure St (w : World) (nm re le ri : ByteArray) (sv : Value) (acc : List UInt8) (k : Nat) (W : World) : Prop where
  isB : Lib.IsBuilder 113 5 (w.heap.size + 1) (w.heap.size + 1) (Lib.byteCells acc) W
  below : Below w.heap.size w W
  c0 : W.cell? ⟨w.heap.size, 0, none⟩ = some (.string nm)
  c1 : W.cell? ⟨w.heap.size, 1, none⟩ = some (.string re)
  c2 : W.cell? ⟨w.heap.size, 2, none⟩ = some (.string le)
  c3 : W.cell? ⟨w.heap.size, 3, none⟩ = some (.string ri)
  c4 : W.cell? ⟨w.heap.size, 4, none⟩ = some sv
  size : w.heap.size + 1 ≤ W.heap.size
  len : acc.length ≤ k * 1000003
  few : k ≤ 2000000

theorem St.write {w W : World} {nm re le ri : ByteArray} {sv : Value} {acc : List UInt8} {k : Nat} (S : St w nm re le ri sv acc k W) (s : ByteArray) (hs : s.size ≤ 1000003) (hk : k + 1 ≤ 2000000) :
    Calls Tryz.prog 62 #[.pointer (some ⟨w.heap.size + 1, 0, none⟩), .string s] W fun e w' => e = .returned (.tuple #[.int .i64 s.size, .nilIface]) ∧ St w nm re le ri sv (acc ++ s.data.toList) (k + 1) w' := by
  have hlt : w.heap.size < W.heap.size := S.size
  have hl := S.len
  refine (S2.write _ _ _ s W S.isB (by simp only [Lib.byteCells, List.length_map]; omega) S.size).mono fun e w' ⟨he, h1, b1⟩ => ⟨he, ?_⟩
  have kc : ∀ j, w'.cell? ⟨w.heap.size, j, none⟩ = W.cell? ⟨w.heap.size, j, none⟩ := fun j => b1.cell (p := ⟨w.heap.size, j, none⟩) (Nat.lt_succ_self _)
  exact {
    isB := by rw [Lib.strCells_eq, ← Lib.byteCells_append] at h1; exact .inr h1
    below := S.below.trans (b1.mono (Nat.le_succ _))
    c0 := (kc 0).trans S.c0
    c1 := (kc 1).trans S.c1
    c2 := (kc 2).trans S.c2
    c3 := (kc 3).trans S.c3
    c4 := (kc 4).trans S.c4
    size := by have := b1.size; have := S.size; omega
    len := by
      have : s.data.toList.length = s.size := by simp
      simp only [List.length_append, this]
      omega
    few := hk }

theorem cell_two {w : World} {o1 : Array Value} {t : TypeId} {o2 : Obj} (j : Nat) : ((w.alloc (.cells o1 t)).alloc o2).cell? ⟨w.heap.size, j, none⟩ = o1[j]? := by
  have h : ((w.alloc (.cells o1 t)).alloc o2).heap[w.heap.size]? = some (.cells o1 t (0, 0)) := by
    have e : ((w.alloc (.cells o1 t)).alloc o2).heap = (w.heap.push (.cells o1 t (0, 0))).push o2 := rfl
    rw [e, Array.getElem?_push, if_neg (by rw [Array.size_push]; omega), Array.getElem?_push, if_pos rfl]
  exact Lib.cell_of_heap h j
theorem szR {s t : ByteArray} (h : s.size ≤ 1000000) (k : t.size ≤ 3) : (s ++ t).size ≤ 1000003 := by rw [ByteArray.size_append]; omega
theorem szL {s t : ByteArray} (k : t.size ≤ 3) (h : s.size ≤ 1000000) : (t ++ s).size ≤ 1000003 := by rw [ByteArray.size_append]; omega
set_option maxHeartbeats 4000000 in
set_option maxRecDepth 1000000 in
theorem walk (nm re le ri : ByteArray) (ls : List ByteArray) (w : World) (a : Option Addr) (c : Nat)
    (hc : ∀ i, i < ls.length → ∃ b o, a = some ⟨b, o, none⟩ ∧ b < w.heap.size ∧ w.cell? ⟨b, o + i, none⟩ = ls[i]?.map Value.string) (hn : ls.length ≤ 1000000) (hsz : nm.size ≤ 1000000) (hre : re.size ≤ 1000000) (hle : le.size ≤ 1000000) (hri : ri.size ≤ 1000000) (hls : ∀ x ∈ ls, x.size ≤ 1000000) :
    Calls Tryz.prog 37 #[.agg #[.string nm, .string re, .string le, .string ri, .slice a ls.length c]] w fun e w' => e = .returned (.string ⟨(txt nm.data.toList re.data.toList le.data.toList ri.data.toList (ls.map (·.data.toList))).toArray⟩) ∧ Below w.heap.size w w' := by
  have S0 : St w nm re le ri (.slice a ls.length c) [] 0 ((w.alloc (.cells #[.string nm, .string re, .string le, .string ri, .slice a ls.length c] 51)).alloc (.cells #[.pointer none, .slice none 0 0] 113)) := {
    isB := by
      have := Lib.fresh_isBuilder 113 5 (w.alloc (.cells #[.string nm, .string re, .string le, .string ri, .slice a ls.length c] 51))
      simpa [Lib.byteCells] using this
    below := ((Below.refl _ w).alloc (Nat.le_refl _) _).alloc (by simp) _
    c0 := (cell_two _).trans rfl
    c1 := (cell_two _).trans rfl
    c2 := (cell_two _).trans rfl
    c3 := (cell_two _).trans rfl
    c4 := (cell_two _).trans rfl
    size := by simp
    len := by simp
    few := by omega }
  have Hn : Hid (ls.length ≤ 1000000 ∧ (∀ x ∈ ls, x.size ≤ 1000000)) := ⟨hn, hls⟩
  have Hc : Hid (∀ i, i < ls.length → ∃ b o, a = some ⟨b, o, none⟩ ∧ b < w.heap.size ∧ w.cell? ⟨b, o + i, none⟩ = ls[i]?.map Value.string) := hc
  clear hc hls
  go_enter Tryz.func37, Tryz.ntmps37
  go_wp2_with fail
  iterate 4
    all_goals try
      refine (St.write (by assumption) _ (by first | exact szR (by assumption) (by decide) | exact szL (by decide) (by assumption) | omega) (by omega)).mono ?_
      rintro e W1 ⟨rfl, S1⟩
      obtain ⟨_, _, d0, d1, d2, d3, d4, _, _, _⟩ := id S1
      go_wp2_with fail
  any_goals
    try rw [‹(!re.toList.isEmpty) = _›]
    try rw [‹(!le.toList.isEmpty) = _›]
    try rw [‹(!ri.toList.isEmpty) = _›]
    go_loopw [33] (fun i wr => ∃ (k kk : Nat) (acc : List UInt8), k ≤ ls.length ∧ i = .int .i64 k ∧ St w nm re le ri (.slice a ls.length c) acc kk wr ∧ Hid (kk ≤ k + 4 ∧ acc ++ ((ls.drop k).map (·.data.toList)).flatMap (fun x => 59 :: x) = txt nm.data.toList re.data.toList le.data.toList ri.data.toList (ls.map (·.data.toList))))
      (fun i _ => ls.length - (intOf i).toNat)
    case atStart =>
      refine ⟨0, _, _, Nat.zero_le _, rfl, (by assumption), ⟨by omega, ?_⟩⟩
      rw [tx, ‹(!re.toList.isEmpty) = _›, ‹(!le.toList.isEmpty) = _›, ‹(!ri.toList.isEmpty) = _›]
      simp [List.append_assoc]
    case round =>
      obtain ⟨k, kk, acc, hk, rfl, S, ⟨hkk, hacc⟩⟩ := hrel
      obtain ⟨_, _, d0, d1, d2, d3, d4, hz, _, _⟩ := id S
      by_cases hlt : k < ls.length
      · obtain ⟨b, o, rfl, hb, hcell⟩ := Hc k hlt
        have cl : wr.cell? ⟨b, o + k, none⟩ = some (.string ls[k]) := by
          rw [S.below.cell (p := ⟨b, o + k, none⟩) hb, hcell, List.getElem?_eq_getElem hlt]
          rfl
        have hxs := Hn.2 ls[k] (List.getElem_mem hlt)
        have hn1 := Hn.1
        go_wp2_with fail
        refine (S.write _ (szL (by decide) hxs) (by omega)).mono ?_
        rintro e W1 ⟨rfl, S1⟩
        go_wp2_with fail
        go_roundw
        case rel =>
          have e1 : acc ++ ((⟨#[59]⟩ : ByteArray) ++ ls[k]).data.toList ++ ((ls.drop (k + 1)).map (·.data.toList)).flatMap (fun x => 59 :: x) = txt nm.data.toList re.data.toList le.data.toList ri.data.toList (ls.map (·.data.toList)) := by
            rw [← hacc, List.drop_eq_getElem_cons hlt, List.map_cons, List.flatMap_cons]
            simp only [ByteArray.data_append, Array.toList_append, List.append_assoc, List.cons_append, List.nil_append]
          have R : ∃ (k' kk : Nat) (acc : List UInt8), k' ≤ ls.length ∧ Value.int .i64 ((k : Int) + 1) = .int .i64 k' ∧ St w nm re le ri (.slice (some ⟨b, o, none⟩) ls.length c) acc kk W1 ∧ Hid (kk ≤ k' + 4 ∧ acc ++ ((ls.drop k').map (·.data.toList)).flatMap (fun x => 59 :: x) = txt nm.data.toList re.data.toList le.data.toList ri.data.toList (ls.map (·.data.toList))) :=
            ⟨k + 1, _, _, by omega, by simp, S1, ⟨by omega, e1⟩⟩
          first
            | exact R
            | ((repeat apply Exists.intro); exact ⟨R, rfl⟩)
        case measure =>
          simp [intOf]
          omega
      · go_wp2_with fail
        refine (Any.Builder_String_any Tryz.lays169 extra _ _ acc _ S.isB S.size).mono ?_
        rintro e W1 ⟨rfl, b1⟩
        go_wp2_with fail
        go_ret
        rw [List.drop_of_length_le (by omega), List.map_nil, List.flatMap_nil, List.append_nil] at hacc
        rw [← hacc]
        exact ⟨rfl, S.below.trans (b1.mono (Nat.le_succ _))⟩
end Go.Proofs.YtachkofbmodnnaaGreat.S3
