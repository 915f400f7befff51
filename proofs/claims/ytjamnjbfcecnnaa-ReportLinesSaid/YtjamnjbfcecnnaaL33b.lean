/- Proved here: the report of every error, in every line of every function, and the place of a line, are what the document says, for every whole number and all texts that the law lets in; no condition. -/
import Derived.Test.YtjamnjbfcecnnaaIm3
import Derived.Test.YtjamnjbfcecnnaaProg
import Derived.KernelRfl
namespace Go.Proofs.Ytjamnjbfcecnnaa.L33b
open Go Go.Im Go.Proofs Go.RowKit
set_option maxRecDepth 100000
theorem awake_run : isT (icall (cfg Try.prog [8,9,10,12,14,15,16,17,18,29,30,31] [(29,3)] []) 1000 0 8 #[] h0) = true := by decide +kernel
theorem awake_ok : CfgOK (cfg Try.prog [8,9,10,12,14,15,16,17,18,29,30,31] [(29,3)] []) := cfg_ok (by decide +kernel) (by decide +kernel)
noncomputable def awake : Fact Try.prog where
  f := 8
  fn := ⟨_, Try.func8, rfl, by decide +kernel⟩
  run := fun args => if args.size = 0 then some (.bool true) else none
  ok := by
    intro args v h
    split at h
    · rename_i hs
      cases h
      have : args = #[] := Array.size_eq_zero_iff.1 hs
      subst this
      exact ⟨rfl, rfl, fun w => calls_true awake_ok awake_run rfl w⟩
    · cases h
noncomputable def K := cfg Try.prog [3,4,5,9,10,11,12,13,14,15,16,17,18,29,30,31,37,41,45] [(29,3)] [awake]
theorem KP : K.P = Try.prog := rfl
theorem Kok : CfgOK K := cfg_ok (by decide +kernel) (by decide +kernel)
attribute [local go_sem] Try.underlying9
@[local go_sem] theorem bd_25 {ps : List (Nat × Value)} : ibuild Try.prog 25 ps = blt [(0, 1)] [.int .i64 0] ps := ibuild_of (by kernel_rfl)
@[local go_sem] theorem ac_25 : acells Try.prog 25 = some ([.int .i64 0], 1) := by kernel_rfl
@[local go_sem] theorem ts_25 : tsize Try.prog 25 = some 1 := by kernel_rfl
@[local go_sem] theorem tc_25 : tcell Try.prog 25 = some (some 1) := by kernel_rfl
attribute [local go_sem] Try.underlying27
@[local go_sem] theorem el_27 : elts Try.prog 27 = some (.slice 1) := by kernel_rfl
@[local go_sem] theorem tc_9 : tcell Try.prog 9 = some none := by kernel_rfl
@[local go_sem] theorem bs_27_2 {sz : Nat} {ps : Array (Nat × Operand)} {ρ : Operand → Value} : iop0 Try.prog sz (.buildSlice 27 2 ps) ρ = bsl sz 2 1 [.string ByteArray.empty, .string ByteArray.empty] (ps.toList.map fun p => (p.1, ρ p.2)) := iop0_buildSlice_of (by kernel_rfl)
@[local go_sem] theorem fo_25_0 : foff Try.prog 25 0 = some 0 := by kernel_rfl
@[local go_sem] theorem tc_23 : tcell Try.prog 23 = some none := by kernel_rfl
@[local go_sem] theorem bs_27_11 {sz : Nat} {ps : Array (Nat × Operand)} {ρ : Operand → Value} : iop0 Try.prog sz (.buildSlice 27 11 ps) ρ = bsl sz 11 1 [.string ByteArray.empty, .string ByteArray.empty, .string ByteArray.empty, .string ByteArray.empty, .string ByteArray.empty, .string ByteArray.empty, .string ByteArray.empty, .string ByteArray.empty, .string ByteArray.empty, .string ByteArray.empty, .string ByteArray.empty] (ps.toList.map fun p => (p.1, ρ p.2)) := iop0_buildSlice_of (by kernel_rfl)
attribute [local go_sem] Try.underlying3
attribute [local go_sem] Try.underlying5
@[local go_sem] theorem bs_80_1 {sz : Nat} {ps : Array (Nat × Operand)} {ρ : Operand → Value} : iop0 Try.prog sz (.buildSlice 80 1 ps) ρ = bsl sz 1 1 [.int .u8 0] (ps.toList.map fun p => (p.1, ρ p.2)) := iop0_buildSlice_of (by kernel_rfl)
attribute [local go_sem] Try.underlying80
@[local go_sem] theorem cv_80_9 {h : Heap} {a : Option Addr} {n c : Nat} : iconvert Try.prog h 80 9 (.slice a n c) = icvs (some .u8) (islice h 1 (.slice a n c)) h := iconvert_slice (by kernel_rfl) Try.underlying9
@[local go_sem] theorem ts_68 : tsize Try.prog 68 = some 2 := by kernel_rfl
@[local go_sem] theorem fo_68_0 : foff Try.prog 68 0 = some 0 := by kernel_rfl
@[local go_sem] theorem tc_4 : tcell Try.prog 4 = some none := by kernel_rfl
@[local go_sem] theorem fo_68_1 : foff Try.prog 68 1 = some 1 := by kernel_rfl
@[local go_sem] theorem ac_68 : acells Try.prog 68 = some ([.bool false, .string ByteArray.empty], 2) := by kernel_rfl
attribute [local go_sem] Try.underlying82
@[local go_sem] theorem bd_68 {ps : List (Nat × Value)} : ibuild Try.prog 68 ps = blt [(0, 1), (1, 1)] [.bool false, .string ByteArray.empty] ps := ibuild_of (by kernel_rfl)
@[local go_sem] theorem tc_68 : tcell Try.prog 68 = some (some 2) := by kernel_rfl
@[local go_sem] theorem bs_48_1 {sz : Nat} {ps : Array (Nat × Operand)} {ρ : Operand → Value} : iop0 Try.prog sz (.buildSlice 48 1 ps) ρ = bsl sz 1 1 [.int .i64 0] (ps.toList.map fun p => (p.1, ρ p.2)) := iop0_buildSlice_of (by kernel_rfl)
@[local go_sem] theorem ap_48_48 {low : Nat} {h : Heap} {s : Value} {a : Option Addr} {k c : Nat} : iappend Try.prog low h #[48, 48] s (.slice a k c) = iapp low h 1 8 s k (islice h 1 (.slice a k c)) := iappend_slice (by kernel_rfl) Try.underlying48
attribute [local go_sem] Try.underlying48
@[local go_sem] theorem mk_80 {sz : Nat} {k k' : IntKind} {l c : Int} : imake Try.prog sz 80 (.int k l) (.int k' c) = imk sz 1 1 [.int .u8 0] l c := imake_of (by kernel_rfl)
@[local go_sem] theorem el_48 : elts Try.prog 48 = some (.slice 1) := by kernel_rfl
@[local go_sem] theorem tc_3 : tcell Try.prog 3 = some none := by kernel_rfl
@[local go_sem] theorem ap_80_80 {low : Nat} {h : Heap} {s : Value} {a : Option Addr} {k c : Nat} : iappend Try.prog low h #[80, 80] s (.slice a k c) = iapp low h 1 1 s k (islice h 1 (.slice a k c)) := iappend_slice (by kernel_rfl) Try.underlying80
@[local go_sem] theorem el_9 : elts Try.prog 9 = some .text := by kernel_rfl
theorem awake_runs (h : Heap) : Runs K 8 #[] h fun v _ => v = .bool true := ⟨1, .bool true, h, rfl, Ext.refl h, rfl⟩
/-- The digits of a number. -/
def decB (n : Nat) : List UInt8 := if n < 10 then [UInt8.ofNat (48 + n)] else decB (n / 10) ++ [UInt8.ofNat (48 + n % 10)]
theorem decB_length : ∀ (k n : Nat), n < 10 ^ (k + 1) → (decB n).length ≤ k + 1
  | 0, n, h => by
    rw [decB, if_pos (by simpa using h)]
    simp
  | k + 1, n, h => by
    rw [decB]
    split
    · simp
    · have : n / 10 < 10 ^ (k + 1) := by
        rw [Nat.div_lt_iff_lt_mul (by omega)]
        rw [Nat.pow_succ] at h
        exact h
      have := decB_length k (n / 10) this
      simp
      exact this
theorem digits_run : ∀ (m : Nat) (n : Int) (h : Heap), n.toNat = m → n ≤ 9223372036854775807 → -9223372036854775808 ≤ n → Runs K 29 #[.int .i64 n] h fun v _ => v = .string (text (decB n.toNat)) := by
  intro m
  induction m using Nat.strongRecOn with
  | ind m ih =>
  intro n h hm h1 h2
  refine Runs.of Kok (Does.intro rfl (by decide +kernel) Try.func29 rfl ?_)
  by_cases hn : n < 10
  · have e1 : IntKind.i64.wrap (48 + max n 0) = 48 + max n 0 := wrap_i64 (by omega) (by omega)
    have e2 : IntKind.u8.wrap (48 + max n 0) = 48 + max n 0 := wrap_u8 (by omega) (by omega)
    simp (decide := true) only [go_sem, Try.f29, KP, hn, e1, e2]
    rw [decB, if_pos (by omega)]
    have e3 : (48 + max n 0).toNat = 48 + n.toNat := by omega
    rw [e3]
    rfl
  · have e1 : IntKind.i64.wrap (n.tdiv 10) = n / 10 := by
      rw [Int.tdiv_eq_ediv_of_nonneg (by omega)]
      exact wrap_i64 (by omega) (by omega)
    simp (decide := true) only [go_sem, Try.f29, KP, hn, e1]
    refine W_call Kok (Nat.le_refl _) (ih (n / 10).toNat (by omega) _ _ rfl (by omega) (by omega)) fun v w1 hx1 hv => ?_
    subst hv
    have hl1 := hx1.1
    have e2 : n.tmod 10 = n % 10 := Int.tmod_eq_emod_of_nonneg (by omega)
    have e3 : IntKind.i64.wrap (48 + n % 10) = 48 + n % 10 := wrap_i64 (by omega) (by omega)
    have e4 : IntKind.u8.wrap (48 + n % 10) = 48 + n % 10 := wrap_u8 (by omega) (by omega)
    have hs : (text (decB (n / 10).toNat)).size + (ByteArray.mk #[UInt8.ofNat (48 + n % 10).toNat]).size ≤ 9223372036854775807 := by
      have := decB_length 18 (n / 10).toNat (by omega)
      rw [text_size]
      simp [ByteArray.size]
      omega
    simp (decide := true) only [go_sem, KP, e2, e3, e4, ibinop_cat hs]
    have e5 : (n / 10).toNat = n.toNat / 10 := by omega
    have e6 : (48 + n % 10).toNat = 48 + n.toNat % 10 := by omega
    rw [decB.eq_def n.toNat, if_neg (by omega), ← text_append, e5, e6]
    rfl
theorem digits (n : Int) (h : Heap) (h1 : n ≤ 9223372036854775807) (h2 : -9223372036854775808 ≤ n) : Runs K 29 #[.int .i64 n] h fun v _ => v = .string (text (decB n.toNat)) := digits_run _ n h rfl h1 h2
theorem place_run (s : List UInt8) (n : Int) (h : Heap) (hs : s.length ≤ 1000) (h1 : n ≤ 9223372036854775807) (h2 : -9223372036854775808 ≤ n) :
    Runs K 12 #[.string (text s), .int .i64 n] h fun v _ => v = .string (text (s ++ [91] ++ decB n.toNat ++ [93])) := by
  refine Runs.of Kok (Does.intro rfl (by decide +kernel) Try.func12 rfl ?_)
  have e1 : (ByteArray.mk #[91]) = text [91] := rfl
  have e2 : (ByteArray.mk #[93]) = text [93] := rfl
  have hd := decB_length 19 n.toNat (by omega)
  have c1 {P : Program} {t : TypeId} := cat_ok (P := P) (t := t) (a := s) (b := [91]) (by simp; omega)
  have c2 {P : Program} {t : TypeId} := cat_ok (P := P) (t := t) (a := s ++ [91]) (b := decB n.toNat) (by simp; omega)
  have c3 {P : Program} {t : TypeId} := cat_ok (P := P) (t := t) (a := s ++ [91] ++ decB n.toNat) (b := [93]) (by simp; omega)
  simp (decide := true) only [go_sem, Try.f12, KP, e1, e2, c1]
  refine W_call Kok (Nat.le_refl _) (digits n _ h1 h2) fun v w1 hx1 hv => ?_
  subst hv
  simp (decide := true) only [go_sem, KP, e1, e2, c2, c3]
/-- The digits of a number, the least one first. -/
def rd (n : Nat) : List Nat := if n = 0 then [] else n % 10 :: rd (n / 10)
theorem rd_zero : rd 0 = [] := by rw [rd, if_pos rfl]
theorem rd_pos {n : Nat} (h : n ≠ 0) : rd n = n % 10 :: rd (n / 10) := by rw [rd, if_neg h]
theorem rd_inj : ∀ (m n : Nat), rd m = rd n → m = n := by
  intro m
  induction m using Nat.strongRecOn with
  | ind m ih =>
  intro n h
  by_cases hm : m = 0
  · subst hm
    by_cases hn : n = 0
    · exact hn.symm
    · rw [rd_zero, rd_pos hn] at h; cases h
  · by_cases hn : n = 0
    · subst hn; rw [rd_zero, rd_pos hm] at h; cases h
    · rw [rd_pos hm, rd_pos hn] at h
      obtain ⟨h1, h2⟩ := List.cons.inj h
      have := ih (m / 10) (by omega) (n / 10) h2
      omega
theorem rd_length : ∀ (k n : Nat), n < 10 ^ k → (rd n).length ≤ k
  | 0, n, h => by
    rw [rd, if_pos (by simpa using h)]
    simp
  | k + 1, n, h => by
    rw [rd]
    split
    · simp
    · have : n / 10 < 10 ^ k := by
        rw [Nat.div_lt_iff_lt_mul (by omega)]
        rw [Nat.pow_succ] at h
        exact h
      have := rd_length k (n / 10) this
      simp
      exact this
theorem rd_decB : ∀ (m n : Nat), n ≤ m → 0 < n → decB n = (rd n).reverse.map fun d => UInt8.ofNat (48 + d)
  | 0, n, h, h0 => by omega
  | m + 1, n, h, h0 => by
    rw [rd_pos (by omega), decB]
    split
    · rename_i h1
      have e1 : n / 10 = 0 := by omega
      have e2 : n % 10 = n := by omega
      rw [e1, rd_zero, e2]
      rfl
    · rw [rd_decB m (n / 10) (by omega) (by omega)]
      simp
def natCells (l : List Nat) : List Value := l.map fun (d : Nat) => .int .i64 (d : Int)
/-- Without noughts ahead. -/
def trim : List UInt8 → List UInt8
  | a :: b :: l => if a = 48 then trim (b :: l) else a :: b :: l
  | l => l
theorem trim_run (s : List UInt8) (h : Heap) : Runs K 45 #[.string (text s)] h fun v _ => v = .string (text (trim s)) := by
  refine Runs.of Kok (Does.intro rfl (by decide +kernel) Try.func45 rfl ?_)
  simp (decide := true) only [go_sem, Try.f45, KP]
  refine W_loop (α := List UInt8) (fun a e w => e.size = 14 ∧ e.get 0 = .string (text a) ∧ trim a = trim s ∧ a.length ≤ s.length) (fun a => a.length) s ?_ ?_
  · simp (decide := true) only [go_sem]
  · rintro a e w ⟨hsz, h0, ht, hl⟩ next
    match a, h0, ht, hl, next with
    | [], h0, ht, hl, next =>
      simp (decide := true) only [go_sem, KP, hsz, h0]
      simp only [trim] at ht
      rw [← ht]
    | [a], h0, ht, hl, next =>
      simp (decide := true) only [go_sem, KP, hsz, h0]
      simp only [trim] at ht
      rw [← ht]
    | a :: b :: l, h0, ht, hl, next =>
      have g1 : (1 : Int) < ((l.length + 1 + 1 : Nat) : Int) := by omega
      by_cases ha : a = 48
      · have g2 : ((a.toNat : Nat) : Int) = 48 := by rw [ha]; rfl
        simp (decide := true) only [go_sem, KP, hsz, h0, g1, g2]
        refine next (b :: l) _ _ ?_ ?_
        · simp (decide := true) only [go_sem, hsz]
          rw [← ht, trim, if_pos ha]
          simp at hl
          exact ⟨rfl, by omega⟩
        · simp
      · have g2 : ¬ ((a.toNat : Nat) : Int) = 48 := by
          intro hh
          apply ha
          apply UInt8.toNat_inj.1
          have : a.toNat = 48 := by omega
          rw [this]; rfl
        simp (decide := true) only [go_sem, KP, hsz, h0, g1, g2]
        simp only [trim, if_neg ha] at ht
        rw [← ht]
theorem trim_same {a : UInt8} {l : List UInt8} (h : a ≠ 48) : trim (a :: l) = a :: l := by
  cases l with
  | nil => rfl
  | cons b l => rw [trim, if_neg h]
theorem natCells_get {l : List Nat} {i d : Nat} (h : l[i]? = some d) : (natCells l)[i]? = some (.int .i64 d) := by simp [natCells, h]
theorem written_run (l : List Nat) (b c : Nat) (h : Heap) (hb : b < h.size) (hg : h.get b = .cells (natCells l) 1) (h0 : l ≠ []) (h1 : l.length ≤ 1000) (h2 : ∀ d ∈ l, d < 10) :
    Runs K 41 #[.slice (some ⟨b, 0, none⟩) l.length c] h fun v _ => v = .string (text (trim (l.reverse.map fun d => UInt8.ofNat (48 + d)))) := by
  refine Runs.of Kok (Does.intro rfl (by decide +kernel) Try.func41 rfl ?_)
  have e1 : IntKind.i64.wrap ((l.length : Int) + 1) = (l.length : Int) + 1 := wrap_i64 (by omega) (by omega)
  have e2 : IntKind.i64.wrap ((l.length : Int) - 1) = (l.length : Int) - 1 := wrap_i64 (by omega) (by omega)
  simp (decide := true) only [go_sem, Try.f41, KP, e1, imk_ok (sz := h.size) (size := 1) (bytes := 1) (z := [.int .u8 0]) (l := 0) (c := (l.length : Int) + 1) (by omega) (by omega) (by omega) (by omega)]
  have hne : b ≠ h.size := by omega
  refine W_loop (α := Nat) (fun j e w => j ≤ l.length ∧ e.size = 31 ∧ e.get 0 = .slice (some ⟨b, 0, none⟩) l.length c ∧ e.get 4 = .int .i64 ((l.length : Int) - 1 - j) ∧ e.get 3 = .slice (some ⟨h.size, 0, none⟩) j (l.length + 1) ∧
    h.size + 1 ≤ w.size ∧ w.get b = .cells (natCells l) 1 ∧ w.get h.size = .cells (byteCells ((l.reverse.take j).map fun d => UInt8.ofNat (48 + d)) ++ List.replicate (l.length + 1 - j) (.int .u8 0)) 1) (fun j => l.length - j) 0 ?_ ?_
  · simp (decide := true) only [go_sem, e2, hne, hg]
    refine ⟨Nat.zero_le _, by rw [show ((l.length : Int) - 1 - ((0 : Nat) : Int)) = (l.length : Int) - 1 by omega], by rw [show ((l.length : Int) + 1).toNat = l.length + 1 by omega], ?_⟩
    rw [show ((l.length : Int) + 1).toNat = l.length + 1 by omega]
    simp [byteCells, List.flatten_replicate_singleton]
  · rintro j e w ⟨hj, hsz, g0, g4, g3, hw, hgb, hgs⟩ next
    have hlen : ((l.reverse.take j).map fun d => UInt8.ofNat (48 + d)).length = j := by simp; omega
    by_cases hjl : j = l.length
    · have i1 : ¬ 0 ≤ ((l.length : Int) - 1 - j) := by omega
      clear next
      have i2 : ¬ ((j : Nat) : Int) = 0 := by
        have : 0 < l.length := List.length_pos_iff.2 h0
        omega
      have i3 : j ≤ (byteCells ((l.reverse.take j).map fun d => UInt8.ofNat (48 + d)) ++ List.replicate (l.length + 1 - j) (Value.int .u8 0)).length := by simp [byteCells]; omega
      have i4 : (byteCells ((l.reverse.take j).map fun d => UInt8.ofNat (48 + d)) ++ List.replicate (l.length + 1 - j) (Value.int .u8 0)).take j = byteCells ((l.reverse.take j).map fun d => UInt8.ofNat (48 + d)) := by
        rw [List.take_append_of_le_length (by rw [byteCells_length, hlen]; exact Nat.le_refl _), List.take_of_length_le (by rw [byteCells_length, hlen]; exact Nat.le_refl _)]
      simp (decide := true) only [go_sem, KP, hsz, g0, g4, g3, i1, i2, hgs, i3, i4, icvs_bytes]
      refine W_call Kok (by omega) (trim_run _ _) fun v w2 hx hv => ?_
      subst hv
      simp (decide := true) only [go_sem, KP, hsz]
      rw [hjl, List.take_of_length_le (by simp)]
    · have i1 : 0 ≤ ((l.length : Int) - 1 - j) := by omega
      have i2 : ((l.length : Int) - 1 - j) < (l.length : Int) := by omega
      have i3 : ((l.length : Int) - 1 - j).toNat = l.length - 1 - j := by omega
      have i4 : l.length - 1 - j < l.length := by omega
      obtain ⟨d, hd⟩ : ∃ d, l[l.length - 1 - j]? = some d := ⟨_, List.getElem?_eq_getElem i4⟩
      have i5 : d < 10 := h2 d (List.mem_of_getElem? hd)
      have i6 : IntKind.i64.wrap (48 + (d : Int)) = 48 + (d : Int) := wrap_i64 (by omega) (by omega)
      have i7 : IntKind.u8.wrap (48 + (d : Int)) = 48 + (d : Int) := wrap_u8 (by omega) (by omega)
      have i8 : IntKind.i64.wrap ((l.length : Int) - 1 - j - 1) = (l.length : Int) - 1 - j - 1 := wrap_i64 (by omega) (by omega)
      have i9 := natCells_get hd
      have hnb : h.size ≠ w.size := by omega
      simp (decide := true) only [go_sem, KP, hsz, g0, g4, g3, i1, i2, i3, i6, i7, i8, hgb, i9]
      have hg2 : (w.push (.cells [.int .u8 (48 + (d : Int))] 1)).get h.size = .cells (byteCells ((l.reverse.take j).map fun d => UInt8.ofNat (48 + d)) ++ List.replicate (l.length + 1 - j) (.int .u8 0)) 1 := by
        rw [Heap.get_push, if_neg hnb]; exact hgs
      have hap := iapp_room (low := h.size) (bytes := 1) (o := 0) (n := j) (k := 1) (cap := l.length + 1) (new := [.int .u8 (48 + (d : Int))]) hg2 (Nat.le_refl _) (by omega) (by omega) (by omega) (by simp only [big]; omega) (by simp [byteCells_length, hlen]; omega)
      have hrd : l.reverse[j]? = some d := by rw [List.getElem?_reverse (by omega)]; exact hd
      have htk : l.reverse.take (j + 1) = l.reverse.take j ++ [d] := by rw [List.take_add_one, hrd]; rfl
      have hsp : splice (byteCells ((l.reverse.take j).map fun d => UInt8.ofNat (48 + d)) ++ List.replicate (l.length + 1 - j) (.int .u8 0)) (0 + j * 1) [.int .u8 (48 + (d : Int))] =
          byteCells ((l.reverse.take (j + 1)).map fun d => UInt8.ofNat (48 + d)) ++ List.replicate (l.length + 1 - (j + 1)) (.int .u8 0) := by
        have q1 : l.length + 1 - j = (l.length + 1 - (j + 1)) + 1 := by omega
        have q2 : ((UInt8.ofNat (48 + d)).toNat : Int) = 48 + (d : Int) := by simp; omega
        have q3 := splice_room (xs := (l.reverse.take j).map fun d => UInt8.ofNat (48 + d)) (z := .int .u8 0) (k := l.length + 1 - (j + 1)) (x := UInt8.ofNat (48 + d))
        rw [hlen, q2] at q3
        rw [q1, Nat.zero_add, Nat.mul_one, htk, List.map_append]
        exact q3
      rw [hsp] at hap
      simp (decide := true) only [go_sem, KP, hsz, hap, g4, i8]
      refine next (j + 1) _ _ ?_ (by omega)
      have hbs : b ≠ w.size := by
        intro hh
        omega
      simp (decide := true) only [go_sem, hsz, hgb, hne, hbs, g0]
      refine ⟨by omega, ?_, by omega⟩
      · rw [show ((l.length : Int) - 1 - j - 1) = (l.length : Int) - 1 - ((j + 1 : Nat) : Int) by omega]
theorem rd_digit : ∀ (m n : Nat), n ≤ m → ∀ d ∈ rd n, d < 10
  | m, 0, h, d, hd => by rw [rd_zero] at hd; cases hd
  | 0, n + 1, h, d, hd => by omega
  | m + 1, n + 1, h, d, hd => by
    rw [rd_pos (by omega)] at hd
    rcases List.mem_cons.1 hd with rfl | hd
    · omega
    · exact rd_digit m ((n + 1) / 10) (by omega) d hd
theorem decB_head : ∀ (n : Nat), 0 < n → ∃ a t, decB n = a :: t ∧ a ≠ 48 := by
  intro n
  induction n using Nat.strongRecOn with
  | ind n ih =>
  intro h0
  rw [decB]
  split
  · refine ⟨_, _, rfl, ?_⟩
    intro hh
    have := congrArg UInt8.toNat hh
    simp at this
    omega
  · obtain ⟨a, t, h1, h2⟩ := ih (n / 10) (by omega) (by omega)
    exact ⟨a, t ++ [UInt8.ofNat (48 + n % 10)], by rw [h1]; rfl, h2⟩
theorem rd_le : ∀ (l : List Nat) (m n : Nat), l ++ rd m = rd n → m ≤ n
  | [], m, n, h => by
    have h1 : rd m = rd n := h
    rw [rd_inj m n h1]
    exact Nat.le_refl _
  | d :: l, m, n, h => by
    by_cases hn : n = 0
    · subst hn; rw [rd_zero] at h; cases h
    · rw [rd_pos hn] at h
      have h1 := (List.cons.inj h).2
      have := rd_le l m (n / 10) h1
      omega
theorem of_run (n : Int) (h : Heap) (h1 : 0 ≤ n) (h2 : n ≤ 18446744073709551615) : Runs K 37 #[.int .u64 n] h fun v _ => v = .string (text (decB n.toNat)) := by
  refine Runs.of Kok (Does.intro rfl (by decide +kernel) Try.func37 rfl ?_)
  by_cases hn : n = 0
  · subst hn
    simp (decide := true) only [go_sem, Try.f37, KP]
    rw [decB]
    rfl
  · simp (decide := true) only [go_sem, Try.f37, KP, hn]
    refine W_loop (α := List Nat × Nat) (fun a e w => e.size = 25 ∧ h.size ≤ w.size ∧ e.get 4 = .int .i64 a.1.length ∧ e.get 0 = .int .u64 a.2 ∧ Own h.size w 1 (e.get 3) a.1.length (natCells a.1) ∧
      a.1 ++ rd a.2 = rd n.toNat) (fun a => (rd a.2).length) ([], n.toNat) ?_ ?_
    · simp (decide := true) only [go_sem]
      have e1 : ((n.toNat : Nat) : Int) = n := by omega
      rw [e1]
      exact ⟨rfl, rfl, Own.nil _ _ _⟩
    · rintro ⟨l, m⟩ e w ⟨hsz, hw, h4, h0, hown, hrd⟩ next
      simp only at h4 h0 hown hrd
      have hlen : l.length + (rd m).length ≤ 20 := by
        have := rd_length 20 n.toNat (by omega)
        rw [← hrd] at this
        simpa using this
      by_cases hm : m = 0
      · subst hm
        clear next
        rw [rd_zero, List.append_nil] at hrd
        have hl0 : l ≠ [] := by
          rw [hrd, rd_pos (by omega)]
          simp
        have hfin : trim (l.reverse.map fun d => UInt8.ofNat (48 + d)) = decB n.toNat := by
          have hd := rd_decB n.toNat n.toNat (Nat.le_refl _) (by omega)
          rw [hrd, ← hd]
          rcases decB_head n.toNat (by omega) with ⟨a, t, hat, ha⟩
          rw [hat]
          exact trim_same ha
        rcases hown with ⟨_, hz, _⟩ | ⟨b, hv, _, hb, hg, _⟩
        · exact absurd (List.eq_nil_of_length_eq_zero hz) hl0
        have hdig : ∀ d ∈ l, d < 10 := by rw [hrd]; exact rd_digit _ _ (Nat.le_refl _)
        have hll : ((l.length : Nat) : Int) < 20 ∨ ¬ ((l.length : Nat) : Int) < 20 := by omega
        rcases hll with hll | hll
        · simp (decide := true) only [go_sem, KP, hsz, h4, h0, hll, hv]
          refine W_call Kok hw (written_run l b _ _ hb hg hl0 (by omega) hdig) fun v w2 hx hv2 => ?_
          subst hv2
          simp (decide := true) only [go_sem, KP, hsz, hfin]
        · simp (decide := true) only [go_sem, KP, hsz, h4, h0, hll, hv]
          refine W_call Kok hw (written_run l b _ _ hb hg hl0 (by omega) hdig) fun v w2 hx hv2 => ?_
          subst hv2
          simp (decide := true) only [go_sem, KP, hsz, hfin]
      · have hr1 := rd_pos hm
        have hll : ((l.length : Nat) : Int) < 20 := by
          have : (rd m).length = (rd (m / 10)).length + 1 := by rw [hr1]; rfl
          omega
        have g0 : (0 : Int) < ((m : Nat) : Int) := by omega
        have g1 : ((m : Nat) : Int).tmod 10 = ((m % 10 : Nat) : Int) := by rw [Int.tmod_eq_emod_of_nonneg (by omega)]; omega
        have hmn : (m : Int) ≤ n := by
          have := rd_le l m n.toNat hrd
          omega
        have g2 : IntKind.u64.wrap (((m : Nat) : Int).tdiv 10) = ((m / 10 : Nat) : Int) := by
          rw [Int.tdiv_eq_ediv_of_nonneg (by omega)]
          rw [wrap_u64 (by omega) (by omega)]
          omega
        have g3 : IntKind.i64.wrap (((m % 10 : Nat) : Int)) = ((m % 10 : Nat) : Int) := wrap_i64 (by omega) (by omega)
        have g4 : IntKind.i64.wrap ((l.length : Int) + 1) = (l.length : Int) + 1 := wrap_i64 (by omega) (by omega)
        simp (decide := true) only [go_sem, KP, hsz, h4, h0, hll, g0, g1, g3]
        obtain ⟨w2, hap, hown2, hsz2, _⟩ := own_app (bytes := 8) (k := 1) (new := [.int .i64 ((m % 10 : Nat) : Int)]) (hown.push (.cells [.int .i64 ((m % 10 : Nat) : Int)] 1)) (by simp; omega) (by omega) (by omega) rfl (by omega) (by omega)
        simp (decide := true) only [go_sem, KP, hsz, h4, h0, hap, g2, g4]
        refine next (l ++ [m % 10], m / 10) _ _ ?_ ?_
        · simp (decide := true) only [go_sem, hsz]
          have q1 : (l ++ [m % 10]).length = l.length + 1 := by simp
          have q2 : natCells (l ++ [m % 10]) = natCells l ++ [.int .i64 ((m % 10 : Nat) : Int)] := by simp [natCells]
          rw [q1, q2]
          simp only [Heap.size_push] at hsz2
          refine ⟨by omega, by congr 1, hown2, ?_⟩
          rw [List.append_assoc, ← hrd, hr1]
          rfl
        · simp only
          rw [hr1]
          simp
theorem from_run (n : Int) (h : Heap) (h1 : 0 ≤ n) (h2 : n ≤ 9223372036854775807) : Runs K 31 #[.int .i64 n] h fun v _ => v = .agg #[.bool false, .string (text (decB n.toNat))] := by
  refine Runs.of Kok (Does.intro rfl (by decide +kernel) Try.func31 rfl ?_)
  have e1 : ¬ n < 0 := by omega
  have e2 : IntKind.u64.wrap n = n := wrap_u64 h1 (by omega)
  simp (decide := true) only [go_sem, Try.f31, KP, e1, e2]
  refine W_call Kok ?_ (of_run n _ h1 (by omega)) fun v w2 hx hv => ?_
  · (try simp only [go_sem]) <;> omega
  subst hv
  have hl := hx.1
  simp only [Heap.size_push] at hl
  have g : w2.get h.size = .cells [.bool false, .string ByteArray.empty] 2 := (hx.2 _ (by simp)).trans (by simp [Heap.get_push])
  simp (decide := true) only [go_sem, KP, g]
theorem digits02_run (b : ByteArray) (h : Heap) : Runs K 30 #[.agg #[.bool false, .string b], .string ByteArray.empty] h fun v _ => v = .string b := by
  refine Runs.of Kok (Does.intro rfl (by decide +kernel) Try.func30 rfl ?_)
  simp (decide := true) only [go_sem, Try.f30, KP]
theorem rplace_run (s : List UInt8) (n : Int) (h : Heap) (hs : s.length ≤ 1000) (h1 : n ≤ 9223372036854775807) (h2 : -9223372036854775808 ≤ n) :
    Runs K 13 #[.string (text s), .int .i64 n] h fun v _ => v = .string (text (s ++ [91] ++ decB n.toNat ++ [93])) := by
  refine Runs.of Kok (Does.intro rfl (by decide +kernel) Try.func13 rfl ?_)
  have e1 : (ByteArray.mk #[91]) = text [91] := rfl
  have e2 : (ByteArray.mk #[93]) = text [93] := rfl
  have e3 : (ByteArray.mk #[]) = ByteArray.empty := rfl
  have hd := decB_length 19 n.toNat (by omega)
  have c1 {P : Program} {t : TypeId} := cat_ok (P := P) (t := t) (a := s) (b := [91]) (by simp; omega)
  have c2 {P : Program} {t : TypeId} := cat_ok (P := P) (t := t) (a := s ++ [91]) (b := decB n.toNat) (by simp; omega)
  have c3 {P : Program} {t : TypeId} := cat_ok (P := P) (t := t) (a := s ++ [91] ++ decB n.toNat) (b := [93]) (by simp; omega)
  by_cases hn : n < 0
  · have z : n.toNat = 0 := by omega
    rw [z] at c2 c3 ⊢
    simp (decide := true) only [go_sem, Try.f13, KP, hn, e1, c1]
    refine W_call Kok (Nat.le_refl _) (from_run 0 _ (by omega) (by omega)) fun v w1 hx1 hv => ?_
    subst hv
    simp (decide := true) only [go_sem, KP, e3]
    refine W_call Kok hx1.1 (digits02_run _ _) fun v w2 hx2 hv => ?_
    subst hv
    simp (decide := true) only [go_sem, KP, e2, c2, c3]
  · simp (decide := true) only [go_sem, Try.f13, KP, hn, e1, c1]
    refine W_call Kok (Nat.le_refl _) (from_run n _ (by omega) (by omega)) fun v w1 hx1 hv => ?_
    subst hv
    simp (decide := true) only [go_sem, KP, e3]
    refine W_call Kok hx1.1 (digits02_run _ _) fun v w2 hx2 hv => ?_
    subst hv
    simp (decide := true) only [go_sem, KP, e2, c2, c3]
/-- The name of an error. -/
def nm (e : Int) : ByteArray := if e = 20 then (ByteArray.mk #[83, 89, 78, 84, 65, 88, 32, 69, 82, 82, 79, 82]) else if e = 21 then (ByteArray.mk #[86, 65, 76, 85, 69, 32, 69, 82, 82, 79, 82]) else if e = 22 then (ByteArray.mk #[68, 79, 77, 65, 73, 78, 32, 69, 82, 82, 79, 82]) else if e = 23 then (ByteArray.mk #[82, 65, 78, 75, 32, 69, 82, 82, 79, 82]) else if e = 24 then (ByteArray.mk #[76, 69, 78, 71, 84, 72, 32, 69, 82, 82, 79, 82]) else if e = 25 then (ByteArray.mk #[73, 78, 68, 69, 88, 32, 69, 82, 82, 79, 82]) else if e = 26 then (ByteArray.mk #[76, 73, 77, 73, 84, 32, 69, 82, 82, 79, 82]) else if e = 27 then (ByteArray.mk #[87, 83, 32, 70, 85, 76, 76]) else if e = 28 then (ByteArray.mk #[68, 69, 70, 78, 32, 69, 82, 82, 79, 82]) else if e = 29 then (ByteArray.mk #[83, 73, 32, 68, 65, 77, 65, 71, 69]) else if e = 30 then (ByteArray.mk #[73, 78, 84, 69, 82, 82, 85, 80, 84]) else ByteArray.mk #[]
theorem name_all (e : Int) (h : Heap) : Runs K 15 #[.agg #[.int .i64 e]] h fun v _ => v = .string (nm e) := by
  refine Runs.of Kok (Does.intro rfl (by decide +kernel) Try.func15 rfl ?_)
  by_cases c0 : e = 20
  · subst c0
    simp (decide := true) only [go_sem, Try.f15, KP]
    rfl
  by_cases c1 : e = 21
  · subst c1
    simp (decide := true) only [go_sem, Try.f15, KP]
    rfl
  by_cases c2 : e = 22
  · subst c2
    simp (decide := true) only [go_sem, Try.f15, KP]
    rfl
  by_cases c3 : e = 23
  · subst c3
    simp (decide := true) only [go_sem, Try.f15, KP]
    rfl
  by_cases c4 : e = 24
  · subst c4
    simp (decide := true) only [go_sem, Try.f15, KP]
    rfl
  by_cases c5 : e = 25
  · subst c5
    simp (decide := true) only [go_sem, Try.f15, KP]
    rfl
  by_cases c6 : e = 26
  · subst c6
    simp (decide := true) only [go_sem, Try.f15, KP]
    rfl
  by_cases c7 : e = 27
  · subst c7
    simp (decide := true) only [go_sem, Try.f15, KP]
    rfl
  by_cases c8 : e = 28
  · subst c8
    simp (decide := true) only [go_sem, Try.f15, KP]
    rfl
  by_cases c9 : e = 29
  · subst c9
    simp (decide := true) only [go_sem, Try.f15, KP]
    rfl
  by_cases c10 : e = 30
  · subst c10
    simp (decide := true) only [go_sem, Try.f15, KP]
    rfl
  simp (decide := true) only [go_sem, Try.f15, KP, c0, c1, c2, c3, c4, c5, c6, c7, c8, c9, c10, nm]
theorem names_list (h : Heap) : Runs K 16 #[] h fun v w => ∃ b, v = .slice (some ⟨b, 0, none⟩) 11 11 ∧ w.get b = .cells [.string (ByteArray.mk #[83, 89, 78, 84, 65, 88, 32, 69, 82, 82, 79, 82]), .string (ByteArray.mk #[86, 65, 76, 85, 69, 32, 69, 82, 82, 79, 82]), .string (ByteArray.mk #[68, 79, 77, 65, 73, 78, 32, 69, 82, 82, 79, 82]), .string (ByteArray.mk #[82, 65, 78, 75, 32, 69, 82, 82, 79, 82]), .string (ByteArray.mk #[76, 69, 78, 71, 84, 72, 32, 69, 82, 82, 79, 82]), .string (ByteArray.mk #[73, 78, 68, 69, 88, 32, 69, 82, 82, 79, 82]), .string (ByteArray.mk #[76, 73, 77, 73, 84, 32, 69, 82, 82, 79, 82]), .string (ByteArray.mk #[87, 83, 32, 70, 85, 76, 76]), .string (ByteArray.mk #[68, 69, 70, 78, 32, 69, 82, 82, 79, 82]), .string (ByteArray.mk #[83, 73, 32, 68, 65, 77, 65, 71, 69]), .string (ByteArray.mk #[73, 78, 84, 69, 82, 82, 85, 80, 84])] 1 := by
  refine Runs.of Kok (Does.intro rfl (by decide +kernel) Try.func16 rfl ?_)
  simp (decide := true) only [go_sem, Try.f16, KP]
  exact ⟨h.size, rfl, by simp [Heap.get_push]⟩
theorem rname_all (e : Int) (h : Heap) (h1 : e ≤ 9223372036854775807) (h2 : -9223372036854775808 ≤ e) : Runs K 17 #[.int .i64 e] h fun v _ => v = .string (nm e) := by
  refine Runs.of Kok (Does.intro rfl (by decide +kernel) Try.func17 rfl ?_)
  simp (decide := true) only [go_sem, Try.f17, KP]
  refine W_call Kok (Nat.le_refl _) (names_list _) fun v w1 hx hv => ?_
  obtain ⟨b, hv, hg⟩ := hv
  subst hv
  by_cases c : e < 20
  · simp (decide := true) only [go_sem, KP, c]
    have : nm e = ByteArray.mk #[] := by
      unfold nm
      repeat rw [if_neg (by omega)]
    rw [this]
  by_cases d : 30 < e
  · simp (decide := true) only [go_sem, KP, c, d]
    have : nm e = ByteArray.mk #[] := by
      unfold nm
      repeat rw [if_neg (by omega)]
    rw [this]
  have hc : e = 20 ∨ e = 21 ∨ e = 22 ∨ e = 23 ∨ e = 24 ∨ e = 25 ∨ e = 26 ∨ e = 27 ∨ e = 28 ∨ e = 29 ∨ e = 30 := by omega
  rcases hc with rfl | rfl | rfl | rfl | rfl | rfl | rfl | rfl | rfl | rfl | rfl
  · have g : IntKind.i64.wrap (20 - 20) = 0 := by decide
    have g2 : Int.toNat 0 = 0 := rfl
    simp (decide := true) only [go_sem, KP, hg, g, g2]
    rfl
  · have g : IntKind.i64.wrap (21 - 20) = 1 := by decide
    have g2 : Int.toNat 1 = 1 := rfl
    simp (decide := true) only [go_sem, KP, hg, g, g2]
    rfl
  · have g : IntKind.i64.wrap (22 - 20) = 2 := by decide
    have g2 : Int.toNat 2 = 2 := rfl
    simp (decide := true) only [go_sem, KP, hg, g, g2]
    rfl
  · have g : IntKind.i64.wrap (23 - 20) = 3 := by decide
    have g2 : Int.toNat 3 = 3 := rfl
    simp (decide := true) only [go_sem, KP, hg, g, g2]
    rfl
  · have g : IntKind.i64.wrap (24 - 20) = 4 := by decide
    have g2 : Int.toNat 4 = 4 := rfl
    simp (decide := true) only [go_sem, KP, hg, g, g2]
    rfl
  · have g : IntKind.i64.wrap (25 - 20) = 5 := by decide
    have g2 : Int.toNat 5 = 5 := rfl
    simp (decide := true) only [go_sem, KP, hg, g, g2]
    rfl
  · have g : IntKind.i64.wrap (26 - 20) = 6 := by decide
    have g2 : Int.toNat 6 = 6 := rfl
    simp (decide := true) only [go_sem, KP, hg, g, g2]
    rfl
  · have g : IntKind.i64.wrap (27 - 20) = 7 := by decide
    have g2 : Int.toNat 7 = 7 := rfl
    simp (decide := true) only [go_sem, KP, hg, g, g2]
    rfl
  · have g : IntKind.i64.wrap (28 - 20) = 8 := by decide
    have g2 : Int.toNat 8 = 8 := rfl
    simp (decide := true) only [go_sem, KP, hg, g, g2]
    rfl
  · have g : IntKind.i64.wrap (29 - 20) = 9 := by decide
    have g2 : Int.toNat 9 = 9 := rfl
    simp (decide := true) only [go_sem, KP, hg, g, g2]
    rfl
  · have g : IntKind.i64.wrap (30 - 20) = 10 := by decide
    have g2 : Int.toNat 10 = 10 := rfl
    simp (decide := true) only [go_sem, KP, hg, g, g2]
    rfl
theorem pair_same (a b : ByteArray) (i j : Nat) (h : Heap) (hi : h.get i = .cells [.string a, .string b] 1) (hj : h.get j = .cells [.string a, .string b] 1) :
    Runs K 9 #[.slice (some ⟨i, 0, none⟩) 2 2, .slice (some ⟨j, 0, none⟩) 2 2] h fun v _ => v = .bool true := by
  refine Runs.of Kok (Does.intro rfl (by decide +kernel) Try.func9 rfl ?_)
  have w1 : IntKind.i64.wrap (0 + 1) = 1 := by decide
  have w2 : IntKind.i64.wrap (1 + 1) = 2 := by decide
  simp (decide := true) only [go_sem, Try.f9, KP, hi, hj, W_round, w1, w2]
def second (s : List UInt8) (n : Int) (t : List UInt8) : List UInt8 := if s = [] then [32, 32, 32, 32, 32, 32] ++ t else s ++ [91] ++ decB n.toNat ++ [93] ++ [32] ++ t
theorem lines_run (e n : Int) (s t : List UInt8) (h : Heap) (hs : s.length ≤ 1000) (ht : t.length ≤ 1000) (h1 : n ≤ 9223372036854775807) (h2 : -9223372036854775808 ≤ n) :
    Runs K 10 #[.agg #[.int .i64 e], .string (text s), .int .i64 n, .string (text t)] h fun v w => ∃ b, v = .slice (some ⟨b, 0, none⟩) 2 2 ∧ b < w.size ∧ w.get b = .cells [.string (nm e), .string (text (second s n t))] 1 := by
  refine Runs.of Kok (Does.intro rfl (by decide +kernel) Try.func10 rfl ?_)
  have e0 : (ByteArray.mk #[]) = text [] := rfl
  have e1 : (ByteArray.mk #[32]) = text [32] := rfl
  have e2 : (ByteArray.mk #[32, 32, 32, 32, 32, 32]) = text [32, 32, 32, 32, 32, 32] := rfl
  have hd := decB_length 19 n.toNat (by omega)
  by_cases hn : s = []
  · subst hn
    have c1 {P : Program} {t' : TypeId} := cat_ok (P := P) (t := t') (a := [32, 32, 32, 32, 32, 32]) (b := t) (by simp; omega)
    simp (decide := true) only [go_sem, Try.f10, KP, e0]
    refine W_call Kok ?_ (name_all e _) fun v w1 hx1 hv => ?_
    · (try simp only [go_sem]) <;> omega
    subst hv
    have l1 := hx1.1
    simp only [Heap.size_push] at l1
    simp (decide := true) only [go_sem, KP, e2, c1]
    exact ⟨w1.size, rfl, by simp, by simp [second]⟩
  · have hn2 : ¬ text s = text [] := fun hh => hn (text_inj.1 hh)
    have c2 {P : Program} {t' : TypeId} := cat_ok (P := P) (t := t') (a := s ++ [91] ++ decB n.toNat ++ [93]) (b := [32]) (by simp; omega)
    have c3 {P : Program} {t' : TypeId} := cat_ok (P := P) (t := t') (a := s ++ [91] ++ decB n.toNat ++ [93] ++ [32]) (b := t) (by simp; omega)
    simp (decide := true) only [go_sem, Try.f10, KP, e0, hn2]
    refine W_call Kok ?_ (name_all e _) fun v w1 hx1 hv => ?_
    · (try simp only [go_sem]) <;> omega
    subst hv
    have l1 := hx1.1
    simp only [Heap.size_push] at l1
    simp (decide := true) only [go_sem, KP]
    refine W_call Kok (by omega) (place_run s n _ hs h1 h2) fun v w2 hx2 hv => ?_
    subst hv
    have l2 := hx2.1
    simp (decide := true) only [go_sem, KP, e1, c2, c3]
    exact ⟨w2.size, rfl, by simp, by simp [second, hn]⟩
theorem rlines_run (e n : Int) (s t : List UInt8) (h : Heap) (hs : s.length ≤ 1000) (ht : t.length ≤ 1000) (h1 : n ≤ 9223372036854775807) (h2 : -9223372036854775808 ≤ n) (h3 : e ≤ 9223372036854775807) (h4 : -9223372036854775808 ≤ e) :
    Runs K 11 #[.int .i64 e, .string (text s), .int .i64 n, .string (text t)] h fun v w => ∃ b, v = .slice (some ⟨b, 0, none⟩) 2 2 ∧ b < w.size ∧ w.get b = .cells [.string (nm e), .string (text (second s n t))] 1 := by
  refine Runs.of Kok (Does.intro rfl (by decide +kernel) Try.func11 rfl ?_)
  have e0 : (ByteArray.mk #[]) = text [] := rfl
  have e1 : (ByteArray.mk #[32]) = text [32] := rfl
  have e2 : (ByteArray.mk #[32, 32, 32, 32, 32, 32]) = text [32, 32, 32, 32, 32, 32] := rfl
  have hd := decB_length 19 n.toNat (by omega)
  by_cases hn : s = []
  · subst hn
    have c1 {P : Program} {t' : TypeId} := cat_ok (P := P) (t := t') (a := [32, 32, 32, 32, 32, 32]) (b := t) (by simp; omega)
    simp (decide := true) only [go_sem, Try.f11, KP, e0]
    refine W_call Kok (Nat.le_refl _) (rname_all e _ h3 h4) fun v w1 hx1 hv => ?_
    subst hv
    have l1 := hx1.1
    simp (decide := true) only [go_sem, KP, e2, c1]
    exact ⟨w1.size, rfl, by simp, by simp [second]⟩
  · have hn2 : ¬ text s = text [] := fun hh => hn (text_inj.1 hh)
    have c2 {P : Program} {t' : TypeId} := cat_ok (P := P) (t := t') (a := s ++ [91] ++ decB n.toNat ++ [93]) (b := [32]) (by simp; omega)
    have c3 {P : Program} {t' : TypeId} := cat_ok (P := P) (t := t') (a := s ++ [91] ++ decB n.toNat ++ [93] ++ [32]) (b := t) (by simp; omega)
    simp (decide := true) only [go_sem, Try.f11, KP, e0, hn2]
    refine W_call Kok (Nat.le_refl _) (rname_all e _ h3 h4) fun v w1 hx1 hv => ?_
    subst hv
    have l1 := hx1.1
    simp (decide := true) only [go_sem, KP]
    refine W_call Kok (by omega) (rplace_run s n _ hs h1 h2) fun v w2 hx2 hv => ?_
    subst hv
    have l2 := hx2.1
    simp (decide := true) only [go_sem, KP, e1, c2, c3]
    exact ⟨w2.size, rfl, by simp, by simp [second, hn]⟩
theorem reportLines_run (e n : Int) (s t : List UInt8) (h : Heap) (h1 : n ≤ 9223372036854775807) (h2 : -9223372036854775808 ≤ n) (h3 : e ≤ 9223372036854775807) (h4 : -9223372036854775808 ≤ e) :
    Runs K 3 #[.int .i64 e, .string (text s), .int .i64 n, .string (text t)] h fun v _ => v = .bool true := by
  refine Runs.of Kok (Does.intro rfl (by decide +kernel) Try.func3 rfl ?_)
  by_cases hs : (1000 : Int) < ((s.length : Nat) : Int)
  · simp (decide := true) only [go_sem, Try.f3, KP, hs]
    refine W_call Kok (Nat.le_refl _) (awake_runs _) fun v w1 hx1 hv => ?_
    subst hv
    simp (decide := true) only [go_sem, KP]
  by_cases ht : (1000 : Int) < ((t.length : Nat) : Int)
  · simp (decide := true) only [go_sem, Try.f3, KP, hs, ht]
    refine W_call Kok (Nat.le_refl _) (awake_runs _) fun v w1 hx1 hv => ?_
    subst hv
    simp (decide := true) only [go_sem, KP]
  simp (decide := true) only [go_sem, Try.f3, KP, hs, ht]
  refine W_call Kok ?_ (lines_run e n s t _ (by omega) (by omega) h1 h2) fun v w1 hx1 hv => ?_
  · (try simp only [go_sem]) <;> omega
  obtain ⟨b1, hv, hb1, hg1⟩ := hv
  subst hv
  have l1 := hx1.1
  simp only [Heap.size_push, Heap.size_set] at l1
  simp (decide := true) only [go_sem, KP]
  refine W_call Kok (by omega) (rlines_run e n s t _ (by omega) (by omega) h1 h2 h3 h4) fun v w2 hx2 hv => ?_
  obtain ⟨b2, hv, hb2, hg2⟩ := hv
  subst hv
  have l2 := hx2.1
  have hg3 : w2.get b1 = _ := (hx2.2 b1 hb1).trans hg1
  simp (decide := true) only [go_sem, KP]
  refine W_call Kok (by omega) (pair_same _ _ _ _ _ hg3 hg2) fun v w3 hx3 hv => ?_
  subst hv
  have l3 := hx3.1
  simp (decide := true) only [go_sem, KP]
  refine W_call Kok (by omega) (place_run s n _ (by omega) h1 h2) fun v w4 hx4 hv => ?_
  subst hv
  have l4 := hx4.1
  simp (decide := true) only [go_sem, KP]
  refine W_call Kok (by omega) (rplace_run s n _ (by omega) h1 h2) fun v w5 hx5 hv => ?_
  subst hv
  have l5 := hx5.1
  simp (decide := true) only [go_sem, KP]
  refine W_call Kok (by omega) (awake_runs _) fun v w6 hx6 hv => ?_
  subst hv
  simp (decide := true) only [go_sem, KP]
theorem reportLines (e n : Int) (s t : ByteArray) (w : World) (h1 : n ≤ 9223372036854775807) (h2 : -9223372036854775808 ≤ n) (h3 : e ≤ 9223372036854775807) (h4 : -9223372036854775808 ≤ e) :
    Calls Try.prog 3 #[.int .i64 e, .string s, .int .i64 n, .string t] w fun x w' => x = .returned (.bool true) ∧ Below w.heap.size w w' := by
  obtain ⟨s, rfl⟩ := text_of s
  obtain ⟨t, rfl⟩ := text_of t
  obtain ⟨k, v, h', hi, _, rfl⟩ := reportLines_run e n s t h0 h1 h2 h3 h4
  exact calls_atomic Kok hi rfl rfl w
end Go.Proofs.Ytjamnjbfcecnnaa.L33b
