/- Proved here: what report.Of, Error.Name and Error.Caught answer is what the document says, for every whole number; no condition. -/
import Derived.Test.YtjamnjbfcecnnaaIm3
import Derived.Test.YtjamnjbfcecnnaaProg
import Derived.KernelRfl
namespace Go.Proofs.Ytjamnjbfcecnnaa.L33
open Go Go.Im Go.Proofs Go.RowKit
set_option maxRecDepth 100000
theorem awake_run : isT (icall (cfg Try.prog [8,9,10,12,14,15,16,17,18,29,30,31] [(29,3)] []) 1000 0 8 #[] h0) = true := by decide +kernel
theorem awake_ok : CfgOK (cfg Try.prog [8,9,10,12,14,15,16,17,18,29,30,31] [(29,3)] []) := cfg_ok (by decide +kernel) (by decide +kernel)
noncomputable def awake : Fact Try.prog where
  f := 8
  fn := ⟨_, Try.func8, rfl, by decide +kernel⟩
  run := fun args => if args.size = 0 then some (.bool true) else none
  ok := by
    intro args v h
    split at h
    · rename_i hs
      cases h
      have : args = #[] := Array.size_eq_zero_iff.1 hs
      subst this
      exact ⟨rfl, rfl, fun w => calls_true awake_ok awake_run rfl w⟩
    · cases h
noncomputable def K := cfg Try.prog [3,4,5,9,10,12,14,15,16,17,18,29,30,31] [(29,3)] [awake]
theorem KP : K.P = Try.prog := rfl
theorem Kok : CfgOK K := cfg_ok (by decide +kernel) (by decide +kernel)
attribute [local go_sem] Try.underlying4
@[local go_sem] theorem ac_25 : acells Try.prog 25 = some ([.int .i64 0], 1) := by kernel_rfl
@[local go_sem] theorem ts_25 : tsize Try.prog 25 = some 1 := by kernel_rfl
@[local go_sem] theorem fo_25_0 : foff Try.prog 25 0 = some 0 := by kernel_rfl
@[local go_sem] theorem tc_23 : tcell Try.prog 23 = some none := by kernel_rfl
@[local go_sem] theorem tc_25 : tcell Try.prog 25 = some (some 1) := by kernel_rfl
@[local go_sem] theorem el_27 : elts Try.prog 27 = some (.slice 1) := by kernel_rfl
@[local go_sem] theorem tc_9 : tcell Try.prog 9 = some none := by kernel_rfl
@[local go_sem] theorem bd_25 {ps : List (Nat × Value)} : ibuild Try.prog 25 ps = blt [(0, 1)] [.int .i64 0] ps := ibuild_of (by kernel_rfl)
@[local go_sem] theorem bs_27_11 {sz : Nat} {ps : Array (Nat × Operand)} {ρ : Operand → Value} : iop0 Try.prog sz (.buildSlice 27 11 ps) ρ = bsl sz 11 1 [.string ByteArray.empty, .string ByteArray.empty, .string ByteArray.empty, .string ByteArray.empty, .string ByteArray.empty, .string ByteArray.empty, .string ByteArray.empty, .string ByteArray.empty, .string ByteArray.empty, .string ByteArray.empty, .string ByteArray.empty] (ps.toList.map fun p => (p.1, ρ p.2)) := iop0_buildSlice_of (by kernel_rfl)
theorem of_out (n : Int) (hn : n < 1 ∨ 11 < n) (h : Heap) : Runs K 14 #[.int .i64 n] h fun v _ => v = .tuple #[.agg #[.int .i64 0], .bool false] := by
  refine Runs.of Kok (Does.intro rfl (by decide +kernel) Try.func14 rfl ?_)
  by_cases h1 : n < 1
  · simp (decide := true) only [go_sem, Try.f14, KP, h1]
  · have h2 : 11 < n := by omega
    simp (decide := true) only [go_sem, Try.f14, KP, h1, h2]

theorem awake_runs (h : Heap) : Runs K 8 #[] h fun v _ => v = .bool true := ⟨1, .bool true, h, rfl, Ext.refl h, rfl⟩
theorem numbers_out (n : Int) (hn : n < 1 ∨ 11 < n) (h : Heap) : Runs K 4 #[.int .i64 n] h fun v _ => v = .bool true := by
  refine Runs.of Kok (Does.intro rfl (by decide +kernel) Try.func4 rfl ?_)
  simp (decide := true) only [go_sem, Try.f4, KP]
  refine W_call Kok (Nat.le_refl _) (of_out n hn h) fun v w1 hx hv => ?_
  subst hv
  have hl := hx.1
  by_cases h1 : n < 1
  · simp (decide := true) only [go_sem, KP, h1, hl]
    refine W_call Kok ?_ (awake_runs _) fun v w2 hx2 hv => ?_
    · (try simp only [go_sem]) <;> omega
    subst hv
    simp (decide := true) only [go_sem, KP]
  · have h2 : 11 < n := by omega
    simp (decide := true) only [go_sem, KP, h1, h2, hl]
    refine W_call Kok ?_ (awake_runs _) fun v w2 hx2 hv => ?_
    · (try simp only [go_sem]) <;> omega
    subst hv
    simp (decide := true) only [go_sem, KP]
theorem numbers_in : ∀ i : Fin 11, isT (icall K 1000 0 4 #[.int .i64 ((i.val : Int) + 1)] h0) = true := by decide +kernel
theorem numbers (n : Int) (w : World) : Calls Try.prog 4 #[.int .i64 n] w fun e w' => e = .returned (.bool true) ∧ Below w.heap.size w w' := by
  by_cases hn : n < 1 ∨ 11 < n
  · obtain ⟨k, v, h', hi, _, rfl⟩ := numbers_out n hn h0
    exact calls_atomic Kok hi rfl rfl w
  · have := numbers_in ⟨(n - 1).toNat, by omega⟩
    have e : (((n - 1).toNat : Int) + 1) = n := by omega
    rw [e] at this
    exact calls_true Kok this rfl w

theorem name_out (n : Int) (hn : n < 20 ∨ 30 < n) (h : Heap) : Runs K 15 #[.agg #[.int .i64 n]] h fun v _ => v = .string ByteArray.empty := by
  refine Runs.of Kok (Does.intro rfl (by decide +kernel) Try.func15 rfl ?_)
  have d1 : ¬ n = 20 := by omega
  have d2 : ¬ n = 21 := by omega
  have d3 : ¬ n = 22 := by omega
  have d4 : ¬ n = 23 := by omega
  have d5 : ¬ n = 24 := by omega
  have d6 : ¬ n = 25 := by omega
  have d7 : ¬ n = 26 := by omega
  have d8 : ¬ n = 27 := by omega
  have d9 : ¬ n = 28 := by omega
  have d10 : ¬ n = 29 := by omega
  have d11 : ¬ n = 30 := by omega
  simp (decide := true) only [go_sem, Try.f15, KP, d1, d2, d3, d4, d5, d6, d7, d8, d9, d10, d11]
  rfl
theorem names_list (h : Heap) : Runs K 16 #[] h fun _ _ => True := by
  refine Runs.of Kok (Does.intro rfl (by decide +kernel) Try.func16 rfl ?_)
  simp (decide := true) only [go_sem, Try.f16, KP]

theorem rname_out (n : Int) (hn : n < 20 ∨ 30 < n) (h : Heap) : Runs K 17 #[.int .i64 n] h fun v _ => v = .string ByteArray.empty := by
  refine Runs.of Kok (Does.intro rfl (by decide +kernel) Try.func17 rfl ?_)
  simp (decide := true) only [go_sem, Try.f17, KP]
  refine W_call Kok (Nat.le_refl _) (names_list _) fun v w1 hx hv => ?_
  by_cases h1 : n < 20
  · simp (decide := true) only [go_sem, KP, h1]
    rfl
  · have h2 : 30 < n := by omega
    simp (decide := true) only [go_sem, KP, h1, h2]
    rfl
theorem caught_out (n : Int) (hn : n < 20 ∨ 30 < n) (h : Heap) : Runs K 18 #[.agg #[.int .i64 n]] h fun v _ => v = .bool false := by
  refine Runs.of Kok (Does.intro rfl (by decide +kernel) Try.func18 rfl ?_)
  simp (decide := true) only [go_sem, Try.f18, KP]
  refine W_call Kok ?_ (name_out n hn _) fun v w1 hx hv => ?_
  · (try simp only [go_sem]) <;> omega
  subst hv
  simp (decide := true) only [go_sem, KP]
  trace_state
  done
theorem names_out (n : Int) (hn : n < 20 ∨ 30 < n) (h : Heap) : Runs K 5 #[.int .i64 n] h fun v _ => v = .bool true := by
  refine Runs.of Kok (Does.intro rfl (by decide +kernel) Try.func5 rfl ?_)
  simp (decide := true) only [go_sem, Try.f5, KP]
  refine W_call Kok ?_ (name_out n hn _) fun v w1 hx1 hv => ?_
  · (try simp only [go_sem]) <;> omega
  have l1 := hx1.1
  simp only [go_sem] at l1
  subst hv
  simp (decide := true) only [go_sem, KP]
  refine W_call Kok ?_ (rname_out n hn _) fun v w2 hx2 hv => ?_
  · omega
  have l2 := hx2.1
  have g2 : w2.get h.size = .cells [.int .i64 n] 1 := (hx2.2 _ (by omega)).trans ((hx1.2 _ (by simp)).trans (by simp [Heap.get_set]))
  subst hv
  simp (decide := true) only [go_sem, KP, g2]
  refine W_call Kok ?_ (caught_out n hn _) fun v w3 hx3 hv => ?_
  · omega
  have l3 := hx3.1
  subst hv
  simp (decide := true) only [go_sem, KP]
  refine W_call Kok ?_ (rname_out n hn _) fun v w4 hx4 hv => ?_
  · omega
  have l4 := hx4.1
  subst hv
  simp (decide := true) only [go_sem, KP]
  refine W_call Kok ?_ (awake_runs _) fun v w5 hx5 hv => ?_
  · omega
  subst hv
  simp (decide := true) only [go_sem, KP]
theorem names_in : ∀ i : Fin 11, isT (icall K 1000 0 5 #[.int .i64 ((i.val : Int) + 20)] h0) = true := by decide +kernel
theorem names (n : Int) (w : World) : Calls Try.prog 5 #[.int .i64 n] w fun e w' => e = .returned (.bool true) ∧ Below w.heap.size w w' := by
  by_cases hn : n < 20 ∨ 30 < n
  · obtain ⟨k, v, h', hi, _, rfl⟩ := names_out n hn h0
    exact calls_atomic Kok hi rfl rfl w
  · have := names_in ⟨(n - 20).toNat, by omega⟩
    have e : (((n - 20).toNat : Int) + 20) = n := by omega
    rw [e] at this
    exact calls_true Kok this rfl w
end Go.Proofs.Ytjamnjbfcecnnaa.L33
