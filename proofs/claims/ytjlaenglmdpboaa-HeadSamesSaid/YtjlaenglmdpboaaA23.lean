/- Proved here: the chapter's examples of layer 23 answer true; no condition. -/
import Derived.Test.YtjlaenglmdpboaaIm3
import Derived.Test.YtjlaenglmdpboaaProg
import Derived.KernelRfl
namespace Go.Proofs.Ytjlaenglmdpboaa.A23
open Go Go.Im Go.Proofs Go.RowKit
set_option maxRecDepth 100000
noncomputable def K0 : Cfg := cfg Try.prog [8, 12, 14, 18, 21, 24, 26, 27, 28, 29, 30, 33, 34, 36, 38, 45, 46, 48, 49, 53, 54, 61, 67, 71, 93] [(18, 22)] [(18, 6, [(5, 7)]), (18, 13, [(5, 7)]), (18, 15, [(5, 10), (8, 10), (8, 12)])] []
theorem awake_run : isT (icall K0 1000 0 14 #[] h0) = true := by decide +kernel
theorem awake_ok : CfgOK K0 := cfg_ok (by decide +kernel) (by decide +kernel)
noncomputable def awake : Fact Try.prog where
  f := 14
  fn := ⟨_, Try.func14, rfl, by decide +kernel⟩
  run := fun args => if args.size = 0 then some (.bool true) else none
  ok := by
    intro args v h
    split at h
    · rename_i hs
      cases h
      have : args = #[] := Array.size_eq_zero_iff.1 hs
      subst this
      exact ⟨rfl, rfl, fun w => calls_true awake_ok awake_run rfl w⟩
    · cases h
end Go.Proofs.Ytjlaenglmdpboaa.A23
