/- Proved here: the closed call of function 20 of this seat answers true; no condition. Written by a program (hdr.py). -/
import Derived.Test.YtjamnjbfcecnnaaIm3
import Derived.Test.YtjamnjbfcecnnaaProg
import Derived.Test.YtjamnjbfcecnnaaX6
import Derived.KernelRfl
namespace Go.Proofs.Ytjamnjbfcecnnaa.Hd
open Go Go.Im Go.Proofs Go.RowKit
set_option maxRecDepth 100000
namespace law29
noncomputable def K0 : Cfg := cfgx Try.prog (T := Tied.free) [19, 20, 24, 27, 28, 79] [(27, (2, []))] [] [] [X6.namesX]
theorem run : isT (icall K0 1000 0 20 #[] h0) = true := by decide +kernel
theorem ok : CfgOK K0 := cfgx_ok (by decide +kernel) (by decide +kernel)
noncomputable def awake : Fact Try.prog where
  f := 20
  fn := ⟨_, Try.func20, rfl, by decide +kernel⟩
  run := fun args => if args.size = 0 then some (.bool true) else none
  ok := by
    intro args v h
    split at h
    · rename_i hs
      cases h
      have : args = #[] := Array.size_eq_zero_iff.1 hs
      subst this
      exact ⟨rfl, rfl, fun w => calls_true ok run rfl w⟩
    · cases h
end law29
end Go.Proofs.Ytjamnjbfcecnnaa.Hd
