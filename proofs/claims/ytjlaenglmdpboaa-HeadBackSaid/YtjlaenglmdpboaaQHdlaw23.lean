/- Proved here: the closed call of function 14 of this seat answers true; no condition. Written by a program (hdr.py). -/
import Derived.Test.YtjlaenglmdpboaaIm3
import Derived.Test.YtjlaenglmdpboaaProg
import Derived.KernelRfl
namespace Go.Proofs.Ytjlaenglmdpboaa.Hd
open Go Go.Im Go.Proofs Go.RowKit
set_option maxRecDepth 100000
namespace law23
noncomputable def K0 : Cfg := cfg Try.prog [8, 12, 14, 18, 21, 24, 26, 27, 28, 29, 30, 33, 34, 35, 36, 37, 38, 45, 46, 48, 49, 50, 51, 52, 53, 54, 55, 56, 61, 62, 63, 64, 65, 66, 67, 68, 69, 70, 71, 73, 74, 75, 76, 77, 78, 79, 80, 81, 82, 88, 89, 90, 91, 92, 93, 94, 95, 96, 97, 98, 99, 100, 105, 106, 107, 108, 109, 110, 111, 116, 117, 118, 119, 120, 121, 122, 126, 127, 128, 129, 134, 135, 136, 137, 138, 139] [(18, 22), (75, 14), (77, 1), (78, 1), (98, 4), (99, 1), (109, 3), (109, 6), (110, 4), (120, 7)] [(18, (6, [(5, 7)])), (18, (13, [(5, 7)])), (18, (15, [(5, 10), (8, 10), (8, 12)])), (118, (9, [(1, 2)])), (120, (4, [(1, 2)])), (120, (9, [(1, 2)])), (128, (7, [(9, 12)]))] []
theorem run : isT (icall K0 1000 0 14 #[] h0) = true := by decide +kernel
theorem ok : CfgOK K0 := cfg_ok (by decide +kernel) (by decide +kernel)
noncomputable def awake : Fact Try.prog where
  f := 14
  fn := ⟨_, Try.func14, rfl, by decide +kernel⟩
  run := fun args => if args.size = 0 then some (.bool true) else none
  ok := by
    intro args v h
    split at h
    · rename_i hs
      cases h
      have : args = #[] := Array.size_eq_zero_iff.1 hs
      subst this
      exact ⟨rfl, rfl, fun w => calls_true ok run rfl w⟩
    · cases h
end law23
end Go.Proofs.Ytjlaenglmdpboaa.Hd
