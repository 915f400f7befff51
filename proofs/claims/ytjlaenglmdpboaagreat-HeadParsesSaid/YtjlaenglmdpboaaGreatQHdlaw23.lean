/- Proved here: the closed call of function 28 of this seat answers true; no condition. Written by a program (hdr.py). -/
import Derived.Test.YtjlaenglmdpboaaGreatIm3
import Derived.Test.YtjlaenglmdpboaaGreatProg
import Derived.KernelRfl
namespace Go.Proofs.YtjlaenglmdpboaaGreat.Hd
open Go Go.Im Go.Proofs Go.RowKit
set_option maxRecDepth 100000
namespace law23
noncomputable def K0 : Cfg := cfg Tryz.prog [9, 28, 29, 32, 38, 42, 44, 60, 61, 62, 63, 67, 68, 69, 70, 71, 72, 84, 85, 87, 88, 89, 90, 91, 92, 93, 94, 95, 100, 101, 102, 104, 105, 106, 107, 108, 109, 110, 111, 112, 113, 114, 115, 117, 118, 119, 120, 121, 122, 123, 124, 130, 131, 132, 133, 134, 135, 136, 137, 138, 139, 140, 141, 142, 143, 148, 149, 150, 151, 152, 153, 154, 159, 160, 161, 162, 163, 167, 168, 169, 174, 175, 176, 177, 178, 179] [(32, 22), (119, 14), (121, 1), (122, 1), (142, 4), (143, 1), (152, 3), (152, 6), (153, 4), (163, 7)] [(32, (6, [(5, 7)])), (32, (13, [(5, 7)])), (32, (15, [(5, 10), (8, 10), (8, 12)])), (131, (7, [(9, 12)])), (161, (9, [(1, 2)])), (163, (4, [(1, 2)])), (163, (9, [(1, 2)]))] []
theorem run : isT (icall K0 1000 0 28 #[] h0) = true := by decide +kernel
theorem ok : CfgOK K0 := cfg_ok (by decide +kernel) (by decide +kernel)
noncomputable def awake : Fact Tryz.prog where
  f := 28
  fn := ⟨_, Tryz.func28, rfl, by decide +kernel⟩
  run := fun args => if args.size = 0 then some (.bool true) else none
  ok := by
    intro args v h
    split at h
    · rename_i hs
      cases h
      have : args = #[] := Array.size_eq_zero_iff.1 hs
      subst this
      exact ⟨rfl, rfl, fun w => calls_true ok run rfl w⟩
    · cases h
end law23
end Go.Proofs.YtjlaenglmdpboaaGreat.Hd
