/- Proved here: the closed call of function 8 of this seat answers true; no condition. Written by a program (hdr.py). -/
import Derived.Test.YtachkofbmodnnaaGreatIm3
import Derived.Test.YtachkofbmodnnaaGreatProg
import Derived.Test.YtachkofbmodnnaaGreatX1
import Derived.KernelRfl
namespace Go.Proofs.YtachkofbmodnnaaGreat.Hd
open Go Go.Im Go.Proofs Go.RowKit
set_option maxRecDepth 100000
namespace law28
noncomputable def K0 : Cfg := cfgx Tryz.prog [8, 9, 11, 13, 17, 21, 23, 28, 29, 31, 33, 36, 46, 47, 48, 51, 52, 57, 58, 59, 60, 61, 71, 72, 73, 74, 75, 79, 81, 82, 86, 87, 88, 89, 90, 91, 92, 93, 94, 95, 96, 97, 98, 99, 100, 101, 102, 103, 104, 105, 106, 114, 115, 116, 117, 118, 119, 120, 121, 122, 123, 124, 125, 126, 127, 128, 129, 134, 135, 136, 137, 138, 139, 140, 141, 142, 143, 144, 145, 151, 152, 153, 154, 155, 156, 157, 162, 163, 164, 165, 166, 167, 172, 173, 174, 175, 176, 177, 178, 182, 183, 184, 185, 190, 191, 192, 193, 194, 195] [(21, (11, [48])), (36, (22, [])), (74, (6, [])), (137, (14, [151, 153])), (139, (1, [])), (140, (1, [])), (155, (4, [165])), (156, (1, [165])), (165, (3, [174])), (165, (6, [])), (166, (4, [140])), (176, (7, []))] [(36, (6, [(5, 7)])), (36, (13, [(5, 7)])), (36, (15, [(5, 10), (8, 10), (8, 12)])), (174, (9, [(1, 2)])), (176, (4, [(1, 2)])), (176, (9, [(1, 2)])), (184, (7, [(9, 12)]))] [] [X1.textX]
theorem run : isT (icall K0 1000 0 8 #[] h0) = true := by decide +kernel
theorem ok : CfgOK K0 := cfgx_ok (by decide +kernel) (by decide +kernel)
noncomputable def awake : Fact Tryz.prog where
  f := 8
  fn := ⟨_, Tryz.func8, rfl, by decide +kernel⟩
  run := fun args => if args.size = 0 then some (.bool true) else none
  ok := by
    intro args v h
    split at h
    · rename_i hs
      cases h
      have : args = #[] := Array.size_eq_zero_iff.1 hs
      subst this
      exact ⟨rfl, rfl, fun w => calls_true ok run rfl w⟩
    · cases h
end law28
end Go.Proofs.YtachkofbmodnnaaGreat.Hd
