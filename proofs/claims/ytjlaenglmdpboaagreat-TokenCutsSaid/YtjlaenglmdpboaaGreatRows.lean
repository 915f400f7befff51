/-
  No cell of these rows narrows 'for every input' (looked for: loops, veiled, ifaces, maps, wideKeys, modest, calm, conditions, laid).
  DERIVED. THE GIVEN ROWS OF THIS SEAT. 5 by the template 'for every input the law returns true; each argument reads behind the call as it read before'; 0 by the template 'total and deterministic' (their statements: YtjlaenglmdpboaaGreatTotals.lean).
  GIVEN WITH THE SEED: the statements are not yours to turn. If you find one false, say at which input.
  Laid BY PROGRAM, IN A SANDBOX (cutbox-rows.mjs): the forced cells as the released guide's own fill.sh prints them over the translation c4f59fb5b3a9a436… (all of the seat's roots in one cut). By AI agents, Wed Nov 11 2026. No macro, syntax, notation, axiom, sorry.
-/
import Derived.Test.YtjlaenglmdpboaaGreatChecked
import GoSem.Claim
import GoSem.ClaimJoined
import GoSem.ClaimMapViews
import Derived.JoinedTies
import Derived.KernelRfl
namespace Go.Proofs.YtjlaenglmdpboaaGreat
/- THE CELL 'sum', in the pinned program and in every row, IS THE sha256 OF THE DUMP (.gsa) THAT YtjlaenglmdpboaaGreatProg.lean LOADS. Nothing in Lean hashes anything: it is a label: what it is worth is what the hold of that sum in a sandbox is worth. -/
noncomputable def Tryz.pinned : Pinned := { name := "ytjlaenglmdpboaagreat", sum := "c4f59fb5b3a9a4368cfe42b59fec622512cf79e9b9453120b2fe301566820c54", checked := Tryz.checked }
namespace Rows
def none {H : Type} : Left H := { results := [], args := [] }

/-- 'typeballlaw22.TokenCuts': WHATEVER THE INPUT: true; the input reads as it did. -/
def tokenCutsSpec : ChangeSpec := { name := "tokenCuts", fn := fun _ => fun
  | [d] => { results := [.lit (.bool true)], args := [d] }
  | _ => none }
def tokenCutsRow : OpenClaim := { program := "ytjlaenglmdpboaagreat", sum := "c4f59fb5b3a9a4368cfe42b59fec622512cf79e9b9453120b2fe301566820c54", func := "typeball/typeballlaw22.TokenCuts", spec := "tokenCuts", apart := false }
def TokenCutsSaid : Prop := tokenCutsRow.holds Tryz.pinned (OpenSpec.ofChange tokenCutsSpec)

/-- ITS FALSE NEIGHBOUR: 'it returns false'. Refute it at one input. -/
def tokenCutsWrong : ChangeSpec := { name := "tokenCuts", fn := fun _ => fun
  | [d] => { results := [.lit (.bool false)], args := [d] }
  | _ => none }
def TokenCutsWrongFalsely : Prop := tokenCutsRow.holds Tryz.pinned (OpenSpec.ofChange tokenCutsWrong)

/-- 'typeballlaw32.PhraseReads': WHATEVER THE INPUT: true; the input reads as it did. -/
def phraseReadsSpec : ChangeSpec := { name := "phraseReads", fn := fun _ => fun
  | [d1, d2, d3] => { results := [.lit (.bool true)], args := [d1, d2, d3] }
  | _ => none }
def phraseReadsRow : OpenClaim := { program := "ytjlaenglmdpboaagreat", sum := "c4f59fb5b3a9a4368cfe42b59fec622512cf79e9b9453120b2fe301566820c54", func := "typeball/typeballlaw32.PhraseReads", spec := "phraseReads", unfollowed := true, recurses := true, apart := false }
def PhraseReadsSaid : Prop := phraseReadsRow.holds Tryz.pinned (OpenSpec.ofChange phraseReadsSpec)

/-- ITS FALSE NEIGHBOUR: 'it returns false'. Refute it at one input. -/
def phraseReadsWrong : ChangeSpec := { name := "phraseReads", fn := fun _ => fun
  | [d1, d2, d3] => { results := [.lit (.bool false)], args := [d1, d2, d3] }
  | _ => none }
def PhraseReadsWrongFalsely : Prop := phraseReadsRow.holds Tryz.pinned (OpenSpec.ofChange phraseReadsWrong)

/-- 'typeballlaw32.PhraseOperands': WHATEVER THE INPUT: true; the input reads as it did. -/
def phraseOperandsSpec : ChangeSpec := { name := "phraseOperands", fn := fun _ => fun
  | [d1, d2, d3] => { results := [.lit (.bool true)], args := [d1, d2, d3] }
  | _ => none }
def phraseOperandsRow : OpenClaim := { program := "ytjlaenglmdpboaagreat", sum := "c4f59fb5b3a9a4368cfe42b59fec622512cf79e9b9453120b2fe301566820c54", func := "typeball/typeballlaw32.PhraseOperands", spec := "phraseOperands", unfollowed := true, recurses := true, apart := false }
def PhraseOperandsSaid : Prop := phraseOperandsRow.holds Tryz.pinned (OpenSpec.ofChange phraseOperandsSpec)

/-- ITS FALSE NEIGHBOUR: 'it returns false'. Refute it at one input. -/
def phraseOperandsWrong : ChangeSpec := { name := "phraseOperands", fn := fun _ => fun
  | [d1, d2, d3] => { results := [.lit (.bool false)], args := [d1, d2, d3] }
  | _ => none }
def PhraseOperandsWrongFalsely : Prop := phraseOperandsRow.holds Tryz.pinned (OpenSpec.ofChange phraseOperandsWrong)

/-- 'typeballlaw23.HeadLabels': WHATEVER THE INPUT: true; the input reads as it did. -/
def headLabelsSpec : ChangeSpec := { name := "headLabels", fn := fun _ => fun
  | [d] => { results := [.lit (.bool true)], args := [d] }
  | _ => none }
def headLabelsRow : OpenClaim := { program := "ytjlaenglmdpboaagreat", sum := "c4f59fb5b3a9a4368cfe42b59fec622512cf79e9b9453120b2fe301566820c54", func := "typeball/typeballlaw23.HeadLabels", spec := "headLabels", recurses := true, apart := false }
def HeadLabelsSaid : Prop := headLabelsRow.holds Tryz.pinned (OpenSpec.ofChange headLabelsSpec)

/-- ITS FALSE NEIGHBOUR: 'it returns false'. Refute it at one input. -/
def headLabelsWrong : ChangeSpec := { name := "headLabels", fn := fun _ => fun
  | [d] => { results := [.lit (.bool false)], args := [d] }
  | _ => none }
def HeadLabelsWrongFalsely : Prop := headLabelsRow.holds Tryz.pinned (OpenSpec.ofChange headLabelsWrong)

/-- 'typeballlaw23.HeadParses': WHATEVER THE INPUT: true; the input reads as it did. -/
def headParsesSpec : ChangeSpec := { name := "headParses", fn := fun _ => fun
  | [d] => { results := [.lit (.bool true)], args := [d] }
  | _ => none }
def headParsesRow : OpenClaim := { program := "ytjlaenglmdpboaagreat", sum := "c4f59fb5b3a9a4368cfe42b59fec622512cf79e9b9453120b2fe301566820c54", func := "typeball/typeballlaw23.HeadParses", spec := "headParses", inPlace := ["internal/abi.NoEscape"], recurses := true, apart := false }
def HeadParsesSaid : Prop := headParsesRow.holds Tryz.pinned (OpenSpec.ofChange headParsesSpec)

/-- ITS FALSE NEIGHBOUR: 'it returns false'. Refute it at one input. -/
def headParsesWrong : ChangeSpec := { name := "headParses", fn := fun _ => fun
  | [d] => { results := [.lit (.bool false)], args := [d] }
  | _ => none }
def HeadParsesWrongFalsely : Prop := headParsesRow.holds Tryz.pinned (OpenSpec.ofChange headParsesWrong)

/- THE SECOND FORM. 'bulk': how many values and letters a reading holds, each counted each time it is reached (what is shared counts as often as it is met; a slice's spare places count too). A statement '..UptoSaid' is the law's where the arguments, and the package variables that the reading takes, are together of bulk at most 1048576: NARROWER than '..Said'. Prove '..Said' where nothing that the law and all that it calls make is longer than what came in: it says more and counts as full. Else prove '..UptoSaid'. A law counts once. -/
mutual
def uptoBulk {H : Type} : DataW H → Nat
  | .lit (.string bytes) => bytes.length + 1
  | .lit _ => 1
  | .nil => 1
  | .ptr d => uptoBulk d + 1
  | .slice elems spare => uptoBulkAll elems + uptoBulkAll spare + 1
  | .agg parts => uptoBulkAll parts + 1
  | .iface _ d => uptoBulk d + 1
  | .map entries => uptoBulkEntries entries + 1
  | .held _ => 1
def uptoBulkAll {H : Type} : List (DataW H) → Nat
  | [] => 0
  | d :: r => uptoBulk d + uptoBulkAll r
def uptoBulkEntries {H : Type} : List (Lit × DataW H) → Nat
  | [] => 0
  | x :: r => uptoBulkEntry x + uptoBulkEntries r
def uptoBulkEntry {H : Type} : Lit × DataW H → Nat
  | (.string bytes, d) => bytes.length + uptoBulk d + 1
  | (_, d) => uptoBulk d + 1
 end
def uptoSmall : (H : Type) → List (DataW H) → Bool := fun _ ds => decide (uptoBulkAll ds ≤ 1048576)
def OpenSpec.upto (s : _root_.Go.ChangeSpec) : _root_.Go.OpenSpec := { _root_.Go.OpenSpec.ofChange s with cond := some uptoSmall }

/-- 'typeballlaw22.TokenCuts', WHERE WHAT IT READS IS OF BULK AT MOST 1048576: true; the input reads as it did. -/
def tokenCutsUptoRow : OpenClaim := { program := "ytjlaenglmdpboaagreat", sum := "c4f59fb5b3a9a4368cfe42b59fec622512cf79e9b9453120b2fe301566820c54", func := "typeball/typeballlaw22.TokenCuts", spec := "tokenCuts", apart := false, narrowed := true }
def TokenCutsUptoSaid : Prop := tokenCutsUptoRow.holds Tryz.pinned (OpenSpec.upto tokenCutsSpec)

/-- 'typeballlaw32.PhraseReads', WHERE WHAT IT READS IS OF BULK AT MOST 1048576: true; the input reads as it did. -/
def phraseReadsUptoRow : OpenClaim := { program := "ytjlaenglmdpboaagreat", sum := "c4f59fb5b3a9a4368cfe42b59fec622512cf79e9b9453120b2fe301566820c54", func := "typeball/typeballlaw32.PhraseReads", spec := "phraseReads", unfollowed := true, recurses := true, apart := false, narrowed := true }
def PhraseReadsUptoSaid : Prop := phraseReadsUptoRow.holds Tryz.pinned (OpenSpec.upto phraseReadsSpec)

/-- 'typeballlaw32.PhraseOperands', WHERE WHAT IT READS IS OF BULK AT MOST 1048576: true; the input reads as it did. -/
def phraseOperandsUptoRow : OpenClaim := { program := "ytjlaenglmdpboaagreat", sum := "c4f59fb5b3a9a4368cfe42b59fec622512cf79e9b9453120b2fe301566820c54", func := "typeball/typeballlaw32.PhraseOperands", spec := "phraseOperands", unfollowed := true, recurses := true, apart := false, narrowed := true }
def PhraseOperandsUptoSaid : Prop := phraseOperandsUptoRow.holds Tryz.pinned (OpenSpec.upto phraseOperandsSpec)

/-- 'typeballlaw23.HeadLabels', WHERE WHAT IT READS IS OF BULK AT MOST 1048576: true; the input reads as it did. -/
def headLabelsUptoRow : OpenClaim := { program := "ytjlaenglmdpboaagreat", sum := "c4f59fb5b3a9a4368cfe42b59fec622512cf79e9b9453120b2fe301566820c54", func := "typeball/typeballlaw23.HeadLabels", spec := "headLabels", recurses := true, apart := false, narrowed := true }
def HeadLabelsUptoSaid : Prop := headLabelsUptoRow.holds Tryz.pinned (OpenSpec.upto headLabelsSpec)

/-- 'typeballlaw23.HeadParses', WHERE WHAT IT READS IS OF BULK AT MOST 1048576: true; the input reads as it did. -/
def headParsesUptoRow : OpenClaim := { program := "ytjlaenglmdpboaagreat", sum := "c4f59fb5b3a9a4368cfe42b59fec622512cf79e9b9453120b2fe301566820c54", func := "typeball/typeballlaw23.HeadParses", spec := "headParses", inPlace := ["internal/abi.NoEscape"], recurses := true, apart := false, narrowed := true }
def HeadParsesUptoSaid : Prop := headParsesUptoRow.holds Tryz.pinned (OpenSpec.upto headParsesSpec)

end Rows
end Go.Proofs.YtjlaenglmdpboaaGreat
