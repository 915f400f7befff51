/-
  No cell of these rows narrows 'for every input' (looked for: loops, veiled, ifaces, maps, wideKeys, modest, calm, conditions, laid).
  DERIVED. THE GIVEN ROWS OF THIS SEAT. 4 by the template 'for every input the law returns true; each argument reads behind the call as it read before'; 0 by the template 'total and deterministic' (their statements: YtjlaenglmdpboaaTotals.lean).
  GIVEN WITH THE SEED: the statements are not yours to turn. If you find one false, say at which input.
  Laid BY PROGRAM, IN A SANDBOX (cutbox-rows.mjs): the forced cells as the released guide's own fill.sh prints them over the translation 57ad97c67143a3e5… (all of the seat's roots in one cut). By AI agents, Wed Nov 11 2026. No macro, syntax, notation, axiom, sorry.
-/
import Derived.Test.YtjlaenglmdpboaaChecked
import GoSem.Claim
import GoSem.ClaimJoined
import GoSem.ClaimMapViews
import Derived.JoinedTies
import Derived.KernelRfl
namespace Go.Proofs.Ytjlaenglmdpboaa
/- THE CELL 'sum', in the pinned program and in every row, IS THE sha256 OF THE DUMP (.gsa) THAT YtjlaenglmdpboaaProg.lean LOADS. Nothing in Lean hashes anything: it is a label: what it is worth is what the hold of that sum in a sandbox is worth. -/
noncomputable def Try.pinned : Pinned := { name := "ytjlaenglmdpboaa", sum := "57ad97c67143a3e57f3e72b2d09f95728394ac7286522e1e7c90d9ef112ee652", checked := Try.checked }
namespace Rows
def none {H : Type} : Left H := { results := [], args := [] }

/-- 'typeballlaw22.TokenRemarks': WHATEVER THE INPUT: true; the input reads as it did. -/
def tokenRemarksSpec : ChangeSpec := { name := "tokenRemarks", fn := fun _ => fun
  | [d1, d2] => { results := [.lit (.bool true)], args := [d1, d2] }
  | _ => none }
def tokenRemarksRow : OpenClaim := { program := "ytjlaenglmdpboaa", sum := "57ad97c67143a3e57f3e72b2d09f95728394ac7286522e1e7c90d9ef112ee652", func := "typeball/typeballlaw22.TokenRemarks", spec := "tokenRemarks", apart := false }
def TokenRemarksSaid : Prop := tokenRemarksRow.holds Try.pinned (OpenSpec.ofChange tokenRemarksSpec)

/-- ITS FALSE NEIGHBOUR: 'it returns false'. Refute it at one input. -/
def tokenRemarksWrong : ChangeSpec := { name := "tokenRemarks", fn := fun _ => fun
  | [d1, d2] => { results := [.lit (.bool false)], args := [d1, d2] }
  | _ => none }
def TokenRemarksWrongFalsely : Prop := tokenRemarksRow.holds Try.pinned (OpenSpec.ofChange tokenRemarksWrong)

/-- 'typeballlaw22.TokenOpens': WHATEVER THE INPUT: true; the input reads as it did. -/
def tokenOpensSpec : ChangeSpec := { name := "tokenOpens", fn := fun _ => fun
  | [d1, d2] => { results := [.lit (.bool true)], args := [d1, d2] }
  | _ => none }
def tokenOpensRow : OpenClaim := { program := "ytjlaenglmdpboaa", sum := "57ad97c67143a3e57f3e72b2d09f95728394ac7286522e1e7c90d9ef112ee652", func := "typeball/typeballlaw22.TokenOpens", spec := "tokenOpens", apart := false }
def TokenOpensSaid : Prop := tokenOpensRow.holds Try.pinned (OpenSpec.ofChange tokenOpensSpec)

/-- ITS FALSE NEIGHBOUR: 'it returns false'. Refute it at one input. -/
def tokenOpensWrong : ChangeSpec := { name := "tokenOpens", fn := fun _ => fun
  | [d1, d2] => { results := [.lit (.bool false)], args := [d1, d2] }
  | _ => none }
def TokenOpensWrongFalsely : Prop := tokenOpensRow.holds Try.pinned (OpenSpec.ofChange tokenOpensWrong)

/-- 'typeballlaw23.HeadSames': WHATEVER THE INPUT: true; the input reads as it did. -/
def headSamesSpec : ChangeSpec := { name := "headSames", fn := fun _ => fun
  | [d1, d2] => { results := [.lit (.bool true)], args := [d1, d2] }
  | _ => none }
def headSamesRow : OpenClaim := { program := "ytjlaenglmdpboaa", sum := "57ad97c67143a3e57f3e72b2d09f95728394ac7286522e1e7c90d9ef112ee652", func := "typeball/typeballlaw23.HeadSames", spec := "headSames", recurses := true, apart := false }
def HeadSamesSaid : Prop := headSamesRow.holds Try.pinned (OpenSpec.ofChange headSamesSpec)

/-- ITS FALSE NEIGHBOUR: 'it returns false'. Refute it at one input. -/
def headSamesWrong : ChangeSpec := { name := "headSames", fn := fun _ => fun
  | [d1, d2] => { results := [.lit (.bool false)], args := [d1, d2] }
  | _ => none }
def HeadSamesWrongFalsely : Prop := headSamesRow.holds Try.pinned (OpenSpec.ofChange headSamesWrong)

/-- 'typeballlaw23.HeadBack': WHATEVER THE INPUT: true; the input reads as it did. -/
def headBackSpec : ChangeSpec := { name := "headBack", fn := fun _ => fun
  | [d] => { results := [.lit (.bool true)], args := [d] }
  | _ => none }
def headBackRow : OpenClaim := { program := "ytjlaenglmdpboaa", sum := "57ad97c67143a3e57f3e72b2d09f95728394ac7286522e1e7c90d9ef112ee652", func := "typeball/typeballlaw23.HeadBack", spec := "headBack", inPlace := ["internal/abi.NoEscape"], recurses := true, apart := false }
def HeadBackSaid : Prop := headBackRow.holds Try.pinned (OpenSpec.ofChange headBackSpec)

/-- ITS FALSE NEIGHBOUR: 'it returns false'. Refute it at one input. -/
def headBackWrong : ChangeSpec := { name := "headBack", fn := fun _ => fun
  | [d] => { results := [.lit (.bool false)], args := [d] }
  | _ => none }
def HeadBackWrongFalsely : Prop := headBackRow.holds Try.pinned (OpenSpec.ofChange headBackWrong)

/- THE SECOND FORM. 'bulk': how many values and letters a reading holds, each counted each time it is reached (what is shared counts as often as it is met; a slice's spare places count too). A statement '..UptoSaid' is the law's where the arguments, and the package variables that the reading takes, are together of bulk at most 1048576: NARROWER than '..Said'. Prove '..Said' where nothing that the law and all that it calls make is longer than what came in: it says more and counts as full. Else prove '..UptoSaid'. A law counts once. -/
mutual
def uptoBulk {H : Type} : DataW H → Nat
  | .lit (.string bytes) => bytes.length + 1
  | .lit _ => 1
  | .nil => 1
  | .ptr d => uptoBulk d + 1
  | .slice elems spare => uptoBulkAll elems + uptoBulkAll spare + 1
  | .agg parts => uptoBulkAll parts + 1
  | .iface _ d => uptoBulk d + 1
  | .map entries => uptoBulkEntries entries + 1
  | .held _ => 1
def uptoBulkAll {H : Type} : List (DataW H) → Nat
  | [] => 0
  | d :: r => uptoBulk d + uptoBulkAll r
def uptoBulkEntries {H : Type} : List (Lit × DataW H) → Nat
  | [] => 0
  | x :: r => uptoBulkEntry x + uptoBulkEntries r
def uptoBulkEntry {H : Type} : Lit × DataW H → Nat
  | (.string bytes, d) => bytes.length + uptoBulk d + 1
  | (_, d) => uptoBulk d + 1
 end
def uptoSmall : (H : Type) → List (DataW H) → Bool := fun _ ds => decide (uptoBulkAll ds ≤ 1048576)
def OpenSpec.upto (s : _root_.Go.ChangeSpec) : _root_.Go.OpenSpec := { _root_.Go.OpenSpec.ofChange s with cond := some uptoSmall }

/-- 'typeballlaw22.TokenRemarks', WHERE WHAT IT READS IS OF BULK AT MOST 1048576: true; the input reads as it did. -/
def tokenRemarksUptoRow : OpenClaim := { program := "ytjlaenglmdpboaa", sum := "57ad97c67143a3e57f3e72b2d09f95728394ac7286522e1e7c90d9ef112ee652", func := "typeball/typeballlaw22.TokenRemarks", spec := "tokenRemarks", apart := false, narrowed := true }
def TokenRemarksUptoSaid : Prop := tokenRemarksUptoRow.holds Try.pinned (OpenSpec.upto tokenRemarksSpec)

/-- 'typeballlaw22.TokenOpens', WHERE WHAT IT READS IS OF BULK AT MOST 1048576: true; the input reads as it did. -/
def tokenOpensUptoRow : OpenClaim := { program := "ytjlaenglmdpboaa", sum := "57ad97c67143a3e57f3e72b2d09f95728394ac7286522e1e7c90d9ef112ee652", func := "typeball/typeballlaw22.TokenOpens", spec := "tokenOpens", apart := false, narrowed := true }
def TokenOpensUptoSaid : Prop := tokenOpensUptoRow.holds Try.pinned (OpenSpec.upto tokenOpensSpec)

/-- 'typeballlaw23.HeadSames', WHERE WHAT IT READS IS OF BULK AT MOST 1048576: true; the input reads as it did. -/
def headSamesUptoRow : OpenClaim := { program := "ytjlaenglmdpboaa", sum := "57ad97c67143a3e57f3e72b2d09f95728394ac7286522e1e7c90d9ef112ee652", func := "typeball/typeballlaw23.HeadSames", spec := "headSames", recurses := true, apart := false, narrowed := true }
def HeadSamesUptoSaid : Prop := headSamesUptoRow.holds Try.pinned (OpenSpec.upto headSamesSpec)

/-- 'typeballlaw23.HeadBack', WHERE WHAT IT READS IS OF BULK AT MOST 1048576: true; the input reads as it did. -/
def headBackUptoRow : OpenClaim := { program := "ytjlaenglmdpboaa", sum := "57ad97c67143a3e57f3e72b2d09f95728394ac7286522e1e7c90d9ef112ee652", func := "typeball/typeballlaw23.HeadBack", spec := "headBack", inPlace := ["internal/abi.NoEscape"], recurses := true, apart := false, narrowed := true }
def HeadBackUptoSaid : Prop := headBackUptoRow.holds Try.pinned (OpenSpec.upto headBackSpec)

end Rows
end Go.Proofs.Ytjlaenglmdpboaa
