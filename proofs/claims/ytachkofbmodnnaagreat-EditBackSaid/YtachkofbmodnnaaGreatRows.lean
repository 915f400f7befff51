/-
  No cell of these rows narrows 'for every input' (looked for: loops, veiled, ifaces, maps, wideKeys, modest, calm, conditions, laid).
  DERIVED. THE GIVEN ROWS OF THIS SEAT. 5 by the template 'for every input the law returns true; each argument reads behind the call as it read before'; 0 by the template 'total and deterministic' (their statements: YtachkofbmodnnaaGreatTotals.lean).
  GIVEN WITH THE SEED: the statements are not yours to turn. If you find one false, say at which input.
  Laid BY PROGRAM, IN A SANDBOX (cutbox-rows.mjs): the forced cells as the released guide's own fill.sh prints them over the translation fea63d089e7ee5b2… (all of the seat's roots in one cut). By AI agents, Wed Nov 11 2026. No macro, syntax, notation, axiom, sorry.
-/
import Derived.Test.YtachkofbmodnnaaGreatChecked
import GoSem.Claim
import GoSem.ClaimJoined
import GoSem.ClaimMapViews
import Derived.JoinedTies
import Derived.KernelRfl
namespace Go.Proofs.YtachkofbmodnnaaGreat
/- THE CELL 'sum', in the pinned program and in every row, IS THE sha256 OF THE DUMP (.gsa) THAT YtachkofbmodnnaaGreatProg.lean LOADS. Nothing in Lean hashes anything: it is a label: what it is worth is what the hold of that sum in a sandbox is worth. -/
noncomputable def Tryz.pinned : Pinned := { name := "ytachkofbmodnnaagreat", sum := "fea63d089e7ee5b206c29135bb792fd97be51db349814518462944badc01521c", checked := Tryz.checked }
namespace Rows
def none {H : Type} : Left H := { results := [], args := [] }

/-- 'typeballlaw28.EditNumbers': WHATEVER THE INPUT: true; the input reads as it did. -/
def editNumbersSpec : ChangeSpec := { name := "editNumbers", fn := fun _ => fun
  | [d1, d2] => { results := [.lit (.bool true)], args := [d1, d2] }
  | _ => none }
def editNumbersRow : OpenClaim := { program := "ytachkofbmodnnaagreat", sum := "fea63d089e7ee5b206c29135bb792fd97be51db349814518462944badc01521c", func := "typeball/typeballlaw28.EditNumbers", spec := "editNumbers", inPlace := ["internal/abi.NoEscape", "slices.overlaps[typeball/edit.row]"], unfollowed := true, recurses := true, apart := false }
def EditNumbersSaid : Prop := editNumbersRow.holds Tryz.pinned (OpenSpec.ofChange editNumbersSpec)

/-- ITS FALSE NEIGHBOUR: 'it returns false'. Refute it at one input. -/
def editNumbersWrong : ChangeSpec := { name := "editNumbers", fn := fun _ => fun
  | [d1, d2] => { results := [.lit (.bool false)], args := [d1, d2] }
  | _ => none }
def EditNumbersWrongFalsely : Prop := editNumbersRow.holds Tryz.pinned (OpenSpec.ofChange editNumbersWrong)

/-- 'typeballlaw28.EditEnds': WHATEVER THE INPUT: true; the input reads as it did. -/
def editEndsSpec : ChangeSpec := { name := "editEnds", fn := fun _ => fun
  | [d] => { results := [.lit (.bool true)], args := [d] }
  | _ => none }
def editEndsRow : OpenClaim := { program := "ytachkofbmodnnaagreat", sum := "fea63d089e7ee5b206c29135bb792fd97be51db349814518462944badc01521c", func := "typeball/typeballlaw28.EditEnds", spec := "editEnds", inPlace := ["internal/abi.NoEscape", "slices.overlaps[typeball/edit.row]"], unfollowed := true, recurses := true, apart := false }
def EditEndsSaid : Prop := editEndsRow.holds Tryz.pinned (OpenSpec.ofChange editEndsSpec)

/-- ITS FALSE NEIGHBOUR: 'it returns false'. Refute it at one input. -/
def editEndsWrong : ChangeSpec := { name := "editEnds", fn := fun _ => fun
  | [d] => { results := [.lit (.bool false)], args := [d] }
  | _ => none }
def EditEndsWrongFalsely : Prop := editEndsRow.holds Tryz.pinned (OpenSpec.ofChange editEndsWrong)

/-- 'typeballlaw28.EditBegins': WHATEVER THE INPUT: true; the input reads as it did. -/
def editBeginsSpec : ChangeSpec := { name := "editBegins", fn := fun _ => fun
  | [d] => { results := [.lit (.bool true)], args := [d] }
  | _ => none }
def editBeginsRow : OpenClaim := { program := "ytachkofbmodnnaagreat", sum := "fea63d089e7ee5b206c29135bb792fd97be51db349814518462944badc01521c", func := "typeball/typeballlaw28.EditBegins", spec := "editBegins", inPlace := ["internal/abi.NoEscape", "slices.overlaps[typeball/edit.row]"], unfollowed := true, recurses := true, apart := false }
def EditBeginsSaid : Prop := editBeginsRow.holds Tryz.pinned (OpenSpec.ofChange editBeginsSpec)

/-- ITS FALSE NEIGHBOUR: 'it returns false'. Refute it at one input. -/
def editBeginsWrong : ChangeSpec := { name := "editBegins", fn := fun _ => fun
  | [d] => { results := [.lit (.bool false)], args := [d] }
  | _ => none }
def EditBeginsWrongFalsely : Prop := editBeginsRow.holds Tryz.pinned (OpenSpec.ofChange editBeginsWrong)

/-- 'typeballlaw28.EditPlays': WHATEVER THE INPUT: true; the input reads as it did. -/
def editPlaysSpec : ChangeSpec := { name := "editPlays", fn := fun _ => fun
  | [d1, d2] => { results := [.lit (.bool true)], args := [d1, d2] }
  | _ => none }
def editPlaysRow : OpenClaim := { program := "ytachkofbmodnnaagreat", sum := "fea63d089e7ee5b206c29135bb792fd97be51db349814518462944badc01521c", func := "typeball/typeballlaw28.EditPlays", spec := "editPlays", inPlace := ["internal/abi.NoEscape", "slices.overlaps[typeball/edit.row]"], unfollowed := true, recurses := true, apart := false }
def EditPlaysSaid : Prop := editPlaysRow.holds Tryz.pinned (OpenSpec.ofChange editPlaysSpec)

/-- ITS FALSE NEIGHBOUR: 'it returns false'. Refute it at one input. -/
def editPlaysWrong : ChangeSpec := { name := "editPlays", fn := fun _ => fun
  | [d1, d2] => { results := [.lit (.bool false)], args := [d1, d2] }
  | _ => none }
def EditPlaysWrongFalsely : Prop := editPlaysRow.holds Tryz.pinned (OpenSpec.ofChange editPlaysWrong)

/-- 'typeballlaw28.EditBack': WHATEVER THE INPUT: true; the input reads as it did. -/
def editBackSpec : ChangeSpec := { name := "editBack", fn := fun _ => fun
  | [d1, d2] => { results := [.lit (.bool true)], args := [d1, d2] }
  | _ => none }
def editBackRow : OpenClaim := { program := "ytachkofbmodnnaagreat", sum := "fea63d089e7ee5b206c29135bb792fd97be51db349814518462944badc01521c", func := "typeball/typeballlaw28.EditBack", spec := "editBack", inPlace := ["internal/abi.NoEscape", "slices.overlaps[typeball/edit.row]"], unfollowed := true, recurses := true, apart := false }
def EditBackSaid : Prop := editBackRow.holds Tryz.pinned (OpenSpec.ofChange editBackSpec)

/-- ITS FALSE NEIGHBOUR: 'it returns false'. Refute it at one input. -/
def editBackWrong : ChangeSpec := { name := "editBack", fn := fun _ => fun
  | [d1, d2] => { results := [.lit (.bool false)], args := [d1, d2] }
  | _ => none }
def EditBackWrongFalsely : Prop := editBackRow.holds Tryz.pinned (OpenSpec.ofChange editBackWrong)

/- THE SECOND FORM. 'bulk': how many values and letters a reading holds, each counted each time it is reached (what is shared counts as often as it is met; a slice's spare places count too). A statement '..UptoSaid' is the law's where the arguments, and the package variables that the reading takes, are together of bulk at most 1048576: NARROWER than '..Said'. Prove '..Said' where nothing that the law and all that it calls make is longer than what came in: it says more and counts as full. Else prove '..UptoSaid'. A law counts once. -/
mutual
def uptoBulk {H : Type} : DataW H → Nat
  | .lit (.string bytes) => bytes.length + 1
  | .lit _ => 1
  | .nil => 1
  | .ptr d => uptoBulk d + 1
  | .slice elems spare => uptoBulkAll elems + uptoBulkAll spare + 1
  | .agg parts => uptoBulkAll parts + 1
  | .iface _ d => uptoBulk d + 1
  | .map entries => uptoBulkEntries entries + 1
  | .held _ => 1
def uptoBulkAll {H : Type} : List (DataW H) → Nat
  | [] => 0
  | d :: r => uptoBulk d + uptoBulkAll r
def uptoBulkEntries {H : Type} : List (Lit × DataW H) → Nat
  | [] => 0
  | x :: r => uptoBulkEntry x + uptoBulkEntries r
def uptoBulkEntry {H : Type} : Lit × DataW H → Nat
  | (.string bytes, d) => bytes.length + uptoBulk d + 1
  | (_, d) => uptoBulk d + 1
 end
def uptoSmall : (H : Type) → List (DataW H) → Bool := fun _ ds => decide (uptoBulkAll ds ≤ 1048576)
def OpenSpec.upto (s : _root_.Go.ChangeSpec) : _root_.Go.OpenSpec := { _root_.Go.OpenSpec.ofChange s with cond := some uptoSmall }

/-- 'typeballlaw28.EditNumbers', WHERE WHAT IT READS IS OF BULK AT MOST 1048576: true; the input reads as it did. -/
def editNumbersUptoRow : OpenClaim := { program := "ytachkofbmodnnaagreat", sum := "fea63d089e7ee5b206c29135bb792fd97be51db349814518462944badc01521c", func := "typeball/typeballlaw28.EditNumbers", spec := "editNumbers", inPlace := ["internal/abi.NoEscape", "slices.overlaps[typeball/edit.row]"], unfollowed := true, recurses := true, apart := false, narrowed := true }
def EditNumbersUptoSaid : Prop := editNumbersUptoRow.holds Tryz.pinned (OpenSpec.upto editNumbersSpec)

/-- 'typeballlaw28.EditEnds', WHERE WHAT IT READS IS OF BULK AT MOST 1048576: true; the input reads as it did. -/
def editEndsUptoRow : OpenClaim := { program := "ytachkofbmodnnaagreat", sum := "fea63d089e7ee5b206c29135bb792fd97be51db349814518462944badc01521c", func := "typeball/typeballlaw28.EditEnds", spec := "editEnds", inPlace := ["internal/abi.NoEscape", "slices.overlaps[typeball/edit.row]"], unfollowed := true, recurses := true, apart := false, narrowed := true }
def EditEndsUptoSaid : Prop := editEndsUptoRow.holds Tryz.pinned (OpenSpec.upto editEndsSpec)

/-- 'typeballlaw28.EditBegins', WHERE WHAT IT READS IS OF BULK AT MOST 1048576: true; the input reads as it did. -/
def editBeginsUptoRow : OpenClaim := { program := "ytachkofbmodnnaagreat", sum := "fea63d089e7ee5b206c29135bb792fd97be51db349814518462944badc01521c", func := "typeball/typeballlaw28.EditBegins", spec := "editBegins", inPlace := ["internal/abi.NoEscape", "slices.overlaps[typeball/edit.row]"], unfollowed := true, recurses := true, apart := false, narrowed := true }
def EditBeginsUptoSaid : Prop := editBeginsUptoRow.holds Tryz.pinned (OpenSpec.upto editBeginsSpec)

/-- 'typeballlaw28.EditPlays', WHERE WHAT IT READS IS OF BULK AT MOST 1048576: true; the input reads as it did. -/
def editPlaysUptoRow : OpenClaim := { program := "ytachkofbmodnnaagreat", sum := "fea63d089e7ee5b206c29135bb792fd97be51db349814518462944badc01521c", func := "typeball/typeballlaw28.EditPlays", spec := "editPlays", inPlace := ["internal/abi.NoEscape", "slices.overlaps[typeball/edit.row]"], unfollowed := true, recurses := true, apart := false, narrowed := true }
def EditPlaysUptoSaid : Prop := editPlaysUptoRow.holds Tryz.pinned (OpenSpec.upto editPlaysSpec)

/-- 'typeballlaw28.EditBack', WHERE WHAT IT READS IS OF BULK AT MOST 1048576: true; the input reads as it did. -/
def editBackUptoRow : OpenClaim := { program := "ytachkofbmodnnaagreat", sum := "fea63d089e7ee5b206c29135bb792fd97be51db349814518462944badc01521c", func := "typeball/typeballlaw28.EditBack", spec := "editBack", inPlace := ["internal/abi.NoEscape", "slices.overlaps[typeball/edit.row]"], unfollowed := true, recurses := true, apart := false, narrowed := true }
def EditBackUptoSaid : Prop := editBackUptoRow.holds Tryz.pinned (OpenSpec.upto editBackSpec)

end Rows
end Go.Proofs.YtachkofbmodnnaaGreat
