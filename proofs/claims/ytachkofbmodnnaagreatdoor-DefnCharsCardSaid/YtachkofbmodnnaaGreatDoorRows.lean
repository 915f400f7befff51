/-
  NARROWER THAN 'FOR EVERY INPUT', by the rows' own cells (each row's printed sentence says how): DefnSames: laid · DefnMakes: laid · DefnBack: laid · DefnChars: laid.
  DERIVED. THE GIVEN ROWS OF THIS SEAT. 4 by the template 'for every input the law returns true; each argument reads behind the call as it read before'; 0 by the template 'total and deterministic' (their statements: YtachkofbmodnnaaGreatDoorTotals.lean).
  GIVEN WITH THE SEED: the statements are not yours to turn. If you find one false, say at which input.
  Laid BY PROGRAM, IN A SANDBOX (cutbox-rows.mjs): the forced cells as the released guide's own fill.sh prints them over the translation a1feefd97197ea2c… (all of the seat's roots in one cut). By AI agents, Wed Nov 11 2026. No macro, syntax, notation, axiom, sorry.
-/
import Derived.Test.YtachkofbmodnnaaGreatDoorChecked
import GoSem.PinnedTables
import GoSem.Claim
import GoSem.ClaimJoined
import GoSem.ClaimMapViews
import Derived.JoinedTies
import Derived.KernelRfl
namespace Go.Proofs.YtachkofbmodnnaaGreatDoor
/- THE CELL 'sum', in the pinned program and in every row, IS THE sha256 OF THE DUMP (.gsa) THAT YtachkofbmodnnaaGreatDoorProg.lean LOADS. Nothing in Lean hashes anything: it is a label: what it is worth is what the hold of that sum in a sandbox is worth. -/
noncomputable def Tryz.pinned : Pinned := { name := "ytachkofbmodnnaagreatdoor", sum := "a1feefd97197ea2ced0a997d3be0bf3db5b0558d74c25927db63731d84a1e54f", checked := Tryz.checked }
namespace Rows
def none {H : Type} : Left H := { results := [], args := [] }

/- WHAT THE LISTED PACKAGE-LEVEL VARIABLES READ AS WHEN THE CALL BEGINS. Each datum BY PROGRAM (the guide's laid-datum.mjs) off the statement by which the dump's own 'gosem.cut.vars' lays the variable. In a bare row this is a premise. The card (YtachkofbmodnnaaGreatDoorCards.lean) ties it to the program's text. -/
def laid_unicode_utf8_acceptRanges {H : Type} : DataW H := .agg [.agg [.lit (.int .u8 128), .lit (.int .u8 191)], .agg [.lit (.int .u8 160), .lit (.int .u8 191)], .agg [.lit (.int .u8 128), .lit (.int .u8 159)], .agg [.lit (.int .u8 144), .lit (.int .u8 191)], .agg [.lit (.int .u8 128), .lit (.int .u8 143)], .agg [.lit (.int .u8 0), .lit (.int .u8 0)], .agg [.lit (.int .u8 0), .lit (.int .u8 0)], .agg [.lit (.int .u8 0), .lit (.int .u8 0)], .agg [.lit (.int .u8 0), .lit (.int .u8 0)], .agg [.lit (.int .u8 0), .lit (.int .u8 0)], .agg [.lit (.int .u8 0), .lit (.int .u8 0)], .agg [.lit (.int .u8 0), .lit (.int .u8 0)], .agg [.lit (.int .u8 0), .lit (.int .u8 0)], .agg [.lit (.int .u8 0), .lit (.int .u8 0)], .agg [.lit (.int .u8 0), .lit (.int .u8 0)], .agg [.lit (.int .u8 0), .lit (.int .u8 0)]]
/-- One of Go's own tables, pinned by name: the form's constant. -/
def laid_unicode_utf8_first : DataW Unit := Go.Pinned.utf8First

/-- 'typeballlaw24.DefnSames': WHATEVER THE INPUT: true; the input reads as it did. -/
def defnSamesSpec : ChangeSpec := { name := "defnSames", fn := fun _ => fun
  | [d1, d2] => { results := [.lit (.bool true)], args := [d1, d2] }
  | _ => none }
def defnSamesRow : OpenClaim := { program := "ytachkofbmodnnaagreatdoor", sum := "a1feefd97197ea2ced0a997d3be0bf3db5b0558d74c25927db63731d84a1e54f", func := "typeball/typeballlaw24.DefnSames", spec := "defnSames", inPlace := ["internal/abi.NoEscape"], recurses := true, named := ["unicode/utf8.first", "unicode/utf8.acceptRanges"], apart := false, laid := [("unicode/utf8.acceptRanges", laid_unicode_utf8_acceptRanges), ("unicode/utf8.first", laid_unicode_utf8_first)] }
def DefnSamesSaid : Prop := defnSamesRow.holds Tryz.pinned (OpenSpec.ofChange defnSamesSpec)

/-- ITS FALSE NEIGHBOUR: 'it returns false'. Refute it at one input. -/
def defnSamesWrong : ChangeSpec := { name := "defnSames", fn := fun _ => fun
  | [d1, d2] => { results := [.lit (.bool false)], args := [d1, d2] }
  | _ => none }
def DefnSamesWrongFalsely : Prop := defnSamesRow.holds Tryz.pinned (OpenSpec.ofChange defnSamesWrong)

/-- 'typeballlaw24.DefnMakes': WHATEVER THE INPUT: true; the input reads as it did. -/
def defnMakesSpec : ChangeSpec := { name := "defnMakes", fn := fun _ => fun
  | [d1, d2] => { results := [.lit (.bool true)], args := [d1, d2] }
  | _ => none }
def defnMakesRow : OpenClaim := { program := "ytachkofbmodnnaagreatdoor", sum := "a1feefd97197ea2ced0a997d3be0bf3db5b0558d74c25927db63731d84a1e54f", func := "typeball/typeballlaw24.DefnMakes", spec := "defnMakes", inPlace := ["internal/abi.NoEscape"], recurses := true, named := ["unicode/utf8.first", "unicode/utf8.acceptRanges"], apart := false, laid := [("unicode/utf8.acceptRanges", laid_unicode_utf8_acceptRanges), ("unicode/utf8.first", laid_unicode_utf8_first)] }
def DefnMakesSaid : Prop := defnMakesRow.holds Tryz.pinned (OpenSpec.ofChange defnMakesSpec)

/-- ITS FALSE NEIGHBOUR: 'it returns false'. Refute it at one input. -/
def defnMakesWrong : ChangeSpec := { name := "defnMakes", fn := fun _ => fun
  | [d1, d2] => { results := [.lit (.bool false)], args := [d1, d2] }
  | _ => none }
def DefnMakesWrongFalsely : Prop := defnMakesRow.holds Tryz.pinned (OpenSpec.ofChange defnMakesWrong)

/-- 'typeballlaw24.DefnBack': WHATEVER THE INPUT: true; the input reads as it did. -/
def defnBackSpec : ChangeSpec := { name := "defnBack", fn := fun _ => fun
  | [d] => { results := [.lit (.bool true)], args := [d] }
  | _ => none }
def defnBackRow : OpenClaim := { program := "ytachkofbmodnnaagreatdoor", sum := "a1feefd97197ea2ced0a997d3be0bf3db5b0558d74c25927db63731d84a1e54f", func := "typeball/typeballlaw24.DefnBack", spec := "defnBack", inPlace := ["internal/abi.NoEscape"], unfollowed := true, recurses := true, named := ["unicode/utf8.first", "unicode/utf8.acceptRanges"], apart := false, laid := [("unicode/utf8.acceptRanges", laid_unicode_utf8_acceptRanges), ("unicode/utf8.first", laid_unicode_utf8_first)] }
def DefnBackSaid : Prop := defnBackRow.holds Tryz.pinned (OpenSpec.ofChange defnBackSpec)

/-- ITS FALSE NEIGHBOUR: 'it returns false'. Refute it at one input. -/
def defnBackWrong : ChangeSpec := { name := "defnBack", fn := fun _ => fun
  | [d] => { results := [.lit (.bool false)], args := [d] }
  | _ => none }
def DefnBackWrongFalsely : Prop := defnBackRow.holds Tryz.pinned (OpenSpec.ofChange defnBackWrong)

/-- 'typeballlaw24.DefnChars': WHATEVER THE INPUT: true; the input reads as it did. -/
def defnCharsSpec : ChangeSpec := { name := "defnChars", fn := fun _ => fun
  | [d1, d2] => { results := [.lit (.bool true)], args := [d1, d2] }
  | _ => none }
def defnCharsRow : OpenClaim := { program := "ytachkofbmodnnaagreatdoor", sum := "a1feefd97197ea2ced0a997d3be0bf3db5b0558d74c25927db63731d84a1e54f", func := "typeball/typeballlaw24.DefnChars", spec := "defnChars", inPlace := ["internal/abi.NoEscape"], recurses := true, named := ["unicode/utf8.first", "unicode/utf8.acceptRanges"], apart := false, laid := [("unicode/utf8.acceptRanges", laid_unicode_utf8_acceptRanges), ("unicode/utf8.first", laid_unicode_utf8_first)] }
def DefnCharsSaid : Prop := defnCharsRow.holds Tryz.pinned (OpenSpec.ofChange defnCharsSpec)

/-- ITS FALSE NEIGHBOUR: 'it returns false'. Refute it at one input. -/
def defnCharsWrong : ChangeSpec := { name := "defnChars", fn := fun _ => fun
  | [d1, d2] => { results := [.lit (.bool false)], args := [d1, d2] }
  | _ => none }
def DefnCharsWrongFalsely : Prop := defnCharsRow.holds Tryz.pinned (OpenSpec.ofChange defnCharsWrong)

/- THE SECOND FORM. 'bulk': how many values and letters a reading holds, each counted each time it is reached (what is shared counts as often as it is met; a slice's spare places count too). A statement '..UptoSaid' is the law's where the arguments, and the package variables that the reading takes, are together of bulk at most 1048576: NARROWER than '..Said'. Prove '..Said' where nothing that the law and all that it calls make is longer than what came in: it says more and counts as full. Else prove '..UptoSaid'. A law counts once. -/
mutual
def uptoBulk {H : Type} : DataW H → Nat
  | .lit (.string bytes) => bytes.length + 1
  | .lit _ => 1
  | .nil => 1
  | .ptr d => uptoBulk d + 1
  | .slice elems spare => uptoBulkAll elems + uptoBulkAll spare + 1
  | .agg parts => uptoBulkAll parts + 1
  | .iface _ d => uptoBulk d + 1
  | .map entries => uptoBulkEntries entries + 1
  | .held _ => 1
def uptoBulkAll {H : Type} : List (DataW H) → Nat
  | [] => 0
  | d :: r => uptoBulk d + uptoBulkAll r
def uptoBulkEntries {H : Type} : List (Lit × DataW H) → Nat
  | [] => 0
  | x :: r => uptoBulkEntry x + uptoBulkEntries r
def uptoBulkEntry {H : Type} : Lit × DataW H → Nat
  | (.string bytes, d) => bytes.length + uptoBulk d + 1
  | (_, d) => uptoBulk d + 1
 end
def uptoSmall : (H : Type) → List (DataW H) → Bool := fun _ ds => decide (uptoBulkAll ds ≤ 1048576)
def OpenSpec.upto (s : _root_.Go.ChangeSpec) : _root_.Go.OpenSpec := { _root_.Go.OpenSpec.ofChange s with cond := some uptoSmall }

/-- 'typeballlaw24.DefnSames', WHERE WHAT IT READS IS OF BULK AT MOST 1048576: true; the input reads as it did. -/
def defnSamesUptoRow : OpenClaim := { program := "ytachkofbmodnnaagreatdoor", sum := "a1feefd97197ea2ced0a997d3be0bf3db5b0558d74c25927db63731d84a1e54f", func := "typeball/typeballlaw24.DefnSames", spec := "defnSames", inPlace := ["internal/abi.NoEscape"], recurses := true, named := ["unicode/utf8.first", "unicode/utf8.acceptRanges"], apart := false, laid := [("unicode/utf8.acceptRanges", laid_unicode_utf8_acceptRanges), ("unicode/utf8.first", laid_unicode_utf8_first)], narrowed := true }
def DefnSamesUptoSaid : Prop := defnSamesUptoRow.holds Tryz.pinned (OpenSpec.upto defnSamesSpec)

/-- 'typeballlaw24.DefnMakes', WHERE WHAT IT READS IS OF BULK AT MOST 1048576: true; the input reads as it did. -/
def defnMakesUptoRow : OpenClaim := { program := "ytachkofbmodnnaagreatdoor", sum := "a1feefd97197ea2ced0a997d3be0bf3db5b0558d74c25927db63731d84a1e54f", func := "typeball/typeballlaw24.DefnMakes", spec := "defnMakes", inPlace := ["internal/abi.NoEscape"], recurses := true, named := ["unicode/utf8.first", "unicode/utf8.acceptRanges"], apart := false, laid := [("unicode/utf8.acceptRanges", laid_unicode_utf8_acceptRanges), ("unicode/utf8.first", laid_unicode_utf8_first)], narrowed := true }
def DefnMakesUptoSaid : Prop := defnMakesUptoRow.holds Tryz.pinned (OpenSpec.upto defnMakesSpec)

/-- 'typeballlaw24.DefnBack', WHERE WHAT IT READS IS OF BULK AT MOST 1048576: true; the input reads as it did. -/
def defnBackUptoRow : OpenClaim := { program := "ytachkofbmodnnaagreatdoor", sum := "a1feefd97197ea2ced0a997d3be0bf3db5b0558d74c25927db63731d84a1e54f", func := "typeball/typeballlaw24.DefnBack", spec := "defnBack", inPlace := ["internal/abi.NoEscape"], unfollowed := true, recurses := true, named := ["unicode/utf8.first", "unicode/utf8.acceptRanges"], apart := false, laid := [("unicode/utf8.acceptRanges", laid_unicode_utf8_acceptRanges), ("unicode/utf8.first", laid_unicode_utf8_first)], narrowed := true }
def DefnBackUptoSaid : Prop := defnBackUptoRow.holds Tryz.pinned (OpenSpec.upto defnBackSpec)

/-- 'typeballlaw24.DefnChars', WHERE WHAT IT READS IS OF BULK AT MOST 1048576: true; the input reads as it did. -/
def defnCharsUptoRow : OpenClaim := { program := "ytachkofbmodnnaagreatdoor", sum := "a1feefd97197ea2ced0a997d3be0bf3db5b0558d74c25927db63731d84a1e54f", func := "typeball/typeballlaw24.DefnChars", spec := "defnChars", inPlace := ["internal/abi.NoEscape"], recurses := true, named := ["unicode/utf8.first", "unicode/utf8.acceptRanges"], apart := false, laid := [("unicode/utf8.acceptRanges", laid_unicode_utf8_acceptRanges), ("unicode/utf8.first", laid_unicode_utf8_first)], narrowed := true }
def DefnCharsUptoSaid : Prop := defnCharsUptoRow.holds Tryz.pinned (OpenSpec.upto defnCharsSpec)

end Rows
end Go.Proofs.YtachkofbmodnnaaGreatDoor
