/-
  No cell of these rows narrows 'for every input' (looked for: loops, veiled, ifaces, maps, wideKeys, modest, calm, conditions, laid).
  DERIVED. THE GIVEN ROWS OF THIS SEAT. 5 by the template 'for every input the law returns true; each argument reads behind the call as it read before'; 0 by the template 'total and deterministic' (their statements: YtjamnjbfcecnnaaTotals.lean).
  GIVEN WITH THE SEED: the statements are not yours to turn. If you find one false, say at which input.
  Laid BY PROGRAM, IN A SANDBOX (cutbox-rows.mjs): the forced cells as the released guide's own fill.sh prints them over the translation cc5548d714f2ca58… (all of the seat's roots in one cut). By AI agents, Wed Nov 11 2026. No macro, syntax, notation, axiom, sorry.
-/
import Derived.Test.YtjamnjbfcecnnaaChecked
import GoSem.Claim
import GoSem.ClaimJoined
import GoSem.ClaimMapViews
import Derived.JoinedTies
import Derived.KernelRfl
namespace Go.Proofs.Ytjamnjbfcecnnaa
/- THE CELL 'sum', in the pinned program and in every row, IS THE sha256 OF THE DUMP (.gsa) THAT YtjamnjbfcecnnaaProg.lean LOADS. Nothing in Lean hashes anything: it is a label: what it is worth is what the hold of that sum in a sandbox is worth. -/
noncomputable def Try.pinned : Pinned := { name := "ytjamnjbfcecnnaa", sum := "cc5548d714f2ca585095613c775291f7708cbfd495269b6cc78a0c29d0456b4d", checked := Try.checked }
namespace Rows
def none {H : Type} : Left H := { results := [], args := [] }

/-- 'typeballlaw33.ReportLines': WHATEVER THE INPUT: true; the input reads as it did. -/
def reportLinesSpec : ChangeSpec := { name := "reportLines", fn := fun _ => fun
  | [d1, d2, d3, d4] => { results := [.lit (.bool true)], args := [d1, d2, d3, d4] }
  | _ => none }
def reportLinesRow : OpenClaim := { program := "ytjamnjbfcecnnaa", sum := "cc5548d714f2ca585095613c775291f7708cbfd495269b6cc78a0c29d0456b4d", func := "typeball/typeballlaw33.ReportLines", spec := "reportLines", recurses := true, apart := false }
def ReportLinesSaid : Prop := reportLinesRow.holds Try.pinned (OpenSpec.ofChange reportLinesSpec)

/-- ITS FALSE NEIGHBOUR: 'it returns false'. Refute it at one input. -/
def reportLinesWrong : ChangeSpec := { name := "reportLines", fn := fun _ => fun
  | [d1, d2, d3, d4] => { results := [.lit (.bool false)], args := [d1, d2, d3, d4] }
  | _ => none }
def ReportLinesWrongFalsely : Prop := reportLinesRow.holds Try.pinned (OpenSpec.ofChange reportLinesWrong)

/-- 'typeballlaw33.ReportNumbers': WHATEVER THE INPUT: true; the input reads as it did. -/
def reportNumbersSpec : ChangeSpec := { name := "reportNumbers", fn := fun _ => fun
  | [d] => { results := [.lit (.bool true)], args := [d] }
  | _ => none }
def reportNumbersRow : OpenClaim := { program := "ytjamnjbfcecnnaa", sum := "cc5548d714f2ca585095613c775291f7708cbfd495269b6cc78a0c29d0456b4d", func := "typeball/typeballlaw33.ReportNumbers", spec := "reportNumbers", recurses := true, apart := false }
def ReportNumbersSaid : Prop := reportNumbersRow.holds Try.pinned (OpenSpec.ofChange reportNumbersSpec)

/-- ITS FALSE NEIGHBOUR: 'it returns false'. Refute it at one input. -/
def reportNumbersWrong : ChangeSpec := { name := "reportNumbers", fn := fun _ => fun
  | [d] => { results := [.lit (.bool false)], args := [d] }
  | _ => none }
def ReportNumbersWrongFalsely : Prop := reportNumbersRow.holds Try.pinned (OpenSpec.ofChange reportNumbersWrong)

/-- 'typeballlaw33.ReportNames': WHATEVER THE INPUT: true; the input reads as it did. -/
def reportNamesSpec : ChangeSpec := { name := "reportNames", fn := fun _ => fun
  | [d] => { results := [.lit (.bool true)], args := [d] }
  | _ => none }
def reportNamesRow : OpenClaim := { program := "ytjamnjbfcecnnaa", sum := "cc5548d714f2ca585095613c775291f7708cbfd495269b6cc78a0c29d0456b4d", func := "typeball/typeballlaw33.ReportNames", spec := "reportNames", recurses := true, apart := false }
def ReportNamesSaid : Prop := reportNamesRow.holds Try.pinned (OpenSpec.ofChange reportNamesSpec)

/-- ITS FALSE NEIGHBOUR: 'it returns false'. Refute it at one input. -/
def reportNamesWrong : ChangeSpec := { name := "reportNames", fn := fun _ => fun
  | [d] => { results := [.lit (.bool false)], args := [d] }
  | _ => none }
def ReportNamesWrongFalsely : Prop := reportNamesRow.holds Try.pinned (OpenSpec.ofChange reportNamesWrong)

/-- 'typeballlaw29.LibPlays': WHATEVER THE INPUT: true; the input reads as it did. -/
def libPlaysSpec : ChangeSpec := { name := "libPlays", fn := fun _ => fun
  | [d] => { results := [.lit (.bool true)], args := [d] }
  | _ => none }
def libPlaysRow : OpenClaim := { program := "ytjamnjbfcecnnaa", sum := "cc5548d714f2ca585095613c775291f7708cbfd495269b6cc78a0c29d0456b4d", func := "typeball/typeballlaw29.LibPlays", spec := "libPlays", unfollowed := true, recurses := true, apart := false }
def LibPlaysSaid : Prop := libPlaysRow.holds Try.pinned (OpenSpec.ofChange libPlaysSpec)

/-- ITS FALSE NEIGHBOUR: 'it returns false'. Refute it at one input. -/
def libPlaysWrong : ChangeSpec := { name := "libPlays", fn := fun _ => fun
  | [d] => { results := [.lit (.bool false)], args := [d] }
  | _ => none }
def LibPlaysWrongFalsely : Prop := libPlaysRow.holds Try.pinned (OpenSpec.ofChange libPlaysWrong)

/-- 'typeballlaw29.LibNobody': WHATEVER THE INPUT: true; the input reads as it did. -/
def libNobodySpec : ChangeSpec := { name := "libNobody", fn := fun _ => fun
  | [d] => { results := [.lit (.bool true)], args := [d] }
  | _ => none }
def libNobodyRow : OpenClaim := { program := "ytjamnjbfcecnnaa", sum := "cc5548d714f2ca585095613c775291f7708cbfd495269b6cc78a0c29d0456b4d", func := "typeball/typeballlaw29.LibNobody", spec := "libNobody", unfollowed := true, recurses := true, apart := false }
def LibNobodySaid : Prop := libNobodyRow.holds Try.pinned (OpenSpec.ofChange libNobodySpec)

/-- ITS FALSE NEIGHBOUR: 'it returns false'. Refute it at one input. -/
def libNobodyWrong : ChangeSpec := { name := "libNobody", fn := fun _ => fun
  | [d] => { results := [.lit (.bool false)], args := [d] }
  | _ => none }
def LibNobodyWrongFalsely : Prop := libNobodyRow.holds Try.pinned (OpenSpec.ofChange libNobodyWrong)

/- THE SECOND FORM. 'bulk': how many values and letters a reading holds, each counted each time it is reached (what is shared counts as often as it is met; a slice's spare places count too). A statement '..UptoSaid' is the law's where the arguments, and the package variables that the reading takes, are together of bulk at most 1048576: NARROWER than '..Said'. Prove '..Said' where nothing that the law and all that it calls make is longer than what came in: it says more and counts as full. Else prove '..UptoSaid'. A law counts once. -/
mutual
def uptoBulk {H : Type} : DataW H → Nat
  | .lit (.string bytes) => bytes.length + 1
  | .lit _ => 1
  | .nil => 1
  | .ptr d => uptoBulk d + 1
  | .slice elems spare => uptoBulkAll elems + uptoBulkAll spare + 1
  | .agg parts => uptoBulkAll parts + 1
  | .iface _ d => uptoBulk d + 1
  | .map entries => uptoBulkEntries entries + 1
  | .held _ => 1
def uptoBulkAll {H : Type} : List (DataW H) → Nat
  | [] => 0
  | d :: r => uptoBulk d + uptoBulkAll r
def uptoBulkEntries {H : Type} : List (Lit × DataW H) → Nat
  | [] => 0
  | x :: r => uptoBulkEntry x + uptoBulkEntries r
def uptoBulkEntry {H : Type} : Lit × DataW H → Nat
  | (.string bytes, d) => bytes.length + uptoBulk d + 1
  | (_, d) => uptoBulk d + 1
 end
def uptoSmall : (H : Type) → List (DataW H) → Bool := fun _ ds => decide (uptoBulkAll ds ≤ 1048576)
def OpenSpec.upto (s : _root_.Go.ChangeSpec) : _root_.Go.OpenSpec := { _root_.Go.OpenSpec.ofChange s with cond := some uptoSmall }

/-- 'typeballlaw33.ReportLines', WHERE WHAT IT READS IS OF BULK AT MOST 1048576: true; the input reads as it did. -/
def reportLinesUptoRow : OpenClaim := { program := "ytjamnjbfcecnnaa", sum := "cc5548d714f2ca585095613c775291f7708cbfd495269b6cc78a0c29d0456b4d", func := "typeball/typeballlaw33.ReportLines", spec := "reportLines", recurses := true, apart := false, narrowed := true }
def ReportLinesUptoSaid : Prop := reportLinesUptoRow.holds Try.pinned (OpenSpec.upto reportLinesSpec)

/-- 'typeballlaw33.ReportNumbers', WHERE WHAT IT READS IS OF BULK AT MOST 1048576: true; the input reads as it did. -/
def reportNumbersUptoRow : OpenClaim := { program := "ytjamnjbfcecnnaa", sum := "cc5548d714f2ca585095613c775291f7708cbfd495269b6cc78a0c29d0456b4d", func := "typeball/typeballlaw33.ReportNumbers", spec := "reportNumbers", recurses := true, apart := false, narrowed := true }
def ReportNumbersUptoSaid : Prop := reportNumbersUptoRow.holds Try.pinned (OpenSpec.upto reportNumbersSpec)

/-- 'typeballlaw33.ReportNames', WHERE WHAT IT READS IS OF BULK AT MOST 1048576: true; the input reads as it did. -/
def reportNamesUptoRow : OpenClaim := { program := "ytjamnjbfcecnnaa", sum := "cc5548d714f2ca585095613c775291f7708cbfd495269b6cc78a0c29d0456b4d", func := "typeball/typeballlaw33.ReportNames", spec := "reportNames", recurses := true, apart := false, narrowed := true }
def ReportNamesUptoSaid : Prop := reportNamesUptoRow.holds Try.pinned (OpenSpec.upto reportNamesSpec)

/-- 'typeballlaw29.LibPlays', WHERE WHAT IT READS IS OF BULK AT MOST 1048576: true; the input reads as it did. -/
def libPlaysUptoRow : OpenClaim := { program := "ytjamnjbfcecnnaa", sum := "cc5548d714f2ca585095613c775291f7708cbfd495269b6cc78a0c29d0456b4d", func := "typeball/typeballlaw29.LibPlays", spec := "libPlays", unfollowed := true, recurses := true, apart := false, narrowed := true }
def LibPlaysUptoSaid : Prop := libPlaysUptoRow.holds Try.pinned (OpenSpec.upto libPlaysSpec)

/-- 'typeballlaw29.LibNobody', WHERE WHAT IT READS IS OF BULK AT MOST 1048576: true; the input reads as it did. -/
def libNobodyUptoRow : OpenClaim := { program := "ytjamnjbfcecnnaa", sum := "cc5548d714f2ca585095613c775291f7708cbfd495269b6cc78a0c29d0456b4d", func := "typeball/typeballlaw29.LibNobody", spec := "libNobody", unfollowed := true, recurses := true, apart := false, narrowed := true }
def LibNobodyUptoSaid : Prop := libNobodyUptoRow.holds Try.pinned (OpenSpec.upto libNobodySpec)

end Rows
end Go.Proofs.Ytjamnjbfcecnnaa
