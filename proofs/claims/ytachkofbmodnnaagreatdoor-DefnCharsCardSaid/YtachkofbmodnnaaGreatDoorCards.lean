/-
  DERIVED. GIVEN WITH THE SEED: THE CARDS: each row of YtachkofbmodnnaaGreatDoorRows.lean that lists a variable, with what it lists TIED to the program's text (the seventh form; the later family's looks); each row that meets fmt, with fmt's text TOLD by the authors' own Lean function (tested against real Go, not proved from fmt's source: count such statements apart). THE CARD IS WHAT COUNTS. Prove the row's statement (the work); the ties are given (YtachkofbmodnnaaGreatDoorTie.lean); close each card by the builder's one call (the guide's Derived/Test/ToyasCard.lean, 'card_holds'). Laid BY PROGRAM, IN A SANDBOX (cutbox-door.mjs). By AI agents, Wed Nov 11 2026. No macro, syntax, notation, axiom, sorry.
-/
import Derived.Test.YtachkofbmodnnaaGreatDoorRows
import GoSem.ClaimSeven
namespace Go.Proofs.YtachkofbmodnnaaGreatDoor
namespace Rows

/-- THE TIED CARD OF 'typeballlaw24.DefnSames'. -/
def defnSamesCard : Claim7 := { stood := { row := defnSamesRow, standIns := [], harness := (true, "949c9c24945d1264c05fc05113c82407f0a8f83f4e7b53a7ec86a616d10e069d"), looks := false }, kinds := [], alts := [], laidByText := true, laidKinds := [.data, .pinned], laidTests := true, laidLooks := .later }
def DefnSamesCardSaid : Prop := Claim7.holds Tryz.pinned (.plain (OpenSpec.ofChange defnSamesSpec)) defnSamesCard

/-- THE TIED CARD OF 'typeballlaw24.DefnMakes'. -/
def defnMakesCard : Claim7 := { stood := { row := defnMakesRow, standIns := [], harness := (true, "949c9c24945d1264c05fc05113c82407f0a8f83f4e7b53a7ec86a616d10e069d"), looks := false }, kinds := [], alts := [], laidByText := true, laidKinds := [.data, .pinned], laidTests := true, laidLooks := .later }
def DefnMakesCardSaid : Prop := Claim7.holds Tryz.pinned (.plain (OpenSpec.ofChange defnMakesSpec)) defnMakesCard

/-- THE TIED CARD OF 'typeballlaw24.DefnBack'. -/
def defnBackCard : Claim7 := { stood := { row := defnBackRow, standIns := [], harness := (true, "949c9c24945d1264c05fc05113c82407f0a8f83f4e7b53a7ec86a616d10e069d"), looks := false }, kinds := [], alts := [], laidByText := true, laidKinds := [.data, .pinned], laidTests := true, laidLooks := .later }
def DefnBackCardSaid : Prop := Claim7.holds Tryz.pinned (.plain (OpenSpec.ofChange defnBackSpec)) defnBackCard

/-- THE TIED CARD OF 'typeballlaw24.DefnChars'. -/
def defnCharsCard : Claim7 := { stood := { row := defnCharsRow, standIns := [], harness := (true, "949c9c24945d1264c05fc05113c82407f0a8f83f4e7b53a7ec86a616d10e069d"), looks := false }, kinds := [], alts := [], laidByText := true, laidKinds := [.data, .pinned], laidTests := true, laidLooks := .later }
def DefnCharsCardSaid : Prop := Claim7.holds Tryz.pinned (.plain (OpenSpec.ofChange defnCharsSpec)) defnCharsCard

/-- THE SECOND FORM's CARD OF 'typeballlaw24.DefnSames'. -/
def defnSamesUptoCard : Claim7 := { stood := { row := defnSamesUptoRow, standIns := [], harness := (true, "949c9c24945d1264c05fc05113c82407f0a8f83f4e7b53a7ec86a616d10e069d"), looks := false }, kinds := [], alts := [], laidByText := true, laidKinds := [.data, .pinned], laidTests := true, laidLooks := .later }
def DefnSamesUptoCardSaid : Prop := Claim7.holds Tryz.pinned (.plain (OpenSpec.upto defnSamesSpec)) defnSamesUptoCard

/-- THE SECOND FORM's CARD OF 'typeballlaw24.DefnMakes'. -/
def defnMakesUptoCard : Claim7 := { stood := { row := defnMakesUptoRow, standIns := [], harness := (true, "949c9c24945d1264c05fc05113c82407f0a8f83f4e7b53a7ec86a616d10e069d"), looks := false }, kinds := [], alts := [], laidByText := true, laidKinds := [.data, .pinned], laidTests := true, laidLooks := .later }
def DefnMakesUptoCardSaid : Prop := Claim7.holds Tryz.pinned (.plain (OpenSpec.upto defnMakesSpec)) defnMakesUptoCard

/-- THE SECOND FORM's CARD OF 'typeballlaw24.DefnBack'. -/
def defnBackUptoCard : Claim7 := { stood := { row := defnBackUptoRow, standIns := [], harness := (true, "949c9c24945d1264c05fc05113c82407f0a8f83f4e7b53a7ec86a616d10e069d"), looks := false }, kinds := [], alts := [], laidByText := true, laidKinds := [.data, .pinned], laidTests := true, laidLooks := .later }
def DefnBackUptoCardSaid : Prop := Claim7.holds Tryz.pinned (.plain (OpenSpec.upto defnBackSpec)) defnBackUptoCard

/-- THE SECOND FORM's CARD OF 'typeballlaw24.DefnChars'. -/
def defnCharsUptoCard : Claim7 := { stood := { row := defnCharsUptoRow, standIns := [], harness := (true, "949c9c24945d1264c05fc05113c82407f0a8f83f4e7b53a7ec86a616d10e069d"), looks := false }, kinds := [], alts := [], laidByText := true, laidKinds := [.data, .pinned], laidTests := true, laidLooks := .later }
def DefnCharsUptoCardSaid : Prop := Claim7.holds Tryz.pinned (.plain (OpenSpec.upto defnCharsSpec)) defnCharsUptoCard
end Rows
end Go.Proofs.YtachkofbmodnnaaGreatDoor
