/-
  DERIVED. GIVEN WITH THE SEED: THE CARDS: each row of YthhocepcpikbaaaGreatDoorRows.lean that lists a variable, with what it lists TIED to the program's text (the seventh form; the later family's looks); each row that meets fmt, with fmt's text TOLD by the authors' own Lean function (tested against real Go, not proved from fmt's source: count such statements apart). THE CARD IS WHAT COUNTS. Prove the row's statement (the work); the ties are given (YthhocepcpikbaaaGreatDoorTie.lean); close each card by the builder's one call (the guide's Derived/Test/ToyasCard.lean, 'card_holds'). Laid BY PROGRAM, IN A SANDBOX (cutbox-door.mjs). By AI agents, Wed Nov 11 2026. No macro, syntax, notation, axiom, sorry.
-/
import Derived.Test.YthhocepcpikbaaaGreatDoorRows
import GoSem.ClaimSeven
namespace Go.Proofs.YthhocepcpikbaaaGreatDoor
namespace Rows

/-- THE TIED CARD OF 'treadlelaw22.ObjectMissing'. -/
def objectMissingCard : Claim7 := { stood := { row := objectMissingRow, standIns := [], harness := (true, "2610b047208f9db5c1ab148abe7452b927849454ecaf79ca81a713680dde2bfa"), looks := true }, kinds := [], alts := [], laidByText := true, laidKinds := [.data, .data, .data, .data, .sentinel, .sentinel, .pinned], laidTests := true, laidLooks := .later }
def ObjectMissingCardSaid : Prop := Claim7.holds Tryz.pinned (.plain (OpenSpec.ofChange objectMissingSpec)) objectMissingCard

/-- THE TIED CARD OF 'treadlelaw22.ObjectPoints'. -/
def objectPointsCard : Claim7 := { stood := { row := objectPointsRow, standIns := [], harness := (true, "2610b047208f9db5c1ab148abe7452b927849454ecaf79ca81a713680dde2bfa"), looks := true }, kinds := [], alts := [], laidByText := true, laidKinds := [.data, .data, .data, .data, .sentinel, .sentinel, .pinned], laidTests := true, laidLooks := .later }
def ObjectPointsCardSaid : Prop := Claim7.holds Tryz.pinned (.plain (OpenSpec.ofChange objectPointsSpec)) objectPointsCard

/-- THE TIED CARD OF 'treadlelaw22.ObjectSames'. -/
def objectSamesCard : Claim7 := { stood := { row := objectSamesRow, standIns := [], harness := (true, "2610b047208f9db5c1ab148abe7452b927849454ecaf79ca81a713680dde2bfa"), looks := true }, kinds := [], alts := [], laidByText := true, laidKinds := [.data, .data, .data, .data, .sentinel, .sentinel, .pinned], laidTests := true, laidLooks := .later }
def ObjectSamesCardSaid : Prop := Claim7.holds Tryz.pinned (.plain (OpenSpec.ofChange objectSamesSpec)) objectSamesCard

/-- THE SECOND FORM's CARD OF 'treadlelaw22.ObjectMissing'. -/
def objectMissingUptoCard : Claim7 := { stood := { row := objectMissingUptoRow, standIns := [], harness := (true, "2610b047208f9db5c1ab148abe7452b927849454ecaf79ca81a713680dde2bfa"), looks := true }, kinds := [], alts := [], laidByText := true, laidKinds := [.data, .data, .data, .data, .sentinel, .sentinel, .pinned], laidTests := true, laidLooks := .later }
def ObjectMissingUptoCardSaid : Prop := Claim7.holds Tryz.pinned (.plain (OpenSpec.upto objectMissingSpec)) objectMissingUptoCard

/-- THE SECOND FORM's CARD OF 'treadlelaw22.ObjectPoints'. -/
def objectPointsUptoCard : Claim7 := { stood := { row := objectPointsUptoRow, standIns := [], harness := (true, "2610b047208f9db5c1ab148abe7452b927849454ecaf79ca81a713680dde2bfa"), looks := true }, kinds := [], alts := [], laidByText := true, laidKinds := [.data, .data, .data, .data, .sentinel, .sentinel, .pinned], laidTests := true, laidLooks := .later }
def ObjectPointsUptoCardSaid : Prop := Claim7.holds Tryz.pinned (.plain (OpenSpec.upto objectPointsSpec)) objectPointsUptoCard

/-- THE SECOND FORM's CARD OF 'treadlelaw22.ObjectSames'. -/
def objectSamesUptoCard : Claim7 := { stood := { row := objectSamesUptoRow, standIns := [], harness := (true, "2610b047208f9db5c1ab148abe7452b927849454ecaf79ca81a713680dde2bfa"), looks := true }, kinds := [], alts := [], laidByText := true, laidKinds := [.data, .data, .data, .data, .sentinel, .sentinel, .pinned], laidTests := true, laidLooks := .later }
def ObjectSamesUptoCardSaid : Prop := Claim7.holds Tryz.pinned (.plain (OpenSpec.upto objectSamesSpec)) objectSamesUptoCard
end Rows
end Go.Proofs.YthhocepcpikbaaaGreatDoor
