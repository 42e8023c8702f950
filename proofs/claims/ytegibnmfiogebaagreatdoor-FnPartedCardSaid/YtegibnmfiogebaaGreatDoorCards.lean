/-
  DERIVED. GIVEN WITH THE SEED: THE CARDS: each row of YtegibnmfiogebaaGreatDoorRows.lean that lists a variable, with what it lists TIED to the program's text (the seventh form; the later family's looks); each row that meets fmt, with fmt's text TOLD by the authors' own Lean function (tested against real Go, not proved from fmt's source: count such statements apart). THE CARD IS WHAT COUNTS. Prove the row's statement (the work); the ties are given (YtegibnmfiogebaaGreatDoorTie.lean); close each card by the builder's one call (the guide's Derived/Test/ToyasCard.lean, 'card_holds'). Laid BY PROGRAM, IN A SANDBOX (cutbox-door.mjs). By AI agents, Wed Nov 11 2026. No macro, syntax, notation, axiom, sorry.
-/
import Derived.Test.YtegibnmfiogebaaGreatDoorRows
import GoSem.ClaimSeven
namespace Go.Proofs.YtegibnmfiogebaaGreatDoor
namespace Rows

/-- THE TIED CARD OF 'laws.FnParted'. -/
def fnPartedCard : Claim7 := { stood := { row := fnPartedRow, standIns := [], harness := (true, "1329392b2aea0b83477bc4432200cd109406fa5fcb6447fc1a32f41bdabdbf6d"), looks := true }, kinds := [], alts := [], laidByText := true, laidKinds := [.data, .data, .data, .data, .sentinel, .sentinel, .pinned], laidTests := true, laidLooks := .later }
def FnPartedCardSaid : Prop := Claim7.holds Tryz.pinned (.plain (OpenSpec.ofChange fnPartedSpec)) fnPartedCard

/-- THE SECOND FORM's CARD OF 'laws.FnParted'. -/
def fnPartedUptoCard : Claim7 := { stood := { row := fnPartedUptoRow, standIns := [], harness := (true, "1329392b2aea0b83477bc4432200cd109406fa5fcb6447fc1a32f41bdabdbf6d"), looks := true }, kinds := [], alts := [], laidByText := true, laidKinds := [.data, .data, .data, .data, .sentinel, .sentinel, .pinned], laidTests := true, laidLooks := .later }
def FnPartedUptoCardSaid : Prop := Claim7.holds Tryz.pinned (.plain (OpenSpec.upto fnPartedSpec)) fnPartedUptoCard
end Rows
end Go.Proofs.YtegibnmfiogebaaGreatDoor
