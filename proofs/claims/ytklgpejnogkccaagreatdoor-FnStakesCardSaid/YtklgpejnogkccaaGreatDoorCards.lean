/-
  DERIVED. GIVEN WITH THE SEED: THE CARDS: each row of YtklgpejnogkccaaGreatDoorRows.lean that lists a variable, with what it lists TIED to the program's text (the seventh form; the later family's looks); each row that meets fmt, with fmt's text TOLD by the authors' own Lean function (tested against real Go, not proved from fmt's source: count such statements apart). THE CARD IS WHAT COUNTS. Prove the row's statement (the work); the ties are given (YtklgpejnogkccaaGreatDoorTie.lean); close each card by the builder's one call (the guide's Derived/Test/ToyasCard.lean, 'card_holds'). Laid BY PROGRAM, IN A SANDBOX (cutbox-door.mjs). By AI agents, Wed Nov 11 2026. No macro, syntax, notation, axiom, sorry.
-/
import Derived.Test.YtklgpejnogkccaaGreatDoorRows
import GoSem.ClaimSeven
namespace Go.Proofs.YtklgpejnogkccaaGreatDoor
namespace Rows

/-- THE TIED CARD OF 'laws.FnStakes'. -/
def fnStakesCard : Claim7 := { stood := { row := fnStakesRow, standIns := [], harness := (true, "b060838948df9785cfade3d0a5e575180bf01183824b6b325a13c18888eef3a6"), looks := true }, kinds := [], alts := [], laidByText := true, laidKinds := [.data, .data, .data, .data, .sentinel, .sentinel, .pinned], laidTests := true, laidLooks := .later }
def FnStakesCardSaid : Prop := Claim7.holds Tryz.pinned (.plain (OpenSpec.ofChange fnStakesSpec)) fnStakesCard

/-- THE SECOND FORM's CARD OF 'laws.FnStakes'. -/
def fnStakesUptoCard : Claim7 := { stood := { row := fnStakesUptoRow, standIns := [], harness := (true, "b060838948df9785cfade3d0a5e575180bf01183824b6b325a13c18888eef3a6"), looks := true }, kinds := [], alts := [], laidByText := true, laidKinds := [.data, .data, .data, .data, .sentinel, .sentinel, .pinned], laidTests := true, laidLooks := .later }
def FnStakesUptoCardSaid : Prop := Claim7.holds Tryz.pinned (.plain (OpenSpec.upto fnStakesSpec)) fnStakesUptoCard
end Rows
end Go.Proofs.YtklgpejnogkccaaGreatDoor
