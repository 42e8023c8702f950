/-
  DERIVED. GIVEN WITH THE SEED: THE CARDS: each row of YtbkkojdkiimdjaaGreatDoorRows.lean that lists a variable, with what it lists TIED to the program's text (the seventh form; the later family's looks); each row that meets fmt, with fmt's text TOLD by the authors' own Lean function (tested against real Go, not proved from fmt's source: count such statements apart). THE CARD IS WHAT COUNTS. Prove the row's statement (the work); the ties are given (YtbkkojdkiimdjaaGreatDoorTie.lean); close each card by the builder's one call (the guide's Derived/Test/ToyasCard.lean, 'card_holds'). Laid BY PROGRAM, IN A SANDBOX (cutbox-door.mjs). By AI agents, Wed Nov 11 2026. No macro, syntax, notation, axiom, sorry.
-/
import Derived.Test.YtbkkojdkiimdjaaGreatDoorRows
import GoSem.ClaimSeven
namespace Go.Proofs.YtbkkojdkiimdjaaGreatDoor
namespace Rows

/-- THE TIED CARD OF 'laws.FnPastures'. -/
def fnPasturesCard : Claim7 := { stood := { row := fnPasturesRow, standIns := [], harness := (true, "e7718ed8a7d7c37f0244f38b5ffe2704e89affd69236172cb63e9d10cb2691df"), looks := true }, kinds := [], alts := [], laidByText := true, laidKinds := [.data, .data, .data, .data, .sentinel, .sentinel, .pinned], laidTests := true, laidLooks := .later }
def FnPasturesCardSaid : Prop := Claim7.holds Tryz.pinned (.plain (OpenSpec.ofChange fnPasturesSpec)) fnPasturesCard

/-- THE SECOND FORM's CARD OF 'laws.FnPastures'. -/
def fnPasturesUptoCard : Claim7 := { stood := { row := fnPasturesUptoRow, standIns := [], harness := (true, "e7718ed8a7d7c37f0244f38b5ffe2704e89affd69236172cb63e9d10cb2691df"), looks := true }, kinds := [], alts := [], laidByText := true, laidKinds := [.data, .data, .data, .data, .sentinel, .sentinel, .pinned], laidTests := true, laidLooks := .later }
def FnPasturesUptoCardSaid : Prop := Claim7.holds Tryz.pinned (.plain (OpenSpec.upto fnPasturesSpec)) fnPasturesUptoCard
end Rows
end Go.Proofs.YtbkkojdkiimdjaaGreatDoor
