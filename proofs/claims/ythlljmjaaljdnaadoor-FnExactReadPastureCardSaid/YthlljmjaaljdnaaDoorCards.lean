/-
  DERIVED. GIVEN WITH THE SEED: THE CARDS: each row of YthlljmjaaljdnaaDoorRows.lean that lists a variable, with what it lists TIED to the program's text (the seventh form; the later family's looks); each row that meets fmt, with fmt's text TOLD by the authors' own Lean function (tested against real Go, not proved from fmt's source: count such statements apart). THE CARD IS WHAT COUNTS. Prove the row's statement (the work); the ties are given (YthlljmjaaljdnaaDoorTie.lean); close each card by the builder's one call (the guide's Derived/Test/ToyasCard.lean, 'card_holds'). Laid BY PROGRAM, IN A SANDBOX (cutbox-door.mjs). By AI agents, Wed Nov 11 2026. No macro, syntax, notation, axiom, sorry.
-/
import Derived.Test.YthlljmjaaljdnaaDoorRows
import GoSem.ClaimSeven
namespace Go.Proofs.YthlljmjaaljdnaaDoor
namespace Rows

/-- THE TIED CARD OF 'laws.FnExactReadPasture'. -/
def fnExactReadPastureCard : Claim7 := { stood := { row := fnExactReadPastureRow, standIns := [], harness := (true, "3cf6411b7ce73c628972be92f44f524a1a4b83d98a42fb3180841cdf63e5477a"), looks := true }, kinds := [], alts := [], laidByText := true, laidKinds := [.data, .data, .data, .data, .sentinel, .sentinel, .pinned], laidTests := true, laidLooks := .later }
def FnExactReadPastureCardSaid : Prop := Claim7.holds Tryd.pinned (.plain (OpenSpec.ofChange fnExactReadPastureSpec)) fnExactReadPastureCard

/-- THE SECOND FORM's CARD OF 'laws.FnExactReadPasture'. -/
def fnExactReadPastureUptoCard : Claim7 := { stood := { row := fnExactReadPastureUptoRow, standIns := [], harness := (true, "3cf6411b7ce73c628972be92f44f524a1a4b83d98a42fb3180841cdf63e5477a"), looks := true }, kinds := [], alts := [], laidByText := true, laidKinds := [.data, .data, .data, .data, .sentinel, .sentinel, .pinned], laidTests := true, laidLooks := .later }
def FnExactReadPastureUptoCardSaid : Prop := Claim7.holds Tryd.pinned (.plain (OpenSpec.upto fnExactReadPastureSpec)) fnExactReadPastureUptoCard
end Rows
end Go.Proofs.YthlljmjaaljdnaaDoor
