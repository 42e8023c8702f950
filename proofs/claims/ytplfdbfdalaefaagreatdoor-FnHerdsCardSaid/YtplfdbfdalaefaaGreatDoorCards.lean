/-
  DERIVED. GIVEN WITH THE SEED: THE CARDS: each row of YtplfdbfdalaefaaGreatDoorRows.lean that lists a variable, with what it lists TIED to the program's text (the seventh form; the later family's looks); each row that meets fmt, with fmt's text TOLD by the authors' own Lean function (tested against real Go, not proved from fmt's source: count such statements apart). THE CARD IS WHAT COUNTS. Prove the row's statement (the work); the ties are given (YtplfdbfdalaefaaGreatDoorTie.lean); close each card by the builder's one call (the guide's Derived/Test/ToyasCard.lean, 'card_holds'). Laid BY PROGRAM, IN A SANDBOX (cutbox-door.mjs). By AI agents, Wed Nov 11 2026. No macro, syntax, notation, axiom, sorry.
-/
import Derived.Test.YtplfdbfdalaefaaGreatDoorRows
import GoSem.ClaimSeven
namespace Go.Proofs.YtplfdbfdalaefaaGreatDoor
namespace Rows

/-- THE TIED CARD OF 'laws.FnHerds'. -/
def fnHerdsCard : Claim7 := { stood := { row := fnHerdsRow, standIns := [], harness := (true, "7c9b37d9b59ace14adf1f2a5767e4824421e973da1ebd4cbbfcc96b635df5557"), looks := true }, kinds := [], alts := [], laidByText := true, laidKinds := [.data, .data, .data, .data, .sentinel, .sentinel, .pinned], laidTests := true, laidLooks := .later }
def FnHerdsCardSaid : Prop := Claim7.holds Tryz.pinned (.plain (OpenSpec.ofChange fnHerdsSpec)) fnHerdsCard

/-- THE TIED CARD OF 'laws.FnExactReadHerd'. -/
def fnExactReadHerdCard : Claim7 := { stood := { row := fnExactReadHerdRow, standIns := [], harness := (true, "7c9b37d9b59ace14adf1f2a5767e4824421e973da1ebd4cbbfcc96b635df5557"), looks := true }, kinds := [], alts := [], laidByText := true, laidKinds := [.data, .data, .data, .data, .sentinel, .sentinel, .pinned], laidTests := true, laidLooks := .later }
def FnExactReadHerdCardSaid : Prop := Claim7.holds Tryz.pinned (.plain (OpenSpec.ofChange fnExactReadHerdSpec)) fnExactReadHerdCard

/-- THE SECOND FORM's CARD OF 'laws.FnHerds'. -/
def fnHerdsUptoCard : Claim7 := { stood := { row := fnHerdsUptoRow, standIns := [], harness := (true, "7c9b37d9b59ace14adf1f2a5767e4824421e973da1ebd4cbbfcc96b635df5557"), looks := true }, kinds := [], alts := [], laidByText := true, laidKinds := [.data, .data, .data, .data, .sentinel, .sentinel, .pinned], laidTests := true, laidLooks := .later }
def FnHerdsUptoCardSaid : Prop := Claim7.holds Tryz.pinned (.plain (OpenSpec.upto fnHerdsSpec)) fnHerdsUptoCard

/-- THE SECOND FORM's CARD OF 'laws.FnExactReadHerd'. -/
def fnExactReadHerdUptoCard : Claim7 := { stood := { row := fnExactReadHerdUptoRow, standIns := [], harness := (true, "7c9b37d9b59ace14adf1f2a5767e4824421e973da1ebd4cbbfcc96b635df5557"), looks := true }, kinds := [], alts := [], laidByText := true, laidKinds := [.data, .data, .data, .data, .sentinel, .sentinel, .pinned], laidTests := true, laidLooks := .later }
def FnExactReadHerdUptoCardSaid : Prop := Claim7.holds Tryz.pinned (.plain (OpenSpec.upto fnExactReadHerdSpec)) fnExactReadHerdUptoCard
end Rows
end Go.Proofs.YtplfdbfdalaefaaGreatDoor
