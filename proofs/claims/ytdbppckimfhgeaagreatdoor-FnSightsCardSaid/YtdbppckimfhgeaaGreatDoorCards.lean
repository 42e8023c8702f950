/-
  DERIVED. GIVEN WITH THE SEED: THE CARDS: each row of YtdbppckimfhgeaaGreatDoorRows.lean that lists a variable, with what it lists TIED to the program's text (the seventh form; the later family's looks); each row that meets fmt, with fmt's text TOLD by the authors' own Lean function (tested against real Go, not proved from fmt's source: count such statements apart). THE CARD IS WHAT COUNTS. Prove the row's statement (the work); the ties are given (YtdbppckimfhgeaaGreatDoorTie.lean); close each card by the builder's one call (the guide's Derived/Test/ToyasCard.lean, 'card_holds'). Laid BY PROGRAM, IN A SANDBOX (cutbox-door.mjs). By AI agents, Wed Nov 11 2026. No macro, syntax, notation, axiom, sorry.
-/
import Derived.Test.YtdbppckimfhgeaaGreatDoorRows
import GoSem.ClaimSeven
namespace Go.Proofs.YtdbppckimfhgeaaGreatDoor
namespace Rows

/-- THE TIED CARD OF 'laws.FnSights'. -/
def fnSightsCard : Claim7 := { stood := { row := fnSightsRow, standIns := [], harness := (true, "224d4a4c37564fa4498a2c1fce4f123aef98be018d3d9f4a91a04726e33b0561"), looks := true }, kinds := [], alts := [], laidByText := true, laidKinds := [.data, .data, .data, .data, .sentinel, .sentinel, .pinned], laidTests := true, laidLooks := .later }
def FnSightsCardSaid : Prop := Claim7.holds Tryz.pinned (.plain (OpenSpec.ofChange fnSightsSpec)) fnSightsCard

/-- THE SECOND FORM's CARD OF 'laws.FnSights'. -/
def fnSightsUptoCard : Claim7 := { stood := { row := fnSightsUptoRow, standIns := [], harness := (true, "224d4a4c37564fa4498a2c1fce4f123aef98be018d3d9f4a91a04726e33b0561"), looks := true }, kinds := [], alts := [], laidByText := true, laidKinds := [.data, .data, .data, .data, .sentinel, .sentinel, .pinned], laidTests := true, laidLooks := .later }
def FnSightsUptoCardSaid : Prop := Claim7.holds Tryz.pinned (.plain (OpenSpec.upto fnSightsSpec)) fnSightsUptoCard
end Rows
end Go.Proofs.YtdbppckimfhgeaaGreatDoor
