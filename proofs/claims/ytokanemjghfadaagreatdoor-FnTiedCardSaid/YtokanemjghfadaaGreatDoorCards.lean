/-
  DERIVED. GIVEN WITH THE SEED: THE CARDS: each row of YtokanemjghfadaaGreatDoorRows.lean that lists a variable, with what it lists TIED to the program's text (the seventh form; the later family's looks); each row that meets fmt, with fmt's text TOLD by the authors' own Lean function (tested against real Go, not proved from fmt's source: count such statements apart). THE CARD IS WHAT COUNTS. Prove the row's statement (the work); the ties are given (YtokanemjghfadaaGreatDoorTie.lean); close each card by the builder's one call (the guide's Derived/Test/ToyasCard.lean, 'card_holds'). Laid BY PROGRAM, IN A SANDBOX (cutbox-door.mjs). By AI agents, Wed Nov 11 2026. No macro, syntax, notation, axiom, sorry.
-/
import Derived.Test.YtokanemjghfadaaGreatDoorRows
import GoSem.ClaimSeven
namespace Go.Proofs.YtokanemjghfadaaGreatDoor
namespace Rows

/-- THE TIED CARD OF 'laws.FnTied'. -/
def fnTiedCard : Claim7 := { stood := { row := fnTiedRow, standIns := [], harness := (true, "0f8028472ef07a2e53d4c2a6537a570332b6155a6b3b8d1b9c203d9e1873f636"), looks := true }, kinds := [], alts := [], laidByText := true, laidKinds := [.data, .data, .data, .data, .sentinel, .sentinel, .pinned], laidTests := true, laidLooks := .later }
def FnTiedCardSaid : Prop := Claim7.holds Tryz.pinned (.plain (OpenSpec.ofChange fnTiedSpec)) fnTiedCard

/-- THE SECOND FORM's CARD OF 'laws.FnTied'. -/
def fnTiedUptoCard : Claim7 := { stood := { row := fnTiedUptoRow, standIns := [], harness := (true, "0f8028472ef07a2e53d4c2a6537a570332b6155a6b3b8d1b9c203d9e1873f636"), looks := true }, kinds := [], alts := [], laidByText := true, laidKinds := [.data, .data, .data, .data, .sentinel, .sentinel, .pinned], laidTests := true, laidLooks := .later }
def FnTiedUptoCardSaid : Prop := Claim7.holds Tryz.pinned (.plain (OpenSpec.upto fnTiedSpec)) fnTiedUptoCard
end Rows
end Go.Proofs.YtokanemjghfadaaGreatDoor
