/-
  DERIVED. GIVEN WITH THE SEED: THE CARDS: each row of YtggfhhmfhhkdpaaDoorRows.lean that lists a variable, with what it lists TIED to the program's text (the seventh form; the later family's looks); each row that meets fmt, with fmt's text TOLD by the authors' own Lean function (tested against real Go, not proved from fmt's source: count such statements apart). THE CARD IS WHAT COUNTS. Prove the row's statement (the work); the ties are given (YtggfhhmfhhkdpaaDoorTie.lean); close each card by the builder's one call (the guide's Derived/Test/ToyasCard.lean, 'card_holds'). Laid BY PROGRAM, IN A SANDBOX (cutbox-door.mjs). By AI agents, Wed Nov 11 2026. No macro, syntax, notation, axiom, sorry.
-/
import Derived.Test.YtggfhhmfhhkdpaaDoorRows
import GoSem.ClaimSeven
namespace Go.Proofs.YtggfhhmfhhkdpaaDoor
namespace Rows

/-- THE TIED CARD OF 'laws.FnExactSightsText'. -/
def fnExactSightsTextCard : Claim7 := { stood := { row := fnExactSightsTextRow, standIns := [], harness := (true, "84fa9847aeb140702a04c855ab65cc033d2c77de07fae9a0ef0ed4ba99332725"), looks := true }, kinds := [], alts := [], laidByText := true, laidKinds := [.data, .data, .data], laidTests := true, laidLooks := .later }
def FnExactSightsTextCardSaid : Prop := Claim7.holds Tryd.pinned (.plain (OpenSpec.ofChange fnExactSightsTextSpec)) fnExactSightsTextCard

/-- THE TIED CARD OF 'laws.FnExactReadSights'. -/
def fnExactReadSightsCard : Claim7 := { stood := { row := fnExactReadSightsRow, standIns := [], harness := (true, "84fa9847aeb140702a04c855ab65cc033d2c77de07fae9a0ef0ed4ba99332725"), looks := true }, kinds := [], alts := [], laidByText := true, laidKinds := [.data, .data, .data, .data, .sentinel, .sentinel, .pinned], laidTests := true, laidLooks := .later }
def FnExactReadSightsCardSaid : Prop := Claim7.holds Tryd.pinned (.plain (OpenSpec.ofChange fnExactReadSightsSpec)) fnExactReadSightsCard

/-- THE SECOND FORM's CARD OF 'laws.FnExactSightsText'. -/
def fnExactSightsTextUptoCard : Claim7 := { stood := { row := fnExactSightsTextUptoRow, standIns := [], harness := (true, "84fa9847aeb140702a04c855ab65cc033d2c77de07fae9a0ef0ed4ba99332725"), looks := true }, kinds := [], alts := [], laidByText := true, laidKinds := [.data, .data, .data], laidTests := true, laidLooks := .later }
def FnExactSightsTextUptoCardSaid : Prop := Claim7.holds Tryd.pinned (.plain (OpenSpec.upto fnExactSightsTextSpec)) fnExactSightsTextUptoCard

/-- THE SECOND FORM's CARD OF 'laws.FnExactReadSights'. -/
def fnExactReadSightsUptoCard : Claim7 := { stood := { row := fnExactReadSightsUptoRow, standIns := [], harness := (true, "84fa9847aeb140702a04c855ab65cc033d2c77de07fae9a0ef0ed4ba99332725"), looks := true }, kinds := [], alts := [], laidByText := true, laidKinds := [.data, .data, .data, .data, .sentinel, .sentinel, .pinned], laidTests := true, laidLooks := .later }
def FnExactReadSightsUptoCardSaid : Prop := Claim7.holds Tryd.pinned (.plain (OpenSpec.upto fnExactReadSightsSpec)) fnExactReadSightsUptoCard
end Rows
end Go.Proofs.YtggfhhmfhhkdpaaDoor
