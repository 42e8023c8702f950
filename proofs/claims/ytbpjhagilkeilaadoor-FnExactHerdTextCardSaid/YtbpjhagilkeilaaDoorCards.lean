/-
  DERIVED. GIVEN WITH THE SEED: THE CARDS: each row of YtbpjhagilkeilaaDoorRows.lean that lists a variable, with what it lists TIED to the program's text (the seventh form; the later family's looks); each row that meets fmt, with fmt's text TOLD by the authors' own Lean function (tested against real Go, not proved from fmt's source: count such statements apart). THE CARD IS WHAT COUNTS. Prove the row's statement (the work); the ties are given (YtbpjhagilkeilaaDoorTie.lean); close each card by the builder's one call (the guide's Derived/Test/ToyasCard.lean, 'card_holds'). Laid BY PROGRAM, IN A SANDBOX (cutbox-door.mjs). By AI agents, Wed Nov 11 2026. No macro, syntax, notation, axiom, sorry.
-/
import Derived.Test.YtbpjhagilkeilaaDoorRows
import GoSem.ClaimSeven
namespace Go.Proofs.YtbpjhagilkeilaaDoor
namespace Rows

/-- THE TIED CARD OF 'laws.FnExactPickHerd'. -/
def fnExactPickHerdCard : Claim7 := { stood := { row := fnExactPickHerdRow, standIns := [], harness := (true, "13c8b2db662809c266497fe02b58011836ba0a72277b7fd30e12b0c391b1b7f5"), looks := false }, kinds := [], alts := [], laidByText := true, laidKinds := [.data, .pinned], laidTests := true, laidLooks := .later }
def FnExactPickHerdCardSaid : Prop := Claim7.holds Tryd.pinned (.plain (OpenSpec.ofChange fnExactPickHerdSpec)) fnExactPickHerdCard

/-- THE TIED CARD OF 'laws.FnExactGreedyGroups'. -/
def fnExactGreedyGroupsCard : Claim7 := { stood := { row := fnExactGreedyGroupsRow, standIns := [], harness := (true, "13c8b2db662809c266497fe02b58011836ba0a72277b7fd30e12b0c391b1b7f5"), looks := false }, kinds := [], alts := [], laidByText := true, laidKinds := [.data, .pinned], laidTests := true, laidLooks := .later }
def FnExactGreedyGroupsCardSaid : Prop := Claim7.holds Tryd.pinned (.plain (OpenSpec.ofChange fnExactGreedyGroupsSpec)) fnExactGreedyGroupsCard

/-- THE TIED CARD OF 'laws.FnExactFitGroups'. -/
def fnExactFitGroupsCard : Claim7 := { stood := { row := fnExactFitGroupsRow, standIns := [], harness := (true, "13c8b2db662809c266497fe02b58011836ba0a72277b7fd30e12b0c391b1b7f5"), looks := false }, kinds := [], alts := [], laidByText := true, laidKinds := [.data, .pinned], laidTests := true, laidLooks := .later }
def FnExactFitGroupsCardSaid : Prop := Claim7.holds Tryd.pinned (.plain (OpenSpec.ofChange fnExactFitGroupsSpec)) fnExactFitGroupsCard

/-- THE TIED CARD OF 'laws.FnExactHerdText'. -/
def fnExactHerdTextCard : Claim7 := { stood := { row := fnExactHerdTextRow, standIns := [], harness := (true, "13c8b2db662809c266497fe02b58011836ba0a72277b7fd30e12b0c391b1b7f5"), looks := false }, kinds := [], alts := [], laidByText := true, laidKinds := [.data, .data, .data, .data, .pinned], laidTests := true, laidLooks := .later }
def FnExactHerdTextCardSaid : Prop := Claim7.holds Tryd.pinned (.plain (OpenSpec.ofChange fnExactHerdTextSpec)) fnExactHerdTextCard

/-- THE SECOND FORM's CARD OF 'laws.FnExactPickHerd'. -/
def fnExactPickHerdUptoCard : Claim7 := { stood := { row := fnExactPickHerdUptoRow, standIns := [], harness := (true, "13c8b2db662809c266497fe02b58011836ba0a72277b7fd30e12b0c391b1b7f5"), looks := false }, kinds := [], alts := [], laidByText := true, laidKinds := [.data, .pinned], laidTests := true, laidLooks := .later }
def FnExactPickHerdUptoCardSaid : Prop := Claim7.holds Tryd.pinned (.plain (OpenSpec.upto fnExactPickHerdSpec)) fnExactPickHerdUptoCard

/-- THE SECOND FORM's CARD OF 'laws.FnExactGreedyGroups'. -/
def fnExactGreedyGroupsUptoCard : Claim7 := { stood := { row := fnExactGreedyGroupsUptoRow, standIns := [], harness := (true, "13c8b2db662809c266497fe02b58011836ba0a72277b7fd30e12b0c391b1b7f5"), looks := false }, kinds := [], alts := [], laidByText := true, laidKinds := [.data, .pinned], laidTests := true, laidLooks := .later }
def FnExactGreedyGroupsUptoCardSaid : Prop := Claim7.holds Tryd.pinned (.plain (OpenSpec.upto fnExactGreedyGroupsSpec)) fnExactGreedyGroupsUptoCard

/-- THE SECOND FORM's CARD OF 'laws.FnExactFitGroups'. -/
def fnExactFitGroupsUptoCard : Claim7 := { stood := { row := fnExactFitGroupsUptoRow, standIns := [], harness := (true, "13c8b2db662809c266497fe02b58011836ba0a72277b7fd30e12b0c391b1b7f5"), looks := false }, kinds := [], alts := [], laidByText := true, laidKinds := [.data, .pinned], laidTests := true, laidLooks := .later }
def FnExactFitGroupsUptoCardSaid : Prop := Claim7.holds Tryd.pinned (.plain (OpenSpec.upto fnExactFitGroupsSpec)) fnExactFitGroupsUptoCard

/-- THE SECOND FORM's CARD OF 'laws.FnExactHerdText'. -/
def fnExactHerdTextUptoCard : Claim7 := { stood := { row := fnExactHerdTextUptoRow, standIns := [], harness := (true, "13c8b2db662809c266497fe02b58011836ba0a72277b7fd30e12b0c391b1b7f5"), looks := false }, kinds := [], alts := [], laidByText := true, laidKinds := [.data, .data, .data, .data, .pinned], laidTests := true, laidLooks := .later }
def FnExactHerdTextUptoCardSaid : Prop := Claim7.holds Tryd.pinned (.plain (OpenSpec.upto fnExactHerdTextSpec)) fnExactHerdTextUptoCard
end Rows
end Go.Proofs.YtbpjhagilkeilaaDoor
