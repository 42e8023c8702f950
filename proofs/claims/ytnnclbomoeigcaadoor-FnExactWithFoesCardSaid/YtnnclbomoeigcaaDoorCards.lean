/-
  DERIVED. GIVEN WITH THE SEED: THE CARDS: each row of YtnnclbomoeigcaaDoorRows.lean that lists a variable, with what it lists TIED to the program's text (the seventh form; the later family's looks); each row that meets fmt, with fmt's text TOLD by the authors' own Lean function (tested against real Go, not proved from fmt's source: count such statements apart). THE CARD IS WHAT COUNTS. Prove the row's statement (the work); the ties are given (YtnnclbomoeigcaaDoorTie.lean); close each card by the builder's one call (the guide's Derived/Test/ToyasCard.lean, 'card_holds'). Laid BY PROGRAM, IN A SANDBOX (cutbox-door.mjs). By AI agents, Wed Nov 11 2026. No macro, syntax, notation, axiom, sorry.
-/
import Derived.Test.YtnnclbomoeigcaaDoorRows
import GoSem.ClaimSeven
namespace Go.Proofs.YtnnclbomoeigcaaDoor
namespace Rows

/-- THE TIED CARD OF 'laws.FnExactMostPeaceful'. -/
def fnExactMostPeacefulCard : Claim7 := { stood := { row := fnExactMostPeacefulRow, standIns := [], harness := (true, "059c3720e380c85f9ae116675f223b3d3adf494c582e47f5f7ed29e4b4a32a6a"), looks := false }, kinds := [], alts := [], laidByText := true, laidKinds := [.data, .pinned], laidTests := true, laidLooks := .later }
def FnExactMostPeacefulCardSaid : Prop := Claim7.holds Tryd.pinned (.plain (OpenSpec.ofChange fnExactMostPeacefulSpec)) fnExactMostPeacefulCard

/-- THE TIED CARD OF 'laws.FnExactWithFoes'. -/
def fnExactWithFoesCard : Claim7 := { stood := { row := fnExactWithFoesRow, standIns := [], harness := (true, "059c3720e380c85f9ae116675f223b3d3adf494c582e47f5f7ed29e4b4a32a6a"), looks := false }, kinds := [], alts := [], laidByText := true, laidKinds := [.data, .pinned], laidTests := true, laidLooks := .later }
def FnExactWithFoesCardSaid : Prop := Claim7.holds Tryd.pinned (.plain (OpenSpec.ofChange fnExactWithFoesSpec)) fnExactWithFoesCard

/-- THE SECOND FORM's CARD OF 'laws.FnExactMostPeaceful'. -/
def fnExactMostPeacefulUptoCard : Claim7 := { stood := { row := fnExactMostPeacefulUptoRow, standIns := [], harness := (true, "059c3720e380c85f9ae116675f223b3d3adf494c582e47f5f7ed29e4b4a32a6a"), looks := false }, kinds := [], alts := [], laidByText := true, laidKinds := [.data, .pinned], laidTests := true, laidLooks := .later }
def FnExactMostPeacefulUptoCardSaid : Prop := Claim7.holds Tryd.pinned (.plain (OpenSpec.upto fnExactMostPeacefulSpec)) fnExactMostPeacefulUptoCard

/-- THE SECOND FORM's CARD OF 'laws.FnExactWithFoes'. -/
def fnExactWithFoesUptoCard : Claim7 := { stood := { row := fnExactWithFoesUptoRow, standIns := [], harness := (true, "059c3720e380c85f9ae116675f223b3d3adf494c582e47f5f7ed29e4b4a32a6a"), looks := false }, kinds := [], alts := [], laidByText := true, laidKinds := [.data, .pinned], laidTests := true, laidLooks := .later }
def FnExactWithFoesUptoCardSaid : Prop := Claim7.holds Tryd.pinned (.plain (OpenSpec.upto fnExactWithFoesSpec)) fnExactWithFoesUptoCard
end Rows
end Go.Proofs.YtnnclbomoeigcaaDoor
