/-
  DERIVED. GIVEN WITH THE SEED: THE CARDS: each row of YtimpcenflahchaaDoorRows.lean that lists a variable, with what it lists TIED to the program's text (the seventh form; the later family's looks); each row that meets fmt, with fmt's text TOLD by the authors' own Lean function (tested against real Go, not proved from fmt's source: count such statements apart). THE CARD IS WHAT COUNTS. Prove the row's statement (the work); the ties are given (YtimpcenflahchaaDoorTie.lean); close each card by the builder's one call (the guide's Derived/Test/ToyasCard.lean, 'card_holds'). Laid BY PROGRAM, IN A SANDBOX (cutbox-door.mjs). By AI agents, Wed Nov 11 2026. No macro, syntax, notation, axiom, sorry.
-/
import Derived.Test.YtimpcenflahchaaDoorRows
import GoSem.ClaimSeven
namespace Go.Proofs.YtimpcenflahchaaDoor
namespace Rows

/-- THE TIED CARD OF 'laws.FnExactValidHerd'. -/
def fnExactValidHerdCard : Claim7 := { stood := { row := fnExactValidHerdRow, standIns := [], harness := (true, "f1ee44d62e26d6b942ae4ce47e3dae1866c28b75d2342f45ef9d1953277cfeae"), looks := false }, kinds := [], alts := [], laidByText := true, laidKinds := [.data, .pinned], laidTests := true, laidLooks := .later }
def FnExactValidHerdCardSaid : Prop := Claim7.holds Tryd.pinned (.plain (OpenSpec.ofChange fnExactValidHerdSpec)) fnExactValidHerdCard

/-- THE TIED CARD OF 'laws.FnExactAreFoes'. -/
def fnExactAreFoesCard : Claim7 := { stood := { row := fnExactAreFoesRow, standIns := [], harness := (true, "f1ee44d62e26d6b942ae4ce47e3dae1866c28b75d2342f45ef9d1953277cfeae"), looks := false }, kinds := [], alts := [], laidByText := true, laidKinds := [.data, .pinned], laidTests := true, laidLooks := .later }
def FnExactAreFoesCardSaid : Prop := Claim7.holds Tryd.pinned (.plain (OpenSpec.ofChange fnExactAreFoesSpec)) fnExactAreFoesCard

/-- THE TIED CARD OF 'laws.FnExactCheckGroups'. -/
def fnExactCheckGroupsCard : Claim7 := { stood := { row := fnExactCheckGroupsRow, standIns := [], harness := (true, "f1ee44d62e26d6b942ae4ce47e3dae1866c28b75d2342f45ef9d1953277cfeae"), looks := false }, kinds := [], alts := [], laidByText := true, laidKinds := [.data, .pinned], laidTests := true, laidLooks := .later }
def FnExactCheckGroupsCardSaid : Prop := Claim7.holds Tryd.pinned (.plain (OpenSpec.ofChange fnExactCheckGroupsSpec)) fnExactCheckGroupsCard

/-- THE TIED CARD OF 'laws.FnExactFirstQuarrel'. -/
def fnExactFirstQuarrelCard : Claim7 := { stood := { row := fnExactFirstQuarrelRow, standIns := [], harness := (true, "f1ee44d62e26d6b942ae4ce47e3dae1866c28b75d2342f45ef9d1953277cfeae"), looks := false }, kinds := [], alts := [], laidByText := true, laidKinds := [.data, .pinned], laidTests := true, laidLooks := .later }
def FnExactFirstQuarrelCardSaid : Prop := Claim7.holds Tryd.pinned (.plain (OpenSpec.ofChange fnExactFirstQuarrelSpec)) fnExactFirstQuarrelCard

/-- THE TIED CARD OF 'laws.FnExactFoesOf'. -/
def fnExactFoesOfCard : Claim7 := { stood := { row := fnExactFoesOfRow, standIns := [], harness := (true, "f1ee44d62e26d6b942ae4ce47e3dae1866c28b75d2342f45ef9d1953277cfeae"), looks := false }, kinds := [], alts := [], laidByText := true, laidKinds := [.data, .pinned], laidTests := true, laidLooks := .later }
def FnExactFoesOfCardSaid : Prop := Claim7.holds Tryd.pinned (.plain (OpenSpec.ofChange fnExactFoesOfSpec)) fnExactFoesOfCard

/-- THE TIED CARD OF 'laws.FnExactPeaceGroups'. -/
def fnExactPeaceGroupsCard : Claim7 := { stood := { row := fnExactPeaceGroupsRow, standIns := [], harness := (true, "f1ee44d62e26d6b942ae4ce47e3dae1866c28b75d2342f45ef9d1953277cfeae"), looks := false }, kinds := [], alts := [], laidByText := true, laidKinds := [.data, .pinned], laidTests := true, laidLooks := .later }
def FnExactPeaceGroupsCardSaid : Prop := Claim7.holds Tryd.pinned (.plain (OpenSpec.ofChange fnExactPeaceGroupsSpec)) fnExactPeaceGroupsCard

/-- THE TIED CARD OF 'laws.FnExactJoinHerds'. -/
def fnExactJoinHerdsCard : Claim7 := { stood := { row := fnExactJoinHerdsRow, standIns := [], harness := (true, "f1ee44d62e26d6b942ae4ce47e3dae1866c28b75d2342f45ef9d1953277cfeae"), looks := false }, kinds := [], alts := [], laidByText := true, laidKinds := [.data, .pinned], laidTests := true, laidLooks := .later }
def FnExactJoinHerdsCardSaid : Prop := Claim7.holds Tryd.pinned (.plain (OpenSpec.ofChange fnExactJoinHerdsSpec)) fnExactJoinHerdsCard

/-- THE TIED CARD OF 'laws.FnExactNeedsOf'. -/
def fnExactNeedsOfCard : Claim7 := { stood := { row := fnExactNeedsOfRow, standIns := [], harness := (true, "f1ee44d62e26d6b942ae4ce47e3dae1866c28b75d2342f45ef9d1953277cfeae"), looks := false }, kinds := [], alts := [], laidByText := true, laidKinds := [.data, .pinned], laidTests := true, laidLooks := .later }
def FnExactNeedsOfCardSaid : Prop := Claim7.holds Tryd.pinned (.plain (OpenSpec.ofChange fnExactNeedsOfSpec)) fnExactNeedsOfCard

/-- THE TIED CARD OF 'laws.FnExactFewestGroups'. -/
def fnExactFewestGroupsCard : Claim7 := { stood := { row := fnExactFewestGroupsRow, standIns := [], harness := (true, "f1ee44d62e26d6b942ae4ce47e3dae1866c28b75d2342f45ef9d1953277cfeae"), looks := false }, kinds := [], alts := [], laidByText := true, laidKinds := [.data, .pinned], laidTests := true, laidLooks := .later }
def FnExactFewestGroupsCardSaid : Prop := Claim7.holds Tryd.pinned (.plain (OpenSpec.ofChange fnExactFewestGroupsSpec)) fnExactFewestGroupsCard

/-- THE TIED CARD OF 'laws.FnExactAddToHerd'. -/
def fnExactAddToHerdCard : Claim7 := { stood := { row := fnExactAddToHerdRow, standIns := [], harness := (true, "f1ee44d62e26d6b942ae4ce47e3dae1866c28b75d2342f45ef9d1953277cfeae"), looks := false }, kinds := [], alts := [], laidByText := true, laidKinds := [.data, .pinned], laidTests := true, laidLooks := .later }
def FnExactAddToHerdCardSaid : Prop := Claim7.holds Tryd.pinned (.plain (OpenSpec.ofChange fnExactAddToHerdSpec)) fnExactAddToHerdCard

/-- THE TIED CARD OF 'laws.FnExactAllFoes'. -/
def fnExactAllFoesCard : Claim7 := { stood := { row := fnExactAllFoesRow, standIns := [], harness := (true, "f1ee44d62e26d6b942ae4ce47e3dae1866c28b75d2342f45ef9d1953277cfeae"), looks := false }, kinds := [], alts := [], laidByText := true, laidKinds := [.data, .pinned], laidTests := true, laidLooks := .later }
def FnExactAllFoesCardSaid : Prop := Claim7.holds Tryd.pinned (.plain (OpenSpec.ofChange fnExactAllFoesSpec)) fnExactAllFoesCard

/-- THE SECOND FORM's CARD OF 'laws.FnExactValidHerd'. -/
def fnExactValidHerdUptoCard : Claim7 := { stood := { row := fnExactValidHerdUptoRow, standIns := [], harness := (true, "f1ee44d62e26d6b942ae4ce47e3dae1866c28b75d2342f45ef9d1953277cfeae"), looks := false }, kinds := [], alts := [], laidByText := true, laidKinds := [.data, .pinned], laidTests := true, laidLooks := .later }
def FnExactValidHerdUptoCardSaid : Prop := Claim7.holds Tryd.pinned (.plain (OpenSpec.upto fnExactValidHerdSpec)) fnExactValidHerdUptoCard

/-- THE SECOND FORM's CARD OF 'laws.FnExactAreFoes'. -/
def fnExactAreFoesUptoCard : Claim7 := { stood := { row := fnExactAreFoesUptoRow, standIns := [], harness := (true, "f1ee44d62e26d6b942ae4ce47e3dae1866c28b75d2342f45ef9d1953277cfeae"), looks := false }, kinds := [], alts := [], laidByText := true, laidKinds := [.data, .pinned], laidTests := true, laidLooks := .later }
def FnExactAreFoesUptoCardSaid : Prop := Claim7.holds Tryd.pinned (.plain (OpenSpec.upto fnExactAreFoesSpec)) fnExactAreFoesUptoCard

/-- THE SECOND FORM's CARD OF 'laws.FnExactCheckGroups'. -/
def fnExactCheckGroupsUptoCard : Claim7 := { stood := { row := fnExactCheckGroupsUptoRow, standIns := [], harness := (true, "f1ee44d62e26d6b942ae4ce47e3dae1866c28b75d2342f45ef9d1953277cfeae"), looks := false }, kinds := [], alts := [], laidByText := true, laidKinds := [.data, .pinned], laidTests := true, laidLooks := .later }
def FnExactCheckGroupsUptoCardSaid : Prop := Claim7.holds Tryd.pinned (.plain (OpenSpec.upto fnExactCheckGroupsSpec)) fnExactCheckGroupsUptoCard

/-- THE SECOND FORM's CARD OF 'laws.FnExactFirstQuarrel'. -/
def fnExactFirstQuarrelUptoCard : Claim7 := { stood := { row := fnExactFirstQuarrelUptoRow, standIns := [], harness := (true, "f1ee44d62e26d6b942ae4ce47e3dae1866c28b75d2342f45ef9d1953277cfeae"), looks := false }, kinds := [], alts := [], laidByText := true, laidKinds := [.data, .pinned], laidTests := true, laidLooks := .later }
def FnExactFirstQuarrelUptoCardSaid : Prop := Claim7.holds Tryd.pinned (.plain (OpenSpec.upto fnExactFirstQuarrelSpec)) fnExactFirstQuarrelUptoCard

/-- THE SECOND FORM's CARD OF 'laws.FnExactFoesOf'. -/
def fnExactFoesOfUptoCard : Claim7 := { stood := { row := fnExactFoesOfUptoRow, standIns := [], harness := (true, "f1ee44d62e26d6b942ae4ce47e3dae1866c28b75d2342f45ef9d1953277cfeae"), looks := false }, kinds := [], alts := [], laidByText := true, laidKinds := [.data, .pinned], laidTests := true, laidLooks := .later }
def FnExactFoesOfUptoCardSaid : Prop := Claim7.holds Tryd.pinned (.plain (OpenSpec.upto fnExactFoesOfSpec)) fnExactFoesOfUptoCard

/-- THE SECOND FORM's CARD OF 'laws.FnExactPeaceGroups'. -/
def fnExactPeaceGroupsUptoCard : Claim7 := { stood := { row := fnExactPeaceGroupsUptoRow, standIns := [], harness := (true, "f1ee44d62e26d6b942ae4ce47e3dae1866c28b75d2342f45ef9d1953277cfeae"), looks := false }, kinds := [], alts := [], laidByText := true, laidKinds := [.data, .pinned], laidTests := true, laidLooks := .later }
def FnExactPeaceGroupsUptoCardSaid : Prop := Claim7.holds Tryd.pinned (.plain (OpenSpec.upto fnExactPeaceGroupsSpec)) fnExactPeaceGroupsUptoCard

/-- THE SECOND FORM's CARD OF 'laws.FnExactJoinHerds'. -/
def fnExactJoinHerdsUptoCard : Claim7 := { stood := { row := fnExactJoinHerdsUptoRow, standIns := [], harness := (true, "f1ee44d62e26d6b942ae4ce47e3dae1866c28b75d2342f45ef9d1953277cfeae"), looks := false }, kinds := [], alts := [], laidByText := true, laidKinds := [.data, .pinned], laidTests := true, laidLooks := .later }
def FnExactJoinHerdsUptoCardSaid : Prop := Claim7.holds Tryd.pinned (.plain (OpenSpec.upto fnExactJoinHerdsSpec)) fnExactJoinHerdsUptoCard

/-- THE SECOND FORM's CARD OF 'laws.FnExactNeedsOf'. -/
def fnExactNeedsOfUptoCard : Claim7 := { stood := { row := fnExactNeedsOfUptoRow, standIns := [], harness := (true, "f1ee44d62e26d6b942ae4ce47e3dae1866c28b75d2342f45ef9d1953277cfeae"), looks := false }, kinds := [], alts := [], laidByText := true, laidKinds := [.data, .pinned], laidTests := true, laidLooks := .later }
def FnExactNeedsOfUptoCardSaid : Prop := Claim7.holds Tryd.pinned (.plain (OpenSpec.upto fnExactNeedsOfSpec)) fnExactNeedsOfUptoCard

/-- THE SECOND FORM's CARD OF 'laws.FnExactFewestGroups'. -/
def fnExactFewestGroupsUptoCard : Claim7 := { stood := { row := fnExactFewestGroupsUptoRow, standIns := [], harness := (true, "f1ee44d62e26d6b942ae4ce47e3dae1866c28b75d2342f45ef9d1953277cfeae"), looks := false }, kinds := [], alts := [], laidByText := true, laidKinds := [.data, .pinned], laidTests := true, laidLooks := .later }
def FnExactFewestGroupsUptoCardSaid : Prop := Claim7.holds Tryd.pinned (.plain (OpenSpec.upto fnExactFewestGroupsSpec)) fnExactFewestGroupsUptoCard

/-- THE SECOND FORM's CARD OF 'laws.FnExactAddToHerd'. -/
def fnExactAddToHerdUptoCard : Claim7 := { stood := { row := fnExactAddToHerdUptoRow, standIns := [], harness := (true, "f1ee44d62e26d6b942ae4ce47e3dae1866c28b75d2342f45ef9d1953277cfeae"), looks := false }, kinds := [], alts := [], laidByText := true, laidKinds := [.data, .pinned], laidTests := true, laidLooks := .later }
def FnExactAddToHerdUptoCardSaid : Prop := Claim7.holds Tryd.pinned (.plain (OpenSpec.upto fnExactAddToHerdSpec)) fnExactAddToHerdUptoCard

/-- THE SECOND FORM's CARD OF 'laws.FnExactAllFoes'. -/
def fnExactAllFoesUptoCard : Claim7 := { stood := { row := fnExactAllFoesUptoRow, standIns := [], harness := (true, "f1ee44d62e26d6b942ae4ce47e3dae1866c28b75d2342f45ef9d1953277cfeae"), looks := false }, kinds := [], alts := [], laidByText := true, laidKinds := [.data, .pinned], laidTests := true, laidLooks := .later }
def FnExactAllFoesUptoCardSaid : Prop := Claim7.holds Tryd.pinned (.plain (OpenSpec.upto fnExactAllFoesSpec)) fnExactAllFoesUptoCard
end Rows
end Go.Proofs.YtimpcenflahchaaDoor
