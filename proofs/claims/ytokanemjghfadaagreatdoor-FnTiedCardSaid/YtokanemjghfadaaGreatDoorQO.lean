
/-
  Plain laws: common ones (a code that is told unless).
-/
import Derived.Test.YtokanemjghfadaaGreatDoorQO0
namespace Go.Proofs.YtokanemjghfadaaGreatDoor
open G
set_option linter.unusedVariables false
set_option linter.unusedSimpArgs false
def VSpot (x : Spot) : Prop := (inI .i8) x.X ∧ (inI .i8) x.Y
def VPasture (x : Pasture) : Prop := (inI .i8) x.Wide ∧ (inI .i8) x.High ∧ (fun a => ∀ x ∈ a.l, (fun a => ∀ x ∈ a.l, (inI .i16) x) x) x.Grass ∧ (fun a => ∀ x ∈ a.l, (inI .u16) x) x.East ∧ (fun a => ∀ x ∈ a.l, (inI .u16) x) x.South
theorem unless_eq (b : Bool) (c : Int) : impl_unless.f b c = some (if b = true then 0 else c) := by
 unfold impl_unless.f; split <;> rfl
end Go.Proofs.YtokanemjghfadaaGreatDoor
