/-
  Plain laws: the cells of a pasture in order, and sums of grass.
-/
import Derived.Test.YtokanemjghfadaaGreatDoorQC
namespace Go.Proofs.YtokanemjghfadaaGreatDoor
open G
set_option linter.unusedVariables false
set_option linter.unusedSimpArgs false

/-! ### Sums -/
end Go.Proofs.YtokanemjghfadaaGreatDoor
