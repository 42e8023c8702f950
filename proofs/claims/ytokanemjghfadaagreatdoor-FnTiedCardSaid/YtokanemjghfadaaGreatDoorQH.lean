/-
  Plain laws: what the laws' own helpers come to (copies, comparisons, marks), type by type.
-/
import Derived.Test.YtokanemjghfadaaGreatDoorGO
namespace Go.Proofs.YtokanemjghfadaaGreatDoor
open G
set_option linter.unusedVariables false
set_option linter.unusedSimpArgs false

end Go.Proofs.YtokanemjghfadaaGreatDoor
