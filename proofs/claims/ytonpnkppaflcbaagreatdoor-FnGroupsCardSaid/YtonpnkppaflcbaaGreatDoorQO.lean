
/-
  Plain laws: common ones (a code that is told unless).
-/
import Derived.Test.YtonpnkppaflcbaaGreatDoorQO0
namespace Go.Proofs.YtonpnkppaflcbaaGreatDoor
open G
set_option linter.unusedVariables false
set_option linter.unusedSimpArgs false
theorem unless_eq (b : Bool) (c : Int) : impl_unless.f b c = some (if b = true then 0 else c) := by
  unfold impl_unless.f; split <;> rfl
end Go.Proofs.YtonpnkppaflcbaaGreatDoor
