/-
  What comes in at a law's call; what the laws want to know.
-/
import Derived.Test.YtegibnmfiogebaaGreatDoorGP3
import Derived.Test.YtegibnmfiogebaaGreatDoorGL
import Derived.Test.YtegibnmfiogebaaGreatDoorGM
import Derived.Test.YtegibnmfiogebaaGreatDoorChecked
import Derived.Test.YtegibnmfiogebaaGreatDoorRows
namespace Go.Proofs.YtegibnmfiogebaaGreatDoor
open G
set_option linter.unusedVariables false
set_option linter.unusedSimpArgs false
set_option maxRecDepth 100000
set_option maxHeartbeats 4000000
theorem own : ownKnob Tryz.prog.godebug = none := by kernel_rfl
theorem laidOut : laidOutB Tryz.prog = true := by kernel_rfl
theorem opn5 : Opn Tryz.prog 5 (ci .u8) (inI .u8) := Opn.int (by kernel_rfl)
theorem errRow (u : TypeId) (h : Tryz.prog.typeName? 3 u = some "*errors.errorString") : u = 256 :=
  have star : "*" ++ "errors.errorString" = "*errors.errorString" := by decide
  typeName_ptr_named (nm := "errors.errorString") (by rw [star]; kernel_rfl) (by kernel_rfl) (by decide) u (by rw [star]; exact h)
end Go.Proofs.YtegibnmfiogebaaGreatDoor
