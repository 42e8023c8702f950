/-
  What comes in at a law's call; what the laws want to know.
-/
import Derived.Test.YtegibnmfiogebaaGreatGP2
import Derived.Test.YtegibnmfiogebaaGreatGL
import Derived.Test.YtegibnmfiogebaaGreatGM
import Derived.Test.YtegibnmfiogebaaGreatChecked
import Derived.Test.YtegibnmfiogebaaGreatRows
namespace Go.Proofs.YtegibnmfiogebaaGreat
open G
set_option linter.unusedVariables false
set_option linter.unusedSimpArgs false
set_option maxRecDepth 100000
set_option maxHeartbeats 4000000
theorem own : ownKnob Tryz.prog.godebug = none := by kernel_rfl
theorem laidOut : laidOutB Tryz.prog = true := by kernel_rfl
theorem opn5 : Opn Tryz.prog 5 (ci .u8) (inI .u8) := Opn.int (by kernel_rfl)
end Go.Proofs.YtegibnmfiogebaaGreat
