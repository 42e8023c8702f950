/-
  What comes in at a law's call; what the laws want to know.
-/
import Derived.Test.YtloljfkfnpgjfaaGreatGP3
import Derived.Test.YtloljfkfnpgjfaaGreatGL
import Derived.Test.YtloljfkfnpgjfaaGreatGM
import Derived.Test.YtloljfkfnpgjfaaGreatChecked
import Derived.Test.YtloljfkfnpgjfaaGreatRows
namespace Go.Proofs.YtloljfkfnpgjfaaGreat
open G
set_option linter.unusedVariables false
set_option linter.unusedSimpArgs false
set_option maxRecDepth 100000
set_option maxHeartbeats 4000000
theorem own : ownKnob Tryz.prog.godebug = none := by kernel_rfl
theorem laidOut : laidOutB Tryz.prog = true := by kernel_rfl
theorem opn5 : Opn Tryz.prog 5 (ci .u8) (inI .u8) := Opn.int (by kernel_rfl)
end Go.Proofs.YtloljfkfnpgjfaaGreat
