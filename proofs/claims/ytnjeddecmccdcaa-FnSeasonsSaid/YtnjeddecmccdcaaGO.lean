/-
  What comes in at a law's call; what the laws want to know.
-/
import Derived.Test.YtnjeddecmccdcaaGP1
import Derived.Test.YtnjeddecmccdcaaGL
import Derived.Test.YtnjeddecmccdcaaGM
import Derived.Test.YtnjeddecmccdcaaChecked
import Derived.Test.YtnjeddecmccdcaaRows
namespace Go.Proofs.Ytnjeddecmccdcaa
open G
set_option linter.unusedVariables false
set_option linter.unusedSimpArgs false
set_option maxRecDepth 100000
set_option maxHeartbeats 4000000
theorem own : ownKnob Try.prog.godebug = none := by kernel_rfl
theorem laidOut : laidOutB Try.prog = true := by kernel_rfl
theorem opn5 : Opn Try.prog 5 (ci .u8) (inI .u8) := Opn.int (by kernel_rfl)
end Go.Proofs.Ytnjeddecmccdcaa
