
/-
  Plain laws: common ones (a code that is told unless).
-/
import Derived.Test.YtplfdbfdalaefaaGreatDoorQO0
namespace Go.Proofs.YtplfdbfdalaefaaGreatDoor
open G
set_option linter.unusedVariables false
set_option linter.unusedSimpArgs false
end Go.Proofs.YtplfdbfdalaefaaGreatDoor
