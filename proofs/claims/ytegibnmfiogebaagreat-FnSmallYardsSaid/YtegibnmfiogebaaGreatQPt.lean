/-
  Plain law: the yards part the pasture.
-/
import Derived.Test.YtegibnmfiogebaaGreatQYw
import Derived.Test.YtegibnmfiogebaaGreatQG
namespace Go.Proofs.YtegibnmfiogebaaGreat
open G
set_option linter.unusedVariables false
set_option linter.unusedSimpArgs false
end Go.Proofs.YtegibnmfiogebaaGreat
