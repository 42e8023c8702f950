/-
  Plain laws: what the laws' own helpers come to (copies, comparisons, marks), type by type.
-/
import Derived.Test.YtegibnmfiogebaaGreatGO
namespace Go.Proofs.YtegibnmfiogebaaGreat
open G
set_option linter.unusedVariables false
set_option linter.unusedSimpArgs false


end Go.Proofs.YtegibnmfiogebaaGreat
