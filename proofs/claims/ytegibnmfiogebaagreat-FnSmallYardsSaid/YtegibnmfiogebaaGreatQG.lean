/-
  Plain laws: the cells of a pasture in order, and sums of grass.
-/
import Derived.Test.YtegibnmfiogebaaGreatQC
namespace Go.Proofs.YtegibnmfiogebaaGreat
open G
set_option linter.unusedVariables false
set_option linter.unusedSimpArgs false

/-! ### Sums -/
def cellIn (s : Spot) : Prop := ∃ x y : Nat, x < 10 ∧ y < 10 ∧ s = ⟨(x : Int), (y : Int)⟩
end Go.Proofs.YtegibnmfiogebaaGreat
