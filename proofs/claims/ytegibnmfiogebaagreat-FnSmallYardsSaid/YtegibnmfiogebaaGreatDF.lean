/-
  Plain law: what slices.DeleteFunc leaves.
-/
import Derived.Test.YtegibnmfiogebaaGreatD2
namespace Go.Proofs.YtegibnmfiogebaaGreat
open G
set_option linter.unusedVariables false
set_option linter.unusedSimpArgs false
theorem take_setS {ys : List Spot} {w : Nat} (hw : w < ys.length) (a : Spot) : (ys.set w a).take (w + 1) = ys.take w ++ [a] := by
 rw [List.take_add_one, List.getElem?_set_self hw]
 congr 1
 apply List.ext_getElem?
 intro j
 simp only [List.getElem?_take, List.getElem?_set]
 split
 ·rw [if_neg (by omega)]
 rfl
end Go.Proofs.YtegibnmfiogebaaGreat
