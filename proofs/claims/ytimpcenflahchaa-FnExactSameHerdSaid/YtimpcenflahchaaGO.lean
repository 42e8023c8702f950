/-
  What comes in at a law's call; what the laws want to know.
-/
import Derived.Test.YtimpcenflahchaaGP0
import Derived.Test.YtimpcenflahchaaGL
import Derived.Test.YtimpcenflahchaaGM
import Derived.Test.YtimpcenflahchaaChecked
import Derived.Test.YtimpcenflahchaaRows
namespace Go.Proofs.Ytimpcenflahchaa
open G
set_option linter.unusedVariables false
set_option maxRecDepth 100000
set_option maxHeartbeats 1000000
theorem own : ownKnob Try.prog.godebug = none := by kernel_rfl
theorem laidOut : laidOutB Try.prog = true := by kernel_rfl
theorem opn9 : Opn Try.prog 9 G.cs (fun s => s.size ≤ maxLen) := Opn.str (by kernel_rfl)
theorem opn35 : Opn Try.prog 35 (ci .i16) (inI .i16) := Opn.int (by kernel_rfl)
theorem opn36 : Opn Try.prog 36 (ci .u16) (inI .u16) := Opn.int (by kernel_rfl)
def VHerd (x : Herd) : Prop := (∀ z ∈ x.Names, (fun s => s.size ≤ maxLen) z) ∧ x.Names.length ≤ 9223372036854775807 ∧ (∀ z ∈ x.Eats, (inI .i16) z) ∧ x.Eats.length ≤ 9223372036854775807 ∧ (∀ z ∈ x.Foes, (inI .u16) z) ∧ x.Foes.length ≤ 9223372036854775807
end Go.Proofs.Ytimpcenflahchaa
