/-
  What comes in at a law's call; what the laws want to know.
-/
import Derived.Test.YtimpcenflahchaaDoorGP1
import Derived.Test.YtimpcenflahchaaDoorGL
import Derived.Test.YtimpcenflahchaaDoorGM
import Derived.Test.YtimpcenflahchaaDoorChecked
import Derived.Test.YtimpcenflahchaaDoorRows
namespace Go.Proofs.YtimpcenflahchaaDoor
open G
set_option linter.unusedVariables false
set_option linter.unusedSimpArgs false
set_option maxRecDepth 100000
set_option maxHeartbeats 4000000
theorem own : ownKnob Tryd.prog.godebug = none := by kernel_rfl
theorem laidOut : laidOutB Tryd.prog = true := by kernel_rfl
theorem opn9 : Opn Tryd.prog 9 G.cs (fun s => s.size ≤ maxLen) := Opn.str (by kernel_rfl)
theorem opn73 : Opn Tryd.prog 73 (ci .i16) (inI .i16) := Opn.int (by kernel_rfl)
theorem opn74 : Opn Tryd.prog 74 (ci .u16) (inI .u16) := Opn.int (by kernel_rfl)
def VHerd (x : Herd) : Prop := (∀ z ∈ x.Names, (fun s => s.size ≤ maxLen) z) ∧ x.Names.length ≤ 9223372036854775807 ∧ (∀ z ∈ x.Eats, (inI .i16) z) ∧ x.Eats.length ≤ 9223372036854775807 ∧ (∀ z ∈ x.Foes, (inI .u16) z) ∧ x.Foes.length ≤ 9223372036854775807
end Go.Proofs.YtimpcenflahchaaDoor
