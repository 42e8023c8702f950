
/-
  Plain laws: herds that the laws copy, compare and measure.
-/
import Derived.Test.YtonpnkppaflcbaaGreatDoorQH
namespace Go.Proofs.YtonpnkppaflcbaaGreatDoor
open G
set_option linter.unusedVariables false
set_option linter.unusedSimpArgs false
def VHerd (x : Herd) : Prop := (∀ z ∈ x.Names, (fun s => s.size ≤ maxLen) z) ∧ x.Names.length ≤ 9223372036854775807 ∧ (∀ z ∈ x.Eats, (inI .i16) z) ∧ x.Eats.length ≤ 9223372036854775807 ∧ (∀ z ∈ x.Foes, (inI .u16) z) ∧ x.Foes.length ≤ 9223372036854775807

def smallH (h : Herd) : Prop := h.Names.length ≤ 1048576 ∧ h.Eats.length ≤ 1048576 ∧ h.Foes.length ≤ 1048576
theorem herd_eq (a b : Herd) : a = b ↔ a.Names = b.Names ∧ a.Eats = b.Eats ∧ a.Foes = b.Foes := by
  cases a; cases b
  simp
end Go.Proofs.YtonpnkppaflcbaaGreatDoor
