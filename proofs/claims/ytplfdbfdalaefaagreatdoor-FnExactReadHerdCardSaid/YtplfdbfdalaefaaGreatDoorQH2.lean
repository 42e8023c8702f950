
/-
  Plain laws: what is asked of a herd: goats, groups, quarrels.
-/
import Derived.Test.YtplfdbfdalaefaaGreatDoorQH1
namespace Go.Proofs.YtplfdbfdalaefaaGreatDoor
open G
set_option linter.unusedVariables false
set_option linter.unusedSimpArgs false

/-! ### Goats -/
def goatB (h : Herd) (g : Int) : Bool := decide (0 ≤ g ∧ g ≤ (h.Names.length : Int) - 1)
def goatC (h : Herd) (gs : List Int) : Int := if vH h = false then 1 else if gs.all (goatB h) = true then 0 else 2
theorem goatC_zero {h : Herd} {gs : List Int} (hc : goatC h gs = 0) : vH h = true ∧ ∀ g ∈ gs, ∃ i : Nat, i < h.Names.length ∧ g = (i : Int) := by
  unfold goatC at hc
  split at hc
  · cases hc
  · rename_i h1
    split at hc
    · rename_i h2
      refine ⟨by simpa using h1, fun g hg => ?_⟩
      have := of_decide_eq_true (List.all_eq_true.1 h2 g hg)
      exact ⟨g.toNat, by omega, by omega⟩
    · cases hc
end Go.Proofs.YtplfdbfdalaefaaGreatDoor
