/-
  Plain laws: what the laws' own helpers come to (copies, comparisons, marks), type by type.
-/
import Derived.Test.YtnjeddecmccdcaaGO
namespace Go.Proofs.Ytnjeddecmccdcaa
open G
set_option linter.unusedVariables false
set_option linter.unusedSimpArgs false

theorem slices_Equal_impl_Meadow_impl_Meadow_ev (xs ys : List Meadow) (hx : xs.length ≤ 9223372036854775806) : Ev (fun k => slices_Equal_impl_Meadow_impl_Meadow.f k xs ys) (decide (xs = ys)) := by
  refine ⟨xs.length + 1, fun k hk => ?_⟩
  show slices_Equal_impl_Meadow_impl_Meadow.f k xs ys = _
  unfold slices_Equal_impl_Meadow_impl_Meadow.f
  by_cases hl : xs.length = ys.length
  · rw [if_neg (by omega), eqLoop (f := slices_Equal_impl_Meadow_impl_Meadow.l1 xs ys) hl (by omega) (fun _ _ => rfl) (by omega)]
    by_cases e : xs = ys <;> simp [e]
  · rw [if_pos (by omega)]
    have : xs ≠ ys := fun e => hl (by rw [e])
    simp [this]

end Go.Proofs.Ytnjeddecmccdcaa
