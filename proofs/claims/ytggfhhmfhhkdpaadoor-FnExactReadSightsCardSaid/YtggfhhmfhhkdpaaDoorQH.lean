/-
  Plain laws: what the laws' own helpers come to (copies, comparisons, marks), type by type.
-/
import Derived.Test.YtggfhhmfhhkdpaaDoorGO
namespace Go.Proofs.YtggfhhmfhhkdpaaDoor
open G
set_option linter.unusedVariables false
set_option linter.unusedSimpArgs false

theorem laws_eqSpot_eq (x y : Spot) : laws_eqSpot.f x y = some (decide (x = y)) := by
  unfold laws_eqSpot.f
  cases x; cases y
  simp only [Spot.mk.injEq]
  repeat' split
  all_goals simp_all

theorem laws_eqSight_eq (x y : Sight) : laws_eqSight.f x y = some (decide (x = y)) := by
  unfold laws_eqSight.f
  simp only [laws_eqSpot_eq, Option.bind_some]
  cases x; cases y
  simp only [Sight.mk.injEq]
  repeat' split
  all_goals simp_all

theorem laws_eqSightS_ev (xs ys : List Sight) (hx : xs.length ≤ 9223372036854775806) : Ev (fun k => laws_eqSightS.f k xs ys) (decide (xs = ys)) := by
  refine ⟨xs.length + 1, fun k hk => ?_⟩
  show laws_eqSightS.f k xs ys = _
  unfold laws_eqSightS.f
  by_cases hl : xs.length = ys.length
  · rw [if_neg (by omega), eqLoop' (f := laws_eqSightS.l1 xs ys) hl (by omega) laws_eqSight_eq (fun _ _ => rfl) (by omega)]
    by_cases e : xs = ys <;> simp [e]
  · rw [if_pos (by omega)]
    have : xs ≠ ys := fun e => hl (by rw [e])
    simp [this]

end Go.Proofs.YtggfhhmfhhkdpaaDoor
