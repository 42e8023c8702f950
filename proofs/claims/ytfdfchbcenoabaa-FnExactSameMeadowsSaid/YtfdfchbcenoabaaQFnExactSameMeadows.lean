/-
  Plain law: SameMeadows of the program and of the reference answer alike.
-/
import Derived.Test.YtfdfchbcenoabaaQA
namespace Go.Proofs.Ytfdfchbcenoabaa
open G
set_option linter.unusedVariables false
set_option linter.unusedSimpArgs false

theorem specSame_eq (xs ys : List Meadow) (hx : xs.length ≤ 1048576) {k : Nat} (hk : xs.length < k) : spec_SameMeadows.f k xs ys = some (decide (xs = ys)) := by
  unfold spec_SameMeadows.f
  by_cases hl : xs.length = ys.length
  · rw [if_neg (by omega), eqLoop (f := spec_SameMeadows.l1 xs ys) hl (by omega) (fun _ _ => rfl) hk]
    by_cases e : xs = ys <;> simp [e]
  · rw [if_pos (by omega)]
    have : xs ≠ ys := fun e => hl (by rw [e])
    simp [this]
theorem implSame_eq (xs ys : List Meadow) (hx : xs.length ≤ 1048576) {k : Nat} (hk : xs.length < k) : impl_SameMeadows.f k xs ys = some (decide (xs = ys)) := by
  unfold impl_SameMeadows.f slices_Equal_impl_Meadow_impl_Meadow.f
  by_cases hl : xs.length = ys.length
  · rw [if_neg (by omega), eqLoop (f := slices_Equal_impl_Meadow_impl_Meadow.l1 xs ys) hl (by omega) (fun _ _ => rfl) hk]
    by_cases e : xs = ys <;> simp [e]
  · rw [if_pos (by omega)]
    have : xs ≠ ys := fun e => hl (by rw [e])
    simp [this]
theorem FnExactSameMeadows.pure (x0 : List Meadow) (hv0 : ∀ x ∈ x0, (VMeadow) x) (hb0 : x0.length * 6 ≤ 140737488351232) (x1 : List Meadow) (hv1 : ∀ x ∈ x1, (VMeadow) x) (hb1 : x1.length * 6 ≤ 140737488351232) :
    ∃ k, laws_FnExactSameMeadows.f k x0 x1 = some true := by
  refine ⟨x0.length + x1.length + 1, ?_⟩
  unfold laws_FnExactSameMeadows.f
  rw [szMeadowS_eq _ _ (by omega) (by omega) (by omega), Option.bind_some]
  by_cases h0 : (1048576 : Int) < x0.length
  · rw [if_pos h0, if_pos (by omega)]
  rw [if_neg h0, if_neg (by omega), szMeadowS_eq _ _ (by omega) (by omega) (by omega), Option.bind_some]
  by_cases h1 : 1048576 - (x0.length : Int) < x1.length
  · rw [if_pos h1, if_pos (by omega)]
  rw [if_neg h1, if_neg (by omega)]
  simp only [toMeadowS_eq x0 (by omega) (show x0.length < x0.length + x1.length + 1 by omega), toMeadowS_eq x1 (by omega) (show x1.length < x0.length + x1.length + 1 by omega), Option.bind_some,
    specSame_eq x0 x1 (by omega) (show x0.length < x0.length + x1.length + 1 by omega), implSame_eq x0 x1 (by omega) (show x0.length < x0.length + x1.length + 1 by omega),
    eqMeadowS_eq x0 x0 (by omega) (show x0.length < x0.length + x1.length + 1 by omega), eqMeadowS_eq x1 x1 (by omega) (show x1.length < x0.length + x1.length + 1 by omega)]
  simp

end Go.Proofs.Ytfdfchbcenoabaa
