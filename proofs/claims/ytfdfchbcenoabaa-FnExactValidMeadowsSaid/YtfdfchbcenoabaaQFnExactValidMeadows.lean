/-
  Plain law: ValidMeadows of the program and of the reference answer alike.
-/
import Derived.Test.YtfdfchbcenoabaaQC
namespace Go.Proofs.Ytfdfchbcenoabaa
open G
set_option linter.unusedVariables false
set_option linter.unusedSimpArgs false

theorem FnExactValidMeadows.pure (x0 : List Meadow) (hv0 : ∀ x ∈ x0, (VMeadow) x) (hb0 : x0.length * 6 ≤ 140737488351232) : ∃ k, laws_FnExactValidMeadows.f k x0 = some true := by
  refine Ev.get (r := true) ?_
  refine Ev.bind (Ev.const (szMeadowS_eq x0 1048576 (by omega) (by omega) (by omega))) ?_
  by_cases h0 : (1048576 : Int) < x0.length
  · rw [if_pos h0]; exact Ev.const rfl
  rw [if_neg h0]
  refine Ev.neg (by omega) ?_
  refine Ev.bind (toMeadowS_ev x0 (by omega)) (Ev.bind (Ev.bind (l07Ok_ev x0 hv0 (by omega)) (Ev.const rfl)) (Ev.bind (toMeadowS_ev x0 (by omega)) (Ev.bind (implValid_ev x0 hv0 (by omega)) ?_)))
  refine Ev.neg (by simp) (Ev.bind (toMeadowS_ev x0 (by omega)) (Ev.bind (eqMeadowS_ev x0 x0 (by omega)) ?_))
  exact Ev.const (by simp)

end Go.Proofs.Ytfdfchbcenoabaa
