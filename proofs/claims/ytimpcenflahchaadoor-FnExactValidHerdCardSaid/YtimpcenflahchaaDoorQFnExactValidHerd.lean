/-
  Plain law: ValidHerd of the program and of the reference answer alike.
-/
import Derived.Test.YtimpcenflahchaaDoorQH1
namespace Go.Proofs.YtimpcenflahchaaDoor
open G
set_option linter.unusedVariables false
set_option linter.unusedSimpArgs false
theorem FnExactValidHerd.pure (x0 : Herd) (hv0 : VHerd x0) : ∃ k, laws_FnExactValidHerd.f k x0 = some true := by
  refine Ev.get (r := true) ?_
  obtain ⟨r, hr, h⟩ := szHerd_ev x0 hv0 1048576 (by omega) (by omega)
  refine hr.bind ?_
  rcases h with rfl | ⟨a, c⟩
  · exact Ev.pos (by omega) (Ev.const rfl)
  · have hs : smallH x0 := ⟨by omega, by omega, by omega⟩
    have ht := toHerd_ev x0 hs
    have he := eqHerd_ev x0 x0 hs
    rw [decide_eq_true rfl] at he
    refine Ev.neg (by omega) (ht.bind (((specHerd_ev hv0).bind (Ev.const rfl)).bind (ht.bind ((implHerd_ev hv0).bind (Ev.neg (by simp) (ht.bind (he.bind ?_)))))))
    exact Ev.neg (by simp) (Ev.const rfl)
end Go.Proofs.YtimpcenflahchaaDoor
