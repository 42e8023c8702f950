/-
  Plain law: ValidSights of the program and of the reference answer alike.
-/
import Derived.Test.YtpaciifeklccfaaQS
namespace Go.Proofs.Ytpaciifeklccfaa
open G
set_option linter.unusedVariables false
set_option linter.unusedSimpArgs false
theorem FnExactValidSights.pure (x0 : Pasture) (hv0 : VPasture x0) (x1 : List Sight) (hv1 : ∀ x ∈ x1, (VSight) x) (hb1 : x1.length * 4 ≤ 140737488351232) : ∃ k, laws_FnExactValidSights.f k x0 x1 = some true := by
  refine Ev.get (r := true) ?_
  refine Ev.bind (Ev.const (laws_szSightS_eq x1 1048576 (by omega) (by omega) (by omega))) ?_
  by_cases h0 : (1048576 : Int) < x1.length
  · rw [if_pos h0]; exact Ev.const rfl
  rw [if_neg h0]
  have hp := laws_toPasture_ev x0
  have ht := laws_toSightS_ev x1 (by omega)
  have he := laws_eqSightS_ev x1 x1 (by omega)
  rw [decide_eq_true rfl] at he
  have hs : Ev (fun k => spec_ValidSights.f k x0 x1) (sightsB x0 x1) := (l07Sights_ev hv0 x1 hv1 (by omega)).bind (Ev.const rfl)
  refine Ev.neg (by omega) (hp.bind (ht.bind (hs.bind (ht.bind (hp.bind ((implSights_ev hv0 x1 hv1 (by omega)).bind ?_))))))
  refine Ev.neg (by simp) (ht.bind (he.bind ?_))
  exact Ev.neg (by simp) (Ev.const rfl)
end Go.Proofs.Ytpaciifeklccfaa
