/-
  Plain law: FirstPlan of the program and of the reference answer alike.
-/
import Derived.Test.YtpaciifeklccfaaQV
namespace Go.Proofs.Ytpaciifeklccfaa
open G
set_option linter.unusedVariables false
set_option linter.unusedSimpArgs false
theorem FnExactFirstPlan.pure (x0 : List Meadow) (hv0 : ∀ x ∈ x0, (VMeadow) x) (hb0 : x0.length * 6 ≤ 140737488351232) (x1 : Int) (hv1 : inI .i64 x1) (x2 : Int) (hv2 : inI .i64 x2) (x3 : Int) (hv3 : inI .i64 x3) : ∃ k, laws_FnExactFirstPlan.f k x0 x1 x2 x3 = some true := by
  refine Ev.get (r := true) ?_
  refine Ev.bind (Ev.const (laws_szMeadowS_eq x0 1048576 (by omega) (by omega) (by omega))) ?_
  by_cases h0 : (1048576 : Int) < x0.length
  · rw [if_pos h0]; exact Ev.const rfl
  rw [if_neg h0]
  have ht := laws_toMeadowS_ev x0 (by omega)
  have he0 := laws_eqMeadowS_ev x0 x0 (by omega)
  rw [decide_eq_true rfl] at he0
  obtain ⟨⟨L, t, c⟩, hl, hs, hi⟩ := firstPlan_ev x0 hv0 (by omega) x1 x2 x3
  simp only at hl
  have he := laws_eqInt64S_ev L L (by omega)
  rw [decide_eq_true rfl] at he
  have hy : Ev (fun k => (laws_eqInt64S.f k L L).bind fun t15 => if (!t15) = true then (some true) else (if t ≠ t then (some true) else (some (decide (c ≠ c))))) false := Ev.bind he (Ev.const (by simp))
  have hh := laws_heldInt64S_ev L.length 1 (by omega) (by omega)
  refine Ev.neg (by omega) (Ev.bind ht (Ev.bind hs (Ev.bind ht (Ev.bind hi (Ev.bind hy ?_)))))
  refine Ev.neg (by simp) (Ev.bind ht (Ev.bind he0 ?_))
  refine Ev.neg (by simp) (Ev.bind (markMeadowS_ev x0 1 (by omega) (by omega)) (Ev.bind (Ev.neg (by simp only; omega) hy) ?_))
  refine Ev.neg (by simp) (Ev.bind (laws_markInt64S_ev L 1 (by omega) (by omega)) (Ev.bind hh ?_))
  refine Ev.neg (by omega) (Ev.neg (by simp) (Ev.bind ht (Ev.bind hi (Ev.bind hy ?_))))
  refine Ev.neg (by simp) (Ev.bind hh ?_)
  exact Ev.neg (by omega) (Ev.neg (by simp) (Ev.const rfl))
end Go.Proofs.Ytpaciifeklccfaa
