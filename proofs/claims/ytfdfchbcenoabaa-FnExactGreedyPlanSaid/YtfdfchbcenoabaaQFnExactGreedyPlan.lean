/-
  Plain law: GreedyPlan of the program and of the reference answer alike.
-/
import Derived.Test.YtfdfchbcenoabaaQF
namespace Go.Proofs.Ytfdfchbcenoabaa
open G
set_option linter.unusedVariables false
set_option linter.unusedSimpArgs false

theorem greedyPlan_ev (xs : List Meadow) (hv : ∀ x ∈ xs, VMeadow x) (hx : xs.length ≤ 1048576) (a d : Int) : ∃ r : List Int × Int, r.1.length ≤ 1048576 ∧ Ev (fun k => spec_GreedyPlan.f k xs a d) r ∧ Ev (fun k => impl_GreedyPlan.f k xs a d) r := by
  have hsp : spec_l07Days.f d = some (decide (0 ≤ d ∧ d ≤ 30)) := by unfold spec_l07Days.f; rw [l00In_eq]; rfl
  have hm := spanCode_ev xs hv hx a d
  have hs := asked_ev xs hv hx a (decide (0 ≤ d ∧ d ≤ 30))
  by_cases h : askC xs a (decide (0 ≤ d ∧ d ≤ 30)) = 0
  · obtain ⟨h1, h2, h3⟩ := askC_zero h
    have h3 := of_decide_eq_true h3
    obtain ⟨L, hL, e1, e2⟩ := greedy_ev h1 h2 (m := d) (by omega)
    by_cases hl : (L.length : Int) < d
    · exact ⟨([], 6), by simp, Ev.bind (Ev.const hsp) (Ev.bind hs (Ev.neg (by rw [h]; simp) (Ev.bind e1 (Ev.pos hl (Ev.const rfl))))), Ev.bind hm (Ev.neg (by rw [h]; simp) (Ev.bind e2 (Ev.bind (Ev.const rfl) (Ev.pos hl (Ev.const rfl)))))⟩
    · exact ⟨(L, 0), by simp; omega, Ev.bind (Ev.const hsp) (Ev.bind hs (Ev.neg (by rw [h]; simp) (Ev.bind e1 (Ev.neg hl (Ev.const rfl))))), Ev.bind hm (Ev.neg (by rw [h]; simp) (Ev.bind e2 (Ev.bind (Ev.const rfl) (Ev.neg hl (Ev.const rfl)))))⟩
  · exact ⟨([], askC xs a (decide (0 ≤ d ∧ d ≤ 30))), by simp, Ev.bind (Ev.const hsp) (Ev.bind hs (Ev.pos h (Ev.const rfl))), Ev.bind hm (Ev.pos h (Ev.const rfl))⟩
theorem FnExactGreedyPlan.pure (x0 : List Meadow) (hv0 : ∀ x ∈ x0, (VMeadow) x) (hb0 : x0.length * 6 ≤ 140737488351232) (x1 : Int) (hv1 : inI .i64 x1) (x2 : Int) (hv2 : inI .i64 x2) : ∃ k, laws_FnExactGreedyPlan.f k x0 x1 x2 = some true := by
  refine Ev.get (r := true) ?_
  refine Ev.bind (Ev.const (szMeadowS_eq x0 1048576 (by omega) (by omega) (by omega))) ?_
  by_cases h0 : (1048576 : Int) < x0.length
  · rw [if_pos h0]; exact Ev.const rfl
  rw [if_neg h0]
  have ht := toMeadowS_ev x0 (by omega)
  have he0 := eqMeadowS_ev x0 x0 (by omega)
  rw [decide_eq_true rfl] at he0
  obtain ⟨⟨L, c⟩, hl, hs, hi⟩ := greedyPlan_ev x0 hv0 (by omega) x1 x2
  simp only at hl
  have he := eqInt64S_ev L L (by omega)
  rw [decide_eq_true rfl] at he
  have hy : Ev (fun k => (laws_eqInt64S.f k L L).bind fun t14 => if (!t14) = true then (some true) else (some (decide (c ≠ c)))) false := Ev.bind he (Ev.const (by simp))
  have hh := heldInt64S_ev L.length 1 (by omega) (by omega)
  refine Ev.neg (by omega) (Ev.bind ht (Ev.bind hs (Ev.bind ht (Ev.bind hi (Ev.bind hy ?_)))))
  refine Ev.neg (by simp) (Ev.bind ht (Ev.bind he0 ?_))
  refine Ev.neg (by simp) (Ev.bind (markMeadowS_ev x0 1 (by omega) (by omega)) (Ev.bind (Ev.neg (by simp only; omega) hy) ?_))
  refine Ev.neg (by simp) (Ev.bind (markInt64S_ev L 1 (by omega) (by omega)) (Ev.bind hh ?_))
  refine Ev.neg (by omega) (Ev.neg (by simp) (Ev.bind ht (Ev.bind hi (Ev.bind hy ?_))))
  refine Ev.neg (by simp) (Ev.bind hh ?_)
  exact Ev.neg (by omega) (Ev.neg (by simp) (Ev.const rfl))

end Go.Proofs.Ytfdfchbcenoabaa
