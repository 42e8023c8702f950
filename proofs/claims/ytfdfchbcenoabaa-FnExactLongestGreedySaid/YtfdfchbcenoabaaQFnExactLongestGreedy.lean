/-
  Plain law: LongestGreedy of the program and of the reference answer alike.
-/
import Derived.Test.YtfdfchbcenoabaaQF
namespace Go.Proofs.Ytfdfchbcenoabaa
open G
set_option linter.unusedVariables false
set_option linter.unusedSimpArgs false

theorem longest_ev (xs : List Meadow) (hv : ∀ x ∈ xs, VMeadow x) (hx : xs.length ≤ 1048576) (a : Int) : ∃ r : Int × Int, Ev (fun k => spec_LongestGreedy.f k xs a) r ∧ Ev (fun k => impl_LongestGreedy.f k xs a) r := by
  have hm := meadowCode_ev xs hv hx a [] (by simp)
  rw [List.all_nil] at hm
  have hs := asked_ev xs hv hx a true
  by_cases h : askC xs a true = 0
  · obtain ⟨h1, h2, _⟩ := askC_zero h
    obtain ⟨L, hL, e1, e2⟩ := greedy_ev h1 h2 (m := 30) (by omega)
    exact ⟨((L.length : Int), 0), Ev.bind hs (Ev.neg (by rw [h]; simp) (Ev.bind e1 (Ev.const rfl))), Ev.bind hm (Ev.neg (by rw [h]; simp) (Ev.bind e2 (Ev.const rfl)))⟩
  · exact ⟨(0, askC xs a true), Ev.bind hs (Ev.pos h (Ev.const rfl)), Ev.bind hm (Ev.pos h (Ev.const rfl))⟩
theorem FnExactLongestGreedy.pure (x0 : List Meadow) (hv0 : ∀ x ∈ x0, (VMeadow) x) (hb0 : x0.length * 6 ≤ 140737488351232) (x1 : Int) (hv1 : inI .i64 x1) : ∃ k, laws_FnExactLongestGreedy.f k x0 x1 = some true := by
  refine Ev.get (r := true) ?_
  refine Ev.bind (Ev.const (szMeadowS_eq x0 1048576 (by omega) (by omega) (by omega))) ?_
  by_cases h0 : (1048576 : Int) < x0.length
  · rw [if_pos h0]; exact Ev.const rfl
  rw [if_neg h0]
  have ht := toMeadowS_ev x0 (by omega)
  have he0 := eqMeadowS_ev x0 x0 (by omega)
  rw [decide_eq_true rfl] at he0
  obtain ⟨⟨b, c⟩, hs, hi⟩ := longest_ev x0 hv0 (by omega) x1
  refine Ev.neg (by omega) (Ev.bind ht (Ev.bind hs (Ev.bind ht (Ev.bind hi (Ev.bind (a := false) (Ev.const (by simp)) ?_)))))
  exact Ev.neg (by simp) (Ev.bind ht (Ev.bind he0 (Ev.const rfl)))

end Go.Proofs.Ytfdfchbcenoabaa
