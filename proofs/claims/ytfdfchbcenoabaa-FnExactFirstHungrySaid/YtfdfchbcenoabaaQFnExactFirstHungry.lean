/-
  Plain law: FirstHungry of the program and of the reference answer alike.
-/
import Derived.Test.YtfdfchbcenoabaaQF
namespace Go.Proofs.Ytfdfchbcenoabaa
open G
set_option linter.unusedVariables false
set_option linter.unusedSimpArgs false

theorem firstHungry_ev (xs : List Meadow) (hv : ∀ x ∈ xs, VMeadow x) (hx : xs.length ≤ 1048576) (a : Int) (ys : List Int) (hy : ys.length ≤ 1048576) : ∃ r : Int × Int, Ev (fun k => spec_FirstHungry.f k xs a ys) r ∧ Ev (fun k => impl_FirstHungry.f k xs a ys) r := by
  have hs := plan_ev xs hv hx a ys hy
  have hm := planCode_ev xs hv hx a ys hy
  by_cases h : planC xs a ys = 0
  · obtain ⟨p, q, L, hL, e1, e2, hc⟩ := follow_ev h
    rcases hc with ⟨rfl, rfl⟩ | ⟨rfl, h1, h2⟩
    · exact ⟨(0, 6), Ev.bind hs (Ev.neg (by rw [h]; simp) (Ev.bind e1 (Ev.pos (by simp) (Ev.const rfl)))), Ev.bind hm (Ev.neg (by rw [h]; simp) (Ev.bind e2 (Ev.pos rfl (Ev.const rfl))))⟩
    · exact ⟨(p, 0), Ev.bind hs (Ev.neg (by rw [h]; simp) (Ev.bind e1 (Ev.neg (by simp only; omega) (Ev.const rfl)))), Ev.bind hm (Ev.neg (by rw [h]; simp) (Ev.bind e2 (Ev.neg (by simp only; omega) (Ev.const rfl))))⟩
  · exact ⟨(0, planC xs a ys), Ev.bind hs (Ev.pos h (Ev.const rfl)), Ev.bind hm (Ev.pos h (Ev.const rfl))⟩
theorem FnExactFirstHungry.pure (x0 : List Meadow) (hv0 : ∀ x ∈ x0, (VMeadow) x) (hb0 : x0.length * 6 ≤ 140737488351232) (x1 : Int) (hv1 : inI .i64 x1) (x2 : List Int) (hv2 : ∀ x ∈ x2, (inI .i64) x) (hb2 : x2.length * 8 ≤ 140737488351232) : ∃ k, laws_FnExactFirstHungry.f k x0 x1 x2 = some true := by
  refine Ev.get (r := true) ?_
  by_cases h2 : (1048576 : Int) < x2.length
  · exact Ev.pos h2 (Ev.const rfl)
  refine Ev.neg h2 ?_
  refine Ev.bind (Ev.const (szMeadowS_eq x0 1048576 (by omega) (by omega) (by omega))) ?_
  by_cases h0 : (1048576 : Int) < x0.length
  · rw [if_pos h0]; exact Ev.const rfl
  rw [if_neg h0]
  have ht := toMeadowS_ev x0 (by omega)
  have he0 := eqMeadowS_ev x0 x0 (by omega)
  rw [decide_eq_true rfl] at he0
  have ht2 := toInt64S_ev x2 (by omega)
  have he2 := eqInt64S_ev x2 x2 (by omega)
  rw [decide_eq_true rfl] at he2
  obtain ⟨⟨b, c⟩, hs, hi⟩ := firstHungry_ev x0 hv0 (by omega) x1 x2 (by omega)
  refine Ev.neg (by omega) (Ev.bind ht (Ev.bind ht2 (Ev.bind hs (Ev.bind ht (Ev.bind ht2 (Ev.bind hi (Ev.bind (a := false) (Ev.const (by simp)) ?_)))))))
  refine Ev.neg (by simp) (Ev.bind ht (Ev.bind he0 (Ev.neg (by simp) ?_)))
  exact Ev.bind ht2 (Ev.bind he2 (Ev.const rfl))

end Go.Proofs.Ytfdfchbcenoabaa
