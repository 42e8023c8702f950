/-
  Plain law: GrassBehind of the program and of the reference answer alike.
-/
import Derived.Test.YtfdfchbcenoabaaQF
namespace Go.Proofs.Ytfdfchbcenoabaa
open G
set_option linter.unusedVariables false
set_option linter.unusedSimpArgs false

theorem grassBehind_ev (xs : List Meadow) (hv : ∀ x ∈ xs, VMeadow x) (hx : xs.length ≤ 1048576) (a : Int) (ys : List Int) (hy : ys.length ≤ 1048576) : ∃ r : List Meadow × Int, r.1.length ≤ 1048576 ∧ Ev (fun k => spec_GrassBehind.f k xs a ys) r ∧ Ev (fun k => impl_GrassBehind.f k xs a ys) r := by
  have hs := plan_ev xs hv hx a ys hy
  have hm := planCode_ev xs hv hx a ys hy
  by_cases h : planC xs a ys = 0
  · obtain ⟨p, q, L, hL, e1, e2, hc⟩ := follow_ev h
    rcases hc with ⟨rfl, rfl⟩ | ⟨rfl, h1, h2⟩
    · have hcl : slices_Clone_impl_Meadow_impl_Meadow.f L = some L := by
        unfold slices_Clone_impl_Meadow_impl_Meadow.f
        rw [chk_t (by simp; omega)]; rfl
      exact ⟨(L, 0), by simp; omega, Ev.bind hs (Ev.neg (by rw [h]; simp) (Ev.bind e1 (Ev.neg (by simp) (Ev.const rfl)))), Ev.bind hm (Ev.neg (by rw [h]; simp) (Ev.bind e2 (Ev.neg (by simp) (Ev.bind (Ev.const hcl) (Ev.const rfl)))))⟩
    · exact ⟨([], 4), by simp, Ev.bind hs (Ev.neg (by rw [h]; simp) (Ev.bind e1 (Ev.pos (by simp only; omega) (Ev.const rfl)))), Ev.bind hm (Ev.neg (by rw [h]; simp) (Ev.bind e2 (Ev.pos (by simp only; omega) (Ev.const rfl))))⟩
  · exact ⟨([], planC xs a ys), by simp, Ev.bind hs (Ev.pos h (Ev.const rfl)), Ev.bind hm (Ev.pos h (Ev.const rfl))⟩
theorem FnExactGrassBehind.pure (x0 : List Meadow) (hv0 : ∀ x ∈ x0, (VMeadow) x) (hb0 : x0.length * 6 ≤ 140737488351232) (x1 : Int) (hv1 : inI .i64 x1) (x2 : List Int) (hv2 : ∀ x ∈ x2, (inI .i64) x) (hb2 : x2.length * 8 ≤ 140737488351232) : ∃ k, laws_FnExactGrassBehind.f k x0 x1 x2 = some true := by
  refine Ev.get (r := true) ?_
  by_cases h2 : (1048576 : Int) < x2.length
  · exact Ev.pos h2 (Ev.const rfl)
  refine Ev.neg h2 ?_
  refine Ev.bind (Ev.const (szMeadowS_eq x0 1048576 (by omega) (by omega) (by omega))) ?_
  by_cases h0 : (1048576 : Int) < x0.length
  · rw [if_pos h0]; exact Ev.const rfl
  rw [if_neg h0]
  have ht := toMeadowS_ev x0 (by omega)
  have he0 := eqMeadowS_ev x0 x0 (by omega)
  rw [decide_eq_true rfl] at he0
  have ht2 := toInt64S_ev x2 (by omega)
  have he2 := eqInt64S_ev x2 x2 (by omega)
  rw [decide_eq_true rfl] at he2
  obtain ⟨⟨L, c⟩, hl, hs, hi⟩ := grassBehind_ev x0 hv0 (by omega) x1 x2 (by omega)
  simp only at hl
  have he := eqMeadowS_ev L L (by omega)
  rw [decide_eq_true rfl] at he
  have hy : Ev (fun k => (laws_eqMeadowS.f k L L).bind fun t14 => if (!t14) = true then (some true) else (some (decide (c ≠ c)))) false := Ev.bind he (Ev.const (by simp))
  have hh := heldMeadowS_ev L.length 1 (by omega) (by omega)
  refine Ev.neg (by omega) (Ev.bind ht (Ev.bind ht2 (Ev.bind hs (Ev.bind ht (Ev.bind ht2 (Ev.bind hi (Ev.bind hy ?_)))))))
  refine Ev.neg (by simp) (Ev.bind ht (Ev.bind he0 (Ev.neg (by simp) (Ev.bind ht2 (Ev.bind he2 ?_)))))
  refine Ev.neg (by simp) (Ev.bind (markMeadowS_ev x0 1 (by omega) (by omega)) (Ev.bind (markInt64S_ev x2 _ (by omega) (by omega)) (Ev.bind (Ev.neg (by simp only; omega) hy) ?_)))
  refine Ev.neg (by simp) (Ev.bind (markMeadowS_ev L 1 (by omega) (by omega)) (Ev.bind hh ?_))
  refine Ev.neg (by omega) (Ev.neg (by simp) (Ev.bind ht (Ev.bind ht2 (Ev.bind hi (Ev.bind hy ?_)))))
  refine Ev.neg (by simp) (Ev.bind hh ?_)
  exact Ev.neg (by omega) (Ev.neg (by simp) (Ev.const rfl))

end Go.Proofs.Ytfdfchbcenoabaa
