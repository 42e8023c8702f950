/-
  Plain law: FirstQuarrel of the program and of the reference answer alike.
-/
import Derived.Test.YtimpcenflahchaaDoorQH2
namespace Go.Proofs.YtimpcenflahchaaDoor
open G
set_option linter.unusedVariables false
set_option linter.unusedSimpArgs false
theorem told_ev {h : Herd} (v : VHerd h) (gs : List Int) (hx : gs.length ≤ 1048576) : Ev (fun k => spec_l06Told.f k h gs) (if vH h = false then 1 else if grpsB h gs = false then 4 else 0) := by
  refine (specHerd_ev v).bind ?_
  cases vH h
  · exact Ev.const rfl
  · refine Ev.neg (by simp) ((numbers_ev h gs hx).bind ?_)
    cases grpsB h gs <;> exact Ev.const rfl
theorem firstQuarrel_ev {h : Herd} (v : VHerd h) (gs : List Int) (hx : gs.length ≤ 1048576) : ∃ r : Int × Int × Int, Ev (fun k => spec_FirstQuarrel.f k h gs) r ∧ Ev (fun k => impl_FirstQuarrel.f k h gs) r := by
  have h1 := told_ev v gs hx
  have h2 := implHerd_ev v
  cases hv : vH h
  · rw [hv] at h1 h2
    exact ⟨(0, 0, 1), h1.bind (Ev.const rfl), h2.bind (Ev.const rfl)⟩
  · rw [hv] at h1 h2
    have g2 := areGroups_ev h gs hx
    cases hg : grpsB h gs
    · rw [hg] at h1 g2
      exact ⟨(0, 0, 4), h1.bind (Ev.const rfl), h2.bind (Ev.neg (by simp) (g2.bind (Ev.const rfl)))⟩
    · rw [hg] at h1 g2
      have hl : gs.length = h.Names.length := by
        unfold grpsB at hg
        rw [Bool.and_eq_true, decide_eq_true_eq] at hg
        exact hg.2
      obtain ⟨r, q1, q2⟩ := quarrel_ev v hv hl
      cases r with
      | none => exact ⟨(0, 0, 6), h1.bind (Ev.neg (by simp) (q1.bind (Ev.const rfl))), h2.bind (Ev.neg (by simp) (g2.bind (Ev.neg (by simp) (q2.bind (Ev.const rfl)))))⟩
      | some z => exact ⟨(z.1, z.2, 0), h1.bind (Ev.neg (by simp) (q1.bind (Ev.neg (by simp only; omega) (Ev.const rfl)))), h2.bind (Ev.neg (by simp) (g2.bind (Ev.neg (by simp) (q2.bind (Ev.const rfl)))))⟩
theorem FnExactFirstQuarrel.pure (x0 : Herd) (hv0 : VHerd x0) (x1 : List Int) (hv1 : ∀ x ∈ x1, (inI .i64) x) (hb1 : x1.length * 8 ≤ 140737488351232) : ∃ k, laws_FnExactFirstQuarrel.f k x0 x1 = some true := by
  refine Ev.get (r := true) ?_
  by_cases hx : 1048576 < (x1.length : Int)
  · exact Ev.pos hx (Ev.const rfl)
  refine Ev.neg hx ?_
  obtain ⟨r, hr, h⟩ := szHerd_ev x0 hv0 1048576 (by omega) (by omega)
  refine hr.bind ?_
  rcases h with rfl | ⟨a, c⟩
  · exact Ev.pos (by omega) (Ev.const rfl)
  · have hs : smallH x0 := ⟨by omega, by omega, by omega⟩
    have ht := toHerd_ev x0 hs
    have he := eqHerd_ev x0 x0 hs
    rw [decide_eq_true rfl] at he
    have hi := laws_toInt64S_ev x1 (by omega)
    have hei := laws_eqInt64S_ev x1 x1 (by omega)
    rw [decide_eq_true rfl] at hei
    obtain ⟨⟨g, g', c⟩, h1, h2⟩ := firstQuarrel_ev hv0 x1 (by omega)
    refine Ev.neg (by omega) (ht.bind (hi.bind (h1.bind (ht.bind (hi.bind (h2.bind (Ev.bind (Ev.const (show _ = some false by simp)) (Ev.neg (by simp) (ht.bind (he.bind ?_))))))))))
    exact Ev.neg (by simp) (hi.bind (hei.bind (Ev.neg (by simp) (Ev.const rfl))))
end Go.Proofs.YtimpcenflahchaaDoor
