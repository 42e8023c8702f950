/-
  Plain law: AllFoes of the program and of the reference answer alike.
-/
import Derived.Test.YtimpcenflahchaaDoorQL2
namespace Go.Proofs.YtimpcenflahchaaDoor
open G
set_option linter.unusedVariables false
set_option linter.unusedSimpArgs false
theorem allFoes_ev {h : Herd} (v : VHerd h) : ∃ r : List Int × Int, r.1.length ≤ 14 ∧ Ev (fun k => spec_AllFoes.f k h) r ∧ Ev (fun k => impl_AllFoes.f k h) r := by
  have h1 := specHerd_ev v
  have h2 := implHerd_ev v
  cases hv : vH h
  · rw [hv] at h1 h2
    exact ⟨([], 1), by simp, h1.bind (Ev.const rfl), h2.bind (Ev.const rfl)⟩
  · rw [hv] at h1 h2
    obtain ⟨r, hr, g1, g2⟩ := largest_ev v hv true
    exact ⟨(r, 0), hr, h1.bind (Ev.neg (by simp) (g1.bind (Ev.const rfl))), h2.bind (Ev.neg (by simp) (g2.bind (Ev.const rfl)))⟩
theorem FnExactAllFoes.pure (x0 : Herd) (hv0 : VHerd x0) : ∃ k, laws_FnExactAllFoes.f k x0 = some true := by
  refine Ev.get (r := true) ?_
  obtain ⟨r, hr, h⟩ := szHerd_ev x0 hv0 1048576 (by omega) (by omega)
  refine hr.bind ?_
  rcases h with rfl | ⟨a, c⟩
  · exact Ev.pos (by omega) (Ev.const rfl)
  · have hs : smallH x0 := ⟨by omega, by omega, by omega⟩
    have ht := toHerd_ev x0 hs
    have he := eqHerd_ev x0 x0 hs
    rw [decide_eq_true rfl] at he
    obtain ⟨⟨g, c⟩, hl, h1, h2⟩ := allFoes_ev hv0
    have hl : g.length ≤ 14 := hl
    have hq := same_ev g c (by omega)
    obtain ⟨m, hm, hm0⟩ := markHerd_ev x0 hs
    have hk := laws_markInt64S_ev g 1 (by omega) (by omega)
    have hd := laws_heldInt64S_ev g.length 1 (by omega) (by omega)
    exact Ev.neg (by omega) (ht.bind (h1.bind (ht.bind (h2.bind (Ev.bind hq (Ev.neg (by simp) (ht.bind (he.bind (Ev.neg (by simp) (hm.bind (Ev.bind (Ev.neg (by omega) hq) (Ev.neg (by simp) (hk.bind (hd.bind (Ev.neg (by omega) (Ev.neg (by simp) (ht.bind (h2.bind (Ev.bind hq (Ev.neg (by simp) (hd.bind (Ev.neg (by omega) (Ev.neg (by simp) (Ev.const rfl))))))))))))))))))))))))
end Go.Proofs.YtimpcenflahchaaDoor
