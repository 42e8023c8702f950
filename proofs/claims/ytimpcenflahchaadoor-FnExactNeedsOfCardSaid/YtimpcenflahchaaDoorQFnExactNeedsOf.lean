/-
  Plain law: NeedsOf of the program and of the reference answer alike.
-/
import Derived.Test.YtimpcenflahchaaDoorQN
namespace Go.Proofs.YtimpcenflahchaaDoor
open G
set_option linter.unusedVariables false
set_option linter.unusedSimpArgs false
theorem FnExactNeedsOf.pure (x0 : Herd) (hv0 : VHerd x0) (x1 : List Int) (hv1 : ∀ x ∈ x1, (inI .i64) x) (hb1 : x1.length * 8 ≤ 140737488351232) : ∃ k, laws_FnExactNeedsOf.f k x0 x1 = some true := by
  refine Ev.get (r := true) ?_
  by_cases hx : 1048576 < (x1.length : Int)
  · exact Ev.pos hx (Ev.const rfl)
  refine Ev.neg hx ?_
  obtain ⟨r, hr, h⟩ := szHerd_ev x0 hv0 1048576 (by omega) (by omega)
  refine hr.bind ?_
  rcases h with rfl | ⟨a, c⟩
  · exact Ev.pos (by omega) (Ev.const rfl)
  · have hs : smallH x0 := ⟨by omega, by omega, by omega⟩
    have ht := toHerd_ev x0 hs
    have he := eqHerd_ev x0 x0 hs
    rw [decide_eq_true rfl] at he
    have hi := laws_toInt64S_ev x1 (by omega)
    have hei := laws_eqInt64S_ev x1 x1 (by omega)
    rw [decide_eq_true rfl] at hei
    obtain ⟨⟨g, c⟩, hl, h1, h2⟩ := needsOf_ev hv0 x1 (by omega)
    have hl : g.length ≤ 14 := hl
    have hq := same_ev g c (by omega)
    obtain ⟨m, hm, hm0⟩ := markHerd_ev x0 hs
    have hm1 := laws_markInt64S_ev x1 m.1 (by omega) (by omega)
    have hk := laws_markInt64S_ev g 1 (by omega) (by omega)
    have hd := laws_heldInt64S_ev g.length 1 (by omega) (by omega)
    exact Ev.neg (by omega) (ht.bind (hi.bind (h1.bind (ht.bind (hi.bind (h2.bind (Ev.bind hq (Ev.neg (by simp) (ht.bind (he.bind (Ev.neg (by simp) (hi.bind (hei.bind (Ev.neg (by simp) (hm.bind (hm1.bind (Ev.bind (Ev.neg (by omega) hq) (Ev.neg (by simp) (hk.bind (hd.bind (Ev.neg (by omega) (Ev.neg (by simp) (ht.bind (hi.bind (h2.bind (Ev.bind hq (Ev.neg (by simp) (hd.bind (Ev.neg (by omega) (Ev.neg (by simp) (Ev.const rfl)))))))))))))))))))))))))))))))
end Go.Proofs.YtimpcenflahchaaDoor
