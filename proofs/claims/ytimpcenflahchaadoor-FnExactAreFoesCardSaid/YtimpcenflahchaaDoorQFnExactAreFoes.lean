/-
  Plain law: AreFoes of the program and of the reference answer alike.
-/
import Derived.Test.YtimpcenflahchaaDoorQH2
namespace Go.Proofs.YtimpcenflahchaaDoor
open G
set_option linter.unusedVariables false
set_option linter.unusedSimpArgs false
theorem areFoes_ev {h : Herd} (v : VHerd h) (a b : Int) : ∃ r : Bool × Int, Ev (fun k => spec_AreFoes.f k h a b) r ∧ Ev (fun k => impl_AreFoes.f k h a b) r := by
  have h1 := specAsked_ev v [a, b] (by simp)
  have h2 := herdCode_ev v [a, b] (by simp)
  by_cases hc : goatC h [a, b] = 0
  · obtain ⟨hv, hg⟩ := goatC_zero hc
    obtain ⟨i, hi, rfl⟩ := hg a (by simp)
    obtain ⟨j, hj, rfl⟩ := hg b (by simp)
    obtain ⟨n1, n2, n3⟩ := vH_len hv
    exact ⟨(foeB h i j, 0), h1.bind (Ev.neg (by rw [hc]; simp) (Ev.bind (Ev.const (specAre_eq v (by omega) (by omega))) (Ev.const rfl))), h2.bind (Ev.neg (by rw [hc]; simp) (Ev.bind (Ev.const (implAre_eq (by omega))) (Ev.const rfl)))⟩
  · exact ⟨(false, _), h1.bind (Ev.pos hc (Ev.const rfl)), h2.bind (Ev.pos hc (Ev.const rfl))⟩
theorem FnExactAreFoes.pure (x0 : Herd) (hv0 : VHerd x0) (x1 : Int) (hv1 : inI .i64 x1) (x2 : Int) (hv2 : inI .i64 x2) : ∃ k, laws_FnExactAreFoes.f k x0 x1 x2 = some true := by
  refine Ev.get (r := true) ?_
  obtain ⟨r, hr, h⟩ := szHerd_ev x0 hv0 1048576 (by omega) (by omega)
  refine hr.bind ?_
  rcases h with rfl | ⟨a, c⟩
  · exact Ev.pos (by omega) (Ev.const rfl)
  · have hs : smallH x0 := ⟨by omega, by omega, by omega⟩
    have ht := toHerd_ev x0 hs
    have he := eqHerd_ev x0 x0 hs
    rw [decide_eq_true rfl] at he
    obtain ⟨⟨g, c⟩, h1, h2⟩ := areFoes_ev hv0 x1 x2
    refine Ev.neg (by omega) (ht.bind (h1.bind (ht.bind (h2.bind (Ev.bind (Ev.const (show _ = some false by simp)) (Ev.neg (by simp) (ht.bind (he.bind ?_))))))))
    exact Ev.neg (by simp) (Ev.const rfl)
end Go.Proofs.YtimpcenflahchaaDoor
