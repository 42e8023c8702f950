/-
  Plain law: FirstStrange of the program and of the reference answer alike.
-/
import Derived.Test.YtpaciifeklccfaaQD3
namespace Go.Proofs.Ytpaciifeklccfaa
open G
set_option linter.unusedVariables false
set_option linter.unusedSimpArgs false
theorem firstStrange_ev {p : Pasture} (v : VPasture p) (xs : List Sight) (hv : ∀ s ∈ xs, VSight s) (hx : xs.length ≤ 1048576) (c : Int) : ∃ r : Int × Int, Ev (fun k => spec_FirstStrange.f k p xs c) r ∧ Ev (fun k => impl_FirstStrange.f k p xs c) r := by
  have h1 := goat_ev v xs hv hx c
  have h2 := sightCode_ev v xs hv hx c
  by_cases h : sCode p xs c = 0
  · obtain ⟨hw, _, hc⟩ := sCode_zero h
    obtain ⟨r, r1, r2⟩ := strange_ev v hw xs hx hc c
    by_cases z : r < 0
    · exact ⟨(0, 6), h1.bind (Ev.neg (by rw [h]; simp) (r1.bind (Ev.pos z (Ev.const rfl)))), h2.bind (Ev.neg (by rw [h]; simp) (r2.bind (Ev.pos z (Ev.const rfl))))⟩
    · exact ⟨(r, 0), h1.bind (Ev.neg (by rw [h]; simp) (r1.bind (Ev.neg z (Ev.const rfl)))), h2.bind (Ev.neg (by rw [h]; simp) (r2.bind (Ev.neg z (Ev.const rfl))))⟩
  · exact ⟨(0, sCode p xs c), h1.bind (Ev.pos h (Ev.const rfl)), h2.bind (Ev.pos h (Ev.const rfl))⟩
theorem FnExactFirstStrange.pure (x0 : Pasture) (hv0 : VPasture x0) (x1 : List Sight) (hv1 : ∀ x ∈ x1, (VSight) x) (hb1 : x1.length * 4 ≤ 140737488351232) (x2 : Int) (hv2 : inI .i64 x2) : ∃ k, laws_FnExactFirstStrange.f k x0 x1 x2 = some true := by
  refine Ev.get (r := true) ?_
  refine Ev.bind (Ev.const (laws_szSightS_eq x1 1048576 (by omega) (by omega) (by omega))) ?_
  by_cases h0 : (1048576 : Int) < x1.length
  · rw [if_pos h0]; exact Ev.const rfl
  rw [if_neg h0]
  have hp := laws_toPasture_ev x0
  have ht := laws_toSightS_ev x1 (by omega)
  have he := laws_eqSightS_ev x1 x1 (by omega)
  rw [decide_eq_true rfl] at he
  obtain ⟨r, r1, r2⟩ := firstStrange_ev hv0 x1 hv1 (by omega) x2
  have hq : Ev (fun _ => if r.1 ≠ r.1 then (some true) else (some (decide (r.2 ≠ r.2)))) false := Ev.neg (by simp) (Ev.const (by simp))
  refine Ev.neg (by omega) (hp.bind (ht.bind (r1.bind (ht.bind (hp.bind (r2.bind (Ev.bind hq (Ev.neg (by simp) (ht.bind (he.bind ?_))))))))))
  exact Ev.neg (by simp) (Ev.const rfl)
end Go.Proofs.Ytpaciifeklccfaa
