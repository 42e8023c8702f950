/-
  Plain law: FewestGroups of the program and of the reference answer alike.
-/
import Derived.Test.YtimpcenflahchaaDoorQT3
namespace Go.Proofs.YtimpcenflahchaaDoor
open G
set_option linter.unusedVariables false
set_option linter.unusedSimpArgs false
theorem fewest_loop {h : Herd} (v : VHerd h) (hv : vH h = true) : ∀ m, m ≤ h.Names.length → ∃ r : List Int × Int × Int, r.1.length ≤ 14 ∧ Ev (fun k => spec_FewestGroups.l1 h k (m : Int)) (.inl r) ∧ Ev (fun k => impl_FewestGroups.l1 h k (m : Int)) (.inl r) := by
  obtain ⟨n1, n2, n3⟩ := vH_len hv
  have one : ∀ m : Nat, m ≤ h.Names.length → ∃ r : List Int × Bool, r.1.length ≤ 14 ∧ ((h.Names.length : Int) ≤ (m : Int) → r.2 = true) ∧ Ev (fun k => spec_l06Colour.f k h ([] : List Int) 0 (m : Int)) r ∧ Ev (fun k => impl_Herd_group.f k h (m : Int) ([] : List Int) 0) r := fun m hm =>
    search_ev v hv (m : Int) (by omega) (by omega) h.Names.length [] (by simp) (by simp) (by simp [us])
  refine upL ?_ ?_
  · obtain ⟨r, r1, r2, r3, r4⟩ := one _ (Nat.le_refl _)
    have r2 := r2 (Int.le_refl _)
    exact ⟨(r.1, (h.Names.length : Int), 0), r1, Ev.step (fun k => spec_FewestGroups.l1.eq_2 _ _ _) (r3.bind (Ev.pos r2 (Ev.const rfl))), Ev.step (fun k => impl_FewestGroups.l1.eq_2 _ _ _) (r4.bind (Ev.pos r2 (Ev.const rfl)))⟩
  · intro m hm ih
    obtain ⟨r, r1, r2, r3, r4⟩ := one m (by omega)
    cases e : r.2
    · obtain ⟨q, q1, q2, q3⟩ := ih
      rw [← wsucc hm (by omega)] at q2 q3
      exact ⟨q, q1, Ev.step (fun k => spec_FewestGroups.l1.eq_2 _ _ _) (r3.bind (Ev.neg (by rw [e]; simp) q2)), Ev.step (fun k => impl_FewestGroups.l1.eq_2 _ _ _) (r4.bind (Ev.neg (by rw [e]; simp) q3))⟩
    · exact ⟨(r.1, (m : Int), 0), r1, Ev.step (fun k => spec_FewestGroups.l1.eq_2 _ _ _) (r3.bind (Ev.pos e (Ev.const rfl))), Ev.step (fun k => impl_FewestGroups.l1.eq_2 _ _ _) (r4.bind (Ev.pos e (Ev.const rfl)))⟩
theorem fewest_ev {h : Herd} (v : VHerd h) : ∃ r : List Int × Int × Int, r.1.length ≤ 14 ∧ Ev (fun k => spec_FewestGroups.f k h) r ∧ Ev (fun k => impl_FewestGroups.f k h) r := by
  have h1 := specHerd_ev v
  have h2 := implHerd_ev v
  cases hv : vH h
  · rw [hv] at h1 h2
    exact ⟨([], 0, 1), by simp, h1.bind (Ev.const rfl), h2.bind (Ev.const rfl)⟩
  · rw [hv] at h1 h2
    obtain ⟨r, hr, g1, g2⟩ := fewest_loop v hv 0 (Nat.zero_le _)
    exact ⟨r, hr, h1.bind (Ev.neg (by simp) (Ev.bind g1 (Ev.const rfl))), h2.bind (Ev.neg (by simp) (Ev.bind g2 (Ev.const rfl)))⟩
theorem same3_ev (g : List Int) (m c : Int) (hg : g.length ≤ 9223372036854775806) : Ev (fun k => (laws_eqInt64S.f k g g).bind fun t25 => if (!t25) = true then some true else (if m ≠ m then some true else some (decide (c ≠ c)))) false := by
  have he := laws_eqInt64S_ev g g (by omega)
  rw [decide_eq_true rfl] at he
  exact he.bind (Ev.neg (by simp) (Ev.neg (by simp) (Ev.const (by simp))))
theorem FnExactFewestGroups.pure (x0 : Herd) (hv0 : VHerd x0) : ∃ k, laws_FnExactFewestGroups.f k x0 = some true := by
  refine Ev.get (r := true) ?_
  obtain ⟨r, hr, h⟩ := szHerd_ev x0 hv0 1048576 (by omega) (by omega)
  refine hr.bind ?_
  rcases h with rfl | ⟨a, c⟩
  · exact Ev.pos (by omega) (Ev.const rfl)
  · have hs : smallH x0 := ⟨by omega, by omega, by omega⟩
    have ht := toHerd_ev x0 hs
    have he := eqHerd_ev x0 x0 hs
    rw [decide_eq_true rfl] at he
    obtain ⟨⟨g, mo, c⟩, hl, h1, h2⟩ := fewest_ev hv0
    have hl : g.length ≤ 14 := hl
    have hq := same3_ev g mo c (by omega)
    obtain ⟨m, hm, hm0⟩ := markHerd_ev x0 hs
    have hk := laws_markInt64S_ev g 1 (by omega) (by omega)
    have hd := laws_heldInt64S_ev g.length 1 (by omega) (by omega)
    exact Ev.neg (by omega) (ht.bind (h1.bind (ht.bind (h2.bind (Ev.bind hq (Ev.neg (by simp) (ht.bind (he.bind (Ev.neg (by simp) (hm.bind (Ev.bind (Ev.neg (by omega) hq) (Ev.neg (by simp) (hk.bind (hd.bind (Ev.neg (by omega) (Ev.neg (by simp) (ht.bind (h2.bind (Ev.bind hq (Ev.neg (by simp) (hd.bind (Ev.neg (by omega) (Ev.neg (by simp) (Ev.const rfl))))))))))))))))))))))))
end Go.Proofs.YtimpcenflahchaaDoor
