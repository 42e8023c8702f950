/-
  Plain law: SameHerd of the program and of the reference answer alike.
-/
import Derived.Test.YtimpcenflahchaaQA
namespace Go.Proofs.Ytimpcenflahchaa
open G
set_option linter.unusedVariables false
set_option linter.unusedSimpArgs false

theorem implSame_ev (a b : Herd) (hs : smallH a) : Ev (fun k => impl_SameHerd.f k a b) (decide (a = b)) := by
  obtain ⟨s1, s2, s3⟩ := hs
  refine Ev.bind (slices_Equal_string_string_ev a.Names b.Names (by omega)) ?_
  by_cases e1 : a.Names = b.Names
  · refine Ev.pos (by simp [e1]) (Ev.bind (slices_Equal_int16_int16_ev a.Eats b.Eats (by omega)) ?_)
    by_cases e2 : a.Eats = b.Eats
    · refine Ev.pos (by simp [e2]) (Ev.bind (slices_Equal_uint16_uint16_ev a.Foes b.Foes (by omega)) (Ev.const ?_))
      simp [herd_eq, e1, e2]
    · exact Ev.neg (by simp [e2]) (Ev.const (by simp [herd_eq, e2]))
  · exact Ev.neg (by simp [e1]) (Ev.const (by simp [herd_eq, e1]))
theorem specSame_ev (a b : Herd) (hs : smallH a) : Ev (fun k => spec_SameHerd.f k a b) (decide (a = b)) := by
  obtain ⟨s1, s2, s3⟩ := hs
  by_cases hl : a.Names.length = b.Names.length ∧ a.Eats.length = b.Eats.length ∧ a.Foes.length = b.Foes.length
  · obtain ⟨l1, l2, l3⟩ := hl
    refine Ev.bind (a := false) (Ev.const (by simp [l1, l2, l3])) (Ev.neg (by simp) ?_)
    have h1 : Ev (fun k => spec_SameHerd.l1 a b k 0) (if a.Names = b.Names then .inr () else .inl false) := ⟨a.Names.length + 1, fun k hk => eqLoop (f := spec_SameHerd.l1 a b) l1 (by omega) (fun _ _ => rfl) (by omega)⟩
    have h2 : Ev (fun k => spec_SameHerd.l2 a b k 0) (if a.Eats = b.Eats then .inr () else .inl false) := ⟨a.Eats.length + 1, fun k hk => eqLoop (f := spec_SameHerd.l2 a b) l2 (by omega) (fun _ _ => rfl) (by omega)⟩
    have h3 : Ev (fun k => spec_SameHerd.l3 a b k 0) (if a.Foes = b.Foes then .inr () else .inl false) := ⟨a.Foes.length + 1, fun k hk => eqLoop (f := spec_SameHerd.l3 a b) l3 (by omega) (fun _ _ => rfl) (by omega)⟩
    refine Ev.bind h1 ?_
    by_cases e1 : a.Names = b.Names
    · rw [if_pos e1]
      refine Ev.bind h2 ?_
      by_cases e2 : a.Eats = b.Eats
      · rw [if_pos e2]
        refine Ev.bind h3 ?_
        by_cases e3 : a.Foes = b.Foes
        · rw [if_pos e3]; exact Ev.const (by simp [herd_eq, e1, e2, e3])
        · rw [if_neg e3]; exact Ev.const (by simp [herd_eq, e3])
      · rw [if_neg e2]; exact Ev.const (by simp [herd_eq, e2])
    · rw [if_neg e1]; exact Ev.const (by simp [herd_eq, e1])
  · have hne : a ≠ b := by
      rintro rfl
      exact hl ⟨rfl, rfl, rfl⟩
    refine Ev.bind (a := true) (Ev.const ?_) (Ev.pos rfl (Ev.const (by simp [hne])))
    by_cases l1 : a.Names.length = b.Names.length
    · by_cases l2 : a.Eats.length = b.Eats.length
      · have l3 : a.Foes.length ≠ b.Foes.length := fun e => hl ⟨l1, l2, e⟩
        rw [if_neg (by omega), if_neg (by omega), decide_eq_true (by omega)]
      · rw [if_neg (by omega), if_pos (by omega)]
    · rw [if_pos (by omega)]
theorem FnExactSameHerd.pure (x0 : Herd) (hv0 : VHerd x0) (x1 : Herd) (hv1 : VHerd x1) : ∃ k, laws_FnExactSameHerd.f k x0 x1 = some true := by
  refine Ev.get (r := true) ?_
  obtain ⟨r, hr, h⟩ := szHerd_ev x0 hv0 1048576 (by omega) (by omega)
  refine Ev.bind hr ?_
  rcases h with rfl | ⟨a, c⟩
  · exact Ev.pos (by omega) (Ev.const rfl)
  refine Ev.neg (by omega) ?_
  obtain ⟨r', hr', h'⟩ := szHerd_ev x1 hv1 r (by omega) (by omega)
  refine Ev.bind hr' ?_
  rcases h' with rfl | ⟨a', c'⟩
  · exact Ev.pos (by omega) (Ev.const rfl)
  refine Ev.neg (by omega) ?_
  have s0 : smallH x0 := ⟨by omega, by omega, by omega⟩
  have s1 : smallH x1 := ⟨by omega, by omega, by omega⟩
  have t0 := toHerd_ev x0 s0
  have t1 := toHerd_ev x1 s1
  refine Ev.bind t0 (Ev.bind t1 (Ev.bind (specSame_ev x0 x1 s0) (Ev.bind t0 (Ev.bind t1 (Ev.bind (implSame_ev x0 x1 s0) ?_)))))
  refine Ev.neg (by simp) (Ev.bind t0 (Ev.bind (eqHerd_ev x0 x0 s0) (Ev.neg (by simp) (Ev.bind t1 (Ev.bind (eqHerd_ev x1 x1 s1) ?_)))))
  exact Ev.const (by simp)

end Go.Proofs.Ytimpcenflahchaa
