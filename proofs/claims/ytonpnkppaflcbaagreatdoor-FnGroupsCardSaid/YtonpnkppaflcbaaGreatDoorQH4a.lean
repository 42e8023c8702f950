
/-
  Plain laws: groups and quarrels.
-/
import Derived.Test.YtonpnkppaflcbaaGreatDoorQH2
namespace Go.Proofs.YtonpnkppaflcbaaGreatDoor
open G
set_option linter.unusedVariables false
set_option linter.unusedSimpArgs false
/-! ### Groups -/
def grpB (g : Int) : Bool := decide (0 ≤ g ∧ g ≤ 13)
def grpsB (h : Herd) (gs : List Int) : Bool := gs.all grpB && decide (gs.length = h.Names.length)
theorem numbers_loop (gs : List Int) (hx : gs.length ≤ 1048576) : ∀ i : Nat, i ≤ gs.length → Ev (fun k => spec_l06Numbers.l1 gs k (i : Int)) (if (gs.drop i).all grpB = true then .inr () else .inl false) := by
  refine upL ?_ ?_
  · rw [List.drop_of_length_le (Nat.le_refl _)]
    exact Ev.step (fun k => spec_l06Numbers.l1.eq_2 _ _ _) (Ev.neg (by omega) (Ev.const rfl))
  · intro i hi ih
    refine Ev.step (fun k => spec_l06Numbers.l1.eq_2 _ _ _) (Ev.pos (by omega) ?_)
    rw [List.drop_eq_getElem_cons hi, List.all_cons]
    simp only [getI_nat hi, Option.bind_some, l00In_eq, wsucc hi (by omega)]
    by_cases h1 : 0 ≤ gs[i] ∧ gs[i] ≤ 13
    · refine Ev.neg (by simp [h1]) ?_
      simpa [grpB, h1] using ih
    · refine Ev.pos (by simp [h1]) (Ev.const ?_)
      simp [grpB, h1]
theorem numbers_ev (h : Herd) (gs : List Int) (hx : gs.length ≤ 1048576) : Ev (fun k => spec_l06Numbers.f k h gs) (grpsB h gs) := by
  have h1 := numbers_loop gs hx 0 (Nat.zero_le _)
  rw [List.drop_zero] at h1
  unfold grpsB
  refine h1.bind ?_
  cases gs.all grpB
  · exact Ev.const rfl
  · refine Ev.const ?_
    simp only [if_true, Bool.true_and]
    congr 2
    simp only [eq_iff_iff]; omega
theorem areGroups_ev (h : Herd) (gs : List Int) (hx : gs.length ≤ 1048576) : Ev (fun k => impl_Herd_areGroups.f k h gs) (grpsB h gs) := by
  have hg : ∀ y ∈ gs, impl_Herd_areGroups_1.f y = some (!grpB y) := fun y _ => by
    unfold impl_Herd_areGroups_1.f; rw [within_eq]; rfl
  refine Ev.bind (Ev.const rfl) (Ev.bind (Ev.const (show _ = some (h.Names.length : Int) from rfl)) ?_)
  unfold grpsB
  by_cases e : (gs.length : Int) = (h.Names.length : Int)
  · refine Ev.pos e ((containsI_ev gs hg (by omega)).bind (Ev.const ?_))
    have ha : gs.any (fun y => !grpB y) = !gs.all grpB := by rw [List.not_all_eq_any_not]
    rw [ha, Bool.not_not, decide_eq_true (show gs.length = h.Names.length by omega), Bool.and_true]
  · refine Ev.neg e (Ev.const ?_)
    rw [decide_eq_false (show ¬ gs.length = h.Names.length by omega), Bool.and_false]
end Go.Proofs.YtonpnkppaflcbaaGreatDoor
