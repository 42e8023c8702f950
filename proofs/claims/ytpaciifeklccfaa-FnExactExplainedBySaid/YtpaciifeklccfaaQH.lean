/-
  Plain laws: what the laws' own helpers come to (copies, comparisons, marks), type by type.
-/
import Derived.Test.YtpaciifeklccfaaGO
namespace Go.Proofs.Ytpaciifeklccfaa
open G
set_option linter.unusedVariables false
set_option linter.unusedSimpArgs false

theorem laws_szSightS_eq (xs : List Sight) (b : Int) (h0 : 0 ≤ b) (h1 : b ≤ 1048576) (hx : xs.length ≤ 9223372036854775807) : laws_szSightS.f xs b = some (if b < (xs.length : Int) then -1 else b - xs.length) := by
  unfold laws_szSightS.f
  rw [w64 (by omega) (by omega)]
  by_cases h : b < (xs.length : Int)
  · rw [if_pos (by omega), if_pos h]
  · rw [if_neg (by omega), if_neg h]

theorem laws_toInt16A10_ev (a : (Arr 10 Int)) : Ev (fun k => laws_toInt16A10.f k a) a := by
  have key : ∀ i, i ≤ 10 → ∀ ys : (Arr 10 Int), ys.l.take i = a.l.take i → Ev (fun k => laws_toInt16A10.l1 a k ys (i : Int)) a := by
    refine upL ?_ ?_
    · intro ys ht
      refine Ev.step (fun k => laws_toInt16A10.l1.eq_2 _ _ _ _) (Ev.neg (by omega) (Ev.const ?_))
      rw [List.take_of_length_le (by rw [ys.len]; omega), List.take_of_length_le (by rw [a.len]; omega)] at ht
      congr 1
      cases ys; cases a; simp only at ht; subst ht; rfl
    · intro i hi ih ys ht
      refine Ev.step (fun k => laws_toInt16A10.l1.eq_2 _ _ _ _) (Ev.pos (by omega) ?_)
      have h1 : i < a.l.length := by rw [a.len]; exact hi
      have h2 : i < ys.l.length := by rw [ys.len]; exact hi
      refine Ev.bind (Ev.const (getI_nat h1)) (Ev.bind (Ev.const (getI_nat h2)) ?_)
      rw [wsucc hi (by omega)]
      refine ih _ ?_
      show (ys.l.set ((i : Int)).toNat a.l[i]).take (i + 1) = _
      rw [Int.toNat_natCast, List.take_succ_eq_append_getElem (by simpa using h2), List.take_set_of_le (Nat.le_refl _), ht, List.getElem_set_self, List.take_succ_eq_append_getElem h1]
  have := key 0 (Nat.zero_le _) (Arr.mk' 0 : Arr 10 Int) (by simp)
  exact this.bind (Ev.const rfl)

theorem laws_toInt16A10A10_ev (a : (Arr 10 (Arr 10 Int))) : Ev (fun k => laws_toInt16A10A10.f k a) a := by
  have key : ∀ i, i ≤ 10 → ∀ ys : (Arr 10 (Arr 10 Int)), ys.l.take i = a.l.take i → Ev (fun k => laws_toInt16A10A10.l1 a k ys (i : Int)) a := by
    refine upL ?_ ?_
    · intro ys ht
      refine Ev.step (fun k => laws_toInt16A10A10.l1.eq_2 _ _ _ _) (Ev.neg (by omega) (Ev.const ?_))
      rw [List.take_of_length_le (by rw [ys.len]; omega), List.take_of_length_le (by rw [a.len]; omega)] at ht
      congr 1
      cases ys; cases a; simp only at ht; subst ht; rfl
    · intro i hi ih ys ht
      refine Ev.step (fun k => laws_toInt16A10A10.l1.eq_2 _ _ _ _) (Ev.pos (by omega) ?_)
      have h1 : i < a.l.length := by rw [a.len]; exact hi
      have h2 : i < ys.l.length := by rw [ys.len]; exact hi
      refine Ev.bind (Ev.const (getI_nat h1)) (Ev.bind (laws_toInt16A10_ev _) (Ev.bind (Ev.const (getI_nat h2)) ?_))
      rw [wsucc hi (by omega)]
      refine ih _ ?_
      show (ys.l.set ((i : Int)).toNat a.l[i]).take (i + 1) = _
      rw [Int.toNat_natCast, List.take_succ_eq_append_getElem (by simpa using h2), List.take_set_of_le (Nat.le_refl _), ht, List.getElem_set_self, List.take_succ_eq_append_getElem h1]
  have := key 0 (Nat.zero_le _) (Arr.mk' (Arr.mk' 0 : Arr 10 Int) : Arr 10 (Arr 10 Int)) (by simp)
  exact this.bind (Ev.const rfl)

theorem laws_toUint16A10_ev (a : (Arr 10 Int)) : Ev (fun k => laws_toUint16A10.f k a) a := by
  have key : ∀ i, i ≤ 10 → ∀ ys : (Arr 10 Int), ys.l.take i = a.l.take i → Ev (fun k => laws_toUint16A10.l1 a k ys (i : Int)) a := by
    refine upL ?_ ?_
    · intro ys ht
      refine Ev.step (fun k => laws_toUint16A10.l1.eq_2 _ _ _ _) (Ev.neg (by omega) (Ev.const ?_))
      rw [List.take_of_length_le (by rw [ys.len]; omega), List.take_of_length_le (by rw [a.len]; omega)] at ht
      congr 1
      cases ys; cases a; simp only at ht; subst ht; rfl
    · intro i hi ih ys ht
      refine Ev.step (fun k => laws_toUint16A10.l1.eq_2 _ _ _ _) (Ev.pos (by omega) ?_)
      have h1 : i < a.l.length := by rw [a.len]; exact hi
      have h2 : i < ys.l.length := by rw [ys.len]; exact hi
      refine Ev.bind (Ev.const (getI_nat h1)) (Ev.bind (Ev.const (getI_nat h2)) ?_)
      rw [wsucc hi (by omega)]
      refine ih _ ?_
      show (ys.l.set ((i : Int)).toNat a.l[i]).take (i + 1) = _
      rw [Int.toNat_natCast, List.take_succ_eq_append_getElem (by simpa using h2), List.take_set_of_le (Nat.le_refl _), ht, List.getElem_set_self, List.take_succ_eq_append_getElem h1]
  have := key 0 (Nat.zero_le _) (Arr.mk' 0 : Arr 10 Int) (by simp)
  exact this.bind (Ev.const rfl)

theorem laws_toSpot_eq (x : Spot) : laws_toSpot.f x = some x := rfl

theorem laws_toSight_eq (x : Sight) : laws_toSight.f x = some x := rfl

theorem laws_toSightS_ev (xs : List Sight) (hx : xs.length ≤ 1048576) : Ev (fun k => laws_toSightS.f k xs) xs := by
  refine ⟨xs.length + 1, fun k hk => ?_⟩
  show laws_toSightS.f k xs = _
  unfold laws_toSightS.f
  rw [chk_t (by omega), Option.bind_some, copyL0 (f := laws_toSightS.l1 xs) (g := laws_toSight.f) (h := id) (fun x _ => rfl) (by omega) (fun _ _ _ => rfl) (by omega)]
  simp

theorem laws_eqSpot_eq (x y : Spot) : laws_eqSpot.f x y = some (decide (x = y)) := by
  unfold laws_eqSpot.f
  cases x; cases y
  simp only [Spot.mk.injEq]
  repeat' split
  all_goals simp_all

theorem laws_eqSight_eq (x y : Sight) : laws_eqSight.f x y = some (decide (x = y)) := by
  unfold laws_eqSight.f
  simp only [laws_eqSpot_eq, Option.bind_some]
  cases x; cases y
  simp only [Sight.mk.injEq]
  repeat' split
  all_goals simp_all

theorem laws_eqSightS_ev (xs ys : List Sight) (hx : xs.length ≤ 9223372036854775806) : Ev (fun k => laws_eqSightS.f k xs ys) (decide (xs = ys)) := by
  refine ⟨xs.length + 1, fun k hk => ?_⟩
  show laws_eqSightS.f k xs ys = _
  unfold laws_eqSightS.f
  by_cases hl : xs.length = ys.length
  · rw [if_neg (by omega), eqLoop' (f := laws_eqSightS.l1 xs ys) hl (by omega) laws_eqSight_eq (fun _ _ => rfl) (by omega)]
    by_cases e : xs = ys <;> simp [e]
  · rw [if_pos (by omega)]
    have : xs ≠ ys := fun e => hl (by rw [e])
    simp [this]

theorem laws_eqHurdle_eq (x y : Hurdle) : laws_eqHurdle.f x y = some (decide (x = y)) := by
  unfold laws_eqHurdle.f
  simp only [laws_eqSpot_eq, Option.bind_some]
  cases x; cases y
  simp only [Hurdle.mk.injEq]
  repeat' split
  all_goals simp_all

theorem laws_eqHurdleS_ev (xs ys : List Hurdle) (hx : xs.length ≤ 9223372036854775806) : Ev (fun k => laws_eqHurdleS.f k xs ys) (decide (xs = ys)) := by
  refine ⟨xs.length + 1, fun k hk => ?_⟩
  show laws_eqHurdleS.f k xs ys = _
  unfold laws_eqHurdleS.f
  by_cases hl : xs.length = ys.length
  · rw [if_neg (by omega), eqLoop' (f := laws_eqHurdleS.l1 xs ys) hl (by omega) laws_eqHurdle_eq (fun _ _ => rfl) (by omega)]
    by_cases e : xs = ys <;> simp [e]
  · rw [if_pos (by omega)]
    have : xs ≠ ys := fun e => hl (by rw [e])
    simp [this]

end Go.Proofs.Ytpaciifeklccfaa
