/-
  Plain laws: what the laws' own helpers come to (copies, comparisons, marks), type by type.
-/
import Derived.Test.YtlmfhjjhgiobdaaGO
namespace Go.Proofs.Ytlmfhjjhgiobdaa
open G
set_option linter.unusedVariables false
set_option linter.unusedSimpArgs false

theorem laws_toInt16A10_ev (a : (Arr 10 Int)) : Ev (fun k => laws_toInt16A10.f k a) a := by
  have key : ∀ i, i ≤ 10 → ∀ ys : (Arr 10 Int), ys.l.take i = a.l.take i → Ev (fun k => laws_toInt16A10.l1 a k ys (i : Int)) a := by
    refine upL ?_ ?_
    · intro ys ht
      refine Ev.step (fun k => laws_toInt16A10.l1.eq_2 _ _ _ _) (Ev.neg (by omega) (Ev.const ?_))
      rw [List.take_of_length_le (by rw [ys.len]; omega), List.take_of_length_le (by rw [a.len]; omega)] at ht
      congr 1
      cases ys; cases a; simp only at ht; subst ht; rfl
    · intro i hi ih ys ht
      refine Ev.step (fun k => laws_toInt16A10.l1.eq_2 _ _ _ _) (Ev.pos (by omega) ?_)
      have h1 : i < a.l.length := by rw [a.len]; exact hi
      have h2 : i < ys.l.length := by rw [ys.len]; exact hi
      refine Ev.bind (Ev.const (getI_nat h1)) (Ev.bind (Ev.const (getI_nat h2)) ?_)
      rw [wsucc hi (by omega)]
      refine ih _ ?_
      show (ys.l.set ((i : Int)).toNat a.l[i]).take (i + 1) = _
      rw [Int.toNat_natCast, List.take_succ_eq_append_getElem (by simpa using h2), List.take_set_of_le (Nat.le_refl _), ht, List.getElem_set_self, List.take_succ_eq_append_getElem h1]
  have := key 0 (Nat.zero_le _) (Arr.mk' 0 : Arr 10 Int) (by simp)
  exact this.bind (Ev.const rfl)

theorem laws_toInt16A10A10_ev (a : (Arr 10 (Arr 10 Int))) : Ev (fun k => laws_toInt16A10A10.f k a) a := by
  have key : ∀ i, i ≤ 10 → ∀ ys : (Arr 10 (Arr 10 Int)), ys.l.take i = a.l.take i → Ev (fun k => laws_toInt16A10A10.l1 a k ys (i : Int)) a := by
    refine upL ?_ ?_
    · intro ys ht
      refine Ev.step (fun k => laws_toInt16A10A10.l1.eq_2 _ _ _ _) (Ev.neg (by omega) (Ev.const ?_))
      rw [List.take_of_length_le (by rw [ys.len]; omega), List.take_of_length_le (by rw [a.len]; omega)] at ht
      congr 1
      cases ys; cases a; simp only at ht; subst ht; rfl
    · intro i hi ih ys ht
      refine Ev.step (fun k => laws_toInt16A10A10.l1.eq_2 _ _ _ _) (Ev.pos (by omega) ?_)
      have h1 : i < a.l.length := by rw [a.len]; exact hi
      have h2 : i < ys.l.length := by rw [ys.len]; exact hi
      refine Ev.bind (Ev.const (getI_nat h1)) (Ev.bind (laws_toInt16A10_ev _) (Ev.bind (Ev.const (getI_nat h2)) ?_))
      rw [wsucc hi (by omega)]
      refine ih _ ?_
      show (ys.l.set ((i : Int)).toNat a.l[i]).take (i + 1) = _
      rw [Int.toNat_natCast, List.take_succ_eq_append_getElem (by simpa using h2), List.take_set_of_le (Nat.le_refl _), ht, List.getElem_set_self, List.take_succ_eq_append_getElem h1]
  have := key 0 (Nat.zero_le _) (Arr.mk' (Arr.mk' 0 : Arr 10 Int) : Arr 10 (Arr 10 Int)) (by simp)
  exact this.bind (Ev.const rfl)

theorem laws_toUint16A10_ev (a : (Arr 10 Int)) : Ev (fun k => laws_toUint16A10.f k a) a := by
  have key : ∀ i, i ≤ 10 → ∀ ys : (Arr 10 Int), ys.l.take i = a.l.take i → Ev (fun k => laws_toUint16A10.l1 a k ys (i : Int)) a := by
    refine upL ?_ ?_
    · intro ys ht
      refine Ev.step (fun k => laws_toUint16A10.l1.eq_2 _ _ _ _) (Ev.neg (by omega) (Ev.const ?_))
      rw [List.take_of_length_le (by rw [ys.len]; omega), List.take_of_length_le (by rw [a.len]; omega)] at ht
      congr 1
      cases ys; cases a; simp only at ht; subst ht; rfl
    · intro i hi ih ys ht
      refine Ev.step (fun k => laws_toUint16A10.l1.eq_2 _ _ _ _) (Ev.pos (by omega) ?_)
      have h1 : i < a.l.length := by rw [a.len]; exact hi
      have h2 : i < ys.l.length := by rw [ys.len]; exact hi
      refine Ev.bind (Ev.const (getI_nat h1)) (Ev.bind (Ev.const (getI_nat h2)) ?_)
      rw [wsucc hi (by omega)]
      refine ih _ ?_
      show (ys.l.set ((i : Int)).toNat a.l[i]).take (i + 1) = _
      rw [Int.toNat_natCast, List.take_succ_eq_append_getElem (by simpa using h2), List.take_set_of_le (Nat.le_refl _), ht, List.getElem_set_self, List.take_succ_eq_append_getElem h1]
  have := key 0 (Nat.zero_le _) (Arr.mk' 0 : Arr 10 Int) (by simp)
  exact this.bind (Ev.const rfl)

theorem laws_eqMeadow_eq (x y : Meadow) : laws_eqMeadow.f x y = some (decide (x = y)) := by
  unfold laws_eqMeadow.f
  cases x; cases y
  simp only [Meadow.mk.injEq]
  repeat' split
  all_goals simp_all

theorem laws_eqMeadowS_ev (xs ys : List Meadow) (hx : xs.length ≤ 9223372036854775806) : Ev (fun k => laws_eqMeadowS.f k xs ys) (decide (xs = ys)) := by
  refine ⟨xs.length + 1, fun k hk => ?_⟩
  show laws_eqMeadowS.f k xs ys = _
  unfold laws_eqMeadowS.f
  by_cases hl : xs.length = ys.length
  · rw [if_neg (by omega), eqLoop' (f := laws_eqMeadowS.l1 xs ys) hl (by omega) laws_eqMeadow_eq (fun _ _ => rfl) (by omega)]
    by_cases e : xs = ys <;> simp [e]
  · rw [if_pos (by omega)]
    have : xs ≠ ys := fun e => hl (by rw [e])
    simp [this]

theorem laws_szSpotS_eq (xs : List Spot) (b : Int) (h0 : 0 ≤ b) (h1 : b ≤ 1048576) (hx : xs.length ≤ 9223372036854775807) : laws_szSpotS.f xs b = some (if b < (xs.length : Int) then -1 else b - xs.length) := by
  unfold laws_szSpotS.f
  rw [w64 (by omega) (by omega)]
  by_cases h : b < (xs.length : Int)
  · rw [if_pos (by omega), if_pos h]
  · rw [if_neg (by omega), if_neg h]

theorem laws_toSpot_eq (x : Spot) : laws_toSpot.f x = some x := rfl

theorem laws_toSpotS_ev (xs : List Spot) (hx : xs.length ≤ 1048576) : Ev (fun k => laws_toSpotS.f k xs) xs := by
  refine ⟨xs.length + 1, fun k hk => ?_⟩
  show laws_toSpotS.f k xs = _
  unfold laws_toSpotS.f
  rw [chk_t (by omega), Option.bind_some, copyL0 (f := laws_toSpotS.l1 xs) (g := laws_toSpot.f) (h := id) (fun x _ => rfl) (by omega) (fun _ _ _ => rfl) (by omega)]
  simp

theorem laws_eqInt64S_ev (xs ys : List Int) (hx : xs.length ≤ 9223372036854775806) : Ev (fun k => laws_eqInt64S.f k xs ys) (decide (xs = ys)) := by
  refine ⟨xs.length + 1, fun k hk => ?_⟩
  show laws_eqInt64S.f k xs ys = _
  unfold laws_eqInt64S.f
  by_cases hl : xs.length = ys.length
  · rw [if_neg (by omega), eqLoop (f := laws_eqInt64S.l1 xs ys) hl (by omega) (fun _ _ => rfl) (by omega)]
    by_cases e : xs = ys <;> simp [e]
  · rw [if_pos (by omega)]
    have : xs ≠ ys := fun e => hl (by rw [e])
    simp [this]

theorem laws_eqSpot_eq (x y : Spot) : laws_eqSpot.f x y = some (decide (x = y)) := by
  unfold laws_eqSpot.f
  cases x; cases y
  simp only [Spot.mk.injEq]
  repeat' split
  all_goals simp_all

theorem laws_eqSpotS_ev (xs ys : List Spot) (hx : xs.length ≤ 9223372036854775806) : Ev (fun k => laws_eqSpotS.f k xs ys) (decide (xs = ys)) := by
  refine ⟨xs.length + 1, fun k hk => ?_⟩
  show laws_eqSpotS.f k xs ys = _
  unfold laws_eqSpotS.f
  by_cases hl : xs.length = ys.length
  · rw [if_neg (by omega), eqLoop' (f := laws_eqSpotS.l1 xs ys) hl (by omega) laws_eqSpot_eq (fun _ _ => rfl) (by omega)]
    by_cases e : xs = ys <;> simp [e]
  · rw [if_pos (by omega)]
    have : xs ≠ ys := fun e => hl (by rw [e])
    simp [this]

/-- Numbers from m on. -/
def numbI64 (m : Int) (n : Nat) : List Int := (List.range n).map fun j : Nat => (m + (j : Int))

theorem laws_markInt64S_ev (xs : List Int) (m : Int) (h0 : 0 ≤ m) (hm : m + xs.length ≤ 4294967296) : Ev (fun k => laws_markInt64S.f k xs m) (m + xs.length, numbI64 m xs.length) := by
  have key : ∀ i, i ≤ xs.length → ∀ ys : List Int, ys.length = xs.length → ys.take i = (numbI64 m xs.length).take i → Ev (fun k => laws_markInt64S.l1 xs k ys (m + (i : Int)) (i : Int)) (numbI64 m xs.length, m + xs.length) := by
    refine upL ?_ ?_
    · intro ys hl ht
      refine Ev.step (fun k => laws_markInt64S.l1.eq_2 _ _ _ _ _) ?_
      refine Ev.neg (by omega) (Ev.const ?_)
      rw [List.take_of_length_le (by omega), List.take_of_length_le (by simp [numbI64])] at ht
      rw [ht]
    · intro i hi ih ys hl ht
      refine Ev.step (fun k => laws_markInt64S.l1.eq_2 _ _ _ _ _) ?_
      refine Ev.pos (by omega) ?_
      simp only [getI_nat (show i < ys.length by omega), Option.bind_some, Int.toNat_natCast, wsucc hi (by omega), w64 (show -9223372036854775808 ≤ m + (i : Int) + 1 by omega) (by omega)]
      have := ih (ys.set i ((m + i))) (by simpa using hl) (by
        apply List.ext_getElem?
        intro j
        have htj : ∀ j, j < i → ys[j]? = (numbI64 m xs.length)[j]? := fun j hj => by
          have := congrArg (fun l => l[j]?) ht
          simpa [List.getElem?_take, hj] using this
        simp only [List.getElem?_take, List.getElem?_set]
        by_cases h1 : j < i
        · rw [if_pos (by omega), if_neg (by omega), if_pos (by omega), htj j h1]
        · by_cases h2 : j = i
          · subst h2
            rw [if_pos (by omega), if_pos rfl, if_pos (by omega), if_pos (by omega)]
            simp [numbI64, hi]
          · rw [if_neg (by omega), if_neg (by omega)])
      rw [show m + ((i + 1 : Nat) : Int) = m + (i : Int) + 1 by omega] at this
      exact this
  have := key 0 (Nat.zero_le _) xs rfl (by simp)
  simp only [Int.natCast_zero, Int.add_zero] at this
  exact this.bind (Ev.const rfl)

theorem laws_heldInt64S_ev (n : Nat) (m : Int) (h0 : 0 ≤ m) (hm : m + n ≤ 4294967296) : Ev (fun k => laws_heldInt64S.f k (numbI64 m n) m) (m + n) := by
  have hl : (numbI64 m n).length = n := by simp [numbI64]
  have key : ∀ i, i ≤ n → Ev (fun k => laws_heldInt64S.l1 (numbI64 m n) k (m + (i : Int)) (i : Int)) (.inr (m + n)) := by
    refine upL ?_ ?_
    · refine Ev.step (fun k => laws_heldInt64S.l1.eq_2 _ _ _ _) ?_
      exact Ev.neg (by omega) (Ev.const rfl)
    · intro i hi ih
      refine Ev.step (fun k => laws_heldInt64S.l1.eq_2 _ _ _ _) ?_
      refine Ev.pos (by omega) ?_
      simp only [getI_nat (show i < (numbI64 m n).length by omega), Option.bind_some, wsucc hi (by omega), w64 (show -9223372036854775808 ≤ m + (i : Int) + 1 by omega) (by omega)]
      refine Ev.neg (by simp [numbI64]) ?_
      rw [show m + ((i + 1 : Nat) : Int) = m + (i : Int) + 1 by omega] at ih
      exact ih
  have := key 0 (Nat.zero_le _)
  simp only [Int.natCast_zero, Int.add_zero] at this
  exact this.bind (Ev.const rfl)

end Go.Proofs.Ytlmfhjjhgiobdaa
