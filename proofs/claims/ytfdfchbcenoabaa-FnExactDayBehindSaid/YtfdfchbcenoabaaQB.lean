/-
  Plain laws: small functions of the reference and of the program, and what the laws do to results.
-/
import Derived.Test.YtfdfchbcenoabaaQA
namespace Go.Proofs.Ytfdfchbcenoabaa
open G
set_option linter.unusedVariables false
set_option linter.unusedSimpArgs false

theorem l00In_eq (a b c : Int) : spec_l00In.f a b c = some (decide (b ≤ a ∧ a ≤ c)) := by
  unfold spec_l00In.f
  by_cases h : b ≤ a <;> simp [h]
theorem within_eq (a b c : Int) : impl_within.f a b c = some (decide (b ≤ a ∧ a ≤ c)) := by
  unfold impl_within.f
  by_cases h : b ≤ a <;> simp [h]
theorem toMeadowS_ev (xs : List Meadow) (hx : xs.length ≤ 1048576) : Ev (fun k => laws_toMeadowS.f k xs) xs := ⟨xs.length + 1, fun k hk => toMeadowS_eq xs hx (by omega)⟩
theorem eqMeadowS_ev (xs ys : List Meadow) (hx : xs.length ≤ 1048576) : Ev (fun k => laws_eqMeadowS.f k xs ys) (decide (xs = ys)) := ⟨xs.length + 1, fun k hk => eqMeadowS_eq xs ys hx (by omega)⟩
theorem toInt64S_ev (xs : List Int) (hx : xs.length ≤ 1048576) : Ev (fun k => laws_toInt64S.f k xs) xs := by
  refine ⟨xs.length + 1, fun k hk => ?_⟩
  show laws_toInt64S.f k xs = _
  unfold laws_toInt64S.f
  rw [chk_t (by omega), Option.bind_some, copyL0 (f := laws_toInt64S.l1 xs) (g := fun x => some x) (h := id) (fun x _ => rfl) (by omega) (fun _ _ _ => rfl) (by omega)]
  simp
theorem eqInt64S_ev (xs ys : List Int) (hx : xs.length ≤ 9223372036854775806) : Ev (fun k => laws_eqInt64S.f k xs ys) (decide (xs = ys)) := by
  refine ⟨xs.length + 1, fun k hk => ?_⟩
  show laws_eqInt64S.f k xs ys = _
  unfold laws_eqInt64S.f
  by_cases hl : xs.length = ys.length
  · rw [if_neg (by omega), eqLoop (f := laws_eqInt64S.l1 xs ys) hl (by omega) (fun _ _ => rfl) (by omega)]
    by_cases e : xs = ys <;> simp [e]
  · rw [if_pos (by omega)]
    have : xs ≠ ys := fun e => hl (by rw [e])
    simp [this]

/-! ### Marks -/
/-- Numbers from m on. -/
def numb (m : Int) (n : Nat) : List Int := (List.range n).map fun j : Nat => m + (j : Int)
theorem markInt64S_ev (xs : List Int) (m : Int) (h0 : 0 ≤ m) (hm : m + xs.length ≤ 4294967296) : Ev (fun k => laws_markInt64S.f k xs m) (m + xs.length, numb m xs.length) := by
  have key : ∀ i, i ≤ xs.length → ∀ ys : List Int, ys.length = xs.length → ys.take i = (numb m xs.length).take i → Ev (fun k => laws_markInt64S.l1 xs k ys (m + (i : Int)) (i : Int)) (numb m xs.length, m + xs.length) := by
    refine upL ?_ ?_
    · intro ys hl ht
      refine Ev.step (fun k => laws_markInt64S.l1.eq_2 _ _ _ _ _) ?_
      refine Ev.neg (by omega) (Ev.const ?_)
      rw [List.take_of_length_le (by omega), List.take_of_length_le (by simp [numb])] at ht
      rw [ht]
    · intro i hi ih ys hl ht
      refine Ev.step (fun k => laws_markInt64S.l1.eq_2 _ _ _ _ _) ?_
      refine Ev.pos (by omega) ?_
      simp only [getI_nat (show i < ys.length by omega), Option.bind_some, Int.toNat_natCast, wsucc hi (by omega), w64 (show -9223372036854775808 ≤ m + (i : Int) + 1 by omega) (by omega)]
      have := ih (ys.set i (m + i)) (by simpa using hl) (by
        apply List.ext_getElem?
        intro j
        have htj : ∀ j, j < i → ys[j]? = (numb m xs.length)[j]? := fun j hj => by
          have := congrArg (fun l => l[j]?) ht
          simpa [List.getElem?_take, hj] using this
        simp only [List.getElem?_take, List.getElem?_set]
        by_cases h1 : j < i
        · rw [if_pos (by omega), if_neg (by omega), if_pos (by omega), htj j h1]
        · by_cases h2 : j = i
          · subst h2
            rw [if_pos (by omega), if_pos rfl, if_pos (by omega), if_pos (by omega)]
            simp [numb, hi]
          · rw [if_neg (by omega), if_neg (by omega)])
      rw [show m + ((i + 1 : Nat) : Int) = m + (i : Int) + 1 by omega] at this
      exact this
  have := key 0 (Nat.zero_le _) xs rfl (by simp)
  simp only [Int.natCast_zero, Int.add_zero] at this
  exact this.bind (Ev.const rfl)
theorem heldInt64S_ev (n : Nat) (m : Int) (h0 : 0 ≤ m) (hm : m + n ≤ 4294967296) : Ev (fun k => laws_heldInt64S.f k (numb m n) m) (m + n) := by
  have hl : (numb m n).length = n := by simp [numb]
  have key : ∀ i, i ≤ n → Ev (fun k => laws_heldInt64S.l1 (numb m n) k (m + (i : Int)) (i : Int)) (.inr (m + n)) := by
    refine upL ?_ ?_
    · refine Ev.step (fun k => laws_heldInt64S.l1.eq_2 _ _ _ _) ?_
      exact Ev.neg (by omega) (Ev.const rfl)
    · intro i hi ih
      refine Ev.step (fun k => laws_heldInt64S.l1.eq_2 _ _ _ _) ?_
      refine Ev.pos (by omega) ?_
      simp only [getI_nat (show i < (numb m n).length by omega), Option.bind_some, wsucc hi (by omega), w64 (show -9223372036854775808 ≤ m + (i : Int) + 1 by omega) (by omega)]
      refine Ev.neg (by simp [numb]) ?_
      rw [show m + ((i + 1 : Nat) : Int) = m + (i : Int) + 1 by omega] at ih
      exact ih
  have := key 0 (Nat.zero_le _)
  simp only [Int.natCast_zero, Int.add_zero] at this
  exact this.bind (Ev.const rfl)

end Go.Proofs.Ytfdfchbcenoabaa
