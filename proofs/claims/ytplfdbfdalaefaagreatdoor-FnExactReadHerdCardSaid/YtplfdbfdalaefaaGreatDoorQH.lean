/-
  Plain laws: what the laws' own helpers come to (copies, comparisons, marks), type by type.
-/
import Derived.Test.YtplfdbfdalaefaaGreatDoorGO
namespace Go.Proofs.YtplfdbfdalaefaaGreatDoor
open G
set_option linter.unusedVariables false
set_option linter.unusedSimpArgs false

theorem laws_eqStringS_ev (xs ys : List ByteArray) (hx : xs.length ≤ 9223372036854775806) : Ev (fun k => laws_eqStringS.f k xs ys) (decide (xs = ys)) := by
  refine ⟨xs.length + 1, fun k hk => ?_⟩
  show laws_eqStringS.f k xs ys = _
  unfold laws_eqStringS.f
  by_cases hl : xs.length = ys.length
  · rw [if_neg (by omega), eqLoop (f := laws_eqStringS.l1 xs ys) hl (by omega) (fun _ _ => rfl) (by omega)]
    by_cases e : xs = ys <;> simp [e]
  · rw [if_pos (by omega)]
    have : xs ≠ ys := fun e => hl (by rw [e])
    simp [this]

theorem laws_eqInt16S_ev (xs ys : List Int) (hx : xs.length ≤ 9223372036854775806) : Ev (fun k => laws_eqInt16S.f k xs ys) (decide (xs = ys)) := by
  refine ⟨xs.length + 1, fun k hk => ?_⟩
  show laws_eqInt16S.f k xs ys = _
  unfold laws_eqInt16S.f
  by_cases hl : xs.length = ys.length
  · rw [if_neg (by omega), eqLoop (f := laws_eqInt16S.l1 xs ys) hl (by omega) (fun _ _ => rfl) (by omega)]
    by_cases e : xs = ys <;> simp [e]
  · rw [if_pos (by omega)]
    have : xs ≠ ys := fun e => hl (by rw [e])
    simp [this]

theorem laws_eqUint16S_ev (xs ys : List Int) (hx : xs.length ≤ 9223372036854775806) : Ev (fun k => laws_eqUint16S.f k xs ys) (decide (xs = ys)) := by
  refine ⟨xs.length + 1, fun k hk => ?_⟩
  show laws_eqUint16S.f k xs ys = _
  unfold laws_eqUint16S.f
  by_cases hl : xs.length = ys.length
  · rw [if_neg (by omega), eqLoop (f := laws_eqUint16S.l1 xs ys) hl (by omega) (fun _ _ => rfl) (by omega)]
    by_cases e : xs = ys <;> simp [e]
  · rw [if_pos (by omega)]
    have : xs ≠ ys := fun e => hl (by rw [e])
    simp [this]

/-- Numbers from m on. -/
def numbI16 (m : Int) (n : Nat) : List Int := (List.range n).map fun j : Nat => IntKind.i16.wrap (m + (j : Int))

theorem laws_markInt16S_ev (xs : List Int) (m : Int) (h0 : 0 ≤ m) (hm : m + xs.length ≤ 4294967296) : Ev (fun k => laws_markInt16S.f k xs m) (m + xs.length, numbI16 m xs.length) := by
  have key : ∀ i, i ≤ xs.length → ∀ ys : List Int, ys.length = xs.length → ys.take i = (numbI16 m xs.length).take i → Ev (fun k => laws_markInt16S.l1 xs k ys (m + (i : Int)) (i : Int)) (numbI16 m xs.length, m + xs.length) := by
    refine upL ?_ ?_
    · intro ys hl ht
      refine Ev.step (fun k => laws_markInt16S.l1.eq_2 _ _ _ _ _) ?_
      refine Ev.neg (by omega) (Ev.const ?_)
      rw [List.take_of_length_le (by omega), List.take_of_length_le (by simp [numbI16])] at ht
      rw [ht]
    · intro i hi ih ys hl ht
      refine Ev.step (fun k => laws_markInt16S.l1.eq_2 _ _ _ _ _) ?_
      refine Ev.pos (by omega) ?_
      simp only [getI_nat (show i < ys.length by omega), Option.bind_some, Int.toNat_natCast, wsucc hi (by omega), w64 (show -9223372036854775808 ≤ m + (i : Int) + 1 by omega) (by omega)]
      have := ih (ys.set i (IntKind.i16.wrap (m + i))) (by simpa using hl) (by
        apply List.ext_getElem?
        intro j
        have htj : ∀ j, j < i → ys[j]? = (numbI16 m xs.length)[j]? := fun j hj => by
          have := congrArg (fun l => l[j]?) ht
          simpa [List.getElem?_take, hj] using this
        simp only [List.getElem?_take, List.getElem?_set]
        by_cases h1 : j < i
        · rw [if_pos (by omega), if_neg (by omega), if_pos (by omega), htj j h1]
        · by_cases h2 : j = i
          · subst h2
            rw [if_pos (by omega), if_pos rfl, if_pos (by omega), if_pos (by omega)]
            simp [numbI16, hi]
          · rw [if_neg (by omega), if_neg (by omega)])
      rw [show m + ((i + 1 : Nat) : Int) = m + (i : Int) + 1 by omega] at this
      exact this
  have := key 0 (Nat.zero_le _) xs rfl (by simp)
  simp only [Int.natCast_zero, Int.add_zero] at this
  exact this.bind (Ev.const rfl)

/-- Numbers from m on. -/
def numbU16 (m : Int) (n : Nat) : List Int := (List.range n).map fun j : Nat => IntKind.u16.wrap (m + (j : Int))

theorem laws_markUint16S_ev (xs : List Int) (m : Int) (h0 : 0 ≤ m) (hm : m + xs.length ≤ 4294967296) : Ev (fun k => laws_markUint16S.f k xs m) (m + xs.length, numbU16 m xs.length) := by
  have key : ∀ i, i ≤ xs.length → ∀ ys : List Int, ys.length = xs.length → ys.take i = (numbU16 m xs.length).take i → Ev (fun k => laws_markUint16S.l1 xs k ys (m + (i : Int)) (i : Int)) (numbU16 m xs.length, m + xs.length) := by
    refine upL ?_ ?_
    · intro ys hl ht
      refine Ev.step (fun k => laws_markUint16S.l1.eq_2 _ _ _ _ _) ?_
      refine Ev.neg (by omega) (Ev.const ?_)
      rw [List.take_of_length_le (by omega), List.take_of_length_le (by simp [numbU16])] at ht
      rw [ht]
    · intro i hi ih ys hl ht
      refine Ev.step (fun k => laws_markUint16S.l1.eq_2 _ _ _ _ _) ?_
      refine Ev.pos (by omega) ?_
      simp only [getI_nat (show i < ys.length by omega), Option.bind_some, Int.toNat_natCast, wsucc hi (by omega), w64 (show -9223372036854775808 ≤ m + (i : Int) + 1 by omega) (by omega)]
      have := ih (ys.set i (IntKind.u16.wrap (m + i))) (by simpa using hl) (by
        apply List.ext_getElem?
        intro j
        have htj : ∀ j, j < i → ys[j]? = (numbU16 m xs.length)[j]? := fun j hj => by
          have := congrArg (fun l => l[j]?) ht
          simpa [List.getElem?_take, hj] using this
        simp only [List.getElem?_take, List.getElem?_set]
        by_cases h1 : j < i
        · rw [if_pos (by omega), if_neg (by omega), if_pos (by omega), htj j h1]
        · by_cases h2 : j = i
          · subst h2
            rw [if_pos (by omega), if_pos rfl, if_pos (by omega), if_pos (by omega)]
            simp [numbU16, hi]
          · rw [if_neg (by omega), if_neg (by omega)])
      rw [show m + ((i + 1 : Nat) : Int) = m + (i : Int) + 1 by omega] at this
      exact this
  have := key 0 (Nat.zero_le _) xs rfl (by simp)
  simp only [Int.natCast_zero, Int.add_zero] at this
  exact this.bind (Ev.const rfl)

theorem laws_heldInt16S_ev (n : Nat) (m : Int) (h0 : 0 ≤ m) (hm : m + n ≤ 4294967296) : Ev (fun k => laws_heldInt16S.f k (numbI16 m n) m) (m + n) := by
  have hl : (numbI16 m n).length = n := by simp [numbI16]
  have key : ∀ i, i ≤ n → Ev (fun k => laws_heldInt16S.l1 (numbI16 m n) k (m + (i : Int)) (i : Int)) (.inr (m + n)) := by
    refine upL ?_ ?_
    · refine Ev.step (fun k => laws_heldInt16S.l1.eq_2 _ _ _ _) ?_
      exact Ev.neg (by omega) (Ev.const rfl)
    · intro i hi ih
      refine Ev.step (fun k => laws_heldInt16S.l1.eq_2 _ _ _ _) ?_
      refine Ev.pos (by omega) ?_
      simp only [getI_nat (show i < (numbI16 m n).length by omega), Option.bind_some, wsucc hi (by omega), w64 (show -9223372036854775808 ≤ m + (i : Int) + 1 by omega) (by omega)]
      refine Ev.neg (by simp [numbI16]) ?_
      rw [show m + ((i + 1 : Nat) : Int) = m + (i : Int) + 1 by omega] at ih
      exact ih
  have := key 0 (Nat.zero_le _)
  simp only [Int.natCast_zero, Int.add_zero] at this
  exact this.bind (Ev.const rfl)

theorem laws_heldUint16S_ev (n : Nat) (m : Int) (h0 : 0 ≤ m) (hm : m + n ≤ 4294967296) : Ev (fun k => laws_heldUint16S.f k (numbU16 m n) m) (m + n) := by
  have hl : (numbU16 m n).length = n := by simp [numbU16]
  have key : ∀ i, i ≤ n → Ev (fun k => laws_heldUint16S.l1 (numbU16 m n) k (m + (i : Int)) (i : Int)) (.inr (m + n)) := by
    refine upL ?_ ?_
    · refine Ev.step (fun k => laws_heldUint16S.l1.eq_2 _ _ _ _) ?_
      exact Ev.neg (by omega) (Ev.const rfl)
    · intro i hi ih
      refine Ev.step (fun k => laws_heldUint16S.l1.eq_2 _ _ _ _) ?_
      refine Ev.pos (by omega) ?_
      simp only [getI_nat (show i < (numbU16 m n).length by omega), Option.bind_some, wsucc hi (by omega), w64 (show -9223372036854775808 ≤ m + (i : Int) + 1 by omega) (by omega)]
      refine Ev.neg (by simp [numbU16]) ?_
      rw [show m + ((i + 1 : Nat) : Int) = m + (i : Int) + 1 by omega] at ih
      exact ih
  have := key 0 (Nat.zero_le _)
  simp only [Int.natCast_zero, Int.add_zero] at this
  exact this.bind (Ev.const rfl)

end Go.Proofs.YtplfdbfdalaefaaGreatDoor
