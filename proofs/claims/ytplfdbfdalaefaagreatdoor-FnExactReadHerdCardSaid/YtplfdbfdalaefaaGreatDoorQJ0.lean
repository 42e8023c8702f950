
/-
  Plain laws: herds that are answered: marks, what is joined, what comes first.
-/
import Derived.Test.YtplfdbfdalaefaaGreatDoorQH3
namespace Go.Proofs.YtplfdbfdalaefaaGreatDoor
open G
set_option linter.unusedVariables false
set_option linter.unusedSimpArgs false
/-! ### The text of a mark -/
def mtL : Nat → Int → ByteArray → ByteArray
  | 0, _, y => y
  | n + 1, z, y => if 0 < z then mtL n (z / 10) (bstr [IntKind.u8.wrap (IntKind.i64.wrap (48 + (Int.tmod z 10)))] ++ y) else y
def mText (z : Int) : ByteArray := if z ≤ 0 then (⟨#[109, 48]⟩ : ByteArray) else (⟨#[109]⟩ : ByteArray) ++ mtL 10 z ByteArray.empty
theorem mtL_ev : ∀ (n : Nat) (z : Int), 0 ≤ z → z ≤ 4294967296 → z < 10 ^ n → ∀ y : ByteArray, y.size + n ≤ 4294967295 → Ev (fun k => laws_markText.l1 k z y) (mtL n z y) ∧ (mtL n z y).size ≤ y.size + n
  | 0, z, h0, h1, h2, y, hy => ⟨Ev.step (fun k => laws_markText.l1.eq_2 _ _ _) (Ev.neg (by simp at h2; omega) (Ev.const rfl)), by show y.size ≤ _; omega⟩
  | n + 1, z, h0, h1, h2, y, hy => by
    by_cases e : 0 < z
    · have hw : IntKind.i64.wrap (Int.tdiv z 10) = z / 10 := by rw [Int.tdiv_eq_ediv_of_nonneg h0]; exact w64 (by omega) (by omega)
      obtain ⟨hs, hz⟩ := mtL_ev n (z / 10) (by omega) (by omega) (by rw [Int.pow_succ] at h2; omega) (bstr [IntKind.u8.wrap (IntKind.i64.wrap (48 + (Int.tmod z 10)))] ++ y) (by rw [ByteArray.size_append, bstr1]; omega)
      rw [ByteArray.size_append, bstr1] at hz
      have em : mtL (n + 1) z y = mtL n (z / 10) (bstr [IntKind.u8.wrap (IntKind.i64.wrap (48 + (Int.tmod z 10)))] ++ y) := by rw [mtL, if_pos e]
      rw [em]
      refine ⟨Ev.step (fun k => laws_markText.l1.eq_2 _ _ _) (Ev.pos e (Ev.bind (Ev.const (chkT (by rw [bstr1]; omega))) ?_)), by omega⟩
      rw [hw]; exact hs
    · have em : mtL (n + 1) z y = y := by rw [mtL, if_neg e]
      rw [em]
      exact ⟨Ev.step (fun k => laws_markText.l1.eq_2 _ _ _) (Ev.neg e (Ev.const rfl)), by omega⟩
theorem mText_ev (z : Int) (h0 : 0 ≤ z) (h1 : z ≤ 4294967296) : Ev (fun k => laws_markText.f k z) (mText z) := by
  unfold mText
  by_cases e : z ≤ 0
  · rw [if_pos e]; exact Ev.pos e (Ev.const rfl)
  · rw [if_neg e]
    obtain ⟨hs, hz⟩ := mtL_ev 10 z h0 h1 (by omega) ByteArray.empty (by simp)
    have h2 : (ByteArray.empty).size = 0 := rfl
    have h3 : (⟨#[109]⟩ : ByteArray).size = 1 := rfl
    exact Ev.neg e (hs.bind (Ev.bind (Ev.const (chkT (by rw [h3]; omega))) (Ev.const rfl)))
def numbS (m : Int) (n : Nat) : List ByteArray := (List.range n).map fun j : Nat => mText (m + (j : Int))
theorem markS_ev (xs : List ByteArray) (m : Int) (h0 : 0 ≤ m) (hm : m + xs.length ≤ 4294967296) : Ev (fun k => laws_markStringS.f k xs m) (m + xs.length, numbS m xs.length) := by
  have key : ∀ i, i ≤ xs.length → ∀ ys : List ByteArray, ys.length = xs.length → ys.take i = (numbS m xs.length).take i → Ev (fun k => laws_markStringS.l1 xs k ys (m + (i : Int)) (i : Int)) (numbS m xs.length, m + xs.length) := by
    refine upL ?_ ?_
    · intro ys hl ht
      refine Ev.step (fun k => laws_markStringS.l1.eq_2 _ _ _ _ _) ?_
      refine Ev.neg (by omega) (Ev.const ?_)
      rw [List.take_of_length_le (by omega), List.take_of_length_le (by simp [numbS])] at ht
      rw [ht]
    · intro i hi ih ys hl ht
      refine Ev.step (fun k => laws_markStringS.l1.eq_2 _ _ _ _ _) ?_
      refine Ev.pos (by omega) ((mText_ev (m + (i : Int)) (by omega) (by omega)).bind (Ev.bind (Ev.const (getI_nat (show i < ys.length by omega))) ?_))
      rw [wsucc hi (by omega), w64 (show -9223372036854775808 ≤ m + (i : Int) + 1 by omega) (by omega), Int.toNat_natCast]
      have := ih (ys.set i (mText (m + i))) (by simpa using hl) (by
        apply List.ext_getElem?
        intro j
        have htj : ∀ j, j < i → ys[j]? = (numbS m xs.length)[j]? := fun j hj => by
          have := congrArg (fun l => l[j]?) ht
          simpa [List.getElem?_take, hj] using this
        simp only [List.getElem?_take, List.getElem?_set]
        by_cases h1 : j < i
        · rw [if_pos (by omega), if_neg (by omega), if_pos (by omega), htj j h1]
        · by_cases h2 : j = i
          · subst h2
            rw [if_pos (by omega), if_pos rfl, if_pos (by omega), if_pos (by omega)]
            simp [numbS, hi]
          · rw [if_neg (by omega), if_neg (by omega)])
      rw [show m + ((i + 1 : Nat) : Int) = m + (i : Int) + 1 by omega] at this
      exact this
  have := key 0 (Nat.zero_le _) xs rfl (by simp)
  simp only [Int.natCast_zero, Int.add_zero] at this
  exact this.bind (Ev.const rfl)
theorem heldS_ev (n : Nat) (m : Int) (h0 : 0 ≤ m) (hm : m + n ≤ 4294967296) : Ev (fun k => laws_heldStringS.f k (numbS m n) m) (m + n) := by
  have hl : (numbS m n).length = n := by simp [numbS]
  have key : ∀ i, i ≤ n → Ev (fun k => laws_heldStringS.l1 (numbS m n) k (m + (i : Int)) (i : Int)) (.inr (m + n)) := by
    refine upL ?_ ?_
    · refine Ev.step (fun k => laws_heldStringS.l1.eq_2 _ _ _ _) ?_
      exact Ev.neg (by omega) (Ev.const rfl)
    · intro i hi ih
      refine Ev.step (fun k => laws_heldStringS.l1.eq_2 _ _ _ _) ?_
      refine Ev.pos (by omega) (Ev.bind (Ev.const (getI_nat (show i < (numbS m n).length by omega))) ((mText_ev (m + (i : Int)) (by omega) (by omega)).bind ?_))
      rw [wsucc hi (by omega), w64 (show -9223372036854775808 ≤ m + (i : Int) + 1 by omega) (by omega)]
      refine Ev.neg (by simp [numbS]) ?_
      rw [show m + ((i + 1 : Nat) : Int) = m + (i : Int) + 1 by omega] at ih
      exact ih
  have := key 0 (Nat.zero_le _)
  simp only [Int.natCast_zero, Int.add_zero] at this
  exact this.bind (Ev.const rfl)
theorem markH_ev (h : Herd) (hs : smallH h) (m : Int) (h0 : 0 ≤ m) (h1 : m ≤ 16777216) : Ev (fun k => laws_markHerd.f k h m) (m + h.Names.length + h.Eats.length + h.Foes.length, numbS m h.Names.length, numbI16 (m + h.Names.length) h.Eats.length, numbU16 (m + h.Names.length + h.Eats.length) h.Foes.length) := by
  obtain ⟨s1, s2, s3⟩ := hs
  exact (markS_ev h.Names m h0 (by omega)).bind (Ev.bind (laws_markInt16S_ev h.Eats (m + h.Names.length) (by omega) (by omega)) (Ev.bind (laws_markUint16S_ev h.Foes (m + h.Names.length + h.Eats.length) (by omega) (by omega)) (Ev.const rfl)))
theorem heldH_ev (a b c : Nat) (ha : a ≤ 1048576) (hb : b ≤ 1048576) (hc : c ≤ 1048576) : Ev (fun k => laws_heldHerd.f k (⟨numbS 1 a, numbI16 (1 + a) b, numbU16 (1 + a + b) c⟩ : Herd) 1) (1 + a + b + c) :=
  (heldS_ev a 1 (by omega) (by omega)).bind (Ev.neg (by omega) (Ev.bind (laws_heldInt16S_ev b (1 + a) (by omega) (by omega)) (Ev.neg (by omega) (Ev.bind (laws_heldUint16S_ev c (1 + a + b) (by omega) (by omega)) (Ev.neg (by omega) (Ev.const rfl))))))
theorem sameH_ev (g : Herd) (hs : smallH g) (c : Int) : Ev (fun k => (laws_eqHerd.f k g g).bind fun t25 => if (!t25) = true then some true else some (decide (c ≠ c))) false := by
  have he := eqHerd_ev g g hs
  rw [decide_eq_true rfl] at he
  exact he.bind (Ev.neg (by simp) (Ev.const (by simp)))

/-! ### What comes first -/
def foL : List Int → Int
  | [] => 0
  | x :: xs => if x = 0 then foL xs else x
end Go.Proofs.YtplfdbfdalaefaaGreatDoor
