/-
  Plain laws: marks of sights and hurdles.
-/
import Derived.Test.YtpaciifeklccfaaQD3
namespace Go.Proofs.Ytpaciifeklccfaa
open G
set_option linter.unusedVariables false
set_option linter.unusedSimpArgs false
theorem get_set {α : Type} {xs : List α} {i : Nat} (h : i < xs.length) (a : α) : getI (xs.set i a) (i : Int) = some a := by
  rw [getI_nat (by simpa using h), List.getElem_set_self]
theorem markSight_ev (xs : List Sight) (m : Int) (h0 : 0 ≤ m) (hm : m + 3 * xs.length ≤ 4294967296) : ∃ ys : List Sight, Ev (fun k => laws_markSightS.f k xs m) (m + 3 * xs.length, ys) := by
  have key : ∀ i, i ≤ xs.length → ∀ ys : List Sight, ys.length = xs.length → ∃ r : List Sight, Ev (fun k => laws_markSightS.l1 xs k ys (m + 3 * (i : Int)) (i : Int)) (r, m + 3 * xs.length) := by
    refine upL ?_ ?_
    · intro ys hl
      exact ⟨ys, Ev.step (fun k => laws_markSightS.l1.eq_2 _ _ _ _ _) (Ev.neg (by omega) (Ev.const rfl))⟩
    · intro i hi ih ys hl
      have hil : i < ys.length := by omega
      have e1 : IntKind.i64.wrap (m + 3 * (i : Int) + 1) = m + 3 * (i : Int) + 1 := w64 (by omega) (by omega)
      have e2 : IntKind.i64.wrap (m + 3 * (i : Int) + 1 + 1) = m + 3 * (i : Int) + 2 := (w64 (by omega) (by omega)).trans (by omega)
      have e3 : IntKind.i64.wrap (m + 3 * (i : Int) + 2 + 1) = m + 3 * ((i + 1 : Nat) : Int) := (w64 (by omega) (by omega)).trans (by omega)
      obtain ⟨r, hr⟩ := ih (((ys.set i (⟨IntKind.i16.wrap (m + 3 * (i : Int)), (ys[i]).At⟩ : Sight)).set i (⟨IntKind.i16.wrap (m + 3 * (i : Int)), (⟨IntKind.i8.wrap (m + 3 * (i : Int) + 1), (ys[i]).At.Y⟩ : Spot)⟩ : Sight)).set i (⟨IntKind.i16.wrap (m + 3 * (i : Int)), (⟨IntKind.i8.wrap (m + 3 * (i : Int) + 1), IntKind.i8.wrap (m + 3 * (i : Int) + 2)⟩ : Spot)⟩ : Sight)) (by simpa using hl)
      refine ⟨r, Ev.step (fun k => laws_markSightS.l1.eq_2 _ _ _ _ _) (Ev.pos (by omega) (Ev.bind (Ev.const (getI_nat hil)) ?_))⟩
      rw [e1, e2, e3, wsucc hi (by omega), Int.toNat_natCast]
      exact Ev.bind (Ev.const (get_set hil _)) (Ev.bind (Ev.const (get_set (by simpa using hil) _)) hr)
  obtain ⟨r, hr⟩ := key 0 (Nat.zero_le _) xs rfl
  rw [Int.natCast_zero, Int.mul_zero, Int.add_zero] at hr
  exact ⟨r, hr.bind (Ev.const rfl)⟩
def hMark (z : Int) : Hurdle := ⟨⟨IntKind.i8.wrap z, IntKind.i8.wrap (z + 1)⟩, decide (Int.tmod (z + 2) 3 = 0)⟩
def numbH (m : Int) (n : Nat) : List Hurdle := (List.range n).map fun j : Nat => hMark (m + 3 * (j : Int))
theorem markHurdle_ev (xs : List Hurdle) (m : Int) (h0 : 0 ≤ m) (hm : m + 3 * xs.length ≤ 4294967296) : Ev (fun k => laws_markHurdleS.f k xs m) (m + 3 * xs.length, numbH m xs.length) := by
  have key : ∀ i, i ≤ xs.length → ∀ ys : List Hurdle, ys.length = xs.length → ys.take i = (numbH m xs.length).take i → Ev (fun k => laws_markHurdleS.l1 xs k ys (m + 3 * (i : Int)) (i : Int)) (numbH m xs.length, m + 3 * xs.length) := by
    refine upL ?_ ?_
    · intro ys hl ht
      refine Ev.step (fun k => laws_markHurdleS.l1.eq_2 _ _ _ _ _) (Ev.neg (by omega) (Ev.const ?_))
      rw [List.take_of_length_le (by omega), List.take_of_length_le (by simp [numbH])] at ht
      rw [ht]
    · intro i hi ih ys hl ht
      have hil : i < ys.length := by omega
      have e1 : IntKind.i64.wrap (m + 3 * (i : Int) + 1) = m + 3 * (i : Int) + 1 := w64 (by omega) (by omega)
      have e2 : IntKind.i64.wrap (m + 3 * (i : Int) + 1 + 1) = m + 3 * (i : Int) + 2 := (w64 (by omega) (by omega)).trans (by omega)
      have e3 : IntKind.i64.wrap (m + 3 * (i : Int) + 2 + 1) = m + 3 * ((i + 1 : Nat) : Int) := (w64 (by omega) (by omega)).trans (by omega)
      have := ih (ys.set i (hMark (m + 3 * (i : Int)))) (by simpa using hl) (by
        apply List.ext_getElem?
        intro j
        have htj : ∀ j, j < i → ys[j]? = (numbH m xs.length)[j]? := fun j hj => by
          have := congrArg (fun l => l[j]?) ht
          simpa [List.getElem?_take, hj] using this
        simp only [List.getElem?_take, List.getElem?_set]
        by_cases h1 : j < i
        · rw [if_pos (by omega), if_neg (by omega), if_pos (by omega), htj j h1]
        · by_cases h2 : j = i
          · subst h2
            rw [if_pos (by omega), if_pos rfl, if_pos (by omega), if_pos (by omega)]
            simp [numbH, hi]
          · rw [if_neg (by omega), if_neg (by omega)])
      refine Ev.step (fun k => laws_markHurdleS.l1.eq_2 _ _ _ _ _) (Ev.pos (by omega) (Ev.bind (Ev.const (getI_nat hil)) ?_))
      rw [e1, e2, e3, wsucc hi (by omega), Int.toNat_natCast]
      refine Ev.bind (Ev.const (get_set hil _)) (Ev.bind (Ev.const (get_set (by simpa using hil) _)) ?_)
      rw [List.set_set, List.set_set]
      exact this
  have := key 0 (Nat.zero_le _) xs rfl (by simp)
  rw [Int.natCast_zero, Int.mul_zero, Int.add_zero] at this
  exact this.bind (Ev.const rfl)
theorem heldHurdle_ev (n : Nat) (m : Int) (h0 : 0 ≤ m) (hm : m + 3 * n ≤ 4294967296) : Ev (fun k => laws_heldHurdleS.f k (numbH m n) m) (m + 3 * n) := by
  have hl : (numbH m n).length = n := by simp [numbH]
  have key : ∀ i, i ≤ n → Ev (fun k => laws_heldHurdleS.l1 (numbH m n) k (m + 3 * (i : Int)) (i : Int)) (.inr (m + 3 * n)) := by
    refine upL ?_ ?_
    · exact Ev.step (fun k => laws_heldHurdleS.l1.eq_2 _ _ _ _) (Ev.neg (by omega) (Ev.const rfl))
    · intro i hi ih
      have e1 : IntKind.i64.wrap (m + 3 * (i : Int) + 1) = m + 3 * (i : Int) + 1 := w64 (by omega) (by omega)
      have e2 : IntKind.i64.wrap (m + 3 * (i : Int) + 1 + 1) = m + 3 * (i : Int) + 2 := (w64 (by omega) (by omega)).trans (by omega)
      have e3 : IntKind.i64.wrap (m + 3 * (i : Int) + 2 + 1) = m + 3 * ((i + 1 : Nat) : Int) := (w64 (by omega) (by omega)).trans (by omega)
      have hg : getI (numbH m n) (i : Int) = some (hMark (m + 3 * (i : Int))) := by
        rw [getI_nat (show i < (numbH m n).length by omega)]
        simp [numbH]
      refine Ev.step (fun k => laws_heldHurdleS.l1.eq_2 _ _ _ _) (Ev.pos (by omega) (Ev.bind (Ev.const hg) (Ev.neg (by simp [hMark]) (Ev.bind (Ev.const hg) ?_))))
      rw [e1, e2, e3, wsucc hi (by omega)]
      exact Ev.neg (by simp [hMark]) (Ev.bind (Ev.const hg) (Ev.neg (by simp [hMark]) ih))
  have := key 0 (Nat.zero_le _)
  rw [Int.natCast_zero, Int.mul_zero, Int.add_zero] at this
  exact this.bind (Ev.const rfl)
end Go.Proofs.Ytpaciifeklccfaa
