/-
  Plain laws: what the laws' own helpers come to (copies, comparisons, sizes).
-/
import Derived.Test.YtfdfchbcenoabaaGO
namespace Go.Proofs.Ytfdfchbcenoabaa
open G
set_option linter.unusedVariables false
set_option linter.unusedSimpArgs false

theorem szMeadowS_eq (xs : List Meadow) (b : Int) (h0 : 0 ≤ b) (h1 : b ≤ 1048576) (hx : xs.length ≤ 1152921504606846976) : laws_szMeadowS.f xs b = some (if b < (xs.length : Int) then -1 else b - xs.length) := by
  unfold laws_szMeadowS.f
  rw [w64 (by omega) (by omega)]
  by_cases h : b < (xs.length : Int)
  · rw [if_pos (by omega), if_pos h]
  · rw [if_neg (by omega), if_neg h]
theorem toMeadow_eq (x : Meadow) : laws_toMeadow.f x = some x := rfl
theorem toMeadowS_eq (xs : List Meadow) (hx : xs.length ≤ 1048576) {k : Nat} (hk : xs.length < k) : laws_toMeadowS.f k xs = some xs := by
  unfold laws_toMeadowS.f
  rw [chk_t (by omega), Option.bind_some, copyL0 (f := laws_toMeadowS.l1 xs) (h := id) (fun x _ => toMeadow_eq x) (by omega) (fun _ _ _ => rfl) hk]
  simp
theorem eqMeadow_eq (x y : Meadow) : laws_eqMeadow.f x y = some (decide (x = y)) := by
  unfold laws_eqMeadow.f
  cases x; cases y
  simp only [Meadow.mk.injEq]
  split
  · simp_all
  · split
    · simp_all
    · split
      · simp_all
      · simp_all
theorem eqMeadowS_eq (xs ys : List Meadow) (hx : xs.length ≤ 1048576) {k : Nat} (hk : xs.length < k) : laws_eqMeadowS.f k xs ys = some (decide (xs = ys)) := by
  unfold laws_eqMeadowS.f
  by_cases hl : xs.length = ys.length
  · rw [if_neg (by omega), eqLoop' (f := laws_eqMeadowS.l1 xs ys) hl (by omega) eqMeadow_eq (fun _ _ => rfl) hk]
    by_cases e : xs = ys <;> simp [e]
  · rw [if_pos (by omega)]
    have : xs ≠ ys := fun e => hl (by rw [e])
    simp [this]

end Go.Proofs.Ytfdfchbcenoabaa
