/-
  Plain laws: small functions, wraps, all of some places.
-/
import Derived.Test.YtokanemjghfadaaGreatDoorQH
namespace Go.Proofs.YtokanemjghfadaaGreatDoor
open G
set_option linter.unusedVariables false
set_option linter.unusedSimpArgs false

theorem l00In_eq (a b c : Int) : spec_l00In.f a b c = some (decide (b ≤ a ∧ a ≤ c)) := by
 unfold spec_l00In.f
 by_cases h : b ≤ a <;> simp [h]
theorem within_eq (a b c : Int) : impl_within.f a b c = some (decide (b ≤ a ∧ a ≤ c)) := by
 unfold impl_within.f
 by_cases h : b ≤ a <;> simp [h]
theorem i8b {x : Int} (h : inI .i8 x) : -128 ≤ x ∧ x ≤ 127 := by
 have h1 : IntKind.i8.min = -128 := by decide
 have h2 : IntKind.i8.max = 127 := by decide
 exact ⟨h1 ▸ h.1, h2 ▸ h.2⟩
theorem i16b {x : Int} (h : inI .i16 x) : -32768 ≤ x ∧ x ≤ 32767 := by
 have h1 : IntKind.i16.min = -32768 := by decide
 have h2 : IntKind.i16.max = 32767 := by decide
 exact ⟨h1 ▸ h.1, h2 ▸ h.2⟩
theorem u16b {x : Int} (h : inI .u16 x) : 0 ≤ x ∧ x ≤ 65535 := by
 have h1 : IntKind.u16.min = 0 := by decide
 have h2 : IntKind.u16.max = 65535 := by decide
 exact ⟨h1 ▸ h.1, h2 ▸ h.2⟩
theorem wu64 {x : Int} (h : 0 ≤ x) (h' : x ≤ 18446744073709551615) : IntKind.u64.wrap x = x := by
 have : IntKind.u64.wrap x = x % 18446744073709551616 := by simp [IntKind.wrap, IntKind.bits, IntKind.signed]
 rw [this]; omega

/-! ### All of some places -/
def upA (q : Nat → Bool) : Nat → Nat → Bool
  | _, 0 => true
  | i, n + 1 => q i && upA q (i + 1) n
theorem upA_iff (q : Nat → Bool) : ∀ (n i : Nat), upA q i n = true ↔ ∀ j, i ≤ j → j < i + n → q j = true
  | 0, i => by simp only [upA, true_iff]; intro j h1 h2; omega
  | n + 1, i => by
    simp only [upA, Bool.and_eq_true, upA_iff q n (i + 1)]
    constructor
    · rintro ⟨h1, h2⟩ j h3 h4
      rcases Nat.eq_or_lt_of_le h3 with rfl | h5
      · exact h1
      · exact h2 j h5 (by omega)
    · intro h
      exact ⟨h i (Nat.le_refl _) (by omega), fun j h1 h2 => h j (by omega) (by omega)⟩

/-- Bits. -/
theorem and1 {x : Int} (h : 0 ≤ x) (h' : x ≤ 65535) : andI .u16 x 1 = x % 2 := by
 obtain ⟨n, rfl⟩ := Int.eq_ofNat_of_zero_le h
 unfold andI
 have e : (BitVec.ofInt 16 (n : Int) &&& BitVec.ofInt 16 1).toNat = n % 2 := by
   rw [BitVec.toNat_and, BitVec.toNat_ofInt, BitVec.toNat_ofInt]
   have h1 : ((n : Int) % ((2 ^ 16 : Nat) : Int)).toNat = n := by omega
   rw [h1]
   exact Nat.and_one_is_mod n
 show IntKind.u16.wrap (((BitVec.ofInt 16 (n : Int) &&& BitVec.ofInt 16 1).toNat : Nat) : Int) = _
 rw [e, wu16 (by omega) (by omega)]; omega
end Go.Proofs.YtokanemjghfadaaGreatDoor
