
/-
  Plain laws: small functions, wraps, all of some places.
-/
import Derived.Test.YtplfdbfdalaefaaGreatDoorQH
namespace Go.Proofs.YtplfdbfdalaefaaGreatDoor
open G
set_option linter.unusedVariables false
set_option linter.unusedSimpArgs false

theorem l00In_eq (a b c : Int) : spec_l00In.f a b c = some (decide (b ≤ a ∧ a ≤ c)) := by
  unfold spec_l00In.f
  by_cases h : b ≤ a <;> simp [h]
theorem within_eq (a b c : Int) : impl_within.f a b c = some (decide (b ≤ a ∧ a ≤ c)) := by
  unfold impl_within.f
  by_cases h : b ≤ a <;> simp [h]
theorem i8b {x : Int} (h : inI .i8 x) : -128 ≤ x ∧ x ≤ 127 := by
  have h1 : IntKind.i8.min = -128 := by decide
  have h2 : IntKind.i8.max = 127 := by decide
  exact ⟨h1 ▸ h.1, h2 ▸ h.2⟩
theorem i16b {x : Int} (h : inI .i16 x) : -32768 ≤ x ∧ x ≤ 32767 := by
  have h1 : IntKind.i16.min = -32768 := by decide
  have h2 : IntKind.i16.max = 32767 := by decide
  exact ⟨h1 ▸ h.1, h2 ▸ h.2⟩
theorem u16b {x : Int} (h : inI .u16 x) : 0 ≤ x ∧ x ≤ 65535 := by
  have h1 : IntKind.u16.min = 0 := by decide
  have h2 : IntKind.u16.max = 65535 := by decide
  exact ⟨h1 ▸ h.1, h2 ▸ h.2⟩
theorem i64b {x : Int} (h : inI .i64 x) : -9223372036854775808 ≤ x ∧ x ≤ 9223372036854775807 := by
  have h1 : IntKind.i64.min = -9223372036854775808 := by decide
  have h2 : IntKind.i64.max = 9223372036854775807 := by decide
  exact ⟨h1 ▸ h.1, h2 ▸ h.2⟩
theorem wu64 {x : Int} (h : 0 ≤ x) (h' : x ≤ 18446744073709551615) : IntKind.u64.wrap x = x := by
  have : IntKind.u64.wrap x = x % 18446744073709551616 := by simp [IntKind.wrap, IntKind.bits, IntKind.signed]
  rw [this]; omega

/-! ### All of some places -/
def upA (q : Nat → Bool) : Nat → Nat → Bool
  | _, 0 => true
  | i, n + 1 => q i && upA q (i + 1) n
theorem upA_iff (q : Nat → Bool) : ∀ (n i : Nat), upA q i n = true ↔ ∀ j, i ≤ j → j < i + n → q j = true
  | 0, i => by simp only [upA, true_iff]; intro j h1 h2; omega
  | n + 1, i => by
    simp only [upA, Bool.and_eq_true, upA_iff q n (i + 1)]
    constructor
    · rintro ⟨h1, h2⟩ j h3 h4
      rcases Nat.eq_or_lt_of_le h3 with rfl | h5
      · exact h1
      · exact h2 j h5 (by omega)
    · intro h
      exact ⟨h i (Nat.le_refl _) (by omega), fun j h1 h2 => h j (by omega) (by omega)⟩

theorem upA_and (q r : Nat → Bool) : ∀ (n i : Nat), upA (fun j => q j && r j) i n = (upA q i n && upA r i n)
  | 0, i => rfl
  | n + 1, i => by
    simp only [upA, upA_and q r n (i + 1)]
    cases q i <;> cases r i <;> simp
theorem upA_step (q : Nat → Bool) {i n : Nat} (h : i < n) : upA q i (n - i) = (q i && upA q (i + 1) (n - (i + 1))) := by
  rw [show n - i = (n - (i + 1)) + 1 by omega]; rfl
/-- Bits. -/
theorem and1 {x : Int} (h : 0 ≤ x) (h' : x ≤ 65535) : andI .u16 x 1 = x % 2 := by
  obtain ⟨n, rfl⟩ := Int.eq_ofNat_of_zero_le h
  unfold andI
  have e : (BitVec.ofInt 16 (n : Int) &&& BitVec.ofInt 16 1).toNat = n % 2 := by
    rw [BitVec.toNat_and, BitVec.toNat_ofInt, BitVec.toNat_ofInt]
    have h1 : ((n : Int) % ((2 ^ 16 : Nat) : Int)).toNat = n := by omega
    rw [h1]
    exact Nat.and_one_is_mod n
  show IntKind.u16.wrap (((BitVec.ofInt 16 (n : Int) &&& BitVec.ofInt 16 1).toNat : Nat) : Int) = _
  rw [e, wu16 (by omega) (by omega)]; omega
theorem tmod2 {x : Int} (h : 0 ≤ x) : Int.tmod x 2 = x % 2 := Int.tmod_eq_emod_of_nonneg h
theorem shr_le {x : Int} (h : 0 ≤ x) (h' : x ≤ 65535) (y : Int) : 0 ≤ shrI .u16 x y ∧ shrI .u16 x y ≤ 65535 := by
  unfold shrI
  have hp : (0 : Int) < 2 ^ (min y.toNat IntKind.u16.bits) := Int.pow_pos (by omega)
  rw [Int.fdiv_eq_ediv_of_nonneg _ (Int.le_of_lt hp)]
  refine ⟨Int.ediv_nonneg h (Int.le_of_lt hp), Int.le_trans (Int.ediv_le_self _ h) h'⟩
end Go.Proofs.YtplfdbfdalaefaaGreatDoor
