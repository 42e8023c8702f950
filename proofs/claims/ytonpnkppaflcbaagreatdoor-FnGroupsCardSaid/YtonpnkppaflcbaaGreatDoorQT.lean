
/-
  Plain law: groups that go on with a list: who is free.
-/
import Derived.Test.YtonpnkppaflcbaaGreatDoorQL
import Derived.Test.YtonpnkppaflcbaaGreatDoorQR
namespace Go.Proofs.YtonpnkppaflcbaaGreatDoor
open G
set_option linter.unusedVariables false
set_option linter.unusedSimpArgs false
/-- The greatest group that has been given, and one more. -/
def us (gs : List Int) (a : Int) : Int := gs.foldl (fun a x => if a < x + 1 then x + 1 else a) a
theorem us_snoc (gs : List Int) (a g : Int) : us (gs ++ [g]) a = if us gs a < g + 1 then g + 1 else us gs a := by
  unfold us; rw [List.foldl_append]; rfl
def freeB (h : Herd) (gs : List Int) (g : Int) (j : Nat) : Bool := !(decide (gs.getD j 0 = g) && foeB h gs.length j)
theorem l00Max_eq (a b : Int) : spec_l00Max.f a b = some (if b < a then a else b) := by
  unfold spec_l00Max.f; split <;> rfl
/-- The bits below a place. -/
theorem bit_below {m : Int} (h : 0 ≤ m) (h' : m ≤ 65535) {i : Nat} (hi : i ≤ 14) (j : Nat) (hj : j ≤ 16) : bitN (andI .u16 m (IntKind.u16.wrap ((shlI .u16 1 (i : Int)) - 1))) j = (decide (j < i) && bitN m j) := by
  obtain ⟨n, rfl⟩ := Int.eq_ofNat_of_zero_le h
  have e1 : IntKind.u16.wrap ((shlI .u16 1 (i : Int)) - 1) = ((2 ^ i - 1 : Nat) : Int) := by
    have : ∀ i : Fin 15, IntKind.u16.wrap ((shlI .u16 1 ((i : Nat) : Int)) - 1) = ((2 ^ (i : Nat) - 1 : Nat) : Int) := by decide
    exact this ⟨i, by omega⟩
  have hp : 2 ^ i ≤ 2 ^ 14 := Nat.pow_le_pow_right (by omega) hi
  have e2 : andI .u16 (n : Int) ((2 ^ i - 1 : Nat) : Int) = ((n % 2 ^ i : Nat) : Int) := by
    unfold andI
    have e : (BitVec.ofInt 16 (n : Int) &&& BitVec.ofInt 16 ((2 ^ i - 1 : Nat) : Int)).toNat = n % 2 ^ i := by
      rw [BitVec.toNat_and, BitVec.toNat_ofInt, BitVec.toNat_ofInt]
      have h1 : ((n : Int) % ((2 ^ 16 : Nat) : Int)).toNat = n := by omega
      have h2 : (((2 ^ i - 1 : Nat) : Int) % ((2 ^ 16 : Nat) : Int)).toNat = 2 ^ i - 1 := by omega
      rw [h1, h2]
      exact Nat.and_two_pow_sub_one_eq_mod n i
    show IntKind.u16.wrap (((BitVec.ofInt 16 (n : Int) &&& BitVec.ofInt 16 ((2 ^ i - 1 : Nat) : Int)).toNat : Nat) : Int) = _
    have hm : n % 2 ^ i < 2 ^ i := Nat.mod_lt _ (Nat.two_pow_pos i)
    rw [e, wu16 (Int.natCast_nonneg _) (by omega)]
  have hm : n % 2 ^ i < 2 ^ i := Nat.mod_lt _ (Nat.two_pow_pos i)
  rw [e1, e2, bit_nat (by omega) hj, bit_nat (by omega) hj, Nat.testBit_mod_two_pow]
end Go.Proofs.YtonpnkppaflcbaaGreatDoor
