/-
  Plain law: the largest set of goats.
-/
import Derived.Test.YtplfdbfdalaefaaGreatDoorQH3
namespace Go.Proofs.YtplfdbfdalaefaaGreatDoor
open G
set_option linter.unusedVariables false
set_option linter.unusedSimpArgs false
abbrev B16 (m : Int) : BitVec 16 := BitVec.ofInt 16 m
theorem wu16b (b : BitVec 16) : IntKind.u16.wrap (b.toNat : Int) = (b.toNat : Int) := wu16 (by omega) (by have := b.isLt; omega)
theorem B16_nat (b : BitVec 16) : B16 (b.toNat : Int) = b := by
 apply BitVec.eq_of_toNat_eq
 rw [BitVec.toNat_ofInt]
 have := b.isLt
 omega
theorem B_andNot (x y : Int) : B16 (andNotI .u16 x y) = B16 x &&& ~~~ B16 y := by
 unfold andNotI
 exact (congrArg B16 (wu16b (B16 x &&& ~~~ B16 y))).trans (B16_nat _)
theorem B_and (x y : Int) : B16 (andI .u16 x y) = B16 x &&& B16 y := by
 unfold andI
 exact (congrArg B16 (wu16b (B16 x &&& B16 y))).trans (B16_nat _)
theorem andNot_zero (x y : Int) : andNotI .u16 x y = 0 ↔ B16 x &&& ~~~ B16 y = 0#16 := by
 unfold andNotI
 have h := wu16b (B16 x &&& ~~~ B16 y)
 constructor
 ·intro e
  have e1 : ((B16 x &&& ~~~ B16 y).toNat : Int) = 0 := h.symm.trans e
  apply BitVec.eq_of_toNat_eq
  rw [show (B16 x &&& ~~~ B16 y).toNat = 0 by omega]; rfl
 intro e
 refine h.trans ?_
 rw [e]; rfl
theorem and_zero (x y : Int) : andI .u16 x y = 0 ↔ B16 x &&& B16 y = 0#16 := by
 unfold andI
 have h := wu16b (B16 x &&& B16 y)
 constructor
 ·intro e
  have e1 : ((B16 x &&& B16 y).toNat : Int) = 0 := h.symm.trans e
  apply BitVec.eq_of_toNat_eq
  rw [show (B16 x &&& B16 y).toNat = 0 by omega]; rfl
 intro e
 refine h.trans ?_
 rw [e]; rfl
theorem shr_nat {m j : Nat} (hj : j ≤ 16) : shrI .u16 (m : Int) (j : Int) = ((m / 2 ^ j : Nat) : Int) := by
 unfold shrI
 rw [show min (j : Int).toNat IntKind.u16.bits = j by show min (j : Int).toNat 16 = j; omega]
 rw [Int.fdiv_eq_ediv_of_nonneg _ (Int.le_of_lt (Int.pow_pos (by omega)))]
 push_cast
 rfl
theorem shr64_nat {m j : Nat} (hj : j ≤ 16) : shrI .i64 (m : Int) (j : Int) = ((m / 2 ^ j : Nat) : Int) := by
 unfold shrI
 rw [show min (j : Int).toNat IntKind.i64.bits = j by show min (j : Int).toNat 64 = j; omega]
 rw [Int.fdiv_eq_ediv_of_nonneg _ (Int.le_of_lt (Int.pow_pos (by omega)))]
 push_cast
 rfl
theorem bit_nat {m j : Nat} (hm : m ≤ 65535) (hj : j ≤ 16) : bitN (m : Int) j = m.testBit j := by
 unfold bitN
 rw [shr_nat hj, and1 (Int.natCast_nonneg _) (by have := Nat.div_le_self m (2 ^ j); omega), Nat.testBit_eq_decide_div_mod_eq]
 congr 1
 simp only [eq_iff_iff]; omega
theorem bit_lsb {m : Int} (h : 0 ≤ m) (h' : m ≤ 65535) {j : Nat} (hj : j < 16) : (B16 m).getLsbD j = bitN m j := by
 obtain ⟨n, rfl⟩ := Int.eq_ofNat_of_zero_le h
 rw [bit_nat (by omega) (by omega), BitVec.getLsbD, BitVec.toNat_ofInt]
 congr 1
 omega
theorem shl_one {i : Nat} (hi : i < 16) : shlI .u16 1 (i : Int) = ((2 ^ i : Nat) : Int) := by
 have : ∀ i : Fin 16, shlI .u16 1 (i : Nat) = ((2 ^ (i : Nat) : Nat) : Int) := by decide
 exact this ⟨i, hi⟩
theorem one_bit {i j : Nat} (hi : i < 16) (hj : j < 16) : (B16 (shlI .u16 1 (i : Int))).getLsbD j = decide (i = j) := by
 have h1 : (2 : Nat) ^ i ≤ 2 ^ 15 := Nat.pow_le_pow_right (by omega) (by omega)
 rw [shl_one hi, bit_lsb (Int.natCast_nonneg _) (by omega) hj, bit_nat (by omega) (by omega), Nat.testBit_two_pow]
theorem zero_iff (b : BitVec 16) : b = 0#16 ↔ ∀ j, j < 16 → b.getLsbD j = false := by
 constructor
 ·rintro rfl j hj; simp
 intro h
 apply BitVec.eq_of_getLsbD_eq
 intro j hj
 rw [h j hj]; simp

theorem mem_bl {s x : Int} {i n : Nat} : x ∈ bl s i n ↔ ∃ j : Nat, i ≤ j ∧ j < i + n ∧ bitN s j = true ∧ x = (j : Int) := by
 unfold bl
 rw [List.mem_map]
 constructor
 ·rintro ⟨j, hj, rfl⟩
  rw [List.mem_filter, List.mem_range'_1] at hj
  exact ⟨j, hj.1.1, hj.1.2, hj.2, rfl⟩
 rintro ⟨j, h1, h2, h3, rfl⟩
 exact ⟨j, by rw [List.mem_filter, List.mem_range'_1]; exact ⟨⟨h1, h2⟩, h3⟩, rfl⟩
theorem foe_sym {h : Herd} (hv : vH h = true) {i j : Nat} (hi : i < h.Names.length) (hj : j < h.Names.length) : foeB h i j = foeB h j i := by
 have key : ∀ a b, a < h.Names.length → b < a → foeB h a b = foeB h b a := fun a b ha hb => by
   have := (vH_ok hv ha).2 b hb
   unfold prB symB at this
   rw [Bool.and_eq_true] at this
   exact eq_of_beq this.2
 rcases Nat.lt_trichotomy i j with hlt | rfl | hgt
 ·exact (key j i hj hlt).symm
 ·rfl
 exact key i j hi hgt
end Go.Proofs.YtplfdbfdalaefaaGreatDoor
