/-
  Plain laws: bits of a row.
-/
import Derived.Test.YthlljmjaaljdnaaDoorQPr
namespace Go.Proofs.YthlljmjaaljdnaaDoor
open G
set_option linter.unusedVariables false
set_option linter.unusedSimpArgs false
def bitN (m : Int) (i : Nat) : Bool := decide (andI .u16 (shrI .u16 m (i : Int)) 1 = 1)
abbrev B16 (m : Int) : BitVec 16 := BitVec.ofInt 16 m
theorem wu16b (b : BitVec 16) : IntKind.u16.wrap (b.toNat : Int) = (b.toNat : Int) := wu16 (by omega) (by have := b.isLt; omega)
theorem B16_nat (b : BitVec 16) : B16 (b.toNat : Int) = b := by
  apply BitVec.eq_of_toNat_eq
  rw [BitVec.toNat_ofInt]
  have := b.isLt
  omega
theorem B_andNot (x y : Int) : B16 (andNotI .u16 x y) = B16 x &&& ~~~ B16 y := by
  unfold andNotI
  exact (congrArg B16 (wu16b (B16 x &&& ~~~ B16 y))).trans (B16_nat _)
theorem shr_nat {m j : Nat} (hj : j ≤ 16) : shrI .u16 (m : Int) (j : Int) = ((m / 2 ^ j : Nat) : Int) := by
  unfold shrI
  rw [show min (j : Int).toNat IntKind.u16.bits = j by show min (j : Int).toNat 16 = j; omega]
  rw [Int.fdiv_eq_ediv_of_nonneg _ (Int.le_of_lt (Int.pow_pos (by omega)))]
  push_cast
  rfl
theorem bit_nat {m j : Nat} (hm : m ≤ 65535) (hj : j ≤ 16) : bitN (m : Int) j = m.testBit j := by
  unfold bitN
  rw [shr_nat hj, and1 (Int.natCast_nonneg _) (by have := Nat.div_le_self m (2 ^ j); omega), Nat.testBit_eq_decide_div_mod_eq]
  congr 1
  simp only [eq_iff_iff]; omega
theorem bit_lsb {m : Int} (h : 0 ≤ m) (h' : m ≤ 65535) {j : Nat} (hj : j < 16) : (B16 m).getLsbD j = bitN m j := by
  obtain ⟨n, rfl⟩ := Int.eq_ofNat_of_zero_le h
  rw [bit_nat (by omega) (by omega), BitVec.getLsbD, BitVec.toNat_ofInt]
  congr 1
  omega
theorem shl_one {i : Nat} (hi : i < 16) : shlI .u16 1 (i : Int) = ((2 ^ i : Nat) : Int) := by
  have : ∀ i : Fin 16, shlI .u16 1 (i : Nat) = ((2 ^ (i : Nat) : Nat) : Int) := by decide
  exact this ⟨i, hi⟩
theorem one_bit {i j : Nat} (hi : i < 16) (hj : j < 16) : (B16 (shlI .u16 1 (i : Int))).getLsbD j = decide (i = j) := by
  have h1 : (2 : Nat) ^ i ≤ 2 ^ 15 := Nat.pow_le_pow_right (by omega) (by omega)
  rw [shl_one hi, bit_lsb (Int.natCast_nonneg _) (by omega) hj, bit_nat (by omega) (by omega), Nat.testBit_two_pow]
theorem B_or (x y : Int) : B16 (orI .u16 x y) = B16 x ||| B16 y := by
  unfold orI
  exact (congrArg B16 (wu16b (B16 x ||| B16 y))).trans (B16_nat _)
theorem or_in (x y : Int) : 0 ≤ orI .u16 x y ∧ orI .u16 x y ≤ 65535 := by
  have e : orI .u16 x y = (((B16 x ||| B16 y).toNat : Nat) : Int) := wu16b _
  have := (B16 x ||| B16 y).isLt
  rw [e]; omega
def in16 (m : Int) : Prop := 0 ≤ m ∧ m ≤ 65535
theorem orI_bit {x y : Int} (hx : in16 x) (hy : in16 y) {j : Nat} (hj : j < 16) : bitN (orI .u16 x y) j = (bitN x j || bitN y j) := by
  obtain ⟨a, b⟩ := or_in x y
  rw [← bit_lsb a b hj, B_or, BitVec.getLsbD_or, bit_lsb hx.1 hx.2 hj, bit_lsb hy.1 hy.2 hj]
theorem one_in {i : Nat} (hi : i < 16) : in16 (shlI .u16 1 (i : Int)) := by
  rw [shl_one hi]
  have h1 : (2 : Nat) ^ i ≤ 2 ^ 15 := Nat.pow_le_pow_right (by omega) (by omega)
  have h2 : (((2 : Nat) ^ i : Nat) : Int) ≤ ((2 ^ 15 : Nat) : Int) := Int.ofNat_le.2 h1
  have h3 : ((2 ^ 15 : Nat) : Int) = 32768 := rfl
  exact ⟨Int.natCast_nonneg _, by rw [h3] at h2; omega⟩
theorem one_bitN {i j : Nat} (hi : i < 16) (hj : j < 16) : bitN (shlI .u16 1 (i : Int)) j = decide (i = j) := by
  obtain ⟨a, b⟩ := one_in hi
  rw [← bit_lsb a b hj, one_bit hi hj]
theorem bits_eq {x y : Int} (hx : in16 x) (hy : in16 y) (h : ∀ j, j < 16 → bitN x j = bitN y j) : x = y := by
  have e : B16 x = B16 y := by
    apply BitVec.eq_of_getLsbD_eq
    intro j hj
    rw [bit_lsb hx.1 hx.2 hj, bit_lsb hy.1 hy.2 hj, h j hj]
  have e2 := congrArg BitVec.toNat e
  rw [BitVec.toNat_ofInt, BitVec.toNat_ofInt] at e2
  obtain ⟨a, b⟩ := hx
  obtain ⟨c, d⟩ := hy
  omega
theorem andNot_in (x y : Int) : 0 ≤ andNotI .u16 x y ∧ andNotI .u16 x y ≤ 65535 := by
  have e : andNotI .u16 x y = (((B16 x &&& ~~~ B16 y).toNat : Nat) : Int) := wu16b _
  have := (B16 x &&& ~~~ B16 y).isLt
  rw [e]; omega
theorem andNot_bit {x y : Int} (hx : in16 x) (hy : in16 y) {j : Nat} (hj : j < 16) : bitN (andNotI .u16 x y) j = (bitN x j && !bitN y j) := by
  obtain ⟨a, b⟩ := andNot_in x y
  rw [← bit_lsb a b hj, B_andNot, BitVec.getLsbD_and, BitVec.getLsbD_not, bit_lsb hx.1 hx.2 hj, bit_lsb hy.1 hy.2 hj, decide_eq_true hj, Bool.true_and]
end Go.Proofs.YthlljmjaaljdnaaDoor
