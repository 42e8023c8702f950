/-
  Plain laws: bits of rows of hurdles.
-/
import Derived.Test.YtokanemjghfadaaGreatDoorQD
namespace Go.Proofs.YtokanemjghfadaaGreatDoor
open G
set_option linter.unusedVariables false
set_option linter.unusedSimpArgs false
/-! ### Bits -/
abbrev B16 (m : Int) : BitVec 16 := BitVec.ofInt 16 m
theorem wu16b (b : BitVec 16) : IntKind.u16.wrap (b.toNat : Int) = (b.toNat : Int) := wu16 (by omega) (by have := b.isLt; omega)
theorem B16_nat (b : BitVec 16) : B16 (b.toNat : Int) = b := by
 apply BitVec.eq_of_toNat_eq
 rw [BitVec.toNat_ofInt]
 have := b.isLt
 omega
theorem B_andNot (x y : Int) : B16 (andNotI .u16 x y) = B16 x &&& ~~~ B16 y := by
 unfold andNotI
 exact (congrArg B16 (wu16b (B16 x &&& ~~~ B16 y))).trans (B16_nat _)
theorem andNot_zero (x y : Int) : andNotI .u16 x y = 0 ↔ B16 x &&& ~~~ B16 y = 0#16 := by
 unfold andNotI
 have h := wu16b (B16 x &&& ~~~ B16 y)
 constructor
 ·intro e
  have e1 : ((B16 x &&& ~~~ B16 y).toNat : Int) = 0 := h.symm.trans e
  apply BitVec.eq_of_toNat_eq
  rw [show (B16 x &&& ~~~ B16 y).toNat = 0 by omega]; rfl
 intro e
 refine h.trans ?_
 rw [e]; rfl
theorem shr_nat {m j : Nat} (hj : j ≤ 16) : shrI .u16 (m : Int) (j : Int) = ((m / 2 ^ j : Nat) : Int) := by
 unfold shrI
 rw [show min (j : Int).toNat IntKind.u16.bits = j by show min (j : Int).toNat 16 = j; omega]
 rw [Int.fdiv_eq_ediv_of_nonneg _ (Int.le_of_lt (Int.pow_pos (by omega)))]
 push_cast
 rfl
theorem bit_nat {m j : Nat} (hm : m ≤ 65535) (hj : j ≤ 16) : btB (m : Int) j = m.testBit j := by
 unfold btB
 rw [shr_nat hj, and1 (Int.natCast_nonneg _) (by have := Nat.div_le_self m (2 ^ j); omega), Nat.testBit_eq_decide_div_mod_eq]
 congr 1
 simp only [eq_iff_iff]; omega
theorem bit_lsb {m : Int} (h : 0 ≤ m) (h' : m ≤ 65535) {j : Nat} (hj : j < 16) : (B16 m).getLsbD j = btB m j := by
 obtain ⟨n, rfl⟩ := Int.eq_ofNat_of_zero_le h
 rw [bit_nat (by omega) (by omega), BitVec.getLsbD, BitVec.toNat_ofInt]
 congr 1
 omega
theorem shl_one {i : Nat} (hi : i < 16) : shlI .u16 1 (i : Int) = ((2 ^ i : Nat) : Int) := by
 have : ∀ i : Fin 16, shlI .u16 1 (i : Nat) = ((2 ^ (i : Nat) : Nat) : Int) := by decide
 exact this ⟨i, hi⟩
theorem one_bit {i j : Nat} (hi : i < 16) (hj : j < 16) : (B16 (shlI .u16 1 (i : Int))).getLsbD j = decide (i = j) := by
 have h1 : (2 : Nat) ^ i ≤ 2 ^ 15 := Nat.pow_le_pow_right (by omega) (by omega)
 rw [shl_one hi, bit_lsb (Int.natCast_nonneg _) (by omega) hj, bit_nat (by omega) (by omega), Nat.testBit_two_pow]
theorem zero_iff (b : BitVec 16) : b = 0#16 ↔ ∀ j, j < 16 → b.getLsbD j = false := by
 constructor
 ·rintro rfl j hj; simp
 intro h
 apply BitVec.eq_of_getLsbD_eq
 intro j hj
 rw [h j hj]; simp

theorem B_or (x y : Int) : B16 (orI .u16 x y) = B16 x ||| B16 y := by
 unfold orI
 exact (congrArg B16 (wu16b (B16 x ||| B16 y))).trans (B16_nat _)
theorem or_in (x y : Int) : 0 ≤ orI .u16 x y ∧ orI .u16 x y ≤ 65535 := by
 have e : orI .u16 x y = (((B16 x ||| B16 y).toNat : Nat) : Int) := wu16b _
 have := (B16 x ||| B16 y).isLt
 rw [e]; omega
theorem bit_put {m : Int} (h : 0 ≤ m) (h' : m ≤ 65535) {i : Nat} (hi : i < 16) {j : Nat} (hj : j < 16) : btB (orI .u16 m (shlI .u16 1 (i : Int))) j = (btB m j || decide (i = j)) := by
 obtain ⟨a, b⟩ := or_in m (shlI .u16 1 (i : Int))
 rw [← bit_lsb a b hj, B_or, BitVec.getLsbD_or, bit_lsb h h' hj, one_bit hi hj]
theorem andNot_in (x y : Int) : 0 ≤ andNotI .u16 x y ∧ andNotI .u16 x y ≤ 65535 := by
 unfold andNotI
 have h := wu16b (B16 x &&& ~~~ B16 y)
 have := (B16 x &&& ~~~ B16 y).isLt
 have e : IntKind.u16.wrap (((BitVec.ofInt 16 x &&& ~~~BitVec.ofInt 16 y).toNat : Nat) : Int) = ((B16 x &&& ~~~ B16 y).toNat : Int) := h
 show 0 ≤ IntKind.u16.wrap (((BitVec.ofInt 16 x &&& ~~~BitVec.ofInt 16 y).toNat : Nat) : Int) ∧ IntKind.u16.wrap (((BitVec.ofInt 16 x &&& ~~~BitVec.ofInt 16 y).toNat : Nat) : Int) ≤ 65535
 rw [e]; omega
theorem bit_clear {m : Int} (h : 0 ≤ m) (h' : m ≤ 65535) {i : Nat} (hi : i < 16) {j : Nat} (hj : j < 16) : btB (andNotI .u16 m (shlI .u16 1 (i : Int))) j = (btB m j && !decide (i = j)) := by
 obtain ⟨a, b⟩ := andNot_in m (shlI .u16 1 (i : Int))
 rw [← bit_lsb a b hj, B_andNot, BitVec.getLsbD_and, BitVec.getLsbD_not, bit_lsb h h' hj, one_bit hi hj]
 simp [hj]
theorem bt_zero (j : Nat) : btB 0 j = false := by
 unfold btB shrI
 rw [Int.zero_fdiv]; rfl
theorem bt_mask {k j : Nat} (hk : k ≤ 15) (hj : j ≤ 16) : btB (2 ^ k - 1) j = decide (j < k) := by
 have h1 : (2 : Nat) ^ k ≤ 2 ^ 15 := Nat.pow_le_pow_right (by omega) hk
 have h2 : 0 < 2 ^ k := Nat.two_pow_pos k
 have e : (2 ^ k - 1 : Int) = ((2 ^ k - 1 : Nat) : Int) := by rw [Int.natCast_sub (by omega)]; push_cast; rfl
 rw [e, bit_nat (by omega) hj, Nat.testBit_two_pow_sub_one]
/-- All bits of one are bits of the other. -/
theorem sub_mask {m k : Int} (h : 0 ≤ m) (h' : m ≤ 65535) (hk : 0 ≤ k) (hk' : k ≤ 65535) : andNotI .u16 m k = 0 ↔ ∀ j, j < 16 → btB m j = true → btB k j = true := by
 rw [andNot_zero, zero_iff]
 constructor
 ·intro hz j hj hb
  have := hz j hj
  rw [BitVec.getLsbD_and, BitVec.getLsbD_not, bit_lsb h h' hj, bit_lsb hk hk' hj, hb] at this
  simpa [hj] using this
 intro hz j hj
 rw [BitVec.getLsbD_and, BitVec.getLsbD_not, bit_lsb h h' hj, bit_lsb hk hk' hj]
 cases hb : btB m j
 ·rfl
 rw [hz j hj hb]; simp
end Go.Proofs.YtokanemjghfadaaGreatDoor
