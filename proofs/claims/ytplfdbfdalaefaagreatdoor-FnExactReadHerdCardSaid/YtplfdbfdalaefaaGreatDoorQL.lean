
/-
  Plain law: the largest set of goats.
-/
import Derived.Test.YtplfdbfdalaefaaGreatDoorQH3
namespace Go.Proofs.YtplfdbfdalaefaaGreatDoor
open G
set_option linter.unusedVariables false
set_option linter.unusedSimpArgs false
/-! ### Bits -/
abbrev B16 (m : Int) : BitVec 16 := BitVec.ofInt 16 m
theorem wu16b (b : BitVec 16) : IntKind.u16.wrap (b.toNat : Int) = (b.toNat : Int) := wu16 (by omega) (by have := b.isLt; omega)
theorem B16_nat (b : BitVec 16) : B16 (b.toNat : Int) = b := by
  apply BitVec.eq_of_toNat_eq
  rw [BitVec.toNat_ofInt]
  have := b.isLt
  omega
theorem B_andNot (x y : Int) : B16 (andNotI .u16 x y) = B16 x &&& ~~~ B16 y := by
  unfold andNotI
  exact (congrArg B16 (wu16b (B16 x &&& ~~~ B16 y))).trans (B16_nat _)
theorem B_and (x y : Int) : B16 (andI .u16 x y) = B16 x &&& B16 y := by
  unfold andI
  exact (congrArg B16 (wu16b (B16 x &&& B16 y))).trans (B16_nat _)
theorem andNot_zero (x y : Int) : andNotI .u16 x y = 0 ↔ B16 x &&& ~~~ B16 y = 0#16 := by
  unfold andNotI
  have h := wu16b (B16 x &&& ~~~ B16 y)
  constructor
  · intro e
    have e1 : ((B16 x &&& ~~~ B16 y).toNat : Int) = 0 := h.symm.trans e
    apply BitVec.eq_of_toNat_eq
    rw [show (B16 x &&& ~~~ B16 y).toNat = 0 by omega]; rfl
  · intro e
    refine h.trans ?_
    rw [e]; rfl
theorem and_zero (x y : Int) : andI .u16 x y = 0 ↔ B16 x &&& B16 y = 0#16 := by
  unfold andI
  have h := wu16b (B16 x &&& B16 y)
  constructor
  · intro e
    have e1 : ((B16 x &&& B16 y).toNat : Int) = 0 := h.symm.trans e
    apply BitVec.eq_of_toNat_eq
    rw [show (B16 x &&& B16 y).toNat = 0 by omega]; rfl
  · intro e
    refine h.trans ?_
    rw [e]; rfl
theorem shr_nat {m j : Nat} (hj : j ≤ 16) : shrI .u16 (m : Int) (j : Int) = ((m / 2 ^ j : Nat) : Int) := by
  unfold shrI
  rw [show min (j : Int).toNat IntKind.u16.bits = j by show min (j : Int).toNat 16 = j; omega]
  rw [Int.fdiv_eq_ediv_of_nonneg _ (Int.le_of_lt (Int.pow_pos (by omega)))]
  push_cast
  rfl
theorem shr64_nat {m j : Nat} (hj : j ≤ 16) : shrI .i64 (m : Int) (j : Int) = ((m / 2 ^ j : Nat) : Int) := by
  unfold shrI
  rw [show min (j : Int).toNat IntKind.i64.bits = j by show min (j : Int).toNat 64 = j; omega]
  rw [Int.fdiv_eq_ediv_of_nonneg _ (Int.le_of_lt (Int.pow_pos (by omega)))]
  push_cast
  rfl
theorem bit_nat {m j : Nat} (hm : m ≤ 65535) (hj : j ≤ 16) : bitN (m : Int) j = m.testBit j := by
  unfold bitN
  rw [shr_nat hj, and1 (Int.natCast_nonneg _) (by have := Nat.div_le_self m (2 ^ j); omega), Nat.testBit_eq_decide_div_mod_eq]
  congr 1
  simp only [eq_iff_iff]; omega
theorem bit_lsb {m : Int} (h : 0 ≤ m) (h' : m ≤ 65535) {j : Nat} (hj : j < 16) : (B16 m).getLsbD j = bitN m j := by
  obtain ⟨n, rfl⟩ := Int.eq_ofNat_of_zero_le h
  rw [bit_nat (by omega) (by omega), BitVec.getLsbD, BitVec.toNat_ofInt]
  congr 1
  omega
theorem shl_one {i : Nat} (hi : i < 16) : shlI .u16 1 (i : Int) = ((2 ^ i : Nat) : Int) := by
  have : ∀ i : Fin 16, shlI .u16 1 (i : Nat) = ((2 ^ (i : Nat) : Nat) : Int) := by decide
  exact this ⟨i, hi⟩
theorem one_bit {i j : Nat} (hi : i < 16) (hj : j < 16) : (B16 (shlI .u16 1 (i : Int))).getLsbD j = decide (i = j) := by
  have h1 : (2 : Nat) ^ i ≤ 2 ^ 15 := Nat.pow_le_pow_right (by omega) (by omega)
  rw [shl_one hi, bit_lsb (Int.natCast_nonneg _) (by omega) hj, bit_nat (by omega) (by omega), Nat.testBit_two_pow]
theorem zero_iff (b : BitVec 16) : b = 0#16 ↔ ∀ j, j < 16 → b.getLsbD j = false := by
  constructor
  · rintro rfl j hj; simp
  · intro h
    apply BitVec.eq_of_getLsbD_eq
    intro j hj
    rw [h j hj]; simp

/-! ### What a set is accepted for -/
def condI (f : Bool) (h : Herd) (s : Int) (i : Nat) : Bool := if f = true then decide (andNotI .u16 (andNotI .u16 s (shlI .u16 1 (i : Int))) (foes h i) = 0) else decide (andI .u16 (andNotI .u16 s (shlI .u16 1 (i : Int))) (foes h i) = 0)
theorem condI_iff {f : Bool} {h : Herd} (v : VHerd h) {s : Int} (s0 : 0 ≤ s) (s1 : s ≤ 65535) {i : Nat} (hi : i < 16) : condI f h s i = true ↔ ∀ j, j < 16 → bitN s j = true → i ≠ j → foeB h i j = f := by
  obtain ⟨f0, f1⟩ := foes_in v i
  unfold condI
  cases f
  · rw [if_neg (by simp), decide_eq_true_eq, and_zero, B_andNot, zero_iff]
    constructor
    · intro hz j hj hb hn
      have := hz j hj
      simp only [BitVec.getLsbD_and, BitVec.getLsbD_not, one_bit hi hj, bit_lsb s0 s1 hj, bit_lsb f0 f1 hj, hb, hj] at this
      simpa [hn, foeB_bit] using this
    · intro hz j hj
      have := hz j hj
      simp only [BitVec.getLsbD_and, BitVec.getLsbD_not, one_bit hi hj, bit_lsb s0 s1 hj, bit_lsb f0 f1 hj]
      cases hb : bitN s j
      · simp
      · by_cases hn : i = j
        · simp [hn]
        · have h2 := this hb hn; rw [foeB_bit] at h2; simp [h2]
  · rw [if_pos rfl, decide_eq_true_eq, andNot_zero, B_andNot, zero_iff]
    constructor
    · intro hz j hj hb hn
      have := hz j hj
      simp only [BitVec.getLsbD_and, BitVec.getLsbD_not, one_bit hi hj, bit_lsb s0 s1 hj, bit_lsb f0 f1 hj, hb, hj] at this
      simpa [hn, foeB_bit] using this
    · intro hz j hj
      have := hz j hj
      simp only [BitVec.getLsbD_and, BitVec.getLsbD_not, one_bit hi hj, bit_lsb s0 s1 hj, bit_lsb f0 f1 hj, hj]
      cases hb : bitN s j
      · simp
      · by_cases hn : i = j
        · simp [hn]
        · have h2 := this hb hn; rw [foeB_bit] at h2; simp [h2]
def okAt (f : Bool) (h : Herd) (s : Int) (i : Nat) : Bool := !bitN s i || (bl s 0 i).all fun x => foeB h i x.toNat == f
theorem mem_bl {s x : Int} {i n : Nat} : x ∈ bl s i n ↔ ∃ j : Nat, i ≤ j ∧ j < i + n ∧ bitN s j = true ∧ x = (j : Int) := by
  unfold bl
  rw [List.mem_map]
  constructor
  · rintro ⟨j, hj, rfl⟩
    rw [List.mem_filter, List.mem_range'_1] at hj
    exact ⟨j, hj.1.1, hj.1.2, hj.2, rfl⟩
  · rintro ⟨j, h1, h2, h3, rfl⟩
    exact ⟨j, by rw [List.mem_filter, List.mem_range'_1]; exact ⟨⟨h1, h2⟩, h3⟩, rfl⟩
theorem foe_sym {h : Herd} (hv : vH h = true) {i j : Nat} (hi : i < h.Names.length) (hj : j < h.Names.length) : foeB h i j = foeB h j i := by
  have key : ∀ a b, a < h.Names.length → b < a → foeB h a b = foeB h b a := fun a b ha hb => by
    have := (vH_ok hv ha).2 b hb
    unfold prB symB at this
    rw [Bool.and_eq_true] at this
    exact eq_of_beq this.2
  rcases Nat.lt_trichotomy i j with hlt | rfl | hgt
  · exact (key j i hj hlt).symm
  · rfl
  · exact key i j hi hgt
theorem good_iff {f : Bool} {h : Herd} (v : VHerd h) (hv : vH h = true) {s : Int} (s0 : 0 ≤ s) (s1 : s ≤ 65535) (hb : ∀ j, h.Names.length ≤ j → bitN s j = false) : upA (okAt f h s) 0 h.Names.length = (bl s 0 16).all fun x => condI f h s x.toNat := by
  obtain ⟨n1, n2, n3⟩ := vH_len hv
  have hlt : ∀ j, bitN s j = true → j < h.Names.length := fun j hj => by
    rcases Nat.lt_or_ge j h.Names.length with h1 | h1
    · exact h1
    · rw [hb j h1] at hj; cases hj
  rw [Bool.eq_iff_iff, upA_iff, List.all_eq_true]
  constructor
  · intro hz x hx
    obtain ⟨i, _, _, hi, rfl⟩ := mem_bl.1 hx
    have hin := hlt i hi
    rw [Int.toNat_natCast, condI_iff v s0 s1 (by omega)]
    intro j hj hbj hij
    have hjn := hlt j hbj
    have key : ∀ a b, a < h.Names.length → b < a → bitN s a = true → bitN s b = true → foeB h a b = f := fun a b ha hba h1 h2 => by
      have := hz a (Nat.zero_le _) (by omega)
      unfold okAt at this
      rw [h1, Bool.not_true, Bool.false_or, List.all_eq_true] at this
      exact eq_of_beq (this (b : Int) (mem_bl.2 ⟨b, Nat.zero_le _, by omega, h2, rfl⟩))
    rcases Nat.lt_or_gt_of_ne hij with h1 | h1
    · rw [foe_sym hv hin hjn]; exact key j i hjn h1 hbj hi
    · exact key i j hin h1 hi hbj
  · intro hz i _ hin
    unfold okAt
    cases hi : bitN s i
    · rfl
    · rw [Bool.not_true, Bool.false_or, List.all_eq_true]
      intro x hx
      obtain ⟨j, _, hj, hbj, rfl⟩ := mem_bl.1 hx
      have h1 := hz (i : Int) (mem_bl.2 ⟨i, Nat.zero_le _, by omega, hi, rfl⟩)
      rw [Int.toNat_natCast, condI_iff v s0 s1 (by omega)] at h1
      rw [Int.toNat_natCast, h1 j (by omega) hbj (by omega)]
      exact beq_self_eq_true f
end Go.Proofs.YtplfdbfdalaefaaGreatDoor
