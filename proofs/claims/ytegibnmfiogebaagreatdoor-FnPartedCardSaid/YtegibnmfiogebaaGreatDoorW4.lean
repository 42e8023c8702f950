import Derived.Test.YtegibnmfiogebaaGreatDoorQC
import Derived.Test.YtegibnmfiogebaaGreatDoorDF
/-
  Plain laws: the cells of a pasture in order, and sums of grass.
-/
namespace Go.Proofs.YtegibnmfiogebaaGreatDoor
open G
set_option linter.unusedVariables false
set_option linter.unusedSimpArgs false
section

def cellIn (s : Spot) : Prop := ∃ x y : Nat, x < 10 ∧ y < 10 ∧ s = ⟨(x : Int), (y : Int)⟩
end
section
end
section
abbrev B16 (m : Int) : BitVec 16 := BitVec.ofInt 16 m
theorem wu16b (b : BitVec 16) : IntKind.u16.wrap (b.toNat : Int) = (b.toNat : Int) := wu16 (by omega) (by have := b.isLt; omega)
theorem B16_nat (b : BitVec 16) : B16 (b.toNat : Int) = b := by
 apply BitVec.eq_of_toNat_eq
 rw [BitVec.toNat_ofInt]
 have := b.isLt
 omega
theorem B_andNot (x y : Int) : B16 (andNotI .u16 x y) = B16 x &&& ~~~ B16 y := by
 unfold andNotI
 exact (congrArg B16 (wu16b (B16 x &&& ~~~ B16 y))).trans (B16_nat _)
theorem andNot_zero (x y : Int) : andNotI .u16 x y = 0 ↔ B16 x &&& ~~~ B16 y = 0#16 := by
 unfold andNotI
 have h := wu16b (B16 x &&& ~~~ B16 y)
 constructor
 ·intro e
  have e1 : ((B16 x &&& ~~~ B16 y).toNat : Int) = 0 := h.symm.trans e
  apply BitVec.eq_of_toNat_eq
  rw [show (B16 x &&& ~~~ B16 y).toNat = 0 by omega]; rfl
 intro e
 refine h.trans ?_
 rw [e]; rfl
theorem shr_nat {m j : Nat} (hj : j ≤ 16) : shrI .u16 (m : Int) (j : Int) = ((m / 2 ^ j : Nat) : Int) := by
 unfold shrI
 rw [show min (j : Int).toNat IntKind.u16.bits = j by show min (j : Int).toNat 16 = j; omega]
 rw [Int.fdiv_eq_ediv_of_nonneg _ (Int.le_of_lt (Int.pow_pos (by omega)))]
 push_cast
 rfl
theorem bit_nat {m j : Nat} (hm : m ≤ 65535) (hj : j ≤ 16) : btB (m : Int) j = m.testBit j := by
 unfold btB
 rw [shr_nat hj, and1 (Int.natCast_nonneg _) (by have := Nat.div_le_self m (2 ^ j); omega), Nat.testBit_eq_decide_div_mod_eq]
 congr 1
 simp only [eq_iff_iff]; omega
theorem bit_lsb {m : Int} (h : 0 ≤ m) (h' : m ≤ 65535) {j : Nat} (hj : j < 16) : (B16 m).getLsbD j = btB m j := by
 obtain ⟨n, rfl⟩ := Int.eq_ofNat_of_zero_le h
 rw [bit_nat (by omega) (by omega), BitVec.getLsbD, BitVec.toNat_ofInt]
 congr 1
 omega
theorem shl_one {i : Nat} (hi : i < 16) : shlI .u16 1 (i : Int) = ((2 ^ i : Nat) : Int) := by
 have : ∀ i : Fin 16, shlI .u16 1 (i : Nat) = ((2 ^ (i : Nat) : Nat) : Int) := by decide
 exact this ⟨i, hi⟩
theorem one_bit {i j : Nat} (hi : i < 16) (hj : j < 16) : (B16 (shlI .u16 1 (i : Int))).getLsbD j = decide (i = j) := by
 have h1 : (2 : Nat) ^ i ≤ 2 ^ 15 := Nat.pow_le_pow_right (by omega) (by omega)
 rw [shl_one hi, bit_lsb (Int.natCast_nonneg _) (by omega) hj, bit_nat (by omega) (by omega), Nat.testBit_two_pow]
theorem zero_iff (b : BitVec 16) : b = 0#16 ↔ ∀ j, j < 16 → b.getLsbD j = false := by
 constructor
 ·rintro rfl j hj; simp
 intro h
 apply BitVec.eq_of_getLsbD_eq
 intro j hj
 rw [h j hj]; simp

theorem B_or (x y : Int) : B16 (orI .u16 x y) = B16 x ||| B16 y := by
 unfold orI
 exact (congrArg B16 (wu16b (B16 x ||| B16 y))).trans (B16_nat _)
theorem or_in (x y : Int) : 0 ≤ orI .u16 x y ∧ orI .u16 x y ≤ 65535 := by
 have e : orI .u16 x y = (((B16 x ||| B16 y).toNat : Nat) : Int) := wu16b _
 have := (B16 x ||| B16 y).isLt
 rw [e]; omega
theorem bit_put {m : Int} (h : 0 ≤ m) (h' : m ≤ 65535) {i : Nat} (hi : i < 16) {j : Nat} (hj : j < 16) : btB (orI .u16 m (shlI .u16 1 (i : Int))) j = (btB m j || decide (i = j)) := by
 obtain ⟨a, b⟩ := or_in m (shlI .u16 1 (i : Int))
 rw [← bit_lsb a b hj, B_or, BitVec.getLsbD_or, bit_lsb h h' hj, one_bit hi hj]
theorem andNot_in (x y : Int) : 0 ≤ andNotI .u16 x y ∧ andNotI .u16 x y ≤ 65535 := by
 unfold andNotI
 have h := wu16b (B16 x &&& ~~~ B16 y)
 have := (B16 x &&& ~~~ B16 y).isLt
 have e : IntKind.u16.wrap (((BitVec.ofInt 16 x &&& ~~~BitVec.ofInt 16 y).toNat : Nat) : Int) = ((B16 x &&& ~~~ B16 y).toNat : Int) := h
 show 0 ≤ IntKind.u16.wrap (((BitVec.ofInt 16 x &&& ~~~BitVec.ofInt 16 y).toNat : Nat) : Int) ∧ IntKind.u16.wrap (((BitVec.ofInt 16 x &&& ~~~BitVec.ofInt 16 y).toNat : Nat) : Int) ≤ 65535
 rw [e]; omega
theorem bit_clear {m : Int} (h : 0 ≤ m) (h' : m ≤ 65535) {i : Nat} (hi : i < 16) {j : Nat} (hj : j < 16) : btB (andNotI .u16 m (shlI .u16 1 (i : Int))) j = (btB m j && !decide (i = j)) := by
 obtain ⟨a, b⟩ := andNot_in m (shlI .u16 1 (i : Int))
 rw [← bit_lsb a b hj, B_andNot, BitVec.getLsbD_and, BitVec.getLsbD_not, bit_lsb h h' hj, one_bit hi hj]
 simp [hj]
theorem bt_zero (j : Nat) : btB 0 j = false := by
 unfold btB shrI
 rw [Int.zero_fdiv]; rfl
theorem bt_mask {k j : Nat} (hk : k ≤ 15) (hj : j ≤ 16) : btB (2 ^ k - 1) j = decide (j < k) := by
 have h1 : (2 : Nat) ^ k ≤ 2 ^ 15 := Nat.pow_le_pow_right (by omega) hk
 have h2 : 0 < 2 ^ k := Nat.two_pow_pos k
 have e : (2 ^ k - 1 : Int) = ((2 ^ k - 1 : Nat) : Int) := by rw [Int.natCast_sub (by omega)]; push_cast; rfl
 rw [e, bit_nat (by omega) hj, Nat.testBit_two_pow_sub_one]
theorem sub_mask {m k : Int} (h : 0 ≤ m) (h' : m ≤ 65535) (hk : 0 ≤ k) (hk' : k ≤ 65535) : andNotI .u16 m k = 0 ↔ ∀ j, j < 16 → btB m j = true → btB k j = true := by
 rw [andNot_zero, zero_iff]
 constructor
 ·intro hz j hj hb
  have := hz j hj
  rw [BitVec.getLsbD_and, BitVec.getLsbD_not, bit_lsb h h' hj, bit_lsb hk hk' hj, hb] at this
  simpa [hj] using this
 intro hz j hj
 rw [BitVec.getLsbD_and, BitVec.getLsbD_not, bit_lsb h h' hj, bit_lsb hk hk' hj]
 cases hb : btB m j
 ·rfl
 rw [hz j hj hb]; simp
end
section

theorem and255 (x : Int) : 0 ≤ andI .u64 x 255 ∧ andI .u64 x 255 ≤ 255 := by
 unfold andI
 have e : (BitVec.ofInt 64 x &&& BitVec.ofInt 64 255).toNat ≤ 255 := by
   rw [BitVec.toNat_and]
   exact Nat.le_trans Nat.and_le_right (by decide)
 show 0 ≤ IntKind.u64.wrap (((BitVec.ofInt 64 x &&& BitVec.ofInt 64 255).toNat : Nat) : Int) ∧ IntKind.u64.wrap (((BitVec.ofInt 64 x &&& BitVec.ofInt 64 255).toNat : Nat) : Int) ≤ 255
 rw [wu64 (by omega) (by omega)]
 omega
def byteL (l : List Int) : Prop := ∀ x ∈ l, 0 ≤ x ∧ x ≤ 255
theorem byteL_of {l : List Int} (h : ∀ x ∈ l, (inI .u8) x) : byteL l := by
 intro x hx
 have h1 : IntKind.u8.min = 0 := by decide
 have h2 : IntKind.u8.max = 255 := by decide
 obtain ⟨a, b⟩ := h x hx
 rw [h1] at a; rw [h2] at b
 exact ⟨a, b⟩
theorem next_ok {c : List Int} (hc : byteL c) {at_ seed : Int} (h0 : 0 ≤ at_) (h1 : at_ ≤ 4611686018427387904) :
 ∃ v seed', q2b.f ⟨c, at_, seed⟩ = some (v, ⟨c, at_ + 1, seed'⟩) ∧ 0 ≤ v ∧ v ≤ 255 := by
 have e1 : IntKind.i64.wrap (at_ + 1) = at_ + 1 := w64 (by omega) (by omega)
 have hb : ∀ y, 0 ≤ IntKind.i64.wrap (andI .u64 y 255) ∧ IntKind.i64.wrap (andI .u64 y 255) ≤ 255 := by
   intro y
   have := and255 y
   rw [w64 (by omega) (by omega)]
   exact this
 unfold q2b.f
 simp only [e1]
 by_cases hl : at_ < (c.length : Int)
 ·obtain ⟨i, rfl⟩ := Int.eq_ofNat_of_zero_le h0
  have hi : i < c.length := by omega
  rw [if_pos hl, getI_nat hi, Option.bind_some]
  have hx := hc _ (List.getElem_mem hi)
  by_cases h2 : (i : Int) + 1 ≤ (c.length : Int)
  ·rw [if_pos h2]
   refine ⟨_, _, rfl, ?_⟩
   rw [w64 (by omega) (by omega)]
   exact hx
  rw [if_neg h2]
  exact ⟨_, _, rfl, hb _⟩
 rw [if_neg hl]
 by_cases h2 : at_ + 1 ≤ (c.length : Int)
 ·omega
 rw [if_neg h2]
 exact ⟨_, _, rfl, hb _⟩
theorem pick_ok {c : List Int} (hc : byteL c) {at_ seed : Int} (h0 : 0 ≤ at_) (h1 : at_ ≤ 1000000000000) (n : Int) :
 ∃ v at' seed', q0t.f ⟨c, at_, seed⟩ n = some (v, ⟨c, at', seed'⟩) ∧ 0 ≤ v ∧ (v < n ∨ (n ≤ 1 ∧ v = 0)) ∧ at_ ≤ at' ∧ at' ≤ at_ + 2 := by
 unfold q0t.f
 by_cases hn : n ≤ 1
 ·rw [if_pos hn]
  exact ⟨0, at_, seed, rfl, by omega, .inr ⟨hn, rfl⟩, by omega, by omega⟩
 rw [if_neg hn]
 obtain ⟨v, s1, e, v0, v1⟩ := next_ok hc (seed := seed) h0 (by omega)
 rw [e, Option.bind_some]
 by_cases hb : 200 < n
 ·rw [if_pos hb]
  obtain ⟨u, s2, e2, u0, u1⟩ := next_ok hc (seed := s1) (show 0 ≤ at_ + 1 by omega) (by omega)
  simp only [e2, Option.bind_some]
  rw [chk_t (show n ≠ 0 by omega), Option.bind_some, w64 (x := v * 256) (by omega) (by omega), w64 (by omega) (by omega)]
  refine ⟨_, _, _, rfl, ?_, .inl ?_, by omega, by omega⟩
  ·rw [Int.tmod_eq_emod_of_nonneg (by omega)]; exact Int.emod_nonneg _ (by omega)
  rw [Int.tmod_eq_emod_of_nonneg (by omega)]; exact Int.emod_lt_of_pos _ (by omega)
 rw [if_neg hb]
 rw [chk_t (show n ≠ 0 by omega), Option.bind_some]
 refine ⟨_, _, _, rfl, ?_, .inl ?_, by simp only; omega, by simp only; omega⟩
 ·rw [Int.tmod_eq_emod_of_nonneg (by omega)]; exact Int.emod_nonneg _ (by omega)
 rw [Int.tmod_eq_emod_of_nonneg (by omega)]; exact Int.emod_lt_of_pos _ (by omega)
end
section
set_option maxRecDepth 100000
structure Rows (p : Pasture) : Prop where
  e : ∀ y, y < 10 → (0 ≤ gA p.East y ∧ gA p.East y ≤ 65535) ∧ ∀ j, j < 16 → btB (gA p.East y) j = true → (j : Int) + 1 < p.Wide ∧ (y : Int) < p.High
  s : ∀ y, y < 10 → (0 ≤ gA p.South y ∧ gA p.South y ≤ 65535) ∧ ∀ j, j < 16 → btB (gA p.South y) j = true → (j : Int) < p.Wide ∧ (y : Int) + 1 < p.High
theorem mask_in {k : Nat} (hk : k ≤ 15) : 0 ≤ (2 ^ k - 1 : Int) ∧ (2 ^ k - 1 : Int) ≤ 65535 := by
 have h1 : (2 : Nat) ^ k ≤ 2 ^ 15 := Nat.pow_le_pow_right (by omega) hk
 have h2 : 0 < 2 ^ k := Nat.two_pow_pos k
 have e : (2 ^ k - 1 : Int) = ((2 ^ k - 1 : Nat) : Int) := by rw [Int.natCast_sub (by omega)]; push_cast; rfl
 rw [e]; omega
theorem rows_ok {p : Pasture} (hw : okW p = true) (hg : ∀ y x, y < 10 → x < 10 → okG p y x = true) (h : Rows p) : vP p = true := by
 obtain ⟨a, b⟩ := okW_iff.1 hw
 unfold vP
 rw [hw, Bool.true_and, upA_iff]
 intro y _ hy
 have hy : y < 10 := by omega
 unfold okR
 rw [Bool.and_eq_true, Bool.and_eq_true, decide_eq_true_eq, decide_eq_true_eq, upA_iff]
 obtain ⟨⟨e0, e1⟩, e2⟩ := h.e y hy
 obtain ⟨⟨s0, s1⟩, s2⟩ := h.s y hy
 refine ⟨fun x _ hx => hg y x hy (by omega), ?_, ?_⟩
 ·unfold eMask
  by_cases hh : (y : Int) < p.High
  ·rw [if_pos hh]
   obtain ⟨m0, m1⟩ := mask_in (k := p.Wide.toNat - 1) (by omega)
   rw [sub_mask e0 e1 m0 m1]
   intro j hj hb
   rw [bt_mask (by omega) (by omega)]
   have := e2 j hj hb
   exact decide_eq_true (by omega)
  rw [if_neg hh, sub_mask e0 e1 (by omega) (by omega)]
  intro j hj hb
  exact absurd (e2 j hj hb).2 hh
 unfold sMask
 by_cases hh : (y : Int) + 1 < p.High
 ·rw [if_pos hh]
  obtain ⟨m0, m1⟩ := mask_in (k := p.Wide.toNat) (by omega)
  rw [sub_mask s0 s1 m0 m1]
  intro j hj hb
  rw [bt_mask (by omega) (by omega)]
  have := s2 j hj hb
  exact decide_eq_true (by omega)
 rw [if_neg hh, sub_mask s0 s1 (by omega) (by omega)]
 intro j hj hb
 exact absurd (s2 j hj hb).2 hh
theorem vP_rows {p : Pasture} (v : VPasture p) (h : vP p = true) : Rows p := by
 have hw := vP_okW h
 obtain ⟨a, b⟩ := okW_iff.1 hw
 unfold vP at h
 rw [hw, Bool.true_and, upA_iff] at h
 have hE : ∀ y, y < 10 → 0 ≤ gA p.East y ∧ gA p.East y ≤ 65535 := fun y hy => u16b (v.2.2.2.1 _ (gA_mem _ hy))
 have hS : ∀ y, y < 10 → 0 ≤ gA p.South y ∧ gA p.South y ≤ 65535 := fun y hy => u16b (v.2.2.2.2 _ (gA_mem _ hy))
 refine ⟨fun y hy => ⟨hE y hy, ?_⟩, fun y hy => ⟨hS y hy, ?_⟩⟩
 ·have := h y (Nat.zero_le _) (by omega)
  unfold okR at this
  rw [Bool.and_eq_true, Bool.and_eq_true, decide_eq_true_eq, decide_eq_true_eq] at this
  obtain ⟨_, he, _⟩ := this
  unfold eMask at he
  by_cases hh : (y : Int) < p.High
  ·rw [if_pos hh] at he
   obtain ⟨m0, m1⟩ := mask_in (k := p.Wide.toNat - 1) (by omega)
   rw [sub_mask (hE y hy).1 (hE y hy).2 m0 m1] at he
   intro j hj hb
   have := he j hj hb
   rw [bt_mask (by omega) (by omega), decide_eq_true_eq] at this
   omega
  rw [if_neg hh, sub_mask (hE y hy).1 (hE y hy).2 (by omega) (by omega)] at he
  intro j hj hb
  have := he j hj hb
  rw [bt_zero] at this; cases this
 have := h y (Nat.zero_le _) (by omega)
 unfold okR at this
 rw [Bool.and_eq_true, Bool.and_eq_true, decide_eq_true_eq, decide_eq_true_eq] at this
 obtain ⟨_, _, he⟩ := this
 unfold sMask at he
 by_cases hh : (y : Int) + 1 < p.High
 ·rw [if_pos hh] at he
  obtain ⟨m0, m1⟩ := mask_in (k := p.Wide.toNat) (by omega)
  rw [sub_mask (hS y hy).1 (hS y hy).2 m0 m1] at he
  intro j hj hb
  have := he j hj hb
  rw [bt_mask (by omega) (by omega), decide_eq_true_eq] at this
  omega
 rw [if_neg hh, sub_mask (hS y hy).1 (hS y hy).2 (by omega) (by omega)] at he
 intro j hj hb
 have := he j hj hb
 rw [bt_zero] at this; cases this
def putT (p : Pasture) (x y : Nat) (s : Bool) : Pasture := if s = true then ⟨p.Wide, p.High, p.Grass, p.East, aset p.South y (orI .u16 (andNotI .u16 (gA p.South y) (shlI .u16 1 (x : Int))) (shlI .u16 1 (x : Int)))⟩ else ⟨p.Wide, p.High, p.Grass, aset p.East y (orI .u16 (andNotI .u16 (gA p.East y) (shlI .u16 1 (x : Int))) (shlI .u16 1 (x : Int))), p.South⟩
theorem aset_aset (a : Arr 10 Int) (y : Nat) (u v : Int) : aset (aset a y u) y v = aset a y v := by
 unfold aset
 simp only [List.set_set]
theorem setT_eq (p : Pasture) {x y : Nat} (hx : x < 10) (hy : y < 10) (s : Bool) : q26.f p (sp x y) (if s = true then 2 else 1) true = some (putT p x y s) := by
 have g1 : ∀ a : Arr 10 Int, getI a.l (y : Int) = some (gA a y) := fun a => getA a hy
 have u := u64n hx
 have e1 : ∀ (a : Arr 10 Int) (v : Int), gA (aset a y v) y = v := fun a v => by rw [gA_set a hy, if_pos rfl]
 cases s
 ·simp [q26.f, sp, u, chk, g1, e1, putT, aset_aset]
 simp [q26.f, sp, u, chk, g1, e1, putT, aset_aset]
theorem bit_putT {m : Int} (h : 0 ≤ m) (h' : m ≤ 65535) {i j : Nat} (hi : i < 16) (hj : j < 16) : btB (orI .u16 (andNotI .u16 m (shlI .u16 1 (i : Int))) (shlI .u16 1 (i : Int))) j = (btB m j || decide (i = j)) := by
 obtain ⟨a, b⟩ := andNot_in m (shlI .u16 1 (i : Int))
 rw [bit_put a b hi hj, bit_clear h h' hi hj]
 cases btB m j <;> by_cases e : i = j <;> simp [e]
theorem putT_rows {p : Pasture} (h : Rows p) {x y : Nat} (hx : x < 10) (hy : y < 10) {s : Bool} (hin : if s = true then (x : Int) < p.Wide ∧ (y : Int) + 1 < p.High else (x : Int) + 1 < p.Wide ∧ (y : Int) < p.High) : Rows (putT p x y s) := by
 cases s
 ·simp only [Bool.false_eq_true, if_false] at hin
  refine ⟨fun b hb => ?_, h.s⟩
  have e : gA (putT p x y false).East b = if y = b then orI .u16 (andNotI .u16 (gA p.East y) (shlI .u16 1 (x : Int))) (shlI .u16 1 (x : Int)) else gA p.East b := gA_set p.East hy _ b
  rw [e]
  by_cases e1 : y = b
  ·subst e1
   rw [if_pos rfl]
   obtain ⟨⟨e0, e1⟩, e2⟩ := h.e y hy
   refine ⟨or_in _ _, fun j hj hbit => ?_⟩
   rw [bit_putT e0 e1 (by omega) hj, Bool.or_eq_true, decide_eq_true_eq] at hbit
   rcases hbit with hbit | rfl
   ·exact e2 j hj hbit
   exact hin
  rw [if_neg e1]; exact h.e b hb
 simp only [if_true] at hin
 refine ⟨h.e, fun b hb => ?_⟩
 have e : gA (putT p x y true).South b = if y = b then orI .u16 (andNotI .u16 (gA p.South y) (shlI .u16 1 (x : Int))) (shlI .u16 1 (x : Int)) else gA p.South b := gA_set p.South hy _ b
 rw [e]
 by_cases e1 : y = b
 ·subst e1
  rw [if_pos rfl]
  obtain ⟨⟨e0, e1⟩, e2⟩ := h.s y hy
  refine ⟨or_in _ _, fun j hj hbit => ?_⟩
  rw [bit_putT e0 e1 (by omega) hj, Bool.or_eq_true, decide_eq_true_eq] at hbit
  rcases hbit with hbit | rfl
  ·exact e2 j hj hbit
  exact hin
 rw [if_neg e1]; exact h.s b hb
structure Dr (W H : Nat) (p : Pasture) : Prop where
  w : p.Wide = (W : Int)
  h : p.High = (H : Int)
  g : ∀ y x, y < 10 → x < 10 → 0 ≤ gG p y x ∧ gG p y x ≤ 11 ∧ (¬ (x < W ∧ y < H) → gG p y x = 0)
  r : Rows p
theorem arr_at {α : Type} {n : Nat} (a : Arr n α) {x : α} (hx : x ∈ a.l) : ∃ i, i < n ∧ a.l[i]? = some x := by
 obtain ⟨i, hi, rfl⟩ := List.getElem_of_mem hx
 exact ⟨i, by rw [← a.len]; exact hi, List.getElem?_eq_getElem hi⟩
theorem Dr.V {W H : Nat} {p : Pasture} (h : Dr W H p) (hW : W ≤ 10) (hH : H ≤ 10) : VPasture p := by
 have i8 : IntKind.i8.min = -128 ∧ IntKind.i8.max = 127 := by decide
 have i16 : IntKind.i16.min = -32768 ∧ IntKind.i16.max = 32767 := by decide
 have u16' : IntKind.u16.min = 0 ∧ IntKind.u16.max = 65535 := by decide
 refine ⟨?_, ?_, fun r hr x hx => ?_, fun x hx => ?_, fun x hx => ?_⟩
 ·unfold inI; rw [i8.1, i8.2, h.w]; omega
 ·unfold inI; rw [i8.1, i8.2, h.h]; omega
 ·obtain ⟨y, hy, e⟩ := arr_at p.Grass hr
  obtain ⟨j, hj, e2⟩ := arr_at r hx
  have : gG p y j = x := by unfold gG gR gA; rw [e]; simp [List.getD_eq_getElem?_getD, e2]
  have hg := h.g y j hy hj
  unfold inI; rw [i16.1, i16.2]; omega
 ·obtain ⟨y, hy, e⟩ := arr_at p.East hx
  have : gA p.East y = x := by unfold gA; simp [List.getD_eq_getElem?_getD, e]
  have := (h.r.e y hy).1
  unfold inI; rw [u16'.1, u16'.2]; omega
 obtain ⟨y, hy, e⟩ := arr_at p.South hx
 have : gA p.South y = x := by unfold gA; simp [List.getD_eq_getElem?_getD, e]
 have := (h.r.s y hy).1
 unfold inI; rw [u16'.1, u16'.2]; omega
theorem Dr.okW {W H : Nat} {p : Pasture} (h : Dr W H p) (hW : 1 ≤ W ∧ W ≤ 10) (hH : 1 ≤ H ∧ H ≤ 10) : okW p = true := by
 rw [okW_iff, h.w, h.h]; omega
theorem Dr.ok {W H : Nat} {p : Pasture} (h : Dr W H p) (hW : 1 ≤ W ∧ W ≤ 10) (hH : 1 ≤ H ∧ H ≤ 10) : vP p = true := by
 refine rows_ok (h.okW hW hH) (fun y x hy hx => ?_) h.r
 obtain ⟨a, b, c⟩ := h.g y x hy hx
 unfold okG cellB
 simp only [Bool.and_eq_true, Bool.or_eq_true, decide_eq_true_eq, h.w, h.h]
 refine ⟨by omega, ?_⟩
 by_cases hin : x < W ∧ y < H
 ·right; omega
 left; rw [c hin]; omega
theorem Dr.put {W H : Nat} {p : Pasture} (h : Dr W H p) {x y : Nat} (hx : x < 10) (hy : y < 10) {s : Bool} (hin : if s = true then (x : Int) < p.Wide ∧ (y : Int) + 1 < p.High else (x : Int) + 1 < p.Wide ∧ (y : Int) < p.High) : Dr W H (putT p x y s) := by
 have hr := putT_rows h.r hx hy hin
 cases s
 ·exact ⟨h.w, h.h, h.g, hr⟩
 exact ⟨h.w, h.h, h.g, hr⟩
theorem Dr.grass {W H : Nat} {p : Pasture} (h : Dr W H p) {x y : Nat} (hx : x < 10) (hy : y < 10) (hxW : x < W) (hyH : y < H) {v : Int} (v0 : 0 ≤ v) (v1 : v ≤ 11) : Dr W H ⟨p.Wide, p.High, put2 p.Grass y x v, p.East, p.South⟩ := by
 refine ⟨h.w, h.h, fun b a hb ha => ?_, ⟨h.r.e, h.r.s⟩⟩
 have e : gG ⟨p.Wide, p.High, put2 p.Grass y x v, p.East, p.South⟩ b a = if y = b ∧ x = a then v else gG p b a := g2_put p.Grass hy hx v b a
 rw [e]
 by_cases c : y = b ∧ x = a
 ·rw [if_pos c]
  exact ⟨v0, v1, fun hn => absurd ⟨by omega, by omega⟩ hn⟩
 rw [if_neg c]; exact h.g b a hb ha
theorem one_ok {c : List Int} (hc : byteL c) {at_ seed : Int} (h0 : 0 ≤ at_) (h1 : at_ ≤ 1000000000000) (n : Int) :
 ∃ v at' seed', q2v.f ⟨c, at_, seed⟩ n = some (v, ⟨c, at', seed'⟩) ∧ at_ ≤ at' ∧ at' ≤ at_ + 2 := by
 obtain ⟨i, a, s, e, i0, i1, q1, q2⟩ := pick_ok hc (seed := seed) h0 h1 n
 refine ⟨decide (i = 0), a, s, ?_, q1, q2⟩
 unfold q2v.f
 rw [e]
 rfl
theorem side_in {W H : Nat} {p : Pasture} (h : Dr W H p) (hW : W ≤ 10) (hH : H ≤ 10) {x y : Nat} (hx : x < W) (hy : y < H) (s : Bool) (hc : cellB p (nx (sp x y) (if s = true then 2 else 1)).X (nx (sp x y) (if s = true then 2 else 1)).Y = true) : if s = true then (x : Int) < p.Wide ∧ (y : Int) + 1 < p.High else (x : Int) + 1 < p.Wide ∧ (y : Int) < p.High := by
 unfold cellB at hc
 cases s
 ·simp only [Bool.false_eq_true, if_false] at hc ⊢
  have e : nx (sp x y) 1 = ⟨((x : Int) + 1), (y : Int)⟩ := by
    unfold nx sp; simp; rw [w8 (by omega) (by omega)]
  rw [e] at hc
  simp only [Bool.and_eq_true, decide_eq_true_eq] at hc
  omega
 simp only [if_true] at hc ⊢
 have e : nx (sp x y) 2 = ⟨(x : Int), ((y : Int) + 1)⟩ := by
   unfold nx sp; simp; rw [w8 (by omega) (by omega)]
 rw [e] at hc
 simp only [Bool.and_eq_true, decide_eq_true_eq] at hc
 omega
theorem drawn3_ev {c : List Int} (hc : byteL c) (t5 : Int × l00Src) {W H : Nat} (hW : W ≤ 10) (hH : H ≤ 10) {x y : Nat} (hx : x < W) (hy : y < H) {p : Pasture} (h : Dr W H p) {at_ seed : Int} (h0 : 0 ≤ at_) (h1 : at_ ≤ 100000) :
 ∃ p' at' seed', Ev (fun k => q0h.l3 ⟨c, 0, 0⟩ t5 (y : Int) (x : Int) k p 1 at_ seed) (p', at', seed') ∧ Dr W H p' ∧ at_ ≤ at' ∧ at' ≤ at_ + 4 := by
 have last : ∀ (q : Pasture) (a s : Int), Ev (fun k => q0h.l3 ⟨c, 0, 0⟩ t5 (y : Int) (x : Int) k q 3 a s) (q, a, s) := fun q a s => Ev.step (fun k => q0h.l3.eq_2 _ _ _ _ _ _ _ _ _) (Ev.neg (by omega) (Ev.const rfl))
 have go : ∀ (s : Bool) (q : Pasture) (a sd : Int), Dr W H q → 0 ≤ a → a ≤ 100010 → ∃ q' a' s', Dr W H q' ∧ a ≤ a' ∧ a' ≤ a + 2 ∧ ∀ {r}, Ev (fun k => q0h.l3 ⟨c, 0, 0⟩ t5 (y : Int) (x : Int) k q' (IntKind.i64.wrap ((if s = true then 2 else 1) + 1)) a' s') r → Ev (fun k => q0h.l3 ⟨c, 0, 0⟩ t5 (y : Int) (x : Int) k q (if s = true then 2 else 1) a sd) r := by
   intro s q a sd hq a0 a1
   have hle : (if s = true then (2 : Int) else 1) ≤ 2 := by split <;> omega
   have hin := nx_in (x := x) (y := y) (by omega) (by omega) (if s = true then 2 else 1)
   have his := l01Is_eq (hq.V hW hH) _ hin
   cases hcb : cellB q (nx (sp x y) (if s = true then 2 else 1)).X (nx (sp x y) (if s = true then 2 else 1)).Y
   · rw [hcb] at his
     exact ⟨q, a, sd, hq, by omega, by omega, fun hr => Ev.step (fun k => q0h.l3.eq_2 _ _ _ _ _ _ _ _ _) (Ev.pos hle (Ev.bind (Ev.const (next_eq _ _)) (Ev.bind (Ev.const his) (Ev.neg (by simp) hr))))⟩
   · rw [hcb] at his
     obtain ⟨b, a', s', e1, q1, q2⟩ := one_ok hc (seed := sd) a0 (by omega) (IntKind.i64.wrap (2 + t5.1))
     cases b
     · exact ⟨q, a', s', hq, q1, q2, fun hr => Ev.step (fun k => q0h.l3.eq_2 _ _ _ _ _ _ _ _ _) (Ev.pos hle (Ev.bind (Ev.const (next_eq _ _)) (Ev.bind (Ev.const his) (Ev.pos rfl (Ev.bind (Ev.const e1) (Ev.neg (by simp) hr))))))⟩
     · exact ⟨putT q x y s, a', s', hq.put (by omega) (by omega) (side_in hq hW hH hx hy s hcb), q1, q2, fun hr => Ev.step (fun k => q0h.l3.eq_2 _ _ _ _ _ _ _ _ _) (Ev.pos hle (Ev.bind (Ev.const (next_eq _ _)) (Ev.bind (Ev.const his) (Ev.pos rfl (Ev.bind (Ev.const e1) (Ev.pos rfl (Ev.bind (Ev.const (setT_eq q (by omega) (by omega) s)) hr)))))))⟩
 obtain ⟨p1, a1, s1, b1, b2, b3, b4⟩ := go false p at_ seed h h0 (by omega)
 obtain ⟨p2, a2, s2, d1, d2, d3, d4⟩ := go true p1 a1 s1 b1 (by omega) (by omega)
 refine ⟨p2, a2, s2, ?_, d1, by omega, by omega⟩
 have w2 : IntKind.i64.wrap (1 + 1) = 2 := by decide
 have w3 : IntKind.i64.wrap (2 + 1) = 3 := by decide
 simp only [Bool.false_eq_true, if_false, w2] at b4
 simp only [if_true, w3] at d4
 exact b4 (d4 (last _ _ _))
theorem drawn2_loop {c : List Int} (hc : byteL c) (t5 : Int × l00Src) {W H : Nat} (hW : W ≤ 10) (hH : H ≤ 10) {y : Nat} (hy : y < H) : ∀ x, x ≤ W → ∀ (p : Pasture) (at_ seed : Int), Dr W H p → 0 ≤ at_ → at_ + 6 * ((W : Int) - x) ≤ 100000 →
 ∃ p' at' seed', Ev (fun k => q0h.l2 ⟨c, 0, 0⟩ t5 (y : Int) k p (x : Int) at_ seed) (p', at', seed') ∧ Dr W H p' ∧ at_ ≤ at' ∧ at' ≤ at_ + 6 * ((W : Int) - x) := by
 refine upL ?_ ?_
 ·intro p at_ seed h h0 h1
  exact ⟨p, at_, seed, Ev.step (fun k => q0h.l2.eq_2 _ _ _ _ _ _ _ _) (Ev.neg (by rw [h.w]; omega) (Ev.const rfl)), h, by omega, by omega⟩
 intro x hx ih p at_ seed h h0 h1
 obtain ⟨v, a1, s1, e1, v0, v1, q1, q2⟩ := pick_ok hc (seed := seed) h0 (by omega) 12
 have wv : IntKind.i16.wrap v = v := w16 (by omega) (by omega)
 have hG := h.grass (x := x) (y := y) (by omega) (by omega) hx hy v0 (show v ≤ 11 by omega)
 obtain ⟨p2, a2, s2, b1, b2, b3, b4⟩ := drawn3_ev hc t5 hW hH hx hy hG (seed := s1) (at_ := a1) (by omega) (by omega)
 obtain ⟨p3, a3, s3, d1, d2, d3, d4⟩ := ih p2 a2 s2 b2 (by omega) (by omega)
 have e : IntKind.i8.wrap ((x : Int) + 1) = ((x + 1 : Nat) : Int) := by rw [w8 (by omega) (by omega)]; omega
 rw [← e] at d1
 refine ⟨p3, a3, s3, Ev.step (fun k => q0h.l2.eq_2 _ _ _ _ _ _ _ _) (Ev.pos (by rw [h.w]; omega) (Ev.bind (a := (p2, a2, s2)) ?_ d1)), d2, by omega, by omega⟩
 refine Ev.bind (Ev.const (getR p.Grass (show y < 10 by omega))) (Ev.bind (Ev.const e1) (Ev.bind (Ev.const (getA _ (show x < 10 by omega))) ?_))
 simp only [wv, Int.toNat_natCast]
 exact b1.bind (Ev.const rfl)
theorem drawn1_loop {c : List Int} (hc : byteL c) (t5 : Int × l00Src) {W H : Nat} (hW : W ≤ 10) (hH : H ≤ 10) : ∀ y, y ≤ H → ∀ (p : Pasture) (at_ seed : Int), Dr W H p → 0 ≤ at_ → at_ + 60 * ((H : Int) - y) ≤ 100000 →
 ∃ p' at' seed', Ev (fun k => q0h.l1 ⟨c, 0, 0⟩ t5 k p (y : Int) at_ seed) (p', at', seed') ∧ Dr W H p' := by
 refine upL ?_ ?_
 ·intro p at_ seed h h0 h1
  exact ⟨p, at_, seed, Ev.step (fun k => q0h.l1.eq_2 _ _ _ _ _ _ _) (Ev.neg (by rw [h.h]; omega) (Ev.const rfl)), h⟩
 intro y hy ih p at_ seed h h0 h1
 obtain ⟨p2, a2, s2, b1, b2, b3, b4⟩ := drawn2_loop hc t5 hW hH hy 0 (Nat.zero_le _) p at_ seed h h0 (by omega)
 obtain ⟨p3, a3, s3, d1, d2⟩ := ih p2 a2 s2 b2 (by omega) (by omega)
 have e : IntKind.i8.wrap ((y : Int) + 1) = ((y + 1 : Nat) : Int) := by rw [w8 (by omega) (by omega)]; omega
 rw [← e] at d1
 exact ⟨p3, a3, s3, Ev.step (fun k => q0h.l1.eq_2 _ _ _ _ _ _ _) (Ev.pos (by rw [h.h]; omega) (Ev.bind (b1.bind (Ev.const rfl)) d1)), d2⟩
theorem gA_zero {y : Nat} (hy : y < 10) : gA (Arr.mk' 0 : Arr 10 Int) y = 0 := by
 show (List.replicate 10 (0 : Int)).getD y 0 = 0
 rw [List.getD_eq_getElem?_getD, List.getElem?_replicate, if_pos hy]; rfl
theorem gG_zero {y x : Nat} (hy : y < 10) (hx : x < 10) : gA (gR (Arr.mk' (Arr.mk' 0 : Arr 10 Int) : Arr 10 (Arr 10 Int)) y) x = 0 := by
 have : gR (Arr.mk' (Arr.mk' 0 : Arr 10 Int) : Arr 10 (Arr 10 Int)) y = Arr.mk' 0 := by
   show (List.replicate 10 (Arr.mk' 0 : Arr 10 Int)).getD y _ = _
   rw [List.getD_eq_getElem?_getD, List.getElem?_replicate, if_pos hy]; rfl
 rw [this, gA_zero hx]
theorem pasture_ev {c : List Int} (hc : byteL c) : ∃ (W H : Nat) (p : Pasture), (1 ≤ W ∧ W ≤ 5) ∧ (1 ≤ H ∧ H ≤ 5) ∧ Dr W H p ∧ Ev (fun k => q2y.f k c) p := by
 obtain ⟨w, a1, s1, e1, w0, w1, q1, q1'⟩ := pick_ok hc (at_ := 0) (seed := 0) (by omega) (by omega) 5
 obtain ⟨h, a2, s2, e2, h0, h1, q2, q2'⟩ := pick_ok hc (at_ := a1) (seed := s1) (by omega) (by omega) 5
 obtain ⟨m, a3, s3, e3, m0, m1, q3, q3'⟩ := pick_ok hc (at_ := a2) (seed := s2) (by omega) (by omega) 5
 have ww : IntKind.i8.wrap (IntKind.i64.wrap (1 + w)) = (((1 + w).toNat : Nat) : Int) := by rw [w64 (by omega) (by omega), w8 (by omega) (by omega)]; omega
 have wh : IntKind.i8.wrap (IntKind.i64.wrap (1 + h)) = (((1 + h).toNat : Nat) : Int) := by rw [w64 (by omega) (by omega), w8 (by omega) (by omega)]; omega
 have h0' : Dr (1 + w).toNat (1 + h).toNat (⟨(((1 + w).toNat : Nat) : Int), (((1 + h).toNat : Nat) : Int), (Arr.mk' (Arr.mk' 0 : Arr 10 Int) : Arr 10 (Arr 10 Int)), (Arr.mk' 0 : Arr 10 Int), (Arr.mk' 0 : Arr 10 Int)⟩ : Pasture) := by
   refine ⟨rfl, rfl, fun y x hy hx => ?_, ⟨fun y hy => ?_, fun y hy => ?_⟩⟩
   · have : gG (⟨(((1 + w).toNat : Nat) : Int), (((1 + h).toNat : Nat) : Int), (Arr.mk' (Arr.mk' 0 : Arr 10 Int) : Arr 10 (Arr 10 Int)), (Arr.mk' 0 : Arr 10 Int), (Arr.mk' 0 : Arr 10 Int)⟩ : Pasture) y x = 0 := gG_zero hy hx
     rw [this]; omega
   · show (0 ≤ gA (Arr.mk' 0 : Arr 10 Int) y ∧ _) ∧ _
     rw [gA_zero hy]
     exact ⟨by omega, fun j _ hb => by rw [bt_zero] at hb; cases hb⟩
   · show (0 ≤ gA (Arr.mk' 0 : Arr 10 Int) y ∧ _) ∧ _
     rw [gA_zero hy]
     exact ⟨by omega, fun j _ hb => by rw [bt_zero] at hb; cases hb⟩
 obtain ⟨p, a4, s4, d1, d2⟩ := drawn1_loop hc (m, ⟨c, a3, s3⟩) (W := (1 + w).toNat) (H := (1 + h).toNat) (by omega) (by omega) 0 (Nat.zero_le _) _ a3 s3 h0' (by omega) (by omega)
 refine ⟨(1 + w).toNat, (1 + h).toNat, p, by omega, by omega, d2, ?_⟩
 unfold q2y.f q33.f
 simp only [Option.bind_some]
 refine Ev.bind (a := (p, ⟨c, a4, s4⟩)) ?_ (Ev.const rfl)
 unfold q0h.f
 refine Ev.bind (Ev.const e1) (Ev.bind (Ev.const e2) (Ev.bind (Ev.const e3) ?_))
 simp only [ww, wh]
 exact d1.bind (Ev.const rfl)
end
section
def hu (x y : Nat) (s : Bool) : Hurdle := ⟨sp x y, s⟩
def sdI (s : Bool) : Nat := if s = true then 2 else 1
def isB (p : Pasture) (x y : Nat) (s : Bool) : Bool := cellB p (nx (sp x y) (sdI s)).X (nx (sp x y) (sdI s)).Y
def stB (p : Pasture) (x y : Nat) (s : Bool) : Bool := if s = true then btB (gA p.South y) x else btB (gA p.East y) x
theorem side_eq (h : Hurdle) : q25.f h = some (sdI h.South : Int) := by
 unfold q25.f sdI
 cases h.South <;> rfl
theorem other_eq (h : Hurdle) : q2l.f h = some (nx h.At (sdI h.South : Int)) := by
 unfold q2l.f sdI
 cases h.South
 ·first | rfl | (simp [ahead_eq])
 first | rfl | (simp [ahead_eq])
theorem specIs_eq {p : Pasture} (v : VPasture p) {x y : Nat} (hx : x < 10) (hy : y < 10) (hc : cellB p (x : Int) (y : Int) = true) (s : Bool) : q2x.f p (hu x y s) = some (isB p x y s) := by
 unfold q2x.f
 rw [show (hu x y s).At = sp x y from rfl, l01Is_eq v (sp x y) (VSpot_nat (by omega) (by omega)), Option.bind_some]
 rw [if_pos (show cellB p (sp x y).X (sp x y).Y = true from hc), side_eq, Option.bind_some, next_eq, Option.bind_some]
 rw [l01Is_eq v _ (nx_in hx hy _)]
 rfl
theorem implIs_eq {p : Pasture} (v : VPasture p) (hw : okW p = true) {x y : Nat} (hx : x < 10) (hy : y < 10) (hc : cellB p (x : Int) (y : Int) = true) (s : Bool) : q1m.f p (hu x y s) = some (isB p x y s) := by
 unfold q1m.f
 rw [show (hu x y s).At = sp x y from rfl, isCell_eq v hw (sp x y) (VSpot_nat (by omega) (by omega)), Option.bind_some]
 rw [if_pos (show cellB p (sp x y).X (sp x y).Y = true from hc), other_eq, Option.bind_some]
 rw [show (hu x y s).At = sp x y from rfl, isCell_eq v hw _ (nx_in hx hy _)]
 rfl
theorem implSt_eq (p : Pasture) {x y : Nat} (hy : y < 10) (s : Bool) : q15.f p (hu x y s) = some (stB p x y s) := by
 unfold q15.f stB hu
 cases s
 ·rw [if_neg (by simp), if_neg (by simp)]
  show (getI p.East.l (y : Int)).bind _ = _
  rw [getA _ hy, Option.bind_some]
  show (chk (0 ≤ (x : Int))).bind _ = _
  rw [chkT (by omega), Option.bind_some]; rfl
 rw [if_pos rfl, if_pos rfl]
 show (getI p.South.l (y : Int)).bind _ = _
 rw [getA _ hy, Option.bind_some]
 show (chk (0 ≤ (x : Int))).bind _ = _
 rw [chkT (by omega), Option.bind_some]; rfl
theorem specSt_eq {p : Pasture} (v : VPasture p) (hw : okW p = true) {x y : Nat} (hx : x < 10) (hy : y < 10) {s : Bool} (hi : isB p x y s = true) : q2s.f p (hu x y s) = some (stB p x y s) := by
 unfold q2s.f
 rw [side_eq, Option.bind_some, show (hu x y s).At = sp x y from rfl]
 rw [closed_eq v hw hx hy (show sdI (hu x y s).South < 4 by unfold sdI; split <;> omega), Option.bind_some]
 unfold openB
 rw [show cellB p (nx (sp x y) (sdI (hu x y s).South : Nat)).X (nx (sp x y) (sdI (hu x y s).South : Nat)).Y = true from hi, Bool.true_and, Bool.not_not]
 cases s <;> rfl
def cellH (p : Pasture) (x y : Nat) : List Hurdle := (if isB p x y false = true then [hu x y false] else []) ++ (if isB p x y true = true then [hu x y true] else [])
def rowH (p : Pasture) (y : Nat) : Nat → Nat → List Hurdle
  | _, 0 => []
  | x, n + 1 => cellH p x y ++ rowH p y (x + 1) n
def gridH (p : Pasture) (W : Nat) : Nat → Nat → List Hurdle
  | _, 0 => []
  | y, n + 1 => rowH p y 0 W ++ gridH p W (y + 1) n
theorem cellH_len (p : Pasture) (x y : Nat) : (cellH p x y).length ≤ 2 := by
 unfold cellH
 split <;> split <;> simp
theorem rowH_len (p : Pasture) (y : Nat) : ∀ n x, (rowH p y x n).length ≤ 2 * n
  | 0, x => by simp [rowH]
  | n + 1, x => by
    have := rowH_len p y n (x + 1)
    have := cellH_len p x y
    simp only [rowH, List.length_append]; omega
theorem gridH_len (p : Pasture) (W : Nat) : ∀ n y, (gridH p W y n).length ≤ 2 * W * n
  | 0, y => by simp [gridH]
  | n + 1, y => by
    have h1 := gridH_len p W n (y + 1)
    have h2 := rowH_len p y W 0
    simp only [gridH, List.length_append, Nat.mul_add, Nat.mul_one]; omega
theorem cellB_grid {p : Pasture} (hw : okW p = true) {x y : Nat} (hx : x < p.Wide.toNat) (hy : y < p.High.toNat) : cellB p (x : Int) (y : Int) = true := by
 obtain ⟨a, b⟩ := okW_iff.1 hw
 unfold cellB
 rw [Bool.and_eq_true, decide_eq_true_eq, decide_eq_true_eq]
 omega
theorem specRow_ev {p : Pasture} (v : VPasture p) (hw : okW p = true) {y : Nat} (hy : y < p.High.toNat) : ∀ x, x ≤ p.Wide.toNat → ∀ acc : List Hurdle, acc.length ≤ 4000 → Ev (fun k => q11.l2 p (y : Int) k acc (x : Int)) (acc ++ rowH p y x (p.Wide.toNat - x)) := by
 obtain ⟨a, b⟩ := okW_iff.1 hw
 have key : ∀ x, x ≤ p.Wide.toNat → ∀ acc : List Hurdle, acc.length + 2 * (p.Wide.toNat - x) ≤ 5000 → Ev (fun k => q11.l2 p (y : Int) k acc (x : Int)) (acc ++ rowH p y x (p.Wide.toNat - x)) := by
   refine upL ?_ ?_
   · intro acc ha
     refine Ev.step (fun k => q11.l2.eq_2 _ _ _ _ _) (Ev.neg (by omega) (Ev.const ?_))
     simp [rowH]
   · intro x hx ih acc ha
     have hc := cellB_grid hw hx hy
     have h1 := specIs_eq v (x := x) (y := y) (by omega) (by omega) hc false
     have h2 := specIs_eq v (x := x) (y := y) (by omega) (by omega) hc true
     have e : IntKind.i8.wrap ((x : Int) + 1) = ((x + 1 : Nat) : Int) := by rw [w8 (by omega) (by omega)]; omega
     have er : rowH p y x (p.Wide.toNat - x) = cellH p x y ++ rowH p y (x + 1) (p.Wide.toNat - (x + 1)) := by rw [show p.Wide.toNat - x = (p.Wide.toNat - (x + 1)) + 1 by omega]; rfl
     rw [er]
     refine Ev.step (fun k => q11.l2.eq_2 _ _ _ _ _) (Ev.pos (by omega) (Ev.bind (Ev.const h1) ?_))
     rw [e]
     unfold cellH
     cases i1 : isB p x y false
     · refine Ev.neg (by simp) (Ev.bind (Ev.const h2) ?_)
       cases i2 : isB p x y true
       · refine Ev.neg (by simp) ?_
         simpa using ih acc (by omega)
       · refine Ev.pos rfl (Ev.bind (Ev.const (chkT (by simp; omega))) ?_)
         have := ih (acc ++ [hu x y true]) (by simp; omega)
         rw [List.append_assoc] at this
         exact this
     · refine Ev.pos rfl (Ev.bind (Ev.const (chkT (by simp; omega))) (Ev.bind (Ev.const h2) ?_))
       cases i2 : isB p x y true
       · refine Ev.neg (by simp) ?_
         have := ih (acc ++ [hu x y false]) (by simp; omega)
         rw [List.append_assoc] at this
         exact this
       · refine Ev.pos rfl (Ev.bind (Ev.const (chkT (by simp; omega))) ?_)
         have := ih ((acc ++ [hu x y false]) ++ [hu x y true]) (by simp; omega)
         rw [show ((acc ++ [hu x y false]) ++ [hu x y true]) ++ rowH p y (x + 1) (p.Wide.toNat - (x + 1)) = acc ++ (([hu x y false] ++ [hu x y true]) ++ rowH p y (x + 1) (p.Wide.toNat - (x + 1))) by simp] at this
         exact this
 exact fun x hx acc ha => key x hx acc (by omega)
end
section
theorem specAllH_ev {p : Pasture} (v : VPasture p) (hw : okW p = true) : Ev (fun k => q11.f k p) (gridH p p.Wide.toNat 0 p.High.toNat) := by
 obtain ⟨a, b⟩ := okW_iff.1 hw
 have key : ∀ y, y ≤ p.High.toNat → ∀ acc : List Hurdle, acc.length ≤ 20 * y → Ev (fun k => q11.l1 p k acc (y : Int)) (acc ++ gridH p p.Wide.toNat y (p.High.toNat - y)) := by
   refine upL ?_ ?_
   · intro acc ha
     refine Ev.step (fun k => q11.l1.eq_2 _ _ _ _) (Ev.neg (by omega) (Ev.const ?_))
     simp [gridH]
   · intro y hy ih acc ha
     have e : IntKind.i8.wrap ((y : Int) + 1) = ((y + 1 : Nat) : Int) := by rw [w8 (by omega) (by omega)]; omega
     have hr := specRow_ev v hw hy 0 (Nat.zero_le _) acc (by omega)
     rw [Nat.sub_zero] at hr
     have hl := rowH_len p y p.Wide.toNat 0
     have := ih (acc ++ rowH p y 0 p.Wide.toNat) (by rw [List.length_append]; omega)
     rw [List.append_assoc] at this
     rw [show gridH p p.Wide.toNat y (p.High.toNat - y) = rowH p y 0 p.Wide.toNat ++ gridH p p.Wide.toNat (y + 1) (p.High.toNat - (y + 1)) by rw [show p.High.toNat - y = (p.High.toNat - (y + 1)) + 1 by omega]; rfl]
     refine Ev.step (fun k => q11.l1.eq_2 _ _ _ _) (Ev.pos (by omega) (Ev.bind (Ev.bind hr (Ev.const rfl)) ?_))
     rw [e]; exact this
 have := key 0 (Nat.zero_le _) [] (by simp)
 rw [List.nil_append, Nat.sub_zero] at this
 exact this.bind (Ev.const rfl)
def told (p : Pasture) (h : Hurdle) : Prop := ∃ (x y : Nat) (s : Bool), x < p.Wide.toNat ∧ y < p.High.toNat ∧ isB p x y s = true ∧ h = hu x y s
theorem cellH_told {p : Pasture} {x y : Nat} (hx : x < p.Wide.toNat) (hy : y < p.High.toNat) : ∀ h ∈ cellH p x y, told p h := by
 intro h hh
 unfold cellH at hh
 rcases List.mem_append.1 hh with hh | hh
 ·split at hh
  ·rename_i hi; exact ⟨x, y, false, hx, hy, hi, List.mem_singleton.1 hh⟩
  simp at hh
 split at hh
 ·rename_i hi; exact ⟨x, y, true, hx, hy, hi, List.mem_singleton.1 hh⟩
 simp at hh
theorem rowH_told {p : Pasture} {y : Nat} (hy : y < p.High.toNat) : ∀ n x, x + n ≤ p.Wide.toNat → ∀ h ∈ rowH p y x n, told p h
  | 0, x, _, h, hh => by simp [rowH] at hh
  | n + 1, x, hx, h, hh => by
    rcases List.mem_append.1 hh with hh | hh
    · exact cellH_told (by omega) hy h hh
    · exact rowH_told hy n (x + 1) (by omega) h hh
theorem gridH_told {p : Pasture} : ∀ n y, y + n ≤ p.High.toNat → ∀ h ∈ gridH p p.Wide.toNat y n, told p h
  | 0, y, _, h, hh => by simp [gridH] at hh
  | n + 1, y, hy, h, hh => by
    rcases List.mem_append.1 hh with hh | hh
    · exact rowH_told (by omega) _ 0 (by omega) h hh
    · exact gridH_told n (y + 1) (by omega) h hh
def stH (p : Pasture) (h : Hurdle) : Bool := stB p h.At.X.toNat h.At.Y.toNat h.South
end
section
def fl (p : Pasture) (l : List Spot) : List Hurdle := l.flatMap fun s => (cellH p s.X.toNat s.Y.toNat).filter (stH p)
def putF (p : Pasture) (x y : Nat) (s : Bool) : Pasture := if s = true then ⟨p.Wide, p.High, p.Grass, p.East, aset p.South y (andNotI .u16 (gA p.South y) (shlI .u16 1 (x : Int)))⟩ else ⟨p.Wide, p.High, p.Grass, aset p.East y (andNotI .u16 (gA p.East y) (shlI .u16 1 (x : Int))), p.South⟩
theorem set_eq (p : Pasture) {x y : Nat} (hx : x < 10) (hy : y < 10) (s : Bool) : q26.f p (sp x y) (sdI s : Int) false = some (putF p x y s) := by
 have g1 : getI p.East.l (y : Int) = some (gA p.East y) := getA _ hy
 have g2 : getI p.South.l (y : Int) = some (gA p.South y) := getA _ hy
 have u := u64n hx
 have c : chk (0 ≤ (x : Int)) = some () := chkT (by omega)
 cases s
 ·simp [q26.f, sdI, sp, u, chk, g1, putF]
 simp [q26.f, sdI, sp, u, chk, g2, putF]
theorem put_eq (p : Pasture) {x y : Nat} (hx : x < 10) (hy : y < 10) (s : Bool) : q20.f p (hu x y s) false = some (putF p x y s) := by
 have g1 : getI p.East.l (y : Int) = some (gA p.East y) := getA _ hy
 have g2 : getI p.South.l (y : Int) = some (gA p.South y) := getA _ hy
 have c : chk (0 ≤ (x : Int)) = some () := chkT (by omega)
 cases s
 ·simp [q20.f, hu, sp, chk, g1, putF]
 simp [q20.f, hu, sp, chk, g2, putF]
end
section
theorem arrX {α : Type} {n : Nat} {a b : Arr n α} (h : a.l = b.l) : a = b := by cases a; cases b; simp only at h; subst h; rfl
theorem bitsX {x y : Int} (hx : 0 ≤ x ∧ x ≤ 65535) (hy : 0 ≤ y ∧ y ≤ 65535) (h : ∀ j, j < 16 → btB x j = btB y j) : x = y := by
 have e : B16 x = B16 y := by
   apply BitVec.eq_of_getLsbD_eq
   intro j hj
   rw [bit_lsb hx.1 hx.2 hj, bit_lsb hy.1 hy.2 hj, h j hj]
 have h1 : (B16 x).toNat = (B16 y).toNat := by rw [e]
 rw [BitVec.toNat_ofInt, BitVec.toNat_ofInt] at h1
 omega
theorem arr10_ext {a b : Arr 10 Int} (h : ∀ i, i < 10 → gA a i = gA b i) : a = b := by
 apply arrX
 refine List.ext_getElem (a.len.trans b.len.symm) fun i h1 h2 => ?_
 have := h i (by rw [← a.len]; exact h1)
 unfold gA at this
 rw [List.getD_eq_getElem?_getD, List.getD_eq_getElem?_getD, List.getElem?_eq_getElem h1, List.getElem?_eq_getElem h2] at this
 exact this
theorem tb_ext {a b : Tb} (h : ∀ y x, y < 10 → x < 10 → g2 a y x = g2 b y x) : a = b := by
 apply arrX
 refine List.ext_getElem (a.len.trans b.len.symm) fun i h1 h2 => ?_
 have hi : i < 10 := by rw [← a.len]; exact h1
 have e : gR a i = gR b i := arr10_ext fun j hj => h i j hi hj
 unfold gR at e
 rw [List.getElem?_eq_getElem h1, List.getElem?_eq_getElem h2] at e
 exact e
theorem bt_ext {x y : Int} (hx : 0 ≤ x ∧ x ≤ 65535) (hy : 0 ≤ y ∧ y ≤ 65535) (h : ∀ j, j < 16 → btB x j = btB y j) : x = y := bitsX hx hy h
structure PD (W H : Nat) (Gr : Nat → Nat → Int) (E S : Nat → Nat → Bool) (p : Pasture) : Prop where
  w : p.Wide = (W : Int)
  h : p.High = (H : Int)
  g : ∀ y x, y < 10 → x < 10 → gG p y x = if x < W ∧ y < H then Gr y x else 0
  e0 : ∀ y, y < 10 → 0 ≤ gA p.East y ∧ gA p.East y ≤ 65535
  s0 : ∀ y, y < 10 → 0 ≤ gA p.South y ∧ gA p.South y ≤ 65535
  e : ∀ y j, y < 10 → j < 16 → btB (gA p.East y) j = (decide (j + 1 < W ∧ y < H) && E y j)
  s : ∀ y j, y < 10 → j < 16 → btB (gA p.South y) j = (decide (j < W ∧ y + 1 < H) && S y j)
variable {W H : Nat} {Gr Gr' : Nat → Nat → Int} {E S E' S' : Nat → Nat → Bool} {p q : Pasture}
theorem dec_and {c : Prop} [Decidable c] {a b : Bool} (h : c → a = b) : (decide c && a) = (decide c && b) := by
 by_cases hc : c
 ·rw [h hc]
 simp [hc]
theorem PD.congr (h : PD W H Gr E S p) (hg : ∀ y x, x < W → y < H → Gr y x = Gr' y x) (he : ∀ y x, x + 1 < W → y < H → E y x = E' y x) (hs : ∀ y x, x < W → y + 1 < H → S y x = S' y x) : PD W H Gr' E' S' p := by
 refine ⟨h.w, h.h, fun y x hy hx => ?_, h.e0, h.s0, fun y j hy hj => ?_, fun y j hy hj => ?_⟩
 ·rw [h.g y x hy hx]
  by_cases c : x < W ∧ y < H
  ·rw [if_pos c, if_pos c, hg y x c.1 c.2]
  rw [if_neg c, if_neg c]
 ·rw [h.e y j hy hj]; exact dec_and fun c => he y j c.1 c.2
 rw [h.s y j hy hj]; exact dec_and fun c => hs y j c.1 c.2
theorem PD.ext (h : PD W H Gr E S p) (k : PD W H Gr' E' S' q) (hg : ∀ y x, x < W → y < H → Gr y x = Gr' y x) (he : ∀ y x, x + 1 < W → y < H → E y x = E' y x) (hs : ∀ y x, x < W → y + 1 < H → S y x = S' y x) : p = q := by
 have h := h.congr hg he hs
 have h1 : p.Wide = q.Wide := h.w.trans k.w.symm
 have h2 : p.High = q.High := h.h.trans k.h.symm
 have h3 : p.Grass = q.Grass := tb_ext fun y x hy hx => (h.g y x hy hx).trans (k.g y x hy hx).symm
 have h4 : p.East = q.East := arr10_ext fun y hy => bt_ext (h.e0 y hy) (k.e0 y hy) fun j hj => (h.e y j hy hj).trans (k.e y j hy hj).symm
 have h5 : p.South = q.South := arr10_ext fun y hy => bt_ext (h.s0 y hy) (k.s0 y hy) fun j hj => (h.s y j hy hj).trans (k.s y j hy hj).symm
 cases p; cases q
 simp only at h1 h2 h3 h4 h5
 subst h1 h2 h3 h4 h5; rfl
theorem PD.rows (h : PD W H Gr E S p) : Rows p := by
 refine ⟨fun y hy => ⟨h.e0 y hy, fun j hj hb => ?_⟩, fun y hy => ⟨h.s0 y hy, fun j hj hb => ?_⟩⟩
 ·rw [h.e y j hy hj, Bool.and_eq_true, decide_eq_true_eq] at hb
  rw [h.w, h.h]; omega
 rw [h.s y j hy hj, Bool.and_eq_true, decide_eq_true_eq] at hb
 rw [h.w, h.h]; omega
theorem PD.of (v : VPasture p) (hp : vP p = true) : PD p.Wide.toNat p.High.toNat (gG p) (fun y x => btB (gA p.East y) x) (fun y x => btB (gA p.South y) x) p := by
 obtain ⟨w1, w2⟩ := okW_iff.1 (vP_okW hp)
 have hr := vP_rows v hp
 refine ⟨by omega, by omega, fun y x hy hx => ?_, fun y hy => (hr.e y hy).1, fun y hy => (hr.s y hy).1, fun y j hy hj => ?_, fun y j hy hj => ?_⟩
 ·by_cases c : x < p.Wide.toNat ∧ y < p.High.toNat
  ·rw [if_pos c]
  rw [if_neg c]
  refine (vP_G hp hy hx).2 ?_
  unfold cellB
  rw [Bool.and_eq_false_iff, decide_eq_false_iff_not, decide_eq_false_iff_not]
  omega
 ·cases hb : btB (gA p.East y) j
  ·simp
  have := (hr.e y hy).2 j hj hb
  rw [decide_eq_true (by omega)]; rfl
 cases hb : btB (gA p.South y) j
 ·simp
 have := (hr.s y hy).2 j hj hb
 rw [decide_eq_true (by omega)]; rfl
theorem PD.V (h : PD W H Gr E S p) (hW : W ≤ 10) (hH : H ≤ 10) (hg : ∀ y x, x < W → y < H → 0 ≤ Gr y x ∧ Gr y x ≤ 1000) : VPasture p := by
 have i8 : IntKind.i8.min = -128 ∧ IntKind.i8.max = 127 := by decide
 have i16 : IntKind.i16.min = -32768 ∧ IntKind.i16.max = 32767 := by decide
 have u16' : IntKind.u16.min = 0 ∧ IntKind.u16.max = 65535 := by decide
 refine ⟨?_, ?_, fun r hr x hx => ?_, fun x hx => ?_, fun x hx => ?_⟩
 ·unfold inI; rw [i8.1, i8.2, h.w]; omega
 ·unfold inI; rw [i8.1, i8.2, h.h]; omega
 ·obtain ⟨y, hy, e⟩ := arr_at p.Grass hr
  obtain ⟨j, hj, e2⟩ := arr_at r hx
  have : gG p y j = x := by unfold gG gR gA; rw [e]; simp [List.getD_eq_getElem?_getD, e2]
  have hgg := h.g y j hy hj
  rw [this] at hgg
  unfold inI; rw [i16.1, i16.2]
  by_cases c : j < W ∧ y < H
  ·rw [if_pos c] at hgg; have := hg y j c.1 c.2; omega
  rw [if_neg c] at hgg; omega
 ·obtain ⟨y, hy, e⟩ := arr_at p.East hx
  have : gA p.East y = x := by unfold gA; simp [List.getD_eq_getElem?_getD, e]
  have := h.e0 y hy
  unfold inI; rw [u16'.1, u16'.2]; omega
 obtain ⟨y, hy, e⟩ := arr_at p.South hx
 have : gA p.South y = x := by unfold gA; simp [List.getD_eq_getElem?_getD, e]
 have := h.s0 y hy
 unfold inI; rw [u16'.1, u16'.2]; omega
theorem PD.okW (h : PD W H Gr E S p) (hW : 1 ≤ W ∧ W ≤ 10) (hH : 1 ≤ H ∧ H ≤ 10) : okW p = true := by
 rw [okW_iff, h.w, h.h]; omega
theorem PD.ok (h : PD W H Gr E S p) (hW : 1 ≤ W ∧ W ≤ 10) (hH : 1 ≤ H ∧ H ≤ 10) (hg : ∀ y x, x < W → y < H → 0 ≤ Gr y x ∧ Gr y x ≤ 1000) : vP p = true := by
 refine rows_ok (h.okW hW hH) (fun y x hy hx => ?_) h.rows
 have hgg := h.g y x hy hx
 unfold okG cellB
 simp only [Bool.and_eq_true, Bool.or_eq_true, decide_eq_true_eq, h.w, h.h]
 by_cases c : x < W ∧ y < H
 ·rw [if_pos c] at hgg
  have := hg y x c.1 c.2
  exact ⟨by omega, .inr (by omega)⟩
 rw [if_neg c] at hgg
 exact ⟨by omega, .inl (by omega)⟩
def upd {α : Type} (F : Nat → Nat → α) (y x : Nat) (v : α) : Nat → Nat → α := fun b a => if b = y ∧ a = x then v else F b a
theorem PD.grass (h : PD W H Gr E S p) {x y : Nat} (hx : x < 10) (hy : y < 10) (hxW : x < W) (hyH : y < H) (v : Int) : PD W H (upd Gr y x v) E S ⟨p.Wide, p.High, put2 p.Grass y x v, p.East, p.South⟩ := by
 refine ⟨h.w, h.h, fun b a hb ha => ?_, h.e0, h.s0, h.e, h.s⟩
 have e : gG ⟨p.Wide, p.High, put2 p.Grass y x v, p.East, p.South⟩ b a = if y = b ∧ x = a then v else gG p b a := g2_put p.Grass hy hx v b a
 rw [e, h.g b a hb ha]
 unfold upd
 by_cases c : y = b ∧ x = a
 ·obtain ⟨rfl, rfl⟩ := c
  rw [if_pos ⟨rfl, rfl⟩, if_pos ⟨hxW, hyH⟩, if_pos ⟨rfl, rfl⟩]
 rw [if_neg c, if_neg (show ¬ (b = y ∧ a = x) by omega)]
def putB (p : Pasture) (x y : Nat) (s on : Bool) : Pasture := if on = true then putT p x y s else putF p x y s
theorem bit_put2 {m : Int} (h : 0 ≤ m) (h' : m ≤ 65535) {i j : Nat} (hi : i < 16) (hj : j < 16) (on : Bool) : btB (if on = true then orI .u16 (andNotI .u16 m (shlI .u16 1 (i : Int))) (shlI .u16 1 (i : Int)) else andNotI .u16 m (shlI .u16 1 (i : Int))) j = if j = i then on else btB m j := by
 cases on
 ·rw [if_neg (by simp), bit_clear h h' hi hj]
  by_cases e : j = i
  ·subst e; simp
  rw [decide_eq_false (fun z => e z.symm), if_neg e]; simp
 rw [if_pos rfl, bit_putT h h' hi hj]
 by_cases e : j = i
 ·subst e; simp
 rw [decide_eq_false (fun z => e z.symm), if_neg e]; simp
theorem PD.put (h : PD W H Gr E S p) {x y : Nat} (hx : x < 10) (hy : y < 10) (s on : Bool) (hin : on = true → if s = true then x < W ∧ y + 1 < H else x + 1 < W ∧ y < H) : PD W H Gr (if s = true then E else upd E y x on) (if s = true then upd S y x on else S) (putB p x y s on) := by
 have rng : ∀ m : Int, 0 ≤ (if on = true then orI .u16 (andNotI .u16 m (shlI .u16 1 (x : Int))) (shlI .u16 1 (x : Int)) else andNotI .u16 m (shlI .u16 1 (x : Int))) ∧ (if on = true then orI .u16 (andNotI .u16 m (shlI .u16 1 (x : Int))) (shlI .u16 1 (x : Int)) else andNotI .u16 m (shlI .u16 1 (x : Int))) ≤ 65535 := fun m => by
   split
   · exact or_in _ _
   · exact andNot_in _ _
 cases s
 ·simp only [Bool.false_eq_true, if_false] at hin ⊢
  have eE : ∀ b, gA (putB p x y false on).East b = if y = b then (if on = true then orI .u16 (andNotI .u16 (gA p.East y) (shlI .u16 1 (x : Int))) (shlI .u16 1 (x : Int)) else andNotI .u16 (gA p.East y) (shlI .u16 1 (x : Int))) else gA p.East b := fun b => by
    cases on
    · exact gA_set p.East hy _ b
    · exact gA_set p.East hy _ b
  have eS : (putB p x y false on).South = p.South := by cases on <;> rfl
  have eG : (putB p x y false on).Grass = p.Grass := by cases on <;> rfl
  have eW : (putB p x y false on).Wide = p.Wide := by cases on <;> rfl
  have eH : (putB p x y false on).High = p.High := by cases on <;> rfl
  refine ⟨eW.trans h.w, eH.trans h.h, fun b a hb ha => by unfold gG; rw [eG]; exact h.g b a hb ha, fun b hb => ?_, fun b hb => by rw [eS]; exact h.s0 b hb, fun b j hb hj => ?_, fun b j hb hj => by rw [eS]; exact h.s b j hb hj⟩
  ·rw [eE b]
   by_cases e1 : y = b
   ·rw [if_pos e1]; exact rng _
   rw [if_neg e1]; exact h.e0 b hb
  rw [eE b]
  unfold upd
  by_cases e1 : y = b
  ·subst e1
   rw [if_pos rfl, bit_put2 (h.e0 y hy).1 (h.e0 y hy).2 (by omega) hj]
   by_cases e2 : j = x
   ·subst e2
    rw [if_pos rfl, if_pos ⟨rfl, rfl⟩]
    cases on
    ·simp
    rw [decide_eq_true (hin rfl)]; rfl
   rw [if_neg e2, if_neg (fun z => e2 z.2)]; exact h.e y j hy hj
  rw [if_neg e1, if_neg (fun z => e1 z.1.symm)]; exact h.e b j hb hj
 simp only [if_true] at hin ⊢
 have eS : ∀ b, gA (putB p x y true on).South b = if y = b then (if on = true then orI .u16 (andNotI .u16 (gA p.South y) (shlI .u16 1 (x : Int))) (shlI .u16 1 (x : Int)) else andNotI .u16 (gA p.South y) (shlI .u16 1 (x : Int))) else gA p.South b := fun b => by
   cases on
   · exact gA_set p.South hy _ b
   · exact gA_set p.South hy _ b
 have eE : (putB p x y true on).East = p.East := by cases on <;> rfl
 have eG : (putB p x y true on).Grass = p.Grass := by cases on <;> rfl
 have eW : (putB p x y true on).Wide = p.Wide := by cases on <;> rfl
 have eH : (putB p x y true on).High = p.High := by cases on <;> rfl
 refine ⟨eW.trans h.w, eH.trans h.h, fun b a hb ha => by unfold gG; rw [eG]; exact h.g b a hb ha, fun b hb => by rw [eE]; exact h.e0 b hb, fun b hb => ?_, fun b j hb hj => by rw [eE]; exact h.e b j hb hj, fun b j hb hj => ?_⟩
 ·rw [eS b]
  by_cases e1 : y = b
  ·rw [if_pos e1]; exact rng _
  rw [if_neg e1]; exact h.s0 b hb
 rw [eS b]
 unfold upd
 by_cases e1 : y = b
 ·subst e1
  rw [if_pos rfl, bit_put2 (h.s0 y hy).1 (h.s0 y hy).2 (by omega) hj]
  by_cases e2 : j = x
  ·subst e2
   rw [if_pos rfl, if_pos ⟨rfl, rfl⟩]
   cases on
   ·simp
   rw [decide_eq_true (hin rfl)]; rfl
  rw [if_neg e2, if_neg (fun z => e2 z.2)]; exact h.s y j hy hj
 rw [if_neg e1, if_neg (fun z => e1 z.1.symm)]; exact h.s b j hb hj
theorem putI_eq (p : Pasture) {x y : Nat} (hx : x < 10) (hy : y < 10) (s on : Bool) : q20.f p (hu x y s) on = some (putB p x y s on) := by
 cases on
 ·exact put_eq p hx hy s
 have g1 : ∀ a : Arr 10 Int, getI a.l (y : Int) = some (gA a y) := fun a => getA a hy
 have e1 : ∀ (a : Arr 10 Int) (v : Int), gA (aset a y v) y = v := fun a v => by rw [gA_set a hy, if_pos rfl]
 have c : chk (0 ≤ (x : Int)) = some () := chkT (by omega)
 cases s
 ·simp [q20.f, hu, sp, chk, g1, e1, putB, putT, aset_aset]
 simp [q20.f, hu, sp, chk, g1, e1, putB, putT, aset_aset]
theorem putS_eq (p : Pasture) {x y : Nat} (hx : x < 10) (hy : y < 10) (s on : Bool) : q26.f p (sp x y) (if s = true then 2 else 1) on = some (putB p x y s on) := by
 cases on
 ·have := set_eq p hx hy s
  cases s
  ·exact this
  exact this
 exact setT_eq p hx hy s
variable {y x : Nat}
def Dn {α : Type} (d : α) (y0 x0 : Nat) (F : Nat → Nat → α) : Nat → Nat → α := fun y x => if y < y0 ∨ (y = y0 ∧ x < x0) then F y x else d
abbrev PDn (W H : Nat) (Gr : Nat → Nat → Int) (E S : Nat → Nat → Bool) (y x : Nat) (p : Pasture) : Prop := PD W H (Dn 0 y x Gr) (Dn false y x E) (Dn false y x S) p
theorem PDn.row (h : PDn W H Gr E S y W p) : PDn W H Gr E S (y + 1) 0 p := by
 refine PD.congr h (fun b a h1 h2 => ?_) (fun b a h1 h2 => ?_) (fun b a h1 h2 => ?_)
 all_goals
   unfold Dn
   by_cases d : b < y ∨ b = y ∧ a < W
   · rw [if_pos d, if_pos (by omega)]
   · rw [if_neg d, if_neg (by omega)]
theorem PDn.all (h : PDn W H Gr E S H 0 p) : PD W H Gr E S p := by
 refine PD.congr h (fun b a h1 h2 => ?_) (fun b a h1 h2 => ?_) (fun b a h1 h2 => ?_)
 all_goals
   unfold Dn
   rw [if_pos (by omega)]
end
section
variable {W H : Nat} {Gr : Nat → Nat → Int} {E S : Nat → Nat → Bool} {p q : Pasture}
theorem nx_inj {a b : Nat} (ha : a < 10) (hb : b < 10) {i j : Nat} (hi : i < 4) (hj : j < 4) (h : nx (sp a b) (i : Int) = nx (sp a b) (j : Int)) : i = j := by
 have w1 : ∀ z : Nat, z < 10 → IntKind.i8.wrap ((z : Int) + 1) = (z : Int) + 1 := fun z hz => w8 (by omega) (by omega)
 have w2 : ∀ z : Nat, z < 10 → IntKind.i8.wrap ((z : Int) - 1) = (z : Int) - 1 := fun z hz => w8 (by omega) (by omega)
 rcases side hi with rfl | rfl | rfl | rfl <;> rcases side hj with rfl | rfl | rfl | rfl <;> simp [nx, sp, w1 a ha, w1 b hb, w2 a ha, w2 b hb] at h ⊢ <;> omega
structure From (p : Pasture) (W H : Nat) (a3 : Spot → Option Spot) (fx fy : Nat → Nat → Nat) (kE kS : Nat) : Prop where
  at_ : ∀ y x, x < W → y < H → a3 (sp x y) = some (sp (fx y x) (fy y x)) ∧ fx y x < 10 ∧ fy y x < 10
  k4E : kE < 4
  k4S : kS < 4
  e : ∀ y x, x + 1 < W → y < H → sp (fx y (x + 1)) (fy y (x + 1)) = nx (sp (fx y x) (fy y x)) (kE : Int)
  s : ∀ y x, x < W → y + 1 < H → sp (fx (y + 1) x) (fy (y + 1) x) = nx (sp (fx y x) (fy y x)) (kS : Int)
theorem nx1 {x y : Nat} (hx : x < 10) : nx (sp x y) 1 = sp (x + 1) y := by
 unfold nx sp; simp; rw [w8 (by omega) (by omega)]
theorem nx2 {x y : Nat} (hy : y < 10) : nx (sp x y) 2 = sp x (y + 1) := by
 unfold nx sp; simp; rw [w8 (by omega) (by omega)]
theorem PD.cell (h : PD W H Gr E S p) (x y : Nat) : cellB p (sp x y).X (sp x y).Y = decide (x < W ∧ y < H) := by
 unfold cellB sp
 rw [h.w, h.h, Bool.eq_iff_iff]
 simp only [Bool.and_eq_true, decide_eq_true_eq]
 omega
end
section
variable {W H : Nat} {p q : Pasture}
theorem nx0 {x y : Nat} (h1 : 1 ≤ y) (hy : y < 10) : nx (sp x y) 0 = sp x (y - 1) := by
 unfold nx sp; simp; rw [w8 (by omega) (by omega)]; omega
theorem nx3 {x y : Nat} (h1 : 1 ≤ x) (hx : x < 10) : nx (sp x y) 3 = sp (x - 1) y := by
 unfold nx sp; simp; rw [w8 (by omega) (by omega)]; omega
variable {Gr : Nat → Nat → Int} {E S : Nat → Nat → Bool}
theorem PD.eE (h : PD W H Gr E S p) (hW : W ≤ 10) (hH : H ≤ 10) {x y : Nat} (hx : x + 1 < W) (hy : y < H) : btB (gA p.East y) x = E y x := by
 rw [h.e y x (by omega) (by omega), decide_eq_true ⟨hx, hy⟩]; rfl
theorem PD.eS (h : PD W H Gr E S p) (hW : W ≤ 10) (hH : H ≤ 10) {x y : Nat} (hx : x < W) (hy : y + 1 < H) : btB (gA p.South y) x = S y x := by
 rw [h.s y x (by omega) (by omega), decide_eq_true ⟨hx, hy⟩]; rfl
end
section
variable {W H : Nat} {p q : Pasture} {Gr : Nat → Nat → Int} {E S : Nat → Nat → Bool}
end
end Go.Proofs.YtegibnmfiogebaaGreatDoor
