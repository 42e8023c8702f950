import Derived.Test.YtegibnmfiogebaaGreatQD
import Derived.Test.YtegibnmfiogebaaGreatQP
/-
  Plain laws: bits of rows of hurdles.
-/
namespace Go.Proofs.YtegibnmfiogebaaGreat
open G
set_option linter.unusedVariables false
set_option linter.unusedSimpArgs false
/-! ### Bits -/
abbrev B16 (m : Int) : BitVec 16 := BitVec.ofInt 16 m
theorem wu16b (b : BitVec 16) : IntKind.u16.wrap (b.toNat : Int) = (b.toNat : Int) := wu16 (by omega) (by have := b.isLt; omega)
theorem B16_nat (b : BitVec 16) : B16 (b.toNat : Int) = b := by
 apply BitVec.eq_of_toNat_eq
 rw [BitVec.toNat_ofInt]
 have := b.isLt
 omega
theorem B_andNot (x y : Int) : B16 (andNotI .u16 x y) = B16 x &&& ~~~ B16 y := by
 unfold andNotI
 exact (congrArg B16 (wu16b (B16 x &&& ~~~ B16 y))).trans (B16_nat _)
theorem andNot_zero (x y : Int) : andNotI .u16 x y = 0 ↔ B16 x &&& ~~~ B16 y = 0#16 := by
 unfold andNotI
 have h := wu16b (B16 x &&& ~~~ B16 y)
 constructor
 ·intro e
  have e1 : ((B16 x &&& ~~~ B16 y).toNat : Int) = 0 := h.symm.trans e
  apply BitVec.eq_of_toNat_eq
  rw [show (B16 x &&& ~~~ B16 y).toNat = 0 by omega]; rfl
 intro e
 refine h.trans ?_
 rw [e]; rfl
theorem shr_nat {m j : Nat} (hj : j ≤ 16) : shrI .u16 (m : Int) (j : Int) = ((m / 2 ^ j : Nat) : Int) := by
 unfold shrI
 rw [show min (j : Int).toNat IntKind.u16.bits = j by show min (j : Int).toNat 16 = j; omega]
 rw [Int.fdiv_eq_ediv_of_nonneg _ (Int.le_of_lt (Int.pow_pos (by omega)))]
 push_cast
 rfl
theorem bit_nat {m j : Nat} (hm : m ≤ 65535) (hj : j ≤ 16) : btB (m : Int) j = m.testBit j := by
 unfold btB
 rw [shr_nat hj, and1 (Int.natCast_nonneg _) (by have := Nat.div_le_self m (2 ^ j); omega), Nat.testBit_eq_decide_div_mod_eq]
 congr 1
 simp only [eq_iff_iff]; omega
theorem bit_lsb {m : Int} (h : 0 ≤ m) (h' : m ≤ 65535) {j : Nat} (hj : j < 16) : (B16 m).getLsbD j = btB m j := by
 obtain ⟨n, rfl⟩ := Int.eq_ofNat_of_zero_le h
 rw [bit_nat (by omega) (by omega), BitVec.getLsbD, BitVec.toNat_ofInt]
 congr 1
 omega
theorem shl_one {i : Nat} (hi : i < 16) : shlI .u16 1 (i : Int) = ((2 ^ i : Nat) : Int) := by
 have : ∀ i : Fin 16, shlI .u16 1 (i : Nat) = ((2 ^ (i : Nat) : Nat) : Int) := by decide
 exact this ⟨i, hi⟩
theorem one_bit {i j : Nat} (hi : i < 16) (hj : j < 16) : (B16 (shlI .u16 1 (i : Int))).getLsbD j = decide (i = j) := by
 have h1 : (2 : Nat) ^ i ≤ 2 ^ 15 := Nat.pow_le_pow_right (by omega) (by omega)
 rw [shl_one hi, bit_lsb (Int.natCast_nonneg _) (by omega) hj, bit_nat (by omega) (by omega), Nat.testBit_two_pow]
theorem zero_iff (b : BitVec 16) : b = 0#16 ↔ ∀ j, j < 16 → b.getLsbD j = false := by
 constructor
 ·rintro rfl j hj; simp
 intro h
 apply BitVec.eq_of_getLsbD_eq
 intro j hj
 rw [h j hj]; simp

theorem B_or (x y : Int) : B16 (orI .u16 x y) = B16 x ||| B16 y := by
 unfold orI
 exact (congrArg B16 (wu16b (B16 x ||| B16 y))).trans (B16_nat _)
theorem or_in (x y : Int) : 0 ≤ orI .u16 x y ∧ orI .u16 x y ≤ 65535 := by
 have e : orI .u16 x y = (((B16 x ||| B16 y).toNat : Nat) : Int) := wu16b _
 have := (B16 x ||| B16 y).isLt
 rw [e]; omega
theorem bit_put {m : Int} (h : 0 ≤ m) (h' : m ≤ 65535) {i : Nat} (hi : i < 16) {j : Nat} (hj : j < 16) : btB (orI .u16 m (shlI .u16 1 (i : Int))) j = (btB m j || decide (i = j)) := by
 obtain ⟨a, b⟩ := or_in m (shlI .u16 1 (i : Int))
 rw [← bit_lsb a b hj, B_or, BitVec.getLsbD_or, bit_lsb h h' hj, one_bit hi hj]
theorem andNot_in (x y : Int) : 0 ≤ andNotI .u16 x y ∧ andNotI .u16 x y ≤ 65535 := by
 unfold andNotI
 have h := wu16b (B16 x &&& ~~~ B16 y)
 have := (B16 x &&& ~~~ B16 y).isLt
 have e : IntKind.u16.wrap (((BitVec.ofInt 16 x &&& ~~~BitVec.ofInt 16 y).toNat : Nat) : Int) = ((B16 x &&& ~~~ B16 y).toNat : Int) := h
 show 0 ≤ IntKind.u16.wrap (((BitVec.ofInt 16 x &&& ~~~BitVec.ofInt 16 y).toNat : Nat) : Int) ∧ IntKind.u16.wrap (((BitVec.ofInt 16 x &&& ~~~BitVec.ofInt 16 y).toNat : Nat) : Int) ≤ 65535
 rw [e]; omega
theorem bit_clear {m : Int} (h : 0 ≤ m) (h' : m ≤ 65535) {i : Nat} (hi : i < 16) {j : Nat} (hj : j < 16) : btB (andNotI .u16 m (shlI .u16 1 (i : Int))) j = (btB m j && !decide (i = j)) := by
 obtain ⟨a, b⟩ := andNot_in m (shlI .u16 1 (i : Int))
 rw [← bit_lsb a b hj, B_andNot, BitVec.getLsbD_and, BitVec.getLsbD_not, bit_lsb h h' hj, one_bit hi hj]
 simp [hj]
theorem bt_zero (j : Nat) : btB 0 j = false := by
 unfold btB shrI
 rw [Int.zero_fdiv]; rfl
theorem bt_mask {k j : Nat} (hk : k ≤ 15) (hj : j ≤ 16) : btB (2 ^ k - 1) j = decide (j < k) := by
 have h1 : (2 : Nat) ^ k ≤ 2 ^ 15 := Nat.pow_le_pow_right (by omega) hk
 have h2 : 0 < 2 ^ k := Nat.two_pow_pos k
 have e : (2 ^ k - 1 : Int) = ((2 ^ k - 1 : Nat) : Int) := by rw [Int.natCast_sub (by omega)]; push_cast; rfl
 rw [e, bit_nat (by omega) hj, Nat.testBit_two_pow_sub_one]
/-- All bits of one are bits of the other. -/
theorem sub_mask {m k : Int} (h : 0 ≤ m) (h' : m ≤ 65535) (hk : 0 ≤ k) (hk' : k ≤ 65535) : andNotI .u16 m k = 0 ↔ ∀ j, j < 16 → btB m j = true → btB k j = true := by
 rw [andNot_zero, zero_iff]
 constructor
 ·intro hz j hj hb
  have := hz j hj
  rw [BitVec.getLsbD_and, BitVec.getLsbD_not, bit_lsb h h' hj, bit_lsb hk hk' hj, hb] at this
  simpa [hj] using this
 intro hz j hj
 rw [BitVec.getLsbD_and, BitVec.getLsbD_not, bit_lsb h h' hj, bit_lsb hk hk' hj]
 cases hb : btB m j
 ·rfl
 rw [hz j hj hb]; simp
end Go.Proofs.YtegibnmfiogebaaGreat
/-
  Plain laws: numbers that are drawn from bytes.
-/
namespace Go.Proofs.YtegibnmfiogebaaGreat
open G
set_option linter.unusedVariables false
set_option linter.unusedSimpArgs false

theorem and255 (x : Int) : 0 ≤ andI .u64 x 255 ∧ andI .u64 x 255 ≤ 255 := by
 unfold andI
 have e : (BitVec.ofInt 64 x &&& BitVec.ofInt 64 255).toNat ≤ 255 := by
   rw [BitVec.toNat_and]
   exact Nat.le_trans Nat.and_le_right (by decide)
 show 0 ≤ IntKind.u64.wrap (((BitVec.ofInt 64 x &&& BitVec.ofInt 64 255).toNat : Nat) : Int) ∧ IntKind.u64.wrap (((BitVec.ofInt 64 x &&& BitVec.ofInt 64 255).toNat : Nat) : Int) ≤ 255
 rw [wu64 (by omega) (by omega)]
 omega
def byteL (l : List Int) : Prop := ∀ x ∈ l, 0 ≤ x ∧ x ≤ 255
theorem byteL_of {l : List Int} (h : ∀ x ∈ l, (inI .u8) x) : byteL l := by
 intro x hx
 have h1 : IntKind.u8.min = 0 := by decide
 have h2 : IntKind.u8.max = 255 := by decide
 obtain ⟨a, b⟩ := h x hx
 rw [h1] at a; rw [h2] at b
 exact ⟨a, b⟩
/-- A number that is read: a byte; the place goes on by one. -/
theorem next_ok {c : List Int} (hc : byteL c) {at_ seed : Int} (h0 : 0 ≤ at_) (h1 : at_ ≤ 4611686018427387904) :
 ∃ v seed', spec_l00Src_next.f ⟨c, at_, seed⟩ = some (v, ⟨c, at_ + 1, seed'⟩) ∧ 0 ≤ v ∧ v ≤ 255 := by
 have e1 : IntKind.i64.wrap (at_ + 1) = at_ + 1 := w64 (by omega) (by omega)
 have hb : ∀ y, 0 ≤ IntKind.i64.wrap (andI .u64 y 255) ∧ IntKind.i64.wrap (andI .u64 y 255) ≤ 255 := by
   intro y
   have := and255 y
   rw [w64 (by omega) (by omega)]
   exact this
 unfold spec_l00Src_next.f
 simp only [e1]
 by_cases hl : at_ < (c.length : Int)
 ·obtain ⟨i, rfl⟩ := Int.eq_ofNat_of_zero_le h0
  have hi : i < c.length := by omega
  rw [if_pos hl, getI_nat hi, Option.bind_some]
  have hx := hc _ (List.getElem_mem hi)
  by_cases h2 : (i : Int) + 1 ≤ (c.length : Int)
  ·rw [if_pos h2]
   refine ⟨_, _, rfl, ?_⟩
   rw [w64 (by omega) (by omega)]
   exact hx
  rw [if_neg h2]
  exact ⟨_, _, rfl, hb _⟩
 rw [if_neg hl]
 by_cases h2 : at_ + 1 ≤ (c.length : Int)
 ·omega
 rw [if_neg h2]
 exact ⟨_, _, rfl, hb _⟩
/-- A number below n. -/
theorem pick_ok {c : List Int} (hc : byteL c) {at_ seed : Int} (h0 : 0 ≤ at_) (h1 : at_ ≤ 1000000000000) (n : Int) :
 ∃ v at' seed', spec_l00Src_pick.f ⟨c, at_, seed⟩ n = some (v, ⟨c, at', seed'⟩) ∧ 0 ≤ v ∧ (v < n ∨ (n ≤ 1 ∧ v = 0)) ∧ at_ ≤ at' ∧ at' ≤ at_ + 2 := by
 unfold spec_l00Src_pick.f
 by_cases hn : n ≤ 1
 ·rw [if_pos hn]
  exact ⟨0, at_, seed, rfl, by omega, .inr ⟨hn, rfl⟩, by omega, by omega⟩
 rw [if_neg hn]
 obtain ⟨v, s1, e, v0, v1⟩ := next_ok hc (seed := seed) h0 (by omega)
 rw [e, Option.bind_some]
 by_cases hb : 200 < n
 ·rw [if_pos hb]
  obtain ⟨u, s2, e2, u0, u1⟩ := next_ok hc (seed := s1) (show 0 ≤ at_ + 1 by omega) (by omega)
  simp only [e2, Option.bind_some]
  rw [chk_t (show n ≠ 0 by omega), Option.bind_some, w64 (x := v * 256) (by omega) (by omega), w64 (by omega) (by omega)]
  refine ⟨_, _, _, rfl, ?_, .inl ?_, by omega, by omega⟩
  ·rw [Int.tmod_eq_emod_of_nonneg (by omega)]; exact Int.emod_nonneg _ (by omega)
  rw [Int.tmod_eq_emod_of_nonneg (by omega)]; exact Int.emod_lt_of_pos _ (by omega)
 rw [if_neg hb]
 rw [chk_t (show n ≠ 0 by omega), Option.bind_some]
 refine ⟨_, _, _, rfl, ?_, .inl ?_, by simp only; omega, by simp only; omega⟩
 ·rw [Int.tmod_eq_emod_of_nonneg (by omega)]; exact Int.emod_nonneg _ (by omega)
 rw [Int.tmod_eq_emod_of_nonneg (by omega)]; exact Int.emod_lt_of_pos _ (by omega)
end Go.Proofs.YtegibnmfiogebaaGreat
/-
  Plain law: pastures that are drawn are in order.
-/
namespace Go.Proofs.YtegibnmfiogebaaGreat
open G
set_option linter.unusedVariables false
set_option linter.unusedSimpArgs false
set_option maxRecDepth 100000
/-! ### When a pasture is in order -/
/-- The bits of the rows of hurdles lie within. -/
structure Rows (p : Pasture) : Prop where
  e : ∀ y, y < 10 → (0 ≤ gA p.East y ∧ gA p.East y ≤ 65535) ∧ ∀ j, j < 16 → btB (gA p.East y) j = true → (j : Int) + 1 < p.Wide ∧ (y : Int) < p.High
  s : ∀ y, y < 10 → (0 ≤ gA p.South y ∧ gA p.South y ≤ 65535) ∧ ∀ j, j < 16 → btB (gA p.South y) j = true → (j : Int) < p.Wide ∧ (y : Int) + 1 < p.High
theorem mask_in {k : Nat} (hk : k ≤ 15) : 0 ≤ (2 ^ k - 1 : Int) ∧ (2 ^ k - 1 : Int) ≤ 65535 := by
 have h1 : (2 : Nat) ^ k ≤ 2 ^ 15 := Nat.pow_le_pow_right (by omega) hk
 have h2 : 0 < 2 ^ k := Nat.two_pow_pos k
 have e : (2 ^ k - 1 : Int) = ((2 ^ k - 1 : Nat) : Int) := by rw [Int.natCast_sub (by omega)]; push_cast; rfl
 rw [e]; omega
theorem rows_ok {p : Pasture} (hw : okW p = true) (hg : ∀ y x, y < 10 → x < 10 → okG p y x = true) (h : Rows p) : vP p = true := by
 obtain ⟨a, b⟩ := okW_iff.1 hw
 unfold vP
 rw [hw, Bool.true_and, upA_iff]
 intro y _ hy
 have hy : y < 10 := by omega
 unfold okR
 rw [Bool.and_eq_true, Bool.and_eq_true, decide_eq_true_eq, decide_eq_true_eq, upA_iff]
 obtain ⟨⟨e0, e1⟩, e2⟩ := h.e y hy
 obtain ⟨⟨s0, s1⟩, s2⟩ := h.s y hy
 refine ⟨fun x _ hx => hg y x hy (by omega), ?_, ?_⟩
 ·unfold eMask
  by_cases hh : (y : Int) < p.High
  ·rw [if_pos hh]
   obtain ⟨m0, m1⟩ := mask_in (k := p.Wide.toNat - 1) (by omega)
   rw [sub_mask e0 e1 m0 m1]
   intro j hj hb
   rw [bt_mask (by omega) (by omega)]
   have := e2 j hj hb
   exact decide_eq_true (by omega)
  rw [if_neg hh, sub_mask e0 e1 (by omega) (by omega)]
  intro j hj hb
  exact absurd (e2 j hj hb).2 hh
 unfold sMask
 by_cases hh : (y : Int) + 1 < p.High
 ·rw [if_pos hh]
  obtain ⟨m0, m1⟩ := mask_in (k := p.Wide.toNat) (by omega)
  rw [sub_mask s0 s1 m0 m1]
  intro j hj hb
  rw [bt_mask (by omega) (by omega)]
  have := s2 j hj hb
  exact decide_eq_true (by omega)
 rw [if_neg hh, sub_mask s0 s1 (by omega) (by omega)]
 intro j hj hb
 exact absurd (s2 j hj hb).2 hh
theorem vP_rows {p : Pasture} (v : VPasture p) (h : vP p = true) : Rows p := by
 have hw := vP_okW h
 obtain ⟨a, b⟩ := okW_iff.1 hw
 unfold vP at h
 rw [hw, Bool.true_and, upA_iff] at h
 have hE : ∀ y, y < 10 → 0 ≤ gA p.East y ∧ gA p.East y ≤ 65535 := fun y hy => u16b (v.2.2.2.1 _ (gA_mem _ hy))
 have hS : ∀ y, y < 10 → 0 ≤ gA p.South y ∧ gA p.South y ≤ 65535 := fun y hy => u16b (v.2.2.2.2 _ (gA_mem _ hy))
 refine ⟨fun y hy => ⟨hE y hy, ?_⟩, fun y hy => ⟨hS y hy, ?_⟩⟩
 ·have := h y (Nat.zero_le _) (by omega)
  unfold okR at this
  rw [Bool.and_eq_true, Bool.and_eq_true, decide_eq_true_eq, decide_eq_true_eq] at this
  obtain ⟨_, he, _⟩ := this
  unfold eMask at he
  by_cases hh : (y : Int) < p.High
  ·rw [if_pos hh] at he
   obtain ⟨m0, m1⟩ := mask_in (k := p.Wide.toNat - 1) (by omega)
   rw [sub_mask (hE y hy).1 (hE y hy).2 m0 m1] at he
   intro j hj hb
   have := he j hj hb
   rw [bt_mask (by omega) (by omega), decide_eq_true_eq] at this
   omega
  rw [if_neg hh, sub_mask (hE y hy).1 (hE y hy).2 (by omega) (by omega)] at he
  intro j hj hb
  have := he j hj hb
  rw [bt_zero] at this; cases this
 have := h y (Nat.zero_le _) (by omega)
 unfold okR at this
 rw [Bool.and_eq_true, Bool.and_eq_true, decide_eq_true_eq, decide_eq_true_eq] at this
 obtain ⟨_, _, he⟩ := this
 unfold sMask at he
 by_cases hh : (y : Int) + 1 < p.High
 ·rw [if_pos hh] at he
  obtain ⟨m0, m1⟩ := mask_in (k := p.Wide.toNat) (by omega)
  rw [sub_mask (hS y hy).1 (hS y hy).2 m0 m1] at he
  intro j hj hb
  have := he j hj hb
  rw [bt_mask (by omega) (by omega), decide_eq_true_eq] at this
  omega
 rw [if_neg hh, sub_mask (hS y hy).1 (hS y hy).2 (by omega) (by omega)] at he
 intro j hj hb
 have := he j hj hb
 rw [bt_zero] at this; cases this
/-! ### A hurdle that is put -/
def putT (p : Pasture) (x y : Nat) (s : Bool) : Pasture := if s = true then ⟨p.Wide, p.High, p.Grass, p.East, aset p.South y (orI .u16 (andNotI .u16 (gA p.South y) (shlI .u16 1 (x : Int))) (shlI .u16 1 (x : Int)))⟩ else ⟨p.Wide, p.High, p.Grass, aset p.East y (orI .u16 (andNotI .u16 (gA p.East y) (shlI .u16 1 (x : Int))) (shlI .u16 1 (x : Int))), p.South⟩
theorem aset_aset (a : Arr 10 Int) (y : Nat) (u v : Int) : aset (aset a y u) y v = aset a y v := by
 unfold aset
 simp only [List.set_set]
theorem setT_eq (p : Pasture) {x y : Nat} (hx : x < 10) (hy : y < 10) (s : Bool) : spec_l01Set.f p (sp x y) (if s = true then 2 else 1) true = some (putT p x y s) := by
 have g1 : ∀ a : Arr 10 Int, getI a.l (y : Int) = some (gA a y) := fun a => getA a hy
 have u := u64n hx
 have e1 : ∀ (a : Arr 10 Int) (v : Int), gA (aset a y v) y = v := fun a v => by rw [gA_set a hy, if_pos rfl]
 cases s
 ·simp [spec_l01Set.f, sp, u, chk, g1, e1, putT, aset_aset]
 simp [spec_l01Set.f, sp, u, chk, g1, e1, putT, aset_aset]
theorem bit_putT {m : Int} (h : 0 ≤ m) (h' : m ≤ 65535) {i j : Nat} (hi : i < 16) (hj : j < 16) : btB (orI .u16 (andNotI .u16 m (shlI .u16 1 (i : Int))) (shlI .u16 1 (i : Int))) j = (btB m j || decide (i = j)) := by
 obtain ⟨a, b⟩ := andNot_in m (shlI .u16 1 (i : Int))
 rw [bit_put a b hi hj, bit_clear h h' hi hj]
 cases btB m j <;> by_cases e : i = j <;> simp [e]
theorem putT_rows {p : Pasture} (h : Rows p) {x y : Nat} (hx : x < 10) (hy : y < 10) {s : Bool} (hin : if s = true then (x : Int) < p.Wide ∧ (y : Int) + 1 < p.High else (x : Int) + 1 < p.Wide ∧ (y : Int) < p.High) : Rows (putT p x y s) := by
 cases s
 ·simp only [Bool.false_eq_true, if_false] at hin
  refine ⟨fun b hb => ?_, h.s⟩
  have e : gA (putT p x y false).East b = if y = b then orI .u16 (andNotI .u16 (gA p.East y) (shlI .u16 1 (x : Int))) (shlI .u16 1 (x : Int)) else gA p.East b := gA_set p.East hy _ b
  rw [e]
  by_cases e1 : y = b
  ·subst e1
   rw [if_pos rfl]
   obtain ⟨⟨e0, e1⟩, e2⟩ := h.e y hy
   refine ⟨or_in _ _, fun j hj hbit => ?_⟩
   rw [bit_putT e0 e1 (by omega) hj, Bool.or_eq_true, decide_eq_true_eq] at hbit
   rcases hbit with hbit | rfl
   ·exact e2 j hj hbit
   exact hin
  rw [if_neg e1]; exact h.e b hb
 simp only [if_true] at hin
 refine ⟨h.e, fun b hb => ?_⟩
 have e : gA (putT p x y true).South b = if y = b then orI .u16 (andNotI .u16 (gA p.South y) (shlI .u16 1 (x : Int))) (shlI .u16 1 (x : Int)) else gA p.South b := gA_set p.South hy _ b
 rw [e]
 by_cases e1 : y = b
 ·subst e1
  rw [if_pos rfl]
  obtain ⟨⟨e0, e1⟩, e2⟩ := h.s y hy
  refine ⟨or_in _ _, fun j hj hbit => ?_⟩
  rw [bit_putT e0 e1 (by omega) hj, Bool.or_eq_true, decide_eq_true_eq] at hbit
  rcases hbit with hbit | rfl
  ·exact e2 j hj hbit
  exact hin
 rw [if_neg e1]; exact h.s b hb
/-! ### Drawn -/
/-- A pasture as it is drawn. -/
structure Dr (W H : Nat) (p : Pasture) : Prop where
  w : p.Wide = (W : Int)
  h : p.High = (H : Int)
  g : ∀ y x, y < 10 → x < 10 → 0 ≤ gG p y x ∧ gG p y x ≤ 11 ∧ (¬ (x < W ∧ y < H) → gG p y x = 0)
  r : Rows p
theorem arr_at {α : Type} {n : Nat} (a : Arr n α) {x : α} (hx : x ∈ a.l) : ∃ i, i < n ∧ a.l[i]? = some x := by
 obtain ⟨i, hi, rfl⟩ := List.getElem_of_mem hx
 exact ⟨i, by rw [← a.len]; exact hi, List.getElem?_eq_getElem hi⟩
theorem Dr.V {W H : Nat} {p : Pasture} (h : Dr W H p) (hW : W ≤ 10) (hH : H ≤ 10) : VPasture p := by
 have i8 : IntKind.i8.min = -128 ∧ IntKind.i8.max = 127 := by decide
 have i16 : IntKind.i16.min = -32768 ∧ IntKind.i16.max = 32767 := by decide
 have u16' : IntKind.u16.min = 0 ∧ IntKind.u16.max = 65535 := by decide
 refine ⟨?_, ?_, fun r hr x hx => ?_, fun x hx => ?_, fun x hx => ?_⟩
 ·unfold inI; rw [i8.1, i8.2, h.w]; omega
 ·unfold inI; rw [i8.1, i8.2, h.h]; omega
 ·obtain ⟨y, hy, e⟩ := arr_at p.Grass hr
  obtain ⟨j, hj, e2⟩ := arr_at r hx
  have : gG p y j = x := by unfold gG gR gA; rw [e]; simp [List.getD_eq_getElem?_getD, e2]
  have hg := h.g y j hy hj
  unfold inI; rw [i16.1, i16.2]; omega
 ·obtain ⟨y, hy, e⟩ := arr_at p.East hx
  have : gA p.East y = x := by unfold gA; simp [List.getD_eq_getElem?_getD, e]
  have := (h.r.e y hy).1
  unfold inI; rw [u16'.1, u16'.2]; omega
 obtain ⟨y, hy, e⟩ := arr_at p.South hx
 have : gA p.South y = x := by unfold gA; simp [List.getD_eq_getElem?_getD, e]
 have := (h.r.s y hy).1
 unfold inI; rw [u16'.1, u16'.2]; omega
theorem Dr.okW {W H : Nat} {p : Pasture} (h : Dr W H p) (hW : 1 ≤ W ∧ W ≤ 10) (hH : 1 ≤ H ∧ H ≤ 10) : okW p = true := by
 rw [okW_iff, h.w, h.h]; omega
theorem Dr.ok {W H : Nat} {p : Pasture} (h : Dr W H p) (hW : 1 ≤ W ∧ W ≤ 10) (hH : 1 ≤ H ∧ H ≤ 10) : vP p = true := by
 refine rows_ok (h.okW hW hH) (fun y x hy hx => ?_) h.r
 obtain ⟨a, b, c⟩ := h.g y x hy hx
 unfold okG cellB
 simp only [Bool.and_eq_true, Bool.or_eq_true, decide_eq_true_eq, h.w, h.h]
 refine ⟨by omega, ?_⟩
 by_cases hin : x < W ∧ y < H
 ·right; omega
 left; rw [c hin]; omega
theorem Dr.put {W H : Nat} {p : Pasture} (h : Dr W H p) {x y : Nat} (hx : x < 10) (hy : y < 10) {s : Bool} (hin : if s = true then (x : Int) < p.Wide ∧ (y : Int) + 1 < p.High else (x : Int) + 1 < p.Wide ∧ (y : Int) < p.High) : Dr W H (putT p x y s) := by
 have hr := putT_rows h.r hx hy hin
 cases s
 ·exact ⟨h.w, h.h, h.g, hr⟩
 exact ⟨h.w, h.h, h.g, hr⟩
theorem Dr.grass {W H : Nat} {p : Pasture} (h : Dr W H p) {x y : Nat} (hx : x < 10) (hy : y < 10) (hxW : x < W) (hyH : y < H) {v : Int} (v0 : 0 ≤ v) (v1 : v ≤ 11) : Dr W H ⟨p.Wide, p.High, put2 p.Grass y x v, p.East, p.South⟩ := by
 refine ⟨h.w, h.h, fun b a hb ha => ?_, ⟨h.r.e, h.r.s⟩⟩
 have e : gG ⟨p.Wide, p.High, put2 p.Grass y x v, p.East, p.South⟩ b a = if y = b ∧ x = a then v else gG p b a := g2_put p.Grass hy hx v b a
 rw [e]
 by_cases c : y = b ∧ x = a
 ·rw [if_pos c]
  exact ⟨v0, v1, fun hn => absurd ⟨by omega, by omega⟩ hn⟩
 rw [if_neg c]; exact h.g b a hb ha
theorem one_ok {c : List Int} (hc : byteL c) {at_ seed : Int} (h0 : 0 ≤ at_) (h1 : at_ ≤ 1000000000000) (n : Int) :
 ∃ v at' seed', spec_l00Src_one.f ⟨c, at_, seed⟩ n = some (v, ⟨c, at', seed'⟩) ∧ at_ ≤ at' ∧ at' ≤ at_ + 2 := by
 obtain ⟨i, a, s, e, i0, i1, q1, q2⟩ := pick_ok hc (seed := seed) h0 h1 n
 refine ⟨decide (i = 0), a, s, ?_, q1, q2⟩
 unfold spec_l00Src_one.f
 rw [e]
 rfl
theorem side_in {W H : Nat} {p : Pasture} (h : Dr W H p) (hW : W ≤ 10) (hH : H ≤ 10) {x y : Nat} (hx : x < W) (hy : y < H) (s : Bool) (hc : cellB p (nx (sp x y) (if s = true then 2 else 1)).X (nx (sp x y) (if s = true then 2 else 1)).Y = true) : if s = true then (x : Int) < p.Wide ∧ (y : Int) + 1 < p.High else (x : Int) + 1 < p.Wide ∧ (y : Int) < p.High := by
 unfold cellB at hc
 cases s
 ·simp only [Bool.false_eq_true, if_false] at hc ⊢
  have e : nx (sp x y) 1 = ⟨((x : Int) + 1), (y : Int)⟩ := by
    unfold nx sp; simp; rw [w8 (by omega) (by omega)]
  rw [e] at hc
  simp only [Bool.and_eq_true, decide_eq_true_eq] at hc
  omega
 simp only [if_true] at hc ⊢
 have e : nx (sp x y) 2 = ⟨(x : Int), ((y : Int) + 1)⟩ := by
   unfold nx sp; simp; rw [w8 (by omega) (by omega)]
 rw [e] at hc
 simp only [Bool.and_eq_true, decide_eq_true_eq] at hc
 omega
theorem drawn3_ev {c : List Int} (hc : byteL c) (t5 : Int × l00Src) {W H : Nat} (hW : W ≤ 10) (hH : H ≤ 10) {x y : Nat} (hx : x < W) (hy : y < H) {p : Pasture} (h : Dr W H p) {at_ seed : Int} (h0 : 0 ≤ at_) (h1 : at_ ≤ 100000) :
 ∃ p' at' seed', Ev (fun k => spec_l01Drawn.l3 ⟨c, 0, 0⟩ t5 (y : Int) (x : Int) k p 1 at_ seed) (p', at', seed') ∧ Dr W H p' ∧ at_ ≤ at' ∧ at' ≤ at_ + 4 := by
 have last : ∀ (q : Pasture) (a s : Int), Ev (fun k => spec_l01Drawn.l3 ⟨c, 0, 0⟩ t5 (y : Int) (x : Int) k q 3 a s) (q, a, s) := fun q a s => Ev.step (fun k => spec_l01Drawn.l3.eq_2 _ _ _ _ _ _ _ _ _) (Ev.neg (by omega) (Ev.const rfl))
 have go : ∀ (s : Bool) (q : Pasture) (a sd : Int), Dr W H q → 0 ≤ a → a ≤ 100010 → ∃ q' a' s', Dr W H q' ∧ a ≤ a' ∧ a' ≤ a + 2 ∧ ∀ {r}, Ev (fun k => spec_l01Drawn.l3 ⟨c, 0, 0⟩ t5 (y : Int) (x : Int) k q' (IntKind.i64.wrap ((if s = true then 2 else 1) + 1)) a' s') r → Ev (fun k => spec_l01Drawn.l3 ⟨c, 0, 0⟩ t5 (y : Int) (x : Int) k q (if s = true then 2 else 1) a sd) r := by
   intro s q a sd hq a0 a1
   have hle : (if s = true then (2 : Int) else 1) ≤ 2 := by split <;> omega
   have hin := nx_in (x := x) (y := y) (by omega) (by omega) (if s = true then 2 else 1)
   have his := l01Is_eq (hq.V hW hH) _ hin
   cases hcb : cellB q (nx (sp x y) (if s = true then 2 else 1)).X (nx (sp x y) (if s = true then 2 else 1)).Y
   · rw [hcb] at his
     exact ⟨q, a, sd, hq, by omega, by omega, fun hr => Ev.step (fun k => spec_l01Drawn.l3.eq_2 _ _ _ _ _ _ _ _ _) (Ev.pos hle (Ev.bind (Ev.const (next_eq _ _)) (Ev.bind (Ev.const his) (Ev.neg (by simp) hr))))⟩
   · rw [hcb] at his
     obtain ⟨b, a', s', e1, q1, q2⟩ := one_ok hc (seed := sd) a0 (by omega) (IntKind.i64.wrap (2 + t5.1))
     cases b
     · exact ⟨q, a', s', hq, q1, q2, fun hr => Ev.step (fun k => spec_l01Drawn.l3.eq_2 _ _ _ _ _ _ _ _ _) (Ev.pos hle (Ev.bind (Ev.const (next_eq _ _)) (Ev.bind (Ev.const his) (Ev.pos rfl (Ev.bind (Ev.const e1) (Ev.neg (by simp) hr))))))⟩
     · exact ⟨putT q x y s, a', s', hq.put (by omega) (by omega) (side_in hq hW hH hx hy s hcb), q1, q2, fun hr => Ev.step (fun k => spec_l01Drawn.l3.eq_2 _ _ _ _ _ _ _ _ _) (Ev.pos hle (Ev.bind (Ev.const (next_eq _ _)) (Ev.bind (Ev.const his) (Ev.pos rfl (Ev.bind (Ev.const e1) (Ev.pos rfl (Ev.bind (Ev.const (setT_eq q (by omega) (by omega) s)) hr)))))))⟩
 obtain ⟨p1, a1, s1, b1, b2, b3, b4⟩ := go false p at_ seed h h0 (by omega)
 obtain ⟨p2, a2, s2, d1, d2, d3, d4⟩ := go true p1 a1 s1 b1 (by omega) (by omega)
 refine ⟨p2, a2, s2, ?_, d1, by omega, by omega⟩
 have w2 : IntKind.i64.wrap (1 + 1) = 2 := by decide
 have w3 : IntKind.i64.wrap (2 + 1) = 3 := by decide
 simp only [Bool.false_eq_true, if_false, w2] at b4
 simp only [if_true, w3] at d4
 exact b4 (d4 (last _ _ _))
theorem drawn2_loop {c : List Int} (hc : byteL c) (t5 : Int × l00Src) {W H : Nat} (hW : W ≤ 10) (hH : H ≤ 10) {y : Nat} (hy : y < H) : ∀ x, x ≤ W → ∀ (p : Pasture) (at_ seed : Int), Dr W H p → 0 ≤ at_ → at_ + 6 * ((W : Int) - x) ≤ 100000 →
 ∃ p' at' seed', Ev (fun k => spec_l01Drawn.l2 ⟨c, 0, 0⟩ t5 (y : Int) k p (x : Int) at_ seed) (p', at', seed') ∧ Dr W H p' ∧ at_ ≤ at' ∧ at' ≤ at_ + 6 * ((W : Int) - x) := by
 refine upL ?_ ?_
 ·intro p at_ seed h h0 h1
  exact ⟨p, at_, seed, Ev.step (fun k => spec_l01Drawn.l2.eq_2 _ _ _ _ _ _ _ _) (Ev.neg (by rw [h.w]; omega) (Ev.const rfl)), h, by omega, by omega⟩
 intro x hx ih p at_ seed h h0 h1
 obtain ⟨v, a1, s1, e1, v0, v1, q1, q2⟩ := pick_ok hc (seed := seed) h0 (by omega) 12
 have wv : IntKind.i16.wrap v = v := w16 (by omega) (by omega)
 have hG := h.grass (x := x) (y := y) (by omega) (by omega) hx hy v0 (show v ≤ 11 by omega)
 obtain ⟨p2, a2, s2, b1, b2, b3, b4⟩ := drawn3_ev hc t5 hW hH hx hy hG (seed := s1) (at_ := a1) (by omega) (by omega)
 obtain ⟨p3, a3, s3, d1, d2, d3, d4⟩ := ih p2 a2 s2 b2 (by omega) (by omega)
 have e : IntKind.i8.wrap ((x : Int) + 1) = ((x + 1 : Nat) : Int) := by rw [w8 (by omega) (by omega)]; omega
 rw [← e] at d1
 refine ⟨p3, a3, s3, Ev.step (fun k => spec_l01Drawn.l2.eq_2 _ _ _ _ _ _ _ _) (Ev.pos (by rw [h.w]; omega) (Ev.bind (a := (p2, a2, s2)) ?_ d1)), d2, by omega, by omega⟩
 refine Ev.bind (Ev.const (getR p.Grass (show y < 10 by omega))) (Ev.bind (Ev.const e1) (Ev.bind (Ev.const (getA _ (show x < 10 by omega))) ?_))
 simp only [wv, Int.toNat_natCast]
 exact b1.bind (Ev.const rfl)
theorem drawn1_loop {c : List Int} (hc : byteL c) (t5 : Int × l00Src) {W H : Nat} (hW : W ≤ 10) (hH : H ≤ 10) : ∀ y, y ≤ H → ∀ (p : Pasture) (at_ seed : Int), Dr W H p → 0 ≤ at_ → at_ + 60 * ((H : Int) - y) ≤ 100000 →
 ∃ p' at' seed', Ev (fun k => spec_l01Drawn.l1 ⟨c, 0, 0⟩ t5 k p (y : Int) at_ seed) (p', at', seed') ∧ Dr W H p' := by
 refine upL ?_ ?_
 ·intro p at_ seed h h0 h1
  exact ⟨p, at_, seed, Ev.step (fun k => spec_l01Drawn.l1.eq_2 _ _ _ _ _ _ _) (Ev.neg (by rw [h.h]; omega) (Ev.const rfl)), h⟩
 intro y hy ih p at_ seed h h0 h1
 obtain ⟨p2, a2, s2, b1, b2, b3, b4⟩ := drawn2_loop hc t5 hW hH hy 0 (Nat.zero_le _) p at_ seed h h0 (by omega)
 obtain ⟨p3, a3, s3, d1, d2⟩ := ih p2 a2 s2 b2 (by omega) (by omega)
 have e : IntKind.i8.wrap ((y : Int) + 1) = ((y + 1 : Nat) : Int) := by rw [w8 (by omega) (by omega)]; omega
 rw [← e] at d1
 exact ⟨p3, a3, s3, Ev.step (fun k => spec_l01Drawn.l1.eq_2 _ _ _ _ _ _ _) (Ev.pos (by rw [h.h]; omega) (Ev.bind (b1.bind (Ev.const rfl)) d1)), d2⟩
theorem gA_zero {y : Nat} (hy : y < 10) : gA (Arr.mk' 0 : Arr 10 Int) y = 0 := by
 show (List.replicate 10 (0 : Int)).getD y 0 = 0
 rw [List.getD_eq_getElem?_getD, List.getElem?_replicate, if_pos hy]; rfl
theorem gG_zero {y x : Nat} (hy : y < 10) (hx : x < 10) : gA (gR (Arr.mk' (Arr.mk' 0 : Arr 10 Int) : Arr 10 (Arr 10 Int)) y) x = 0 := by
 have : gR (Arr.mk' (Arr.mk' 0 : Arr 10 Int) : Arr 10 (Arr 10 Int)) y = Arr.mk' 0 := by
   show (List.replicate 10 (Arr.mk' 0 : Arr 10 Int)).getD y _ = _
   rw [List.getD_eq_getElem?_getD, List.getElem?_replicate, if_pos hy]; rfl
 rw [this, gA_zero hx]
theorem pasture_ev {c : List Int} (hc : byteL c) : ∃ (W H : Nat) (p : Pasture), (1 ≤ W ∧ W ≤ 5) ∧ (1 ≤ H ∧ H ≤ 5) ∧ Dr W H p ∧ Ev (fun k => spec_P6Pasture.f k c) p := by
 obtain ⟨w, a1, s1, e1, w0, w1, q1, q1'⟩ := pick_ok hc (at_ := 0) (seed := 0) (by omega) (by omega) 5
 obtain ⟨h, a2, s2, e2, h0, h1, q2, q2'⟩ := pick_ok hc (at_ := a1) (seed := s1) (by omega) (by omega) 5
 obtain ⟨m, a3, s3, e3, m0, m1, q3, q3'⟩ := pick_ok hc (at_ := a2) (seed := s2) (by omega) (by omega) 5
 have ww : IntKind.i8.wrap (IntKind.i64.wrap (1 + w)) = (((1 + w).toNat : Nat) : Int) := by rw [w64 (by omega) (by omega), w8 (by omega) (by omega)]; omega
 have wh : IntKind.i8.wrap (IntKind.i64.wrap (1 + h)) = (((1 + h).toNat : Nat) : Int) := by rw [w64 (by omega) (by omega), w8 (by omega) (by omega)]; omega
 have h0' : Dr (1 + w).toNat (1 + h).toNat (⟨(((1 + w).toNat : Nat) : Int), (((1 + h).toNat : Nat) : Int), (Arr.mk' (Arr.mk' 0 : Arr 10 Int) : Arr 10 (Arr 10 Int)), (Arr.mk' 0 : Arr 10 Int), (Arr.mk' 0 : Arr 10 Int)⟩ : Pasture) := by
   refine ⟨rfl, rfl, fun y x hy hx => ?_, ⟨fun y hy => ?_, fun y hy => ?_⟩⟩
   · have : gG (⟨(((1 + w).toNat : Nat) : Int), (((1 + h).toNat : Nat) : Int), (Arr.mk' (Arr.mk' 0 : Arr 10 Int) : Arr 10 (Arr 10 Int)), (Arr.mk' 0 : Arr 10 Int), (Arr.mk' 0 : Arr 10 Int)⟩ : Pasture) y x = 0 := gG_zero hy hx
     rw [this]; omega
   · show (0 ≤ gA (Arr.mk' 0 : Arr 10 Int) y ∧ _) ∧ _
     rw [gA_zero hy]
     exact ⟨by omega, fun j _ hb => by rw [bt_zero] at hb; cases hb⟩
   · show (0 ≤ gA (Arr.mk' 0 : Arr 10 Int) y ∧ _) ∧ _
     rw [gA_zero hy]
     exact ⟨by omega, fun j _ hb => by rw [bt_zero] at hb; cases hb⟩
 obtain ⟨p, a4, s4, d1, d2⟩ := drawn1_loop hc (m, ⟨c, a3, s3⟩) (W := (1 + w).toNat) (H := (1 + h).toNat) (by omega) (by omega) 0 (Nat.zero_le _) _ a3 s3 h0' (by omega) (by omega)
 refine ⟨(1 + w).toNat, (1 + h).toNat, p, by omega, by omega, d2, ?_⟩
 unfold spec_P6Pasture.f spec_l00From.f
 simp only [Option.bind_some]
 refine Ev.bind (a := (p, ⟨c, a4, s4⟩)) ?_ (Ev.const rfl)
 unfold spec_l01Drawn.f
 refine Ev.bind (Ev.const e1) (Ev.bind (Ev.const e2) (Ev.bind (Ev.const e3) ?_))
 simp only [ww, wh]
 exact d1.bind (Ev.const rfl)
end Go.Proofs.YtegibnmfiogebaaGreat
