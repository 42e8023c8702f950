/-
  Plain laws: numbers that are drawn from bytes.
-/
import Derived.Test.YtokanemjghfadaaGreatDoorQO
namespace Go.Proofs.YtokanemjghfadaaGreatDoor
open G
set_option linter.unusedVariables false
set_option linter.unusedSimpArgs false

theorem and255 (x : Int) : 0 ≤ andI .u64 x 255 ∧ andI .u64 x 255 ≤ 255 := by
 unfold andI
 have e : (BitVec.ofInt 64 x &&& BitVec.ofInt 64 255).toNat ≤ 255 := by
   rw [BitVec.toNat_and]
   exact Nat.le_trans Nat.and_le_right (by decide)
 show 0 ≤ IntKind.u64.wrap (((BitVec.ofInt 64 x &&& BitVec.ofInt 64 255).toNat : Nat) : Int) ∧ IntKind.u64.wrap (((BitVec.ofInt 64 x &&& BitVec.ofInt 64 255).toNat : Nat) : Int) ≤ 255
 rw [wu64 (by omega) (by omega)]
 omega
def byteL (l : List Int) : Prop := ∀ x ∈ l, 0 ≤ x ∧ x ≤ 255
theorem byteL_of {l : List Int} (h : ∀ x ∈ l, (inI .u8) x) : byteL l := by
 intro x hx
 have h1 : IntKind.u8.min = 0 := by decide
 have h2 : IntKind.u8.max = 255 := by decide
 obtain ⟨a, b⟩ := h x hx
 rw [h1] at a; rw [h2] at b
 exact ⟨a, b⟩
/-- A number that is read: a byte; the place goes on by one. -/
theorem next_ok {c : List Int} (hc : byteL c) {at_ seed : Int} (h0 : 0 ≤ at_) (h1 : at_ ≤ 4611686018427387904) :
 ∃ v seed', spec_l00Src_next.f ⟨c, at_, seed⟩ = some (v, ⟨c, at_ + 1, seed'⟩) ∧ 0 ≤ v ∧ v ≤ 255 := by
 have e1 : IntKind.i64.wrap (at_ + 1) = at_ + 1 := w64 (by omega) (by omega)
 have hb : ∀ y, 0 ≤ IntKind.i64.wrap (andI .u64 y 255) ∧ IntKind.i64.wrap (andI .u64 y 255) ≤ 255 := by
   intro y
   have := and255 y
   rw [w64 (by omega) (by omega)]
   exact this
 unfold spec_l00Src_next.f
 simp only [e1]
 by_cases hl : at_ < (c.length : Int)
 ·obtain ⟨i, rfl⟩ := Int.eq_ofNat_of_zero_le h0
  have hi : i < c.length := by omega
  rw [if_pos hl, getI_nat hi, Option.bind_some]
  have hx := hc _ (List.getElem_mem hi)
  by_cases h2 : (i : Int) + 1 ≤ (c.length : Int)
  ·rw [if_pos h2]
   refine ⟨_, _, rfl, ?_⟩
   rw [w64 (by omega) (by omega)]
   exact hx
  rw [if_neg h2]
  exact ⟨_, _, rfl, hb _⟩
 rw [if_neg hl]
 by_cases h2 : at_ + 1 ≤ (c.length : Int)
 ·omega
 rw [if_neg h2]
 exact ⟨_, _, rfl, hb _⟩
/-- A number below n. -/
theorem pick_ok {c : List Int} (hc : byteL c) {at_ seed : Int} (h0 : 0 ≤ at_) (h1 : at_ ≤ 1000000000000) (n : Int) :
 ∃ v at' seed', spec_l00Src_pick.f ⟨c, at_, seed⟩ n = some (v, ⟨c, at', seed'⟩) ∧ 0 ≤ v ∧ (v < n ∨ (n ≤ 1 ∧ v = 0)) ∧ at_ ≤ at' ∧ at' ≤ at_ + 2 := by
 unfold spec_l00Src_pick.f
 by_cases hn : n ≤ 1
 ·rw [if_pos hn]
  exact ⟨0, at_, seed, rfl, by omega, .inr ⟨hn, rfl⟩, by omega, by omega⟩
 rw [if_neg hn]
 obtain ⟨v, s1, e, v0, v1⟩ := next_ok hc (seed := seed) h0 (by omega)
 rw [e, Option.bind_some]
 by_cases hb : 200 < n
 ·rw [if_pos hb]
  obtain ⟨u, s2, e2, u0, u1⟩ := next_ok hc (seed := s1) (show 0 ≤ at_ + 1 by omega) (by omega)
  simp only [e2, Option.bind_some]
  rw [chk_t (show n ≠ 0 by omega), Option.bind_some, w64 (x := v * 256) (by omega) (by omega), w64 (by omega) (by omega)]
  refine ⟨_, _, _, rfl, ?_, .inl ?_, by omega, by omega⟩
  ·rw [Int.tmod_eq_emod_of_nonneg (by omega)]; exact Int.emod_nonneg _ (by omega)
  rw [Int.tmod_eq_emod_of_nonneg (by omega)]; exact Int.emod_lt_of_pos _ (by omega)
 rw [if_neg hb]
 rw [chk_t (show n ≠ 0 by omega), Option.bind_some]
 refine ⟨_, _, _, rfl, ?_, .inl ?_, by simp only; omega, by simp only; omega⟩
 ·rw [Int.tmod_eq_emod_of_nonneg (by omega)]; exact Int.emod_nonneg _ (by omega)
 rw [Int.tmod_eq_emod_of_nonneg (by omega)]; exact Int.emod_lt_of_pos _ (by omega)
end Go.Proofs.YtokanemjghfadaaGreatDoor
