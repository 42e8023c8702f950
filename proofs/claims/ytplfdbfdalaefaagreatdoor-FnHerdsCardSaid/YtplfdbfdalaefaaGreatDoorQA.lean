import Derived.Test.YtplfdbfdalaefaaGreatDoorGO
/-
  Plain laws: what the laws' own helpers come to (copies, comparisons, marks), type by type.
-/
namespace Go.Proofs.YtplfdbfdalaefaaGreatDoor
open G
set_option linter.unusedVariables false
set_option linter.unusedSimpArgs false

theorem slices_Equal_string_string_ev (xs ys : List ByteArray) (hx : xs.length ≤ 9223372036854775806) : Ev (fun k => slices_Equal_string_string.f k xs ys) (decide (xs = ys)) := by
 refine ⟨xs.length + 1, fun k hk => ?_⟩
 show slices_Equal_string_string.f k xs ys = _
 unfold slices_Equal_string_string.f
 by_cases hl : xs.length = ys.length
 ·rw [if_neg (by omega), eqLoop (f := slices_Equal_string_string.l1 xs ys) hl (by omega) (fun _ _ => rfl) (by omega)]
  by_cases e : xs = ys <;> simp [e]
 rw [if_pos (by omega)]
 have : xs ≠ ys := fun e => hl (by rw [e])
 simp [this]

theorem slices_Equal_int16_int16_ev (xs ys : List Int) (hx : xs.length ≤ 9223372036854775806) : Ev (fun k => slices_Equal_int16_int16.f k xs ys) (decide (xs = ys)) := by
 refine ⟨xs.length + 1, fun k hk => ?_⟩
 show slices_Equal_int16_int16.f k xs ys = _
 unfold slices_Equal_int16_int16.f
 by_cases hl : xs.length = ys.length
 ·rw [if_neg (by omega), eqLoop (f := slices_Equal_int16_int16.l1 xs ys) hl (by omega) (fun _ _ => rfl) (by omega)]
  by_cases e : xs = ys <;> simp [e]
 rw [if_pos (by omega)]
 have : xs ≠ ys := fun e => hl (by rw [e])
 simp [this]

theorem slices_Equal_uint16_uint16_ev (xs ys : List Int) (hx : xs.length ≤ 9223372036854775806) : Ev (fun k => slices_Equal_uint16_uint16.f k xs ys) (decide (xs = ys)) := by
 refine ⟨xs.length + 1, fun k hk => ?_⟩
 show slices_Equal_uint16_uint16.f k xs ys = _
 unfold slices_Equal_uint16_uint16.f
 by_cases hl : xs.length = ys.length
 ·rw [if_neg (by omega), eqLoop (f := slices_Equal_uint16_uint16.l1 xs ys) hl (by omega) (fun _ _ => rfl) (by omega)]
  by_cases e : xs = ys <;> simp [e]
 rw [if_pos (by omega)]
 have : xs ≠ ys := fun e => hl (by rw [e])
 simp [this]

end Go.Proofs.YtplfdbfdalaefaaGreatDoor
namespace Go.Proofs.YtplfdbfdalaefaaGreatDoor
open G
set_option linter.unusedVariables false
set_option linter.unusedSimpArgs false
def VHerd (x : Herd) : Prop := (∀ z ∈ x.Names, (fun s => s.size ≤ maxLen) z) ∧ x.Names.length ≤ 9223372036854775807 ∧ (∀ z ∈ x.Eats, (inI .i16) z) ∧ x.Eats.length ≤ 9223372036854775807 ∧ (∀ z ∈ x.Foes, (inI .u16) z) ∧ x.Foes.length ≤ 9223372036854775807

def smallH (h : Herd) : Prop := h.Names.length ≤ 1048576 ∧ h.Eats.length ≤ 1048576 ∧ h.Foes.length ≤ 1048576
end Go.Proofs.YtplfdbfdalaefaaGreatDoor
