/-
  Plain laws: what the laws' own helpers come to (copies, comparisons, marks), type by type.
-/
import Derived.Test.YtimpcenflahchaaGO
namespace Go.Proofs.Ytimpcenflahchaa
open G
set_option linter.unusedVariables false
set_option linter.unusedSimpArgs false

theorem laws_szInt16S_eq (xs : List Int) (b : Int) (h0 : 0 ≤ b) (h1 : b ≤ 1048576) (hx : xs.length ≤ 9223372036854775807) : laws_szInt16S.f xs b = some (if b < (xs.length : Int) then -1 else b - xs.length) := by
  unfold laws_szInt16S.f
  rw [w64 (by omega) (by omega)]
  by_cases h : b < (xs.length : Int)
  · rw [if_pos (by omega), if_pos h]
  · rw [if_neg (by omega), if_neg h]

theorem laws_szUint16S_eq (xs : List Int) (b : Int) (h0 : 0 ≤ b) (h1 : b ≤ 1048576) (hx : xs.length ≤ 9223372036854775807) : laws_szUint16S.f xs b = some (if b < (xs.length : Int) then -1 else b - xs.length) := by
  unfold laws_szUint16S.f
  rw [w64 (by omega) (by omega)]
  by_cases h : b < (xs.length : Int)
  · rw [if_pos (by omega), if_pos h]
  · rw [if_neg (by omega), if_neg h]

theorem laws_toStringS_ev (xs : List ByteArray) (hx : xs.length ≤ 1048576) : Ev (fun k => laws_toStringS.f k xs) xs := by
  refine ⟨xs.length + 1, fun k hk => ?_⟩
  show laws_toStringS.f k xs = _
  unfold laws_toStringS.f
  rw [chk_t (by omega), Option.bind_some, copyL0 (f := laws_toStringS.l1 xs) (g := fun x => some x) (h := id) (fun x _ => rfl) (by omega) (fun _ _ _ => rfl) (by omega)]
  simp

theorem laws_toInt16S_ev (xs : List Int) (hx : xs.length ≤ 1048576) : Ev (fun k => laws_toInt16S.f k xs) xs := by
  refine ⟨xs.length + 1, fun k hk => ?_⟩
  show laws_toInt16S.f k xs = _
  unfold laws_toInt16S.f
  rw [chk_t (by omega), Option.bind_some, copyL0 (f := laws_toInt16S.l1 xs) (g := fun x => some x) (h := id) (fun x _ => rfl) (by omega) (fun _ _ _ => rfl) (by omega)]
  simp

theorem laws_toUint16S_ev (xs : List Int) (hx : xs.length ≤ 1048576) : Ev (fun k => laws_toUint16S.f k xs) xs := by
  refine ⟨xs.length + 1, fun k hk => ?_⟩
  show laws_toUint16S.f k xs = _
  unfold laws_toUint16S.f
  rw [chk_t (by omega), Option.bind_some, copyL0 (f := laws_toUint16S.l1 xs) (g := fun x => some x) (h := id) (fun x _ => rfl) (by omega) (fun _ _ _ => rfl) (by omega)]
  simp

theorem slices_Equal_string_string_ev (xs ys : List ByteArray) (hx : xs.length ≤ 9223372036854775806) : Ev (fun k => slices_Equal_string_string.f k xs ys) (decide (xs = ys)) := by
  refine ⟨xs.length + 1, fun k hk => ?_⟩
  show slices_Equal_string_string.f k xs ys = _
  unfold slices_Equal_string_string.f
  by_cases hl : xs.length = ys.length
  · rw [if_neg (by omega), eqLoop (f := slices_Equal_string_string.l1 xs ys) hl (by omega) (fun _ _ => rfl) (by omega)]
    by_cases e : xs = ys <;> simp [e]
  · rw [if_pos (by omega)]
    have : xs ≠ ys := fun e => hl (by rw [e])
    simp [this]

theorem slices_Equal_int16_int16_ev (xs ys : List Int) (hx : xs.length ≤ 9223372036854775806) : Ev (fun k => slices_Equal_int16_int16.f k xs ys) (decide (xs = ys)) := by
  refine ⟨xs.length + 1, fun k hk => ?_⟩
  show slices_Equal_int16_int16.f k xs ys = _
  unfold slices_Equal_int16_int16.f
  by_cases hl : xs.length = ys.length
  · rw [if_neg (by omega), eqLoop (f := slices_Equal_int16_int16.l1 xs ys) hl (by omega) (fun _ _ => rfl) (by omega)]
    by_cases e : xs = ys <;> simp [e]
  · rw [if_pos (by omega)]
    have : xs ≠ ys := fun e => hl (by rw [e])
    simp [this]

theorem slices_Equal_uint16_uint16_ev (xs ys : List Int) (hx : xs.length ≤ 9223372036854775806) : Ev (fun k => slices_Equal_uint16_uint16.f k xs ys) (decide (xs = ys)) := by
  refine ⟨xs.length + 1, fun k hk => ?_⟩
  show slices_Equal_uint16_uint16.f k xs ys = _
  unfold slices_Equal_uint16_uint16.f
  by_cases hl : xs.length = ys.length
  · rw [if_neg (by omega), eqLoop (f := slices_Equal_uint16_uint16.l1 xs ys) hl (by omega) (fun _ _ => rfl) (by omega)]
    by_cases e : xs = ys <;> simp [e]
  · rw [if_pos (by omega)]
    have : xs ≠ ys := fun e => hl (by rw [e])
    simp [this]

theorem laws_eqStringS_ev (xs ys : List ByteArray) (hx : xs.length ≤ 9223372036854775806) : Ev (fun k => laws_eqStringS.f k xs ys) (decide (xs = ys)) := by
  refine ⟨xs.length + 1, fun k hk => ?_⟩
  show laws_eqStringS.f k xs ys = _
  unfold laws_eqStringS.f
  by_cases hl : xs.length = ys.length
  · rw [if_neg (by omega), eqLoop (f := laws_eqStringS.l1 xs ys) hl (by omega) (fun _ _ => rfl) (by omega)]
    by_cases e : xs = ys <;> simp [e]
  · rw [if_pos (by omega)]
    have : xs ≠ ys := fun e => hl (by rw [e])
    simp [this]

theorem laws_eqInt16S_ev (xs ys : List Int) (hx : xs.length ≤ 9223372036854775806) : Ev (fun k => laws_eqInt16S.f k xs ys) (decide (xs = ys)) := by
  refine ⟨xs.length + 1, fun k hk => ?_⟩
  show laws_eqInt16S.f k xs ys = _
  unfold laws_eqInt16S.f
  by_cases hl : xs.length = ys.length
  · rw [if_neg (by omega), eqLoop (f := laws_eqInt16S.l1 xs ys) hl (by omega) (fun _ _ => rfl) (by omega)]
    by_cases e : xs = ys <;> simp [e]
  · rw [if_pos (by omega)]
    have : xs ≠ ys := fun e => hl (by rw [e])
    simp [this]

theorem laws_eqUint16S_ev (xs ys : List Int) (hx : xs.length ≤ 9223372036854775806) : Ev (fun k => laws_eqUint16S.f k xs ys) (decide (xs = ys)) := by
  refine ⟨xs.length + 1, fun k hk => ?_⟩
  show laws_eqUint16S.f k xs ys = _
  unfold laws_eqUint16S.f
  by_cases hl : xs.length = ys.length
  · rw [if_neg (by omega), eqLoop (f := laws_eqUint16S.l1 xs ys) hl (by omega) (fun _ _ => rfl) (by omega)]
    by_cases e : xs = ys <;> simp [e]
  · rw [if_pos (by omega)]
    have : xs ≠ ys := fun e => hl (by rw [e])
    simp [this]

end Go.Proofs.Ytimpcenflahchaa
