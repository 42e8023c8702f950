/-
  The library's slices.Grow of a nil slice: by the shelf's contract: a new row in which nothing is told yet.
-/
import Derived.Test.YtegibnmfiogebaaGreatDoorGN
import Derived.Test.YtegibnmfiogebaaGreatDoorGS
namespace Go.Proofs.YtegibnmfiogebaaGreatDoor
namespace G
set_option linter.unusedVariables false
set_option linter.unusedSimpArgs false
variable {P : Program}
theorem grow_cv {α : Type} {C : Cd α} {f : FuncId} {T sz by_ : Nat} {z : Value} (w : World) {n : Int} (h : 0 ≤ n ∧ n ≤ 4294967296) (hC : C.sz = sz) (hz : z.cells.size = sz) (hb : Nat.ble by_ 32768 = true)
 (hR : ∀ w, Calls P f #[.slice none 0 0, .int .i64 ((0 : Nat) : Int)] w fun e w' => e = .returned (.slice none 0 0) ∧ w' = w)
 (hG : ∀ (n : Nat) (w : World), 0 < 0 + n → (0 + n) * by_ ≤ 140737488355328 → 0 + n ≤ 4611686018427387904 → Calls P f #[.slice none 0 0, .int .i64 (n : Int)] w fun e w' =>
 e = .returned (.slice (some ⟨w.heap.size, 0, none⟩) 0 (grownCap w (0 + n) 0 T)) ∧ w' = w.drew.alloc (.cells (([] : List Value).toArray ++ Builtin.zeroCells z.cells (0 + n - 0) ++ Builtin.zeroCells z.cells (grownCap w (0 + n) 0 T - (0 + n))) T)) :
 CV P f [.slice none 0 0, .int .i64 n].toArray w fun v w' => ∃ (A0 : Option Addr) (c0 : Nat), v = .slice A0 ([] : List α).length c0 ∧ St w no w' [rowC C A0 c0 T ([] : List α)] [] := by
  obtain ⟨m, rfl⟩ := Int.eq_ofNat_of_zero_le h.1
  have hb := Nat.le_of_ble_eq_true hb
  cases m with
  | zero =>
    refine Calls.mono (hR w) fun e w' ⟨he, hw⟩ => ⟨_, he, none, 0, rfl, ?_⟩
    subst hw
    exact (St.init w' no).add (Chg.refl _ _) _ (show RowAt _ _ _ _ _ _ _ from ⟨by simp [flat], Nat.le_refl _, by omega, .inl rfl⟩) (fun b hb => by have := hb.1; omega)
  | succ m =>
    have hm : (0 + (m + 1)) * by_ ≤ 4294967296 * 32768 := Nat.mul_le_mul (by omega) hb
    refine Calls.mono (hG (m + 1) w (by omega) (by omega) (by omega)) fun e w' ⟨he, hw⟩ => ⟨_, he, _, _, rfl, ?_⟩
    subst hw
    have h1 := grownCap_ge w (0 + (m + 1)) 0 T
    have h2 : grownCap w (0 + (m + 1)) 0 T ≤ 9223372036854775807 := by
      have := grownCap_le_maxLen w (0 + (m + 1)) 0 T (by simp only [maxLen]; omega)
      simpa [maxLen] using this
    refine (St.init w no).add ((Chg.drew _ w).trans (Chg.alloc _ _ _)) _ (show RowAt _ _ _ _ _ _ _ from ⟨by simp [flat], Nat.zero_le _, h2, .inr ⟨w.heap.size, _, rfl, heap_alloc_new w.drew _, ?_, by simp [flat]⟩⟩) (fun b hb => ?_)
    · rw [Array.size_append, Array.size_append, size_zeroCells, size_zeroCells, hz, hC]
      simp only [List.size_toArray, List.length_nil, Nat.zero_add, Nat.sub_zero]
      rw [← Nat.add_mul]
      congr 1
      rw [Nat.zero_add] at h1
      omega
    · have := hb.2
      simp at this
      omega
end G
end Go.Proofs.YtegibnmfiogebaaGreatDoor
