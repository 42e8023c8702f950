
/-
  With enough fuel of two kinds.
-/
import Derived.Test.YtonpnkppaflcbaaGreatDoorQH
namespace Go.Proofs.YtonpnkppaflcbaaGreatDoor
open G
set_option linter.unusedVariables false
set_option linter.unusedSimpArgs false
variable {α β : Type}

/-! ### With enough fuel of two kinds -/
def Ev2 (f : Nat → Nat → Option α) (r : α) : Prop := ∃ K, ∀ s k, K ≤ s → K ≤ k → f s k = some r
theorem Ev2.of1 {f : Nat → Option α} {r : α} (h : Ev f r) : Ev2 (fun s _ => f s) r := by
  obtain ⟨K, h⟩ := h
  exact ⟨K, fun s k hs _ => h s hs⟩
theorem Ev2.of2 {f : Nat → Option α} {r : α} (h : Ev f r) : Ev2 (fun _ k => f k) r := by
  obtain ⟨K, h⟩ := h
  exact ⟨K, fun s k _ hk => h k hk⟩
theorem Ev2.const {x : Option α} {r : α} (h : x = some r) : Ev2 (fun _ _ => x) r := ⟨0, fun _ _ _ _ => h⟩
theorem Ev2.bind {f : Nat → Nat → Option α} {g : Nat → Nat → α → Option β} {a : α} {r : β} (h : Ev2 f a) (h2 : Ev2 (fun s k => g s k a) r) : Ev2 (fun s k => (f s k).bind (g s k)) r := by
  obtain ⟨K, h⟩ := h
  obtain ⟨K2, h2⟩ := h2
  refine ⟨K + K2, fun s k hs hk => ?_⟩
  show (f s k).bind (g s k) = some r
  rw [h s k (by omega) (by omega)]; exact h2 s k (by omega) (by omega)
theorem Ev2.step {l B : Nat → Nat → Option α} {r : α} (h : ∀ s k, l s (k + 1) = B s k) (hB : Ev2 B r) : Ev2 l r := by
  obtain ⟨K, hB⟩ := hB
  refine ⟨K + 1, fun s k hs hk => ?_⟩
  obtain ⟨k, rfl⟩ : ∃ j, k = j + 1 := ⟨k - 1, by omega⟩
  rw [h, hB s k (by omega) (by omega)]
theorem Ev2.congr {f g : Nat → Nat → Option α} {r : α} (h : Ev2 f r) (e : ∀ s k, g s k = f s k) : Ev2 g r := by
  obtain ⟨K, h⟩ := h
  exact ⟨K, fun s k hs hk => by rw [e, h s k hs hk]⟩
theorem Ev2.pos {c : Prop} [Decidable c] {f g : Nat → Nat → Option α} {r : α} (hc : c) (h : Ev2 f r) : Ev2 (fun s k => if c then f s k else g s k) r := h.congr fun _ _ => if_pos hc
theorem Ev2.neg {c : Prop} [Decidable c] {f g : Nat → Nat → Option α} {r : α} (hc : ¬ c) (h : Ev2 g r) : Ev2 (fun s k => if c then f s k else g s k) r := h.congr fun _ _ => if_neg hc
theorem Ev2.diag {f : Nat → Nat → Option α} {r : α} (h : Ev2 f r) : Ev (fun k => f k k) r := by
  obtain ⟨K, h⟩ := h
  exact ⟨K, fun k hk => h k k hk hk⟩
end Go.Proofs.YtonpnkppaflcbaaGreatDoor
