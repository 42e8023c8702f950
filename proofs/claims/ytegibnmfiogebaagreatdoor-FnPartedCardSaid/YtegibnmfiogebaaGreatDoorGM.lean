/-
  Plain laws on loops that plain functions run: no program in sight.
-/
import Derived.Test.YtegibnmfiogebaaGreatDoorGH
namespace Go.Proofs.YtegibnmfiogebaaGreatDoor
namespace G
set_option linter.unusedVariables false
set_option linter.unusedSimpArgs false
variable {α β γ δ : Type}

theorem w64 {x : Int} (h : -9223372036854775808 ≤ x) (h' : x ≤ 9223372036854775807) : IntKind.i64.wrap x = x := by
 have : IntKind.i64.wrap x = (x + 9223372036854775808) % 18446744073709551616 - 9223372036854775808 := by
   simp [IntKind.wrap, IntKind.bits, IntKind.signed]
   omega
 rw [this]; omega
theorem w16 {x : Int} (h : -32768 ≤ x) (h' : x ≤ 32767) : IntKind.i16.wrap x = x := by
 have : IntKind.i16.wrap x = (x + 32768) % 65536 - 32768 := by
   simp [IntKind.wrap, IntKind.bits, IntKind.signed]
   omega
 rw [this]; omega
theorem w8 {x : Int} (h : -128 ≤ x) (h' : x ≤ 127) : IntKind.i8.wrap x = x := by
 have : IntKind.i8.wrap x = (x + 128) % 256 - 128 := by
   simp [IntKind.wrap, IntKind.bits, IntKind.signed]
   omega
 rw [this]; omega
theorem wu16 {x : Int} (h : 0 ≤ x) (h' : x ≤ 65535) : IntKind.u16.wrap x = x := by
 have : IntKind.u16.wrap x = x % 65536 := by simp [IntKind.wrap, IntKind.bits, IntKind.signed]
 rw [this]; omega
theorem wsucc {i n : Nat} (h : i < n) (hn : n ≤ 9223372036854775807) : IntKind.i64.wrap ((i : Int) + 1) = ((i + 1 : Nat) : Int) := by
 rw [w64 (by omega) (by omega)]; omega

theorem getI_nat {xs : List α} {i : Nat} (h : i < xs.length) : getI xs (i : Int) = some xs[i] := by
 unfold getI
 rw [if_pos (by omega), Int.toNat_natCast, List.getElem?_eq_getElem h]
theorem chk_t {c : Prop} [Decidable c] (h : c) : chk c = some () := by unfold chk; rw [if_pos h]

def Ev (f : Nat → Option α) (r : α) : Prop := ∃ K, ∀ k, K ≤ k → f k = some r
theorem Ev.const {x : Option α} {r : α} (h : x = some r) : Ev (fun _ => x) r := ⟨0, fun _ _ => h⟩
theorem Ev.bind {f : Nat → Option α} {g : Nat → α → Option β} {a : α} {r : β} (h : Ev f a) (h2 : Ev (fun k => g k a) r) : Ev (fun k => (f k).bind (g k)) r := by
 obtain ⟨K, h⟩ := h
 obtain ⟨K2, h2⟩ := h2
 refine ⟨K + K2, fun k hk => ?_⟩
 have e1 := h k (by omega)
 have e2 := h2 k (by omega)
 show (f k).bind (g k) = some r
 rw [e1]; exact e2
theorem Ev.step {l B : Nat → Option α} {r : α} (h : ∀ k, l (k + 1) = B k) (hB : Ev B r) : Ev l r := by
 obtain ⟨K, hB⟩ := hB
 refine ⟨K + 1, fun k hk => ?_⟩
 obtain ⟨k, rfl⟩ : ∃ j, k = j + 1 := ⟨k - 1, by omega⟩
 rw [h, hB k (by omega)]
theorem Ev.congr {f g : Nat → Option α} {r : α} (h : Ev f r) (e : ∀ k, g k = f k) : Ev g r := by
 obtain ⟨K, h⟩ := h
 exact ⟨K, fun k hk => by rw [e, h k hk]⟩
theorem Ev.pos {c : Prop} [Decidable c] {f g : Nat → Option α} {r : α} (hc : c) (h : Ev f r) : Ev (fun k => if c then f k else g k) r := h.congr fun k => if_pos hc
theorem Ev.neg {c : Prop} [Decidable c] {f g : Nat → Option α} {r : α} (hc : ¬ c) (h : Ev g r) : Ev (fun k => if c then f k else g k) r := h.congr fun k => if_neg hc
theorem Ev.of {f : Nat → Option α} {r : α} (K : Nat) (h : ∀ k, K ≤ k → f k = some r) : Ev f r := ⟨K, h⟩
theorem Ev.and {f : Nat → Option α} {g : Nat → Option β} {r : α} {s : β} (h : Ev f r) (h' : Ev g s) : ∃ K, ∀ k, K ≤ k → f k = some r ∧ g k = some s := by
 obtain ⟨K, h⟩ := h
 obtain ⟨K', h'⟩ := h'
 exact ⟨K + K', fun k hk => ⟨h k (by omega), h' k (by omega)⟩⟩
theorem Ev.get {f : Nat → Option α} {r : α} (h : Ev f r) : ∃ k, f k = some r := by
 obtain ⟨K, h⟩ := h
 exact ⟨K, h K (Nat.le_refl _)⟩
theorem Ev.eq {f : Nat → Option α} {r s : α} (h : Ev f r) (h' : Ev f s) : r = s := by
 obtain ⟨K, h⟩ := h.and h'
 have := h K (Nat.le_refl _)
 exact Option.some.inj (this.1.symm.trans this.2)
theorem Ev.use {f : Nat → Option α} {a : α} (hf : Ev f a) {g h : Nat → Option β} {r : β} (he : ∀ k, f k = some a → g k = h k) (hh : Ev h r) : Ev g r := by
 obtain ⟨K, hf⟩ := hf
 obtain ⟨K', hh⟩ := hh
 exact ⟨K + K', fun k hk => by rw [he k (hf k (by omega)), hh k (by omega)]⟩
theorem Ev.done {f : Nat → Option α} {a : α} (hf : Ev f a) {g : Nat → Option β} {r : β} (he : ∀ k, f k = some a → g k = some r) : Ev g r := hf.use he (Ev.const rfl)
theorem upL {n : Nat} {P : Nat → Prop} (h0 : P n) (hs : ∀ i, i < n → P (i + 1) → P i) : ∀ i, i ≤ n → P i := by
  intro i hi
  obtain ⟨d, hd⟩ : ∃ d, i + d = n := ⟨n - i, by omega⟩
  induction d generalizing i with
  | zero => obtain rfl : i = n := by omega
            exact h0
  | succ d ih => exact hs i (by omega) (ih (i + 1) (by omega) (by omega))

end G
end Go.Proofs.YtegibnmfiogebaaGreatDoor
