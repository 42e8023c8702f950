/-
  Plain laws: how far cells lie: what is reached is the least set that is closed.
-/
import Derived.Test.YtklgpejnogkccaaGreatDoorQD4
namespace Go.Proofs.YtklgpejnogkccaaGreatDoor
open G
set_option linter.unusedVariables false
set_option linter.unusedSimpArgs false
/-- From row y, column x to a cell beside that is open. -/
def stepP (p : Pasture) (y x y' x' : Nat) : Prop := y' < 10 ∧ x' < 10 ∧ ∃ i : Nat, i < 4 ∧ openB p x y i = true ∧ nx (sp x y) (i : Int) = sp x' y'
def closedT (p : Pasture) (T : Nat → Nat → Prop) : Prop := ∀ y x y' x', y < 10 → x < 10 → T y x → stepP p y x y' x' → T y' x'
structure Kx (p : Pasture) (sy sx : Nat) (m n : Tb) (q : List Spot) : Prop where
  rl : Rl m n q
  inq : ∀ b a, b < 10 → a < 10 → 0 ≤ g2 m b a → sp a b ∈ q
  mkd : ∀ b a, b < 10 → a < 10 → sp a b ∈ q → 0 ≤ g2 m b a
  min : ∀ T : Nat → Nat → Prop, closedT p T → T sy sx → ∀ b a, b < 10 → a < 10 → 0 ≤ g2 m b a → T b a
theorem sp_inj' {x y x' y' : Nat} (h : sp x y = sp x' y') : x = x' ∧ y = y' := by
  unfold sp at h
  injection h with h1 h2
  exact ⟨by omega, by omega⟩
theorem Kx.put {p : Pasture} {sy sx : Nat} {m n : Tb} {q : List Spot} (h : Kx p sy sx m n q) {y x y' x' : Nat} (hy : y < 10) (hx : x < 10) (hm : 0 ≤ g2 m y x) (hs : stepP p y x y' x') (hg : g2 m y' x' < 0) : Kx p sy sx (put2 m y' x' (g2 m y x + 1)) (put2 n y' x' (g2 n y x + 1)) (q ++ [sp x' y']) := by
  obtain ⟨hy', hx', _⟩ := id hs
  refine ⟨h.rl.put hy hx hy' hx' hg, fun b a hb ha hp => ?_, fun b a hb ha hp => ?_, fun T hT h0 b a hb ha hp => ?_⟩
  · rw [g2_put m hy' hx'] at hp
    split at hp
    · rename_i e
      rw [← e.1, ← e.2]; simp
    · exact List.mem_append_left _ (h.inq b a hb ha hp)
  · rw [g2_put m hy' hx']
    split
    · omega
    · rename_i e
      rcases List.mem_append.1 hp with hp | hp
      · exact h.mkd b a hb ha hp
      · have := sp_inj' (List.mem_singleton.1 hp)
        exact absurd ⟨this.2.symm, this.1.symm⟩ e
  · rw [g2_put m hy' hx'] at hp
    split at hp
    · rename_i e
      rw [← e.1, ← e.2]
      exact hT y x y' x' hy hx (h.min T hT h0 y x hy hx hm) hs
    · exact h.min T hT h0 b a hb ha hp
/-! ### Back again -/
theorem step_back {p : Pasture} (hw : okW p = true) {y x y' x' : Nat} (hy : y < 10) (hx : x < 10) (hc : cellB p (x : Int) (y : Int) = true) (h : stepP p y x y' x') : stepP p y' x' y x := by
  obtain ⟨hy', hx', i, hi, ho, e⟩ := h
  have hc' := ho
  unfold openB at hc'
  rw [Bool.and_eq_true] at hc'
  obtain ⟨c1, c2⟩ := hc'
  have ex : nx (sp x y) (i : Int) = sp x' y' := e
  rcases side hi with rfl | rfl | rfl | rfl
  · have e2 : (sp x' y').Y = IntKind.i8.wrap ((y : Int) - 1) ∧ (sp x' y').X = (x : Int) := by rw [← ex]; exact ⟨rfl, rfl⟩
    rw [w8 (by omega) (by omega)] at e2
    have e3 : (y' : Int) = (y : Int) - 1 := e2.1
    have e4 : (x' : Int) = (x : Int) := e2.2
    obtain rfl : x' = x := by omega
    obtain rfl : y = y' + 1 := by omega
    have en : nx (sp x' y') ((2 : Nat) : Int) = sp x' (y' + 1) := by
      show (⟨(x' : Int), IntKind.i8.wrap ((y' : Int) + 1)⟩ : Spot) = _
      rw [w8 (by omega) (by omega)]; rfl
    refine ⟨hy, hx, 2, by omega, ?_, en⟩
    unfold openB
    rw [en, Bool.and_eq_true]
    exact ⟨hc, c2⟩
  · have e2 : (sp x' y').Y = (y : Int) ∧ (sp x' y').X = IntKind.i8.wrap ((x : Int) + 1) := by rw [← ex]; exact ⟨rfl, rfl⟩
    rw [w8 (by omega) (by omega)] at e2
    have e3 : (y' : Int) = (y : Int) := e2.1
    have e4 : (x' : Int) = (x : Int) + 1 := e2.2
    obtain rfl : y' = y := by omega
    obtain rfl : x' = x + 1 := by omega
    have en : nx (sp (x + 1) y') ((3 : Nat) : Int) = sp x y' := by
      show (⟨IntKind.i8.wrap (((x + 1 : Nat) : Int) - 1), (y' : Int)⟩ : Spot) = _
      rw [w8 (by omega) (by omega)]
      unfold sp
      congr 1
      omega
    refine ⟨hy, hx, 3, by omega, ?_, en⟩
    unfold openB
    rw [en, Bool.and_eq_true]
    exact ⟨hc, c2⟩
  · have e2 : (sp x' y').Y = IntKind.i8.wrap ((y : Int) + 1) ∧ (sp x' y').X = (x : Int) := by rw [← ex]; exact ⟨rfl, rfl⟩
    rw [w8 (by omega) (by omega)] at e2
    have e3 : (y' : Int) = (y : Int) + 1 := e2.1
    have e4 : (x' : Int) = (x : Int) := e2.2
    obtain rfl : x' = x := by omega
    obtain rfl : y' = y + 1 := by omega
    have en : nx (sp x' (y + 1)) ((0 : Nat) : Int) = sp x' y := by
      show (⟨(x' : Int), IntKind.i8.wrap (((y + 1 : Nat) : Int) - 1)⟩ : Spot) = _
      rw [w8 (by omega) (by omega)]
      unfold sp
      congr 1
      omega
    refine ⟨hy, hx, 0, by omega, ?_, en⟩
    unfold openB
    rw [en, Bool.and_eq_true]
    exact ⟨hc, c2⟩
  · have e2 : (sp x' y').Y = (y : Int) ∧ (sp x' y').X = IntKind.i8.wrap ((x : Int) - 1) := by rw [← ex]; exact ⟨rfl, rfl⟩
    rw [w8 (by omega) (by omega)] at e2
    have e3 : (y' : Int) = (y : Int) := e2.1
    have e4 : (x' : Int) = (x : Int) - 1 := e2.2
    obtain rfl : y' = y := by omega
    obtain rfl : x = x' + 1 := by omega
    have en : nx (sp x' y') ((1 : Nat) : Int) = sp (x' + 1) y' := by
      show (⟨IntKind.i8.wrap ((x' : Int) + 1), (y' : Int)⟩ : Spot) = _
      rw [w8 (by omega) (by omega)]; rfl
    refine ⟨hy, hx, 1, by omega, ?_, en⟩
    unfold openB
    rw [en, Bool.and_eq_true]
    exact ⟨hc, c2⟩
end Go.Proofs.YtklgpejnogkccaaGreatDoor
