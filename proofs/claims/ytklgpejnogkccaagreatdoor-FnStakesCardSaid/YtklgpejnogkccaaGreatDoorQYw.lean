
/-
  Plain laws: yards part the pasture: each cell lies in one of them, and the table tells its number.
-/
import Derived.Test.YtklgpejnogkccaaGreatDoorQYe
import Derived.Test.YtklgpejnogkccaaGreatDoorQDp
namespace Go.Proofs.YtklgpejnogkccaaGreatDoor
open G
set_option linter.unusedVariables false
set_option linter.unusedSimpArgs false
def shutY (p : Pasture) (Y : List Spot) : Prop := ∀ y x y' x', y < 10 → x < 10 → sp x y ∈ Y → stepP p y x y' x' → sp x' y' ∈ Y
theorem cellB_sp {p : Pasture} (hw : okW p = true) {x y : Nat} : cellB p (x : Int) (y : Int) = true ↔ x < p.Wide.toNat ∧ y < p.High.toNat := by
  obtain ⟨a, b⟩ := okW_iff.1 hw
  unfold cellB
  simp only [Bool.and_eq_true, decide_eq_true_eq]
  omega
/-- A yard from a cell that is in no part of what is shut shares no cell with it. -/
theorem apart {p : Pasture} (hw : okW p = true) {x y : Nat} (hx : x < p.Wide.toNat) (hy : y < p.High.toNat) {Y Z : List Spot} (hm : ∀ T : Nat → Nat → Prop, closedT p T → T y x → ∀ b a, b < 10 → a < 10 → sp a b ∈ Y → T b a) (hZ : shutY p Z) (h0 : sp x y ∉ Z) : ∀ b a, b < 10 → a < 10 → sp a b ∈ Y → sp a b ∉ Z := by
  intro b a hb ha hY
  refine (hm (fun b a => cellB p (a : Int) (b : Int) = true ∧ sp a b ∉ Z) (fun y1 x1 y2 x2 hy1 hx1 hT hs => ⟨?_, fun hz => ?_⟩) ⟨(cellB_sp hw).2 ⟨hx, hy⟩, h0⟩ b a hb ha hY).2
  · obtain ⟨_, _, i, hi, ho, e⟩ := hs
    unfold openB at ho
    rw [Bool.and_eq_true, e] at ho
    exact ho.1
  · exact hT.2 (hZ y2 x2 y1 x1 hs.1 hs.2.1 hz (step_back hw hy1 hx1 hT.1 hs))
structure Tell2 (p : Pasture) (tab : Tb) (met : List Spot) (ys : List (List Spot)) : Prop where
  tab_met : ∀ y x, y < 10 → x < 10 → (0 < g2 tab y x ↔ sp x y ∈ met)
  num : ∀ (n : Nat) (Y : List Spot), ys[n]? = some Y → ∀ y x, y < 10 → x < 10 → sp x y ∈ Y → g2 tab y x = ((n + 1 : Nat) : Int)
  met_in : ∀ s ∈ met, ∃ (n : Nat) (Y : List Spot), ys[n]? = some Y ∧ s ∈ Y
  in_met : ∀ Y ∈ ys, ∀ s ∈ Y, s ∈ met
  yard : ∀ Y ∈ ys, isYard p Y ∧ shutY p Y
end Go.Proofs.YtklgpejnogkccaaGreatDoor
