
/-
  Plain laws: yards part the pasture: each cell lies in one of them, and the table tells its number.
-/
import Derived.Test.YtegibnmfiogebaaGreatQYe
import Derived.Test.YtegibnmfiogebaaGreatQDp
namespace Go.Proofs.YtegibnmfiogebaaGreat
open G
set_option linter.unusedVariables false
set_option linter.unusedSimpArgs false
def shutY (p : Pasture) (Y : List Spot) : Prop := ∀ y x y' x', y < 10 → x < 10 → sp x y ∈ Y → stepP p y x y' x' → sp x' y' ∈ Y
theorem yard2_ev {p : Pasture} (v : VPasture p) (hw : okW p = true) {x y : Nat} (hx : x < p.Wide.toNat) (hy : y < p.High.toNat) : ∃ Y : List Spot, isYard p Y ∧ shutY p Y ∧ sp x y ∈ Y ∧ (∀ T : Nat → Nat → Prop, closedT p T → T y x → ∀ b a, b < 10 → a < 10 → sp a b ∈ Y → T b a) ∧ Ev (fun k => spec_l01Yard.f k p (sp x y)) Y ∧ Ev (fun k => impl_Pasture_yard.f k p (sp x y)) Y := by
 obtain ⟨a, b⟩ := okW_iff.1 hw
 have hx10 : x < 10 := by omega
 have hy10 : y < 10 := by omega
 obtain ⟨m, n, h1, h2, h3⟩ := far_ev v hw hx10 hy10
 obtain ⟨m2, e1, e2, e3, e4⟩ := far2_ev v hw hx10 hy10
 obtain rfl := Ev.eq h2 e1
 have hc : ∀ k, 24 ≤ k → impl_Pasture_cells.f k p (impl_Pasture_yard_1.f m) = some (gridF (fun y x => decide (0 ≤ g2 m y x)) p.Wide.toNat 0 p.High.toNat) := fun k hk => cells_eq hw (fun y x hy hx => by
   have := h1 y x (by omega) (by omega)
   unfold impl_Pasture_yard_1.f impl_steps_at.f
   rw [getR m (show y < 10 by omega), Option.bind_some, getA _ (show x < 10 by omega), Option.bind_some]
   show some (decide (0 ≤ IntKind.i64.wrap (g2 m y x))) = _
   rw [w64 (by omega) (by omega)]) hk
 have hI : Ev (fun k => impl_Pasture_yard.f k p (sp x y)) (gridF (fun y x => decide (0 ≤ g2 m y x)) p.Wide.toNat 0 p.High.toNat) := h2.bind (Ev.bind ⟨24, hc⟩ (Ev.const rfl))
 obtain ⟨Y, y1, y2, y3⟩ := yard_ev v hw hx10 hy10
 obtain rfl := Ev.eq y3 hI
 have mem : ∀ b a, sp a b ∈ gridF (fun y x => decide (0 ≤ g2 m y x)) p.Wide.toNat 0 p.High.toNat ↔ b < p.High.toNat ∧ a < p.Wide.toNat ∧ 0 ≤ g2 m b a := fun b a => by
   rw [gridF_mem]
   constructor
   · rintro ⟨i, j, c1, c2, c3, c4, c5⟩
     obtain ⟨rfl, rfl⟩ := sp_inj' (x := a) (y := b) (x' := j) (y' := i) c5
     exact ⟨by omega, c3, of_decide_eq_true c4⟩
   · rintro ⟨c1, c2, c3⟩
     exact ⟨b, a, Nat.zero_le _, by omega, c2, decide_eq_true c3, rfl⟩
 refine ⟨_, y1, fun b' a' b2 a2 hb ha hm hs => ?_, (mem y x).2 ⟨hy, hx, e2⟩, fun T hT h0 b2 a2 hb ha hm => e4 T hT h0 b2 a2 hb ha ((mem b2 a2).1 hm).2.2, y2, y3⟩
 have hm := (mem b' a').1 hm
 have hg := e3 b' a' b2 a2 hb ha hm.2.2 hs
 obtain ⟨hb2, ha2, i, hi, ho, e⟩ := hs
 unfold openB at ho
 rw [Bool.and_eq_true, e] at ho
 have hcb := ho.1
 unfold cellB sp at hcb
 simp only [Bool.and_eq_true, decide_eq_true_eq] at hcb
 exact (mem b2 a2).2 ⟨by omega, by omega, hg⟩
theorem cellB_sp {p : Pasture} (hw : okW p = true) {x y : Nat} : cellB p (x : Int) (y : Int) = true ↔ x < p.Wide.toNat ∧ y < p.High.toNat := by
 obtain ⟨a, b⟩ := okW_iff.1 hw
 unfold cellB
 simp only [Bool.and_eq_true, decide_eq_true_eq]
 omega
/-- A yard from a cell that is in no part of what is shut shares no cell with it. -/
theorem apart {p : Pasture} (hw : okW p = true) {x y : Nat} (hx : x < p.Wide.toNat) (hy : y < p.High.toNat) {Y Z : List Spot} (hm : ∀ T : Nat → Nat → Prop, closedT p T → T y x → ∀ b a, b < 10 → a < 10 → sp a b ∈ Y → T b a) (hZ : shutY p Z) (h0 : sp x y ∉ Z) : ∀ b a, b < 10 → a < 10 → sp a b ∈ Y → sp a b ∉ Z := by
 intro b a hb ha hY
 refine (hm (fun b a => cellB p (a : Int) (b : Int) = true ∧ sp a b ∉ Z) (fun y1 x1 y2 x2 hy1 hx1 hT hs => ⟨?_, fun hz => ?_⟩) ⟨(cellB_sp hw).2 ⟨hx, hy⟩, h0⟩ b a hb ha hY).2
 ·obtain ⟨_, _, i, hi, ho, e⟩ := hs
  unfold openB at ho
  rw [Bool.and_eq_true, e] at ho
  exact ho.1
 exact hT.2 (hZ y2 x2 y1 x1 hs.1 hs.2.1 hz (step_back hw hy1 hx1 hT.1 hs))
structure Tell2 (p : Pasture) (tab : Tb) (met : List Spot) (ys : List (List Spot)) : Prop where
  tab_met : ∀ y x, y < 10 → x < 10 → (0 < g2 tab y x ↔ sp x y ∈ met)
  num : ∀ (n : Nat) (Y : List Spot), ys[n]? = some Y → ∀ y x, y < 10 → x < 10 → sp x y ∈ Y → g2 tab y x = ((n + 1 : Nat) : Int)
  met_in : ∀ s ∈ met, ∃ (n : Nat) (Y : List Spot), ys[n]? = some Y ∧ s ∈ Y
  in_met : ∀ Y ∈ ys, ∀ s ∈ Y, s ∈ met
  yard : ∀ Y ∈ ys, isYard p Y ∧ shutY p Y
end Go.Proofs.YtegibnmfiogebaaGreat
