import Derived.Test.YtklgpejnogkccaaGreatDoorQD4
import Derived.Test.YtklgpejnogkccaaGreatDoorQC
/-
  Plain laws: yards: both programs find the same ones.
-/
namespace Go.Proofs.YtklgpejnogkccaaGreatDoor
open G
set_option linter.unusedVariables false
set_option linter.unusedSimpArgs false
/-! ### All cells -/
/-! ### One yard -/
theorem gridF_congr {q q' : Nat → Nat → Bool} {W : Nat} : ∀ (n y : Nat), (∀ i j, y ≤ i → i < y + n → j < W → q i j = q' i j) → gridF q W y n = gridF q' W y n
  | 0, y, _ => rfl
  | n + 1, y, h => by
    have hrow : ∀ (m x : Nat), x + m ≤ W → rowF (q y) y x m = rowF (q' y) y x m := by
      intro m
      induction m with
      | zero => intro x _; rfl
      | succ m ih => intro x hx; rw [rowF, rowF, ih (x + 1) (by omega), h y x (Nat.le_refl _) (by omega) (by omega)]
    rw [gridF, gridF, hrow W 0 (by omega), gridF_congr n (y + 1) fun i j h1 h2 h3 => h i j (by omega) (by omega) h3]
/-- A yard as both find it: cells of the pasture. -/
def isYard (p : Pasture) (Y : List Spot) : Prop := ∃ q : Nat → Nat → Bool, Y = gridF q p.Wide.toNat 0 p.High.toNat
/-! ### All yards -/
end Go.Proofs.YtklgpejnogkccaaGreatDoor
/-
  Plain laws: whether cells lie in a pasture: the codes.
-/
namespace Go.Proofs.YtklgpejnogkccaaGreatDoor
open G
set_option linter.unusedVariables false
set_option linter.unusedSimpArgs false
def okC (p : Pasture) (xs : List Spot) : Bool := xs.all fun s => cellB p s.X s.Y
def cCode (p : Pasture) (xs : List Spot) : Int := if vP p = false then 1 else if okC p xs = true then 0 else 2
theorem idx_loop {p : Pasture} (v : VPasture p) (hw : okW p = true) (xs : List Spot) (hv : ∀ s ∈ xs, VSpot s) (hx : xs.length ≤ 1048576) : ∀ i, i ≤ xs.length → ∃ r : Int ⊕ Unit, Ev (fun k => slices_IndexFunc_impl_Spot_impl_Spot.l1 xs (impl_cellCode_1.f p) k (i : Int)) r ∧ ((okC p (xs.drop i) = true ∧ r = .inr ()) ∨ (okC p (xs.drop i) = false ∧ ∃ j : Nat, r = .inl (j : Int))) := by
  refine upL ?_ ?_
  · rw [List.drop_length]
    exact ⟨.inr (), Ev.step (fun k => slices_IndexFunc_impl_Spot_impl_Spot.l1.eq_2 _ _ _ _) (Ev.neg (by omega) (Ev.const rfl)), .inl ⟨rfl, rfl⟩⟩
  · intro i hi ih
    obtain ⟨r, h1, h2⟩ := ih
    rw [← wsucc hi (by omega)] at h1
    have hs : impl_cellCode_1.f p xs[i] = some (!cellB p xs[i].X xs[i].Y) := by
      unfold impl_cellCode_1.f
      rw [isCell_eq v hw xs[i] (hv _ (List.getElem_mem hi))]; rfl
    rw [List.drop_eq_getElem_cons hi]
    unfold okC at h2 ⊢
    rw [List.all_cons]
    cases h : cellB p xs[i].X xs[i].Y
    · rw [h] at hs
      exact ⟨.inl (i : Int), Ev.step (fun k => slices_IndexFunc_impl_Spot_impl_Spot.l1.eq_2 _ _ _ _) (Ev.pos (by omega) (Ev.bind (Ev.const (getI_nat hi)) (Ev.bind (Ev.const hs) (Ev.pos rfl (Ev.const rfl))))), .inr ⟨rfl, i, rfl⟩⟩
    · rw [h] at hs
      exact ⟨r, Ev.step (fun k => slices_IndexFunc_impl_Spot_impl_Spot.l1.eq_2 _ _ _ _) (Ev.pos (by omega) (Ev.bind (Ev.const (getI_nat hi)) (Ev.bind (Ev.const hs) (Ev.neg (by simp) h1)))), by simpa using h2⟩
theorem cellCode_ev {p : Pasture} (v : VPasture p) (xs : List Spot) (hv : ∀ s ∈ xs, VSpot s) (hx : xs.length ≤ 1048576) : Ev (fun k => impl_cellCode.f k p xs) (cCode p xs) := by
  unfold cCode
  refine (implOk_ev v).bind ?_
  cases hp : vP p
  · exact Ev.pos rfl (Ev.const rfl)
  · refine Ev.neg (by simp) ?_
    obtain ⟨r, h1, h2⟩ := idx_loop v (vP_okW hp) xs hv hx 0 (Nat.zero_le _)
    rw [List.drop_zero] at h2
    rcases h2 with ⟨a, rfl⟩ | ⟨a, j, rfl⟩
    · rw [a]
      exact Ev.bind (Ev.bind (Ev.bind h1 (Ev.const rfl)) (Ev.const rfl)) (Ev.bind (Ev.const (unless_eq _ _)) (Ev.const rfl))
    · rw [a]
      refine Ev.bind (a := true) (Ev.bind (Ev.bind h1 (Ev.const rfl)) (Ev.const ?_)) (Ev.bind (Ev.const (unless_eq _ _)) (Ev.const rfl))
      rw [decide_eq_true (by omega)]
end Go.Proofs.YtklgpejnogkccaaGreatDoor
