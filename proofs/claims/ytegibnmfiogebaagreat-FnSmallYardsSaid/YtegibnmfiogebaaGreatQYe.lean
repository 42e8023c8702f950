import Derived.Test.YtegibnmfiogebaaGreatQD4
import Derived.Test.YtegibnmfiogebaaGreatQC
/-
  Plain laws: yards: both programs find the same ones.
-/
namespace Go.Proofs.YtegibnmfiogebaaGreat
open G
set_option linter.unusedVariables false
set_option linter.unusedSimpArgs false
/-! ### All cells -/
/-! ### One yard -/
theorem specYard_row {p : Pasture} {W : Nat} (hW : p.Wide = (W : Int)) (hW' : W ≤ 10) (n : Tb) {y : Nat} (hy : y < 10) : ∀ x, x ≤ W → ∀ acc : List Spot, acc.length + (W - x) ≤ 4000 → Ev (fun k => spec_l01Yard.l2 p n (y : Int) k acc (x : Int)) (acc ++ rowF (fun x => decide (0 < g2 n y x)) y x (W - x)) := by
 refine upL ?_ ?_
 ·intro acc ha
  rw [Nat.sub_self]
  exact Ev.step (fun k => spec_l01Yard.l2.eq_2 _ _ _ _ _ _) (Ev.neg (by omega) (Ev.const (by simp [rowF])))
 intro x hx ih acc ha
 have e : IntKind.i8.wrap ((x : Int) + 1) = ((x + 1 : Nat) : Int) := by rw [w8 (by omega) (by omega)]; omega
 refine Ev.step (fun k => spec_l01Yard.l2.eq_2 _ _ _ _ _ _) (Ev.pos (by omega) (Ev.bind (Ev.const (getR n hy)) (Ev.bind (Ev.const (getA _ (by omega))) ?_)))
 rw [show W - x = (W - (x + 1)) + 1 by omega, rowF, e]
 by_cases h : 0 < g2 n y x
 ·refine Ev.pos h (Ev.bind (Ev.const (chk_t (by simp; omega))) ?_)
  rw [if_pos (decide_eq_true h), ← List.append_assoc]
  exact ih _ (by simp; omega)
 rw [if_neg (by simp [h]), List.nil_append]
 exact Ev.neg h (ih acc (by omega))
theorem specYard_grid {p : Pasture} {W H : Nat} (hW : p.Wide = (W : Int)) (hW' : W ≤ 10) (hH : p.High = (H : Int)) (hH' : H ≤ 10) (n : Tb) : ∀ y, y ≤ H → ∀ acc : List Spot, acc.length + (H - y) * 10 ≤ 3000 → Ev (fun k => spec_l01Yard.l1 p n k acc (y : Int)) (acc ++ gridF (fun y x => decide (0 < g2 n y x)) W y (H - y)) := by
 refine upL ?_ ?_
 ·intro acc ha
  rw [Nat.sub_self]
  exact Ev.step (fun k => spec_l01Yard.l1.eq_2 _ _ _ _ _) (Ev.neg (by omega) (Ev.const (by simp [gridF])))
 intro y hy ih acc ha
 have e : IntKind.i8.wrap ((y : Int) + 1) = ((y + 1 : Nat) : Int) := by rw [w8 (by omega) (by omega)]; omega
 have hr := specYard_row hW hW' n (show y < 10 by omega) 0 (Nat.zero_le _) acc (by omega)
 rw [Nat.sub_zero] at hr
 have hl := rowF_len (fun x => decide (0 < g2 n y x)) y W 0
 refine Ev.step (fun k => spec_l01Yard.l1.eq_2 _ _ _ _ _) (Ev.pos (by omega) (Ev.bind (Ev.bind hr (Ev.const rfl)) ?_))
 rw [show H - y = (H - (y + 1)) + 1 by omega, gridF, e, ← List.append_assoc]
 exact ih _ (by rw [List.length_append]; omega)
theorem gridF_congr {q q' : Nat → Nat → Bool} {W : Nat} : ∀ (n y : Nat), (∀ i j, y ≤ i → i < y + n → j < W → q i j = q' i j) → gridF q W y n = gridF q' W y n
  | 0, y, _ => rfl
  | n + 1, y, h => by
    have hrow : ∀ (m x : Nat), x + m ≤ W → rowF (q y) y x m = rowF (q' y) y x m := by
      intro m
      induction m with
      | zero => intro x _; rfl
      | succ m ih => intro x hx; rw [rowF, rowF, ih (x + 1) (by omega), h y x (Nat.le_refl _) (by omega) (by omega)]
    rw [gridF, gridF, hrow W 0 (by omega), gridF_congr n (y + 1) fun i j h1 h2 h3 => h i j (by omega) (by omega) h3]
/-- A yard as both find it: cells of the pasture. -/
def isYard (p : Pasture) (Y : List Spot) : Prop := ∃ q : Nat → Nat → Bool, Y = gridF q p.Wide.toNat 0 p.High.toNat
theorem isYard_len {p : Pasture} (hw : okW p = true) {Y : List Spot} (h : isYard p Y) : Y.length ≤ 100 := by
 obtain ⟨q, rfl⟩ := h
 obtain ⟨a, b⟩ := okW_iff.1 hw
 have h1 := gridF_len q p.Wide.toNat p.High.toNat 0
 have h2 : p.High.toNat * p.Wide.toNat ≤ 10 * 10 := Nat.mul_le_mul (by omega) (by omega)
 omega
theorem isYard_mem {p : Pasture} {Y : List Spot} (h : isYard p Y) {s : Spot} (hs : s ∈ Y) : ∃ x y : Nat, x < p.Wide.toNat ∧ y < p.High.toNat ∧ s = sp x y := by
 obtain ⟨q, rfl⟩ := h
 obtain ⟨i, j, h1, h2, h3, h4, rfl⟩ := gridF_mem.1 hs
 exact ⟨j, i, h3, by omega, rfl⟩
theorem yard_ev {p : Pasture} (v : VPasture p) (hw : okW p = true) {x y : Nat} (hx : x < 10) (hy : y < 10) : ∃ Y : List Spot, isYard p Y ∧ Ev (fun k => spec_l01Yard.f k p (sp x y)) Y ∧ Ev (fun k => impl_Pasture_yard.f k p (sp x y)) Y := by
 obtain ⟨a, b⟩ := okW_iff.1 hw
 obtain ⟨m, n, h1, h2, h3⟩ := far_ev v hw hx hy
 refine ⟨gridF (fun y x => decide (0 ≤ g2 m y x)) p.Wide.toNat 0 p.High.toNat, ⟨_, rfl⟩, ?_, ?_⟩
 ·have hg := specYard_grid (p := p) (W := p.Wide.toNat) (H := p.High.toNat) (by omega) (by omega) (by omega) (by omega) n 0 (Nat.zero_le _) [] (by simp; omega)
  rw [Nat.sub_zero, List.nil_append] at hg
  rw [gridF_congr (q' := fun y x => decide (0 < g2 n y x)) _ _ fun i j h4 h5 h6 => by
    have := h1 i j (by omega) (by omega)
    show decide _ = decide _
    congr 1
    simp only [eq_iff_iff]; omega]
  exact h3.bind (Ev.bind hg (Ev.const rfl))
 have hc : ∀ k, 24 ≤ k → impl_Pasture_cells.f k p (impl_Pasture_yard_1.f m) = some (gridF (fun y x => decide (0 ≤ g2 m y x)) p.Wide.toNat 0 p.High.toNat) := fun k hk => cells_eq hw (fun y x hy hx => by
   have := h1 y x (by omega) (by omega)
   unfold impl_Pasture_yard_1.f impl_steps_at.f
   rw [getR m (show y < 10 by omega), Option.bind_some, getA _ (show x < 10 by omega), Option.bind_some]
   show some (decide (0 ≤ IntKind.i64.wrap (g2 m y x))) = _
   rw [w64 (by omega) (by omega)]) hk
 exact h2.bind (Ev.bind ⟨24, hc⟩ (Ev.const rfl))
/-! ### All yards -/
theorem sp_inj {x y x' y' : Nat} : sp x y = sp x' y' ↔ x = x' ∧ y = y' := by
 unfold sp
 constructor
 ·intro h
  injection h with h1 h2
  exact ⟨by omega, by omega⟩
 rintro ⟨rfl, rfl⟩; rfl
end Go.Proofs.YtegibnmfiogebaaGreat
/-
  Plain laws: whether cells lie in a pasture: the codes.
-/
namespace Go.Proofs.YtegibnmfiogebaaGreat
open G
set_option linter.unusedVariables false
set_option linter.unusedSimpArgs false
def okC (p : Pasture) (xs : List Spot) : Bool := xs.all fun s => cellB p s.X s.Y
def cCode (p : Pasture) (xs : List Spot) : Int := if vP p = false then 1 else if okC p xs = true then 0 else 2
theorem all_loop {p : Pasture} (v : VPasture p) (xs : List Spot) (hv : ∀ s ∈ xs, VSpot s) (hx : xs.length ≤ 1048576) : ∀ i, i ≤ xs.length → Ev (fun k => spec_l01All.l1 p xs k (i : Int)) (if okC p (xs.drop i) = true then .inr () else .inl 2) := by
 refine upL ?_ ?_
 ·rw [List.drop_length]
  exact Ev.step (fun k => spec_l01All.l1.eq_2 _ _ _ _) (Ev.neg (by omega) (Ev.const rfl))
 intro i hi ih
 rw [← wsucc hi (by omega)] at ih
 have hs := l01Is_eq v xs[i] (hv _ (List.getElem_mem hi))
 refine Ev.step (fun k => spec_l01All.l1.eq_2 _ _ _ _) (Ev.pos (by omega) (Ev.bind (Ev.const (getI_nat hi)) (Ev.bind (Ev.const hs) ?_)))
 rw [List.drop_eq_getElem_cons hi]
 unfold okC at ih ⊢
 rw [List.all_cons]
 cases h : cellB p xs[i].X xs[i].Y
 ·exact Ev.pos rfl (Ev.const rfl)
 exact Ev.neg (by simp) (by simpa using ih)
theorem specAll_ev {p : Pasture} (v : VPasture p) (xs : List Spot) (hv : ∀ s ∈ xs, VSpot s) (hx : xs.length ≤ 1048576) : Ev (fun k => spec_l01All.f k p xs) (cCode p xs) := by
 have h := all_loop v xs hv hx 0 (Nat.zero_le _)
 rw [List.drop_zero] at h
 unfold cCode
 refine (specOk_ev v).bind ?_
 cases vP p
 ·exact Ev.pos rfl (Ev.const rfl)
 refine Ev.neg (by simp) (Ev.bind h ?_)
 cases okC p xs <;> exact Ev.const rfl
theorem idx_loop {p : Pasture} (v : VPasture p) (hw : okW p = true) (xs : List Spot) (hv : ∀ s ∈ xs, VSpot s) (hx : xs.length ≤ 1048576) : ∀ i, i ≤ xs.length → ∃ r : Int ⊕ Unit, Ev (fun k => slices_IndexFunc_impl_Spot_impl_Spot.l1 xs (impl_cellCode_1.f p) k (i : Int)) r ∧ ((okC p (xs.drop i) = true ∧ r = .inr ()) ∨ (okC p (xs.drop i) = false ∧ ∃ j : Nat, r = .inl (j : Int))) := by
 refine upL ?_ ?_
 ·rw [List.drop_length]
  exact ⟨.inr (), Ev.step (fun k => slices_IndexFunc_impl_Spot_impl_Spot.l1.eq_2 _ _ _ _) (Ev.neg (by omega) (Ev.const rfl)), .inl ⟨rfl, rfl⟩⟩
 intro i hi ih
 obtain ⟨r, h1, h2⟩ := ih
 rw [← wsucc hi (by omega)] at h1
 have hs : impl_cellCode_1.f p xs[i] = some (!cellB p xs[i].X xs[i].Y) := by
   unfold impl_cellCode_1.f
   rw [isCell_eq v hw xs[i] (hv _ (List.getElem_mem hi))]; rfl
 rw [List.drop_eq_getElem_cons hi]
 unfold okC at h2 ⊢
 rw [List.all_cons]
 cases h : cellB p xs[i].X xs[i].Y
 ·rw [h] at hs
  exact ⟨.inl (i : Int), Ev.step (fun k => slices_IndexFunc_impl_Spot_impl_Spot.l1.eq_2 _ _ _ _) (Ev.pos (by omega) (Ev.bind (Ev.const (getI_nat hi)) (Ev.bind (Ev.const hs) (Ev.pos rfl (Ev.const rfl))))), .inr ⟨rfl, i, rfl⟩⟩
 rw [h] at hs
 exact ⟨r, Ev.step (fun k => slices_IndexFunc_impl_Spot_impl_Spot.l1.eq_2 _ _ _ _) (Ev.pos (by omega) (Ev.bind (Ev.const (getI_nat hi)) (Ev.bind (Ev.const hs) (Ev.neg (by simp) h1)))), by simpa using h2⟩
theorem cellCode_ev {p : Pasture} (v : VPasture p) (xs : List Spot) (hv : ∀ s ∈ xs, VSpot s) (hx : xs.length ≤ 1048576) : Ev (fun k => impl_cellCode.f k p xs) (cCode p xs) := by
 unfold cCode
 refine (implOk_ev v).bind ?_
 cases hp : vP p
 ·exact Ev.pos rfl (Ev.const rfl)
 refine Ev.neg (by simp) ?_
 obtain ⟨r, h1, h2⟩ := idx_loop v (vP_okW hp) xs hv hx 0 (Nat.zero_le _)
 rw [List.drop_zero] at h2
 rcases h2 with ⟨a, rfl⟩ | ⟨a, j, rfl⟩
 ·rw [a]
  exact Ev.bind (Ev.bind (Ev.bind h1 (Ev.const rfl)) (Ev.const rfl)) (Ev.bind (Ev.const (unless_eq _ _)) (Ev.const rfl))
 rw [a]
 refine Ev.bind (a := true) (Ev.bind (Ev.bind h1 (Ev.const rfl)) (Ev.const ?_)) (Ev.bind (Ev.const (unless_eq _ _)) (Ev.const rfl))
 rw [decide_eq_true (by omega)]
end Go.Proofs.YtegibnmfiogebaaGreat
