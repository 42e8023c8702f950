import Derived.Test.YtbkkojdkiimdjaaGreatDoorQE3
import Derived.Test.YtbkkojdkiimdjaaGreatDoorQC

/-
  Plain laws: yards: both programs find the same ones.
-/
namespace Go.Proofs.YtbkkojdkiimdjaaGreatDoor
open G
set_option linter.unusedVariables false
set_option linter.unusedSimpArgs false
/-! ### All cells -/
theorem rowT_len (y : Nat) : ∀ n x : Nat, (rowF (fun _ => true) y x n).length = n
  | 0, x => rfl
  | n + 1, x => by
    have := rowT_len y n (x + 1)
    simp [rowF, this]
theorem rowT_get (y : Nat) : ∀ (n x j : Nat), j < n → (rowF (fun _ => true) y x n)[j]? = some (sp (x + j) y)
  | n + 1, x, 0, _ => by simp [rowF, sp]
  | n + 1, x, j + 1, h => by
    have := rowT_get y n (x + 1) j (by omega)
    simp only [rowF, if_true, List.singleton_append, List.getElem?_cons_succ]
    rw [this, show x + 1 + j = x + (j + 1) by omega]
theorem gridT_len (W : Nat) : ∀ n y : Nat, (gridF (fun _ _ => true) W y n).length = n * W
  | 0, y => by simp [gridF]
  | n + 1, y => by
    rw [gridF, List.length_append, rowT_len, gridT_len W n (y + 1), Nat.add_mul]; omega
theorem gridT_get (W : Nat) : ∀ (n y i j : Nat), i < n → j < W → (gridF (fun _ _ => true) W y n)[i * W + j]? = some (sp j (y + i))
  | n + 1, y, 0, j, _, hj => by
    rw [gridF, List.getElem?_append_left (by rw [rowT_len]; omega), Nat.zero_mul, Nat.zero_add, rowT_get _ _ _ _ hj]
    simp
  | n + 1, y, i + 1, j, hi, hj => by
    have := gridT_get W n (y + 1) i j (by omega) hj
    rw [gridF, List.getElem?_append_right (by rw [rowT_len, Nat.add_mul]; omega), rowT_len, show (i + 1) * W + j - W = i * W + j by rw [Nat.add_mul]; omega, this, show y + 1 + i = y + (i + 1) by omega]
/-! ### One yard -/
theorem gridF_congr {q q' : Nat → Nat → Bool} {W : Nat} : ∀ (n y : Nat), (∀ i j, y ≤ i → i < y + n → j < W → q i j = q' i j) → gridF q W y n = gridF q' W y n
  | 0, y, _ => rfl
  | n + 1, y, h => by
    have hrow : ∀ (m x : Nat), x + m ≤ W → rowF (q y) y x m = rowF (q' y) y x m := by
      intro m
      induction m with
      | zero => intro x _; rfl
      | succ m ih => intro x hx; rw [rowF, rowF, ih (x + 1) (by omega), h y x (Nat.le_refl _) (by omega) (by omega)]
    rw [gridF, gridF, hrow W 0 (by omega), gridF_congr n (y + 1) fun i j h1 h2 h3 => h i j (by omega) (by omega) h3]
/-- A yard as both find it: cells of the pasture. -/
def isYard (p : Pasture) (Y : List Spot) : Prop := ∃ q : Nat → Nat → Bool, Y = gridF q p.Wide.toNat 0 p.High.toNat
theorem isYard_len {p : Pasture} (hw : okW p = true) {Y : List Spot} (h : isYard p Y) : Y.length ≤ 100 := by
  obtain ⟨q, rfl⟩ := h
  obtain ⟨a, b⟩ := okW_iff.1 hw
  have h1 := gridF_len q p.Wide.toNat p.High.toNat 0
  have h2 : p.High.toNat * p.Wide.toNat ≤ 10 * 10 := Nat.mul_le_mul (by omega) (by omega)
  omega
theorem isYard_mem {p : Pasture} {Y : List Spot} (h : isYard p Y) {s : Spot} (hs : s ∈ Y) : ∃ x y : Nat, x < p.Wide.toNat ∧ y < p.High.toNat ∧ s = sp x y := by
  obtain ⟨q, rfl⟩ := h
  obtain ⟨i, j, h1, h2, h3, h4, rfl⟩ := gridF_mem.1 hs
  exact ⟨j, i, h3, by omega, rfl⟩
/-! ### All yards -/
/-- The table and the set tell the same cells; the table tells the yard's number. -/
def Tell (p : Pasture) (tab : Tb) (met : List Spot) (ys : List (List Spot)) : Prop := (∀ y x, y < 10 → x < 10 → (0 < g2 tab y x ↔ sp x y ∈ met)) ∧ ∀ y x, y < 10 → x < 10 → 0 < g2 tab y x → ∃ n : Nat, g2 tab y x = ((n + 1 : Nat) : Int) ∧ ∃ Y, ys[n]? = some Y ∧ sp x y ∈ Y
theorem sp_inj {x y x' y' : Nat} : sp x y = sp x' y' ↔ x = x' ∧ y = y' := by
  unfold sp
  constructor
  · intro h
    injection h with h1 h2
    exact ⟨by omega, by omega⟩
  · rintro ⟨rfl, rfl⟩; rfl
end Go.Proofs.YtbkkojdkiimdjaaGreatDoor
/-
  Plain laws: whether cells lie in a pasture: the codes.
-/
namespace Go.Proofs.YtbkkojdkiimdjaaGreatDoor
open G
set_option linter.unusedVariables false
set_option linter.unusedSimpArgs false
def okC (p : Pasture) (xs : List Spot) : Bool := xs.all fun s => cellB p s.X s.Y
def cCode (p : Pasture) (xs : List Spot) : Int := if vP p = false then 1 else if okC p xs = true then 0 else 2
theorem idx_loop {p : Pasture} (v : VPasture p) (hw : okW p = true) (xs : List Spot) (hv : ∀ s ∈ xs, VSpot s) (hx : xs.length ≤ 1048576) : ∀ i, i ≤ xs.length → ∃ r : Int ⊕ Unit, Ev (fun k => slices_IndexFunc_impl_Spot_impl_Spot.l1 xs (impl_cellCode_1.f p) k (i : Int)) r ∧ ((okC p (xs.drop i) = true ∧ r = .inr ()) ∨ (okC p (xs.drop i) = false ∧ ∃ j : Nat, r = .inl (j : Int))) := by
  refine upL ?_ ?_
  · rw [List.drop_length]
    exact ⟨.inr (), Ev.step (fun k => slices_IndexFunc_impl_Spot_impl_Spot.l1.eq_2 _ _ _ _) (Ev.neg (by omega) (Ev.const rfl)), .inl ⟨rfl, rfl⟩⟩
  · intro i hi ih
    obtain ⟨r, h1, h2⟩ := ih
    rw [← wsucc hi (by omega)] at h1
    have hs : impl_cellCode_1.f p xs[i] = some (!cellB p xs[i].X xs[i].Y) := by
      unfold impl_cellCode_1.f
      rw [isCell_eq v hw xs[i] (hv _ (List.getElem_mem hi))]; rfl
    rw [List.drop_eq_getElem_cons hi]
    unfold okC at h2 ⊢
    rw [List.all_cons]
    cases h : cellB p xs[i].X xs[i].Y
    · rw [h] at hs
      exact ⟨.inl (i : Int), Ev.step (fun k => slices_IndexFunc_impl_Spot_impl_Spot.l1.eq_2 _ _ _ _) (Ev.pos (by omega) (Ev.bind (Ev.const (getI_nat hi)) (Ev.bind (Ev.const hs) (Ev.pos rfl (Ev.const rfl))))), .inr ⟨rfl, i, rfl⟩⟩
    · rw [h] at hs
      exact ⟨r, Ev.step (fun k => slices_IndexFunc_impl_Spot_impl_Spot.l1.eq_2 _ _ _ _) (Ev.pos (by omega) (Ev.bind (Ev.const (getI_nat hi)) (Ev.bind (Ev.const hs) (Ev.neg (by simp) h1)))), by simpa using h2⟩
theorem cellCode_ev {p : Pasture} (v : VPasture p) (xs : List Spot) (hv : ∀ s ∈ xs, VSpot s) (hx : xs.length ≤ 1048576) : Ev (fun k => impl_cellCode.f k p xs) (cCode p xs) := by
  unfold cCode
  refine (implOk_ev v).bind ?_
  cases hp : vP p
  · exact Ev.pos rfl (Ev.const rfl)
  · refine Ev.neg (by simp) ?_
    obtain ⟨r, h1, h2⟩ := idx_loop v (vP_okW hp) xs hv hx 0 (Nat.zero_le _)
    rw [List.drop_zero] at h2
    rcases h2 with ⟨a, rfl⟩ | ⟨a, j, rfl⟩
    · rw [a]
      exact Ev.bind (Ev.bind (Ev.bind h1 (Ev.const rfl)) (Ev.const rfl)) (Ev.bind (Ev.const (unless_eq _ _)) (Ev.const rfl))
    · rw [a]
      refine Ev.bind (a := true) (Ev.bind (Ev.bind h1 (Ev.const rfl)) (Ev.const ?_)) (Ev.bind (Ev.const (unless_eq _ _)) (Ev.const rfl))
      rw [decide_eq_true (by omega)]
theorem cCode_nil (p : Pasture) : cCode p [] = if vP p = false then 1 else 0 := rfl
end Go.Proofs.YtbkkojdkiimdjaaGreatDoor
