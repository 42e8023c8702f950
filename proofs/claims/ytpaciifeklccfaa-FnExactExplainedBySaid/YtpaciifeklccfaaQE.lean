/-
  Plain laws: sides of cells: which there are, which stand.
-/
import Derived.Test.YtpaciifeklccfaaQD3
import Derived.Test.YtpaciifeklccfaaQC
namespace Go.Proofs.Ytpaciifeklccfaa
open G
set_option linter.unusedVariables false
set_option linter.unusedSimpArgs false
def hu (x y : Nat) (s : Bool) : Hurdle := ⟨sp x y, s⟩
def sdI (s : Bool) : Nat := if s = true then 2 else 1
def isB (p : Pasture) (x y : Nat) (s : Bool) : Bool := cellB p (nx (sp x y) (sdI s)).X (nx (sp x y) (sdI s)).Y
def stB (p : Pasture) (x y : Nat) (s : Bool) : Bool := if s = true then btB (gA p.South y) x else btB (gA p.East y) x
theorem side_eq (h : Hurdle) : spec_l03Side.f h = some (sdI h.South : Int) := by
  unfold spec_l03Side.f sdI
  cases h.South <;> rfl
theorem other_eq (h : Hurdle) : impl_Hurdle_other.f h = some (nx h.At (sdI h.South : Int)) := by
  unfold impl_Hurdle_other.f sdI
  cases h.South
  · first | rfl | (simp [ahead_eq])
  · first | rfl | (simp [ahead_eq])
theorem specIs_eq {p : Pasture} (v : VPasture p) {x y : Nat} (hx : x < 10) (hy : y < 10) (hc : cellB p (x : Int) (y : Int) = true) (s : Bool) : spec_l03Is.f p (hu x y s) = some (isB p x y s) := by
  unfold spec_l03Is.f
  rw [show (hu x y s).At = sp x y from rfl, l01Is_eq v (sp x y) (VSpot_nat (by omega) (by omega)), Option.bind_some]
  rw [if_pos (show cellB p (sp x y).X (sp x y).Y = true from hc), side_eq, Option.bind_some, next_eq, Option.bind_some]
  rw [l01Is_eq v _ (nx_in hx hy _)]
  rfl
theorem implIs_eq {p : Pasture} (v : VPasture p) (hw : okW p = true) {x y : Nat} (hx : x < 10) (hy : y < 10) (hc : cellB p (x : Int) (y : Int) = true) (s : Bool) : impl_Pasture_isHurdle.f p (hu x y s) = some (isB p x y s) := by
  unfold impl_Pasture_isHurdle.f
  rw [show (hu x y s).At = sp x y from rfl, isCell_eq v hw (sp x y) (VSpot_nat (by omega) (by omega)), Option.bind_some]
  rw [if_pos (show cellB p (sp x y).X (sp x y).Y = true from hc), other_eq, Option.bind_some]
  rw [show (hu x y s).At = sp x y from rfl, isCell_eq v hw _ (nx_in hx hy _)]
  rfl
theorem implSt_eq (p : Pasture) {x y : Nat} (hy : y < 10) (s : Bool) : impl_Pasture_stands.f p (hu x y s) = some (stB p x y s) := by
  unfold impl_Pasture_stands.f stB hu
  cases s
  · rw [if_neg (by simp), if_neg (by simp)]
    show (getI p.East.l (y : Int)).bind _ = _
    rw [getA _ hy, Option.bind_some]
    show (chk (0 ≤ (x : Int))).bind _ = _
    rw [chkT (by omega), Option.bind_some]; rfl
  · rw [if_pos rfl, if_pos rfl]
    show (getI p.South.l (y : Int)).bind _ = _
    rw [getA _ hy, Option.bind_some]
    show (chk (0 ≤ (x : Int))).bind _ = _
    rw [chkT (by omega), Option.bind_some]; rfl
theorem specSt_eq {p : Pasture} (v : VPasture p) (hw : okW p = true) {x y : Nat} (hx : x < 10) (hy : y < 10) {s : Bool} (hi : isB p x y s = true) : spec_l03Stands.f p (hu x y s) = some (stB p x y s) := by
  unfold spec_l03Stands.f
  rw [side_eq, Option.bind_some, show (hu x y s).At = sp x y from rfl]
  rw [closed_eq v hw hx hy (show sdI (hu x y s).South < 4 by unfold sdI; split <;> omega), Option.bind_some]
  unfold openB
  rw [show cellB p (nx (sp x y) (sdI (hu x y s).South : Nat)).X (nx (sp x y) (sdI (hu x y s).South : Nat)).Y = true from hi, Bool.true_and, Bool.not_not]
  cases s <;> rfl
/-! ### All sides, cell by cell -/
def cellH (p : Pasture) (x y : Nat) : List Hurdle := (if isB p x y false = true then [hu x y false] else []) ++ (if isB p x y true = true then [hu x y true] else [])
def rowH (p : Pasture) (y : Nat) : Nat → Nat → List Hurdle
  | _, 0 => []
  | x, n + 1 => cellH p x y ++ rowH p y (x + 1) n
def gridH (p : Pasture) (W : Nat) : Nat → Nat → List Hurdle
  | _, 0 => []
  | y, n + 1 => rowH p y 0 W ++ gridH p W (y + 1) n
theorem cellH_len (p : Pasture) (x y : Nat) : (cellH p x y).length ≤ 2 := by
  unfold cellH
  split <;> split <;> simp
theorem rowH_len (p : Pasture) (y : Nat) : ∀ n x, (rowH p y x n).length ≤ 2 * n
  | 0, x => by simp [rowH]
  | n + 1, x => by
    have := rowH_len p y n (x + 1)
    have := cellH_len p x y
    simp only [rowH, List.length_append]; omega
theorem gridH_len (p : Pasture) (W : Nat) : ∀ n y, (gridH p W y n).length ≤ 2 * W * n
  | 0, y => by simp [gridH]
  | n + 1, y => by
    have h1 := gridH_len p W n (y + 1)
    have h2 := rowH_len p y W 0
    simp only [gridH, List.length_append, Nat.mul_add, Nat.mul_one]; omega
theorem cellB_grid {p : Pasture} (hw : okW p = true) {x y : Nat} (hx : x < p.Wide.toNat) (hy : y < p.High.toNat) : cellB p (x : Int) (y : Int) = true := by
  obtain ⟨a, b⟩ := okW_iff.1 hw
  unfold cellB
  rw [Bool.and_eq_true, decide_eq_true_eq, decide_eq_true_eq]
  omega
theorem specRow_ev {p : Pasture} (v : VPasture p) (hw : okW p = true) {y : Nat} (hy : y < p.High.toNat) : ∀ x, x ≤ p.Wide.toNat → ∀ acc : List Hurdle, acc.length ≤ 4000 → Ev (fun k => spec_l03All.l2 p (y : Int) k acc (x : Int)) (acc ++ rowH p y x (p.Wide.toNat - x)) := by
  obtain ⟨a, b⟩ := okW_iff.1 hw
  have key : ∀ x, x ≤ p.Wide.toNat → ∀ acc : List Hurdle, acc.length + 2 * (p.Wide.toNat - x) ≤ 5000 → Ev (fun k => spec_l03All.l2 p (y : Int) k acc (x : Int)) (acc ++ rowH p y x (p.Wide.toNat - x)) := by
    refine upL ?_ ?_
    · intro acc ha
      refine Ev.step (fun k => spec_l03All.l2.eq_2 _ _ _ _ _) (Ev.neg (by omega) (Ev.const ?_))
      simp [rowH]
    · intro x hx ih acc ha
      have hc := cellB_grid hw hx hy
      have h1 := specIs_eq v (x := x) (y := y) (by omega) (by omega) hc false
      have h2 := specIs_eq v (x := x) (y := y) (by omega) (by omega) hc true
      have e : IntKind.i8.wrap ((x : Int) + 1) = ((x + 1 : Nat) : Int) := by rw [w8 (by omega) (by omega)]; omega
      have er : rowH p y x (p.Wide.toNat - x) = cellH p x y ++ rowH p y (x + 1) (p.Wide.toNat - (x + 1)) := by rw [show p.Wide.toNat - x = (p.Wide.toNat - (x + 1)) + 1 by omega]; rfl
      rw [er]
      refine Ev.step (fun k => spec_l03All.l2.eq_2 _ _ _ _ _) (Ev.pos (by omega) (Ev.bind (Ev.const h1) ?_))
      rw [e]
      unfold cellH
      cases i1 : isB p x y false
      · refine Ev.neg (by simp) (Ev.bind (Ev.const h2) ?_)
        cases i2 : isB p x y true
        · refine Ev.neg (by simp) ?_
          simpa using ih acc (by omega)
        · refine Ev.pos rfl (Ev.bind (Ev.const (chkT (by simp; omega))) ?_)
          have := ih (acc ++ [hu x y true]) (by simp; omega)
          rw [List.append_assoc] at this
          exact this
      · refine Ev.pos rfl (Ev.bind (Ev.const (chkT (by simp; omega))) (Ev.bind (Ev.const h2) ?_))
        cases i2 : isB p x y true
        · refine Ev.neg (by simp) ?_
          have := ih (acc ++ [hu x y false]) (by simp; omega)
          rw [List.append_assoc] at this
          exact this
        · refine Ev.pos rfl (Ev.bind (Ev.const (chkT (by simp; omega))) ?_)
          have := ih ((acc ++ [hu x y false]) ++ [hu x y true]) (by simp; omega)
          rw [show ((acc ++ [hu x y false]) ++ [hu x y true]) ++ rowH p y (x + 1) (p.Wide.toNat - (x + 1)) = acc ++ (([hu x y false] ++ [hu x y true]) ++ rowH p y (x + 1) (p.Wide.toNat - (x + 1))) by simp] at this
          exact this
  exact fun x hx acc ha => key x hx acc (by omega)
end Go.Proofs.Ytpaciifeklccfaa
