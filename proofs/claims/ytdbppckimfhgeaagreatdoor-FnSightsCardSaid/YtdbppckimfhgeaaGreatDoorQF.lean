import Derived.Test.YtdbppckimfhgeaaGreatDoorQD3
import Derived.Test.YtdbppckimfhgeaaGreatDoorQC
/-
  Plain laws: sides of cells: which there are, which stand.
-/
namespace Go.Proofs.YtdbppckimfhgeaaGreatDoor
open G
set_option linter.unusedVariables false
set_option linter.unusedSimpArgs false
def hu (x y : Nat) (s : Bool) : Hurdle := ⟨sp x y, s⟩
def sdI (s : Bool) : Nat := if s = true then 2 else 1
def isB (p : Pasture) (x y : Nat) (s : Bool) : Bool := cellB p (nx (sp x y) (sdI s)).X (nx (sp x y) (sdI s)).Y
def stB (p : Pasture) (x y : Nat) (s : Bool) : Bool := if s = true then btB (gA p.South y) x else btB (gA p.East y) x
theorem side_eq (h : Hurdle) : spec_l03Side.f h = some (sdI h.South : Int) := by
  unfold spec_l03Side.f sdI
  cases h.South <;> rfl
theorem other_eq (h : Hurdle) : impl_Hurdle_other.f h = some (nx h.At (sdI h.South : Int)) := by
  unfold impl_Hurdle_other.f sdI
  cases h.South
  · first | rfl | (simp [ahead_eq])
  · first | rfl | (simp [ahead_eq])
theorem specIs_eq {p : Pasture} (v : VPasture p) {x y : Nat} (hx : x < 10) (hy : y < 10) (hc : cellB p (x : Int) (y : Int) = true) (s : Bool) : spec_l03Is.f p (hu x y s) = some (isB p x y s) := by
  unfold spec_l03Is.f
  rw [show (hu x y s).At = sp x y from rfl, l01Is_eq v (sp x y) (VSpot_nat (by omega) (by omega)), Option.bind_some]
  rw [if_pos (show cellB p (sp x y).X (sp x y).Y = true from hc), side_eq, Option.bind_some, next_eq, Option.bind_some]
  rw [l01Is_eq v _ (nx_in hx hy _)]
  rfl
theorem implIs_eq {p : Pasture} (v : VPasture p) (hw : okW p = true) {x y : Nat} (hx : x < 10) (hy : y < 10) (hc : cellB p (x : Int) (y : Int) = true) (s : Bool) : impl_Pasture_isHurdle.f p (hu x y s) = some (isB p x y s) := by
  unfold impl_Pasture_isHurdle.f
  rw [show (hu x y s).At = sp x y from rfl, isCell_eq v hw (sp x y) (VSpot_nat (by omega) (by omega)), Option.bind_some]
  rw [if_pos (show cellB p (sp x y).X (sp x y).Y = true from hc), other_eq, Option.bind_some]
  rw [show (hu x y s).At = sp x y from rfl, isCell_eq v hw _ (nx_in hx hy _)]
  rfl
theorem implSt_eq (p : Pasture) {x y : Nat} (hy : y < 10) (s : Bool) : impl_Pasture_stands.f p (hu x y s) = some (stB p x y s) := by
  unfold impl_Pasture_stands.f stB hu
  cases s
  · rw [if_neg (by simp), if_neg (by simp)]
    show (getI p.East.l (y : Int)).bind _ = _
    rw [getA _ hy, Option.bind_some]
    show (chk (0 ≤ (x : Int))).bind _ = _
    rw [chkT (by omega), Option.bind_some]; rfl
  · rw [if_pos rfl, if_pos rfl]
    show (getI p.South.l (y : Int)).bind _ = _
    rw [getA _ hy, Option.bind_some]
    show (chk (0 ≤ (x : Int))).bind _ = _
    rw [chkT (by omega), Option.bind_some]; rfl
theorem specSt_eq {p : Pasture} (v : VPasture p) (hw : okW p = true) {x y : Nat} (hx : x < 10) (hy : y < 10) {s : Bool} (hi : isB p x y s = true) : spec_l03Stands.f p (hu x y s) = some (stB p x y s) := by
  unfold spec_l03Stands.f
  rw [side_eq, Option.bind_some, show (hu x y s).At = sp x y from rfl]
  rw [closed_eq v hw hx hy (show sdI (hu x y s).South < 4 by unfold sdI; split <;> omega), Option.bind_some]
  unfold openB
  rw [show cellB p (nx (sp x y) (sdI (hu x y s).South : Nat)).X (nx (sp x y) (sdI (hu x y s).South : Nat)).Y = true from hi, Bool.true_and, Bool.not_not]
  cases s <;> rfl
/-! ### All sides, cell by cell -/
def cellH (p : Pasture) (x y : Nat) : List Hurdle := (if isB p x y false = true then [hu x y false] else []) ++ (if isB p x y true = true then [hu x y true] else [])
def rowH (p : Pasture) (y : Nat) : Nat → Nat → List Hurdle
  | _, 0 => []
  | x, n + 1 => cellH p x y ++ rowH p y (x + 1) n
def gridH (p : Pasture) (W : Nat) : Nat → Nat → List Hurdle
  | _, 0 => []
  | y, n + 1 => rowH p y 0 W ++ gridH p W (y + 1) n
theorem cellH_len (p : Pasture) (x y : Nat) : (cellH p x y).length ≤ 2 := by
  unfold cellH
  split <;> split <;> simp
theorem rowH_len (p : Pasture) (y : Nat) : ∀ n x, (rowH p y x n).length ≤ 2 * n
  | 0, x => by simp [rowH]
  | n + 1, x => by
    have := rowH_len p y n (x + 1)
    have := cellH_len p x y
    simp only [rowH, List.length_append]; omega
theorem gridH_len (p : Pasture) (W : Nat) : ∀ n y, (gridH p W y n).length ≤ 2 * W * n
  | 0, y => by simp [gridH]
  | n + 1, y => by
    have h1 := gridH_len p W n (y + 1)
    have h2 := rowH_len p y W 0
    simp only [gridH, List.length_append, Nat.mul_add, Nat.mul_one]; omega
theorem cellB_grid {p : Pasture} (hw : okW p = true) {x y : Nat} (hx : x < p.Wide.toNat) (hy : y < p.High.toNat) : cellB p (x : Int) (y : Int) = true := by
  obtain ⟨a, b⟩ := okW_iff.1 hw
  unfold cellB
  rw [Bool.and_eq_true, decide_eq_true_eq, decide_eq_true_eq]
  omega
theorem specRow_ev {p : Pasture} (v : VPasture p) (hw : okW p = true) {y : Nat} (hy : y < p.High.toNat) : ∀ x, x ≤ p.Wide.toNat → ∀ acc : List Hurdle, acc.length ≤ 4000 → Ev (fun k => spec_l03All.l2 p (y : Int) k acc (x : Int)) (acc ++ rowH p y x (p.Wide.toNat - x)) := by
  obtain ⟨a, b⟩ := okW_iff.1 hw
  have key : ∀ x, x ≤ p.Wide.toNat → ∀ acc : List Hurdle, acc.length + 2 * (p.Wide.toNat - x) ≤ 5000 → Ev (fun k => spec_l03All.l2 p (y : Int) k acc (x : Int)) (acc ++ rowH p y x (p.Wide.toNat - x)) := by
    refine upL ?_ ?_
    · intro acc ha
      refine Ev.step (fun k => spec_l03All.l2.eq_2 _ _ _ _ _) (Ev.neg (by omega) (Ev.const ?_))
      simp [rowH]
    · intro x hx ih acc ha
      have hc := cellB_grid hw hx hy
      have h1 := specIs_eq v (x := x) (y := y) (by omega) (by omega) hc false
      have h2 := specIs_eq v (x := x) (y := y) (by omega) (by omega) hc true
      have e : IntKind.i8.wrap ((x : Int) + 1) = ((x + 1 : Nat) : Int) := by rw [w8 (by omega) (by omega)]; omega
      have er : rowH p y x (p.Wide.toNat - x) = cellH p x y ++ rowH p y (x + 1) (p.Wide.toNat - (x + 1)) := by rw [show p.Wide.toNat - x = (p.Wide.toNat - (x + 1)) + 1 by omega]; rfl
      rw [er]
      refine Ev.step (fun k => spec_l03All.l2.eq_2 _ _ _ _ _) (Ev.pos (by omega) (Ev.bind (Ev.const h1) ?_))
      rw [e]
      unfold cellH
      cases i1 : isB p x y false
      · refine Ev.neg (by simp) (Ev.bind (Ev.const h2) ?_)
        cases i2 : isB p x y true
        · refine Ev.neg (by simp) ?_
          simpa using ih acc (by omega)
        · refine Ev.pos rfl (Ev.bind (Ev.const (chkT (by simp; omega))) ?_)
          have := ih (acc ++ [hu x y true]) (by simp; omega)
          rw [List.append_assoc] at this
          exact this
      · refine Ev.pos rfl (Ev.bind (Ev.const (chkT (by simp; omega))) (Ev.bind (Ev.const h2) ?_))
        cases i2 : isB p x y true
        · refine Ev.neg (by simp) ?_
          have := ih (acc ++ [hu x y false]) (by simp; omega)
          rw [List.append_assoc] at this
          exact this
        · refine Ev.pos rfl (Ev.bind (Ev.const (chkT (by simp; omega))) ?_)
          have := ih ((acc ++ [hu x y false]) ++ [hu x y true]) (by simp; omega)
          rw [show ((acc ++ [hu x y false]) ++ [hu x y true]) ++ rowH p y (x + 1) (p.Wide.toNat - (x + 1)) = acc ++ (([hu x y false] ++ [hu x y true]) ++ rowH p y (x + 1) (p.Wide.toNat - (x + 1))) by simp] at this
          exact this
  exact fun x hx acc ha => key x hx acc (by omega)
end Go.Proofs.YtdbppckimfhgeaaGreatDoor
/-
  Plain laws: the hurdles that stand; one hurdle taken away.
-/
namespace Go.Proofs.YtdbppckimfhgeaaGreatDoor
open G
set_option linter.unusedVariables false
set_option linter.unusedSimpArgs false
theorem specAllH_ev {p : Pasture} (v : VPasture p) (hw : okW p = true) : Ev (fun k => spec_l03All.f k p) (gridH p p.Wide.toNat 0 p.High.toNat) := by
  obtain ⟨a, b⟩ := okW_iff.1 hw
  have key : ∀ y, y ≤ p.High.toNat → ∀ acc : List Hurdle, acc.length ≤ 20 * y → Ev (fun k => spec_l03All.l1 p k acc (y : Int)) (acc ++ gridH p p.Wide.toNat y (p.High.toNat - y)) := by
    refine upL ?_ ?_
    · intro acc ha
      refine Ev.step (fun k => spec_l03All.l1.eq_2 _ _ _ _) (Ev.neg (by omega) (Ev.const ?_))
      simp [gridH]
    · intro y hy ih acc ha
      have e : IntKind.i8.wrap ((y : Int) + 1) = ((y + 1 : Nat) : Int) := by rw [w8 (by omega) (by omega)]; omega
      have hr := specRow_ev v hw hy 0 (Nat.zero_le _) acc (by omega)
      rw [Nat.sub_zero] at hr
      have hl := rowH_len p y p.Wide.toNat 0
      have := ih (acc ++ rowH p y 0 p.Wide.toNat) (by rw [List.length_append]; omega)
      rw [List.append_assoc] at this
      rw [show gridH p p.Wide.toNat y (p.High.toNat - y) = rowH p y 0 p.Wide.toNat ++ gridH p p.Wide.toNat (y + 1) (p.High.toNat - (y + 1)) by rw [show p.High.toNat - y = (p.High.toNat - (y + 1)) + 1 by omega]; rfl]
      refine Ev.step (fun k => spec_l03All.l1.eq_2 _ _ _ _) (Ev.pos (by omega) (Ev.bind (Ev.bind hr (Ev.const rfl)) ?_))
      rw [e]; exact this
  have := key 0 (Nat.zero_le _) [] (by simp)
  rw [List.nil_append, Nat.sub_zero] at this
  exact this.bind (Ev.const rfl)
/-- A side that is told. -/
def told (p : Pasture) (h : Hurdle) : Prop := ∃ (x y : Nat) (s : Bool), x < p.Wide.toNat ∧ y < p.High.toNat ∧ isB p x y s = true ∧ h = hu x y s
theorem cellH_told {p : Pasture} {x y : Nat} (hx : x < p.Wide.toNat) (hy : y < p.High.toNat) : ∀ h ∈ cellH p x y, told p h := by
  intro h hh
  unfold cellH at hh
  rcases List.mem_append.1 hh with hh | hh
  · split at hh
    · rename_i hi; exact ⟨x, y, false, hx, hy, hi, List.mem_singleton.1 hh⟩
    · simp at hh
  · split at hh
    · rename_i hi; exact ⟨x, y, true, hx, hy, hi, List.mem_singleton.1 hh⟩
    · simp at hh
theorem rowH_told {p : Pasture} {y : Nat} (hy : y < p.High.toNat) : ∀ n x, x + n ≤ p.Wide.toNat → ∀ h ∈ rowH p y x n, told p h
  | 0, x, _, h, hh => by simp [rowH] at hh
  | n + 1, x, hx, h, hh => by
    rcases List.mem_append.1 hh with hh | hh
    · exact cellH_told (by omega) hy h hh
    · exact rowH_told hy n (x + 1) (by omega) h hh
theorem gridH_told {p : Pasture} : ∀ n y, y + n ≤ p.High.toNat → ∀ h ∈ gridH p p.Wide.toNat y n, told p h
  | 0, y, _, h, hh => by simp [gridH] at hh
  | n + 1, y, hy, h, hh => by
    rcases List.mem_append.1 hh with hh | hh
    · exact rowH_told (by omega) _ 0 (by omega) h hh
    · exact gridH_told n (y + 1) (by omega) h hh
def stH (p : Pasture) (h : Hurdle) : Bool := stB p h.At.X.toNat h.At.Y.toNat h.South
theorem standing_ev {p : Pasture} (v : VPasture p) (hw : okW p = true) : Ev (fun k => spec_l03Standing.f k p) ((gridH p p.Wide.toNat 0 p.High.toNat).filter (stH p)) := by
  obtain ⟨a, b⟩ := okW_iff.1 hw
  have hT := gridH_told (p := p) p.High.toNat 0 (by omega)
  have hlen : (gridH p p.Wide.toNat 0 p.High.toNat).length ≤ 200 := by
    have := gridH_len p p.Wide.toNat p.High.toNat 0
    have h2 : 2 * p.Wide.toNat * p.High.toNat ≤ 20 * 10 := Nat.mul_le_mul (by omega) (by omega)
    omega
  have key : ∀ i, i ≤ (gridH p p.Wide.toNat 0 p.High.toNat).length → ∀ acc : List Hurdle, acc.length ≤ i → Ev (fun k => spec_l03Standing.l1 p (gridH p p.Wide.toNat 0 p.High.toNat) k acc (i : Int)) (acc ++ ((gridH p p.Wide.toNat 0 p.High.toNat).drop i).filter (stH p)) := by
    refine upL ?_ ?_
    · intro acc ha
      refine Ev.step (fun k => spec_l03Standing.l1.eq_2 _ _ _ _ _) (Ev.neg (by omega) (Ev.const ?_))
      rw [List.drop_length]; simp
    · intro i hi ih acc ha
      obtain ⟨x, y, s, hx, hy, hs, e⟩ := hT _ (List.getElem_mem hi)
      have hst : spec_l03Stands.f p (gridH p p.Wide.toNat 0 p.High.toNat)[i] = some (stH p (gridH p p.Wide.toNat 0 p.High.toNat)[i]) := by
        rw [e]; exact specSt_eq v hw (by omega) (by omega) hs
      refine Ev.step (fun k => spec_l03Standing.l1.eq_2 _ _ _ _ _) (Ev.pos (by omega) (Ev.bind (Ev.const (getI_nat hi)) (Ev.bind (Ev.const hst) ?_)))
      rw [List.drop_eq_getElem_cons hi, List.filter_cons, wsucc hi (by omega)]
      cases hc : stH p (gridH p p.Wide.toNat 0 p.High.toNat)[i]
      · refine Ev.neg (by simp) ?_
        simpa using ih acc (by omega)
      · refine Ev.pos rfl (Ev.bind (Ev.const (getI_nat hi)) (Ev.bind (Ev.const (chkT (by simp; omega))) ?_))
        have := ih (acc ++ [(gridH p p.Wide.toNat 0 p.High.toNat)[i]]) (by simp; omega)
        rw [List.append_assoc] at this
        simpa using this
  have := key 0 (Nat.zero_le _) [] (by simp)
  rw [List.nil_append, List.drop_zero] at this
  exact (specAllH_ev v hw).bind (this.bind (Ev.const rfl))
/-! ### The program's -/
theorem implCell_ev {p : Pasture} (v : VPasture p) (hw : okW p = true) {x y : Nat} (hx : x < p.Wide.toNat) (hy : y < p.High.toNat) (acc : List Hurdle) (ha : acc.length ≤ 4000) : Ev (fun k => impl_Pasture_sides.l2 p (impl_Pasture_stands.f p) (sp x y) k acc 0) (acc ++ (cellH p x y).filter (stH p)) := by
  obtain ⟨a, b⟩ := okW_iff.1 hw
  have hc := cellB_grid hw hx hy
  have one : ∀ (s : Bool) (i : Nat) (acc : List Hurdle) (r : List Hurdle), i < 2 → acc.length ≤ 4001 → getI ([false, true] : List Bool) (i : Int) = some s →
      (∀ acc' : List Hurdle, acc' = acc ++ (if isB p x y s = true ∧ stH p (hu x y s) = true then [hu x y s] else []) → Ev (fun k => impl_Pasture_sides.l2 p (impl_Pasture_stands.f p) (sp x y) k acc' ((i + 1 : Nat) : Int)) r) →
      Ev (fun k => impl_Pasture_sides.l2 p (impl_Pasture_stands.f p) (sp x y) k acc (i : Int)) r := by
    intro s i acc r hi hal hg hk
    have h1 := implIs_eq v hw (x := x) (y := y) (by omega) (by omega) hc s
    have h2 := implSt_eq p (x := x) (y := y) (by omega) s
    have e : IntKind.i64.wrap ((i : Int) + 1) = ((i + 1 : Nat) : Int) := wsucc hi (by omega)
    refine Ev.step (fun k => impl_Pasture_sides.l2.eq_2 _ _ _ _ _ _) (Ev.pos (by simp; omega) (Ev.bind (Ev.const hg) (Ev.bind (Ev.const h1) ?_)))
    rw [e]
    cases i1 : isB p x y s
    · exact Ev.neg (by simp) (hk acc (by rw [if_neg (by rw [i1]; simp)]; simp))
    · refine Ev.pos rfl (Ev.bind (Ev.const h2) ?_)
      have es : stH p (hu x y s) = stB p x y s := rfl
      cases i2 : stB p x y s
      · exact Ev.neg (by simp) (hk acc (by rw [if_neg (by rw [es, i2]; simp)]; simp))
      · exact Ev.pos rfl (Ev.bind (Ev.const (chkT (by simp; omega))) (hk _ (by rw [if_pos ⟨i1, es.trans i2⟩]; rfl)))
  refine one false 0 acc _ (by omega) (by omega) rfl (fun acc' e => ?_)
  have hl : acc'.length ≤ 4001 := by rw [e]; split <;> simp <;> omega
  refine one true 1 acc' _ (by omega) hl rfl (fun acc2 e2 => ?_)
  refine Ev.step (fun k => impl_Pasture_sides.l2.eq_2 _ _ _ _ _ _) (Ev.neg (by simp) (Ev.const ?_))
  rw [e2, e, List.append_assoc]
  congr 2
  unfold cellH
  rw [List.filter_append]
  cases isB p x y false <;> cases isB p x y true <;> cases h3 : stH p (hu x y false) <;> cases h4 : stH p (hu x y true) <;> simp [h3, h4]
end Go.Proofs.YtdbppckimfhgeaaGreatDoor
/-
  Plain laws: the program's standing hurdles; one hurdle taken away.
-/
namespace Go.Proofs.YtdbppckimfhgeaaGreatDoor
open G
set_option linter.unusedVariables false
set_option linter.unusedSimpArgs false
def fl (p : Pasture) (l : List Spot) : List Hurdle := l.flatMap fun s => (cellH p s.X.toNat s.Y.toNat).filter (stH p)
theorem fl_app (p : Pasture) (a b : List Spot) : fl p (a ++ b) = fl p a ++ fl p b := by unfold fl; rw [List.flatMap_append]
theorem fl_row (p : Pasture) (y : Nat) : ∀ n x, fl p (rowF (fun _ => true) y x n) = (rowH p y x n).filter (stH p)
  | 0, x => rfl
  | n + 1, x => by
    rw [rowF, rowH, if_pos rfl, fl_app, fl_row p y n (x + 1), List.filter_append]
    congr 1
    show (cellH p (x : Int).toNat (y : Int).toNat).filter (stH p) ++ [] = _
    rw [List.append_nil]; rfl
theorem fl_grid (p : Pasture) (W : Nat) : ∀ n y, fl p (gridF (fun _ _ => true) W y n) = (gridH p W y n).filter (stH p)
  | 0, y => rfl
  | n + 1, y => by rw [gridF, gridH, fl_app, fl_row, fl_grid p W n (y + 1), List.filter_append]
theorem hurdles_ev {p : Pasture} (v : VPasture p) (hw : okW p = true) : Ev (fun k => impl_Pasture_hurdles.f k p) ((gridH p p.Wide.toNat 0 p.High.toNat).filter (stH p)) := by
  obtain ⟨a, b⟩ := okW_iff.1 hw
  have hall : Ev (fun k => impl_Pasture_all.f k p) (gridF (fun _ _ => true) p.Wide.toNat 0 p.High.toNat) := ⟨24, fun k hk => all_eq hw hk⟩
  have hlen : (gridF (fun _ _ => true) p.Wide.toNat 0 p.High.toNat).length ≤ 100 := by
    have := gridF_len (fun _ _ => true) p.Wide.toNat p.High.toNat 0
    have h2 : p.High.toNat * p.Wide.toNat ≤ 10 * 10 := Nat.mul_le_mul (by omega) (by omega)
    omega
  have key : ∀ i, i ≤ (gridF (fun _ _ => true) p.Wide.toNat 0 p.High.toNat).length → ∀ acc : List Hurdle, acc.length ≤ 2 * i → Ev (fun k => impl_Pasture_sides.l1 p (impl_Pasture_stands.f p) (gridF (fun _ _ => true) p.Wide.toNat 0 p.High.toNat) k acc (i : Int)) (acc ++ fl p ((gridF (fun _ _ => true) p.Wide.toNat 0 p.High.toNat).drop i)) := by
    refine upL ?_ ?_
    · intro acc ha
      refine Ev.step (fun k => impl_Pasture_sides.l1.eq_2 _ _ _ _ _ _) (Ev.neg (by omega) (Ev.const ?_))
      rw [List.drop_length]; simp [fl]
    · intro i hi ih acc ha
      obtain ⟨y, x, _, hy, hx, _, e⟩ := gridF_mem.1 (List.getElem_mem hi)
      have hg : getI (gridF (fun _ _ => true) p.Wide.toNat 0 p.High.toNat) (i : Int) = some (sp x y) := by rw [getI_nat hi, e]; rfl
      have hc := implCell_ev v hw (x := x) (y := y) hx (by omega) acc (by omega)
      have hl : ((cellH p x y).filter (stH p)).length ≤ 2 := Nat.le_trans (List.length_filter_le _ _) (cellH_len p x y)
      have := ih (acc ++ (cellH p x y).filter (stH p)) (by rw [List.length_append]; omega)
      rw [List.append_assoc] at this
      refine Ev.step (fun k => impl_Pasture_sides.l1.eq_2 _ _ _ _ _ _) (Ev.pos (by omega) (Ev.bind (Ev.bind (Ev.const hg) (hc.bind (Ev.const rfl))) ?_))
      rw [wsucc hi (by omega), List.drop_eq_getElem_cons hi, e]
      exact this
  have := key 0 (Nat.zero_le _) [] (by simp)
  rw [List.nil_append, List.drop_zero, fl_grid] at this
  exact Ev.bind (hall.bind (this.bind (Ev.const rfl))) (Ev.const rfl)
/-! ### One hurdle taken away -/
def putF (p : Pasture) (x y : Nat) (s : Bool) : Pasture := if s = true then ⟨p.Wide, p.High, p.Grass, p.East, aset p.South y (andNotI .u16 (gA p.South y) (shlI .u16 1 (x : Int)))⟩ else ⟨p.Wide, p.High, p.Grass, aset p.East y (andNotI .u16 (gA p.East y) (shlI .u16 1 (x : Int))), p.South⟩
theorem set_eq (p : Pasture) {x y : Nat} (hx : x < 10) (hy : y < 10) (s : Bool) : spec_l01Set.f p (sp x y) (sdI s : Int) false = some (putF p x y s) := by
  have g1 : getI p.East.l (y : Int) = some (gA p.East y) := getA _ hy
  have g2 : getI p.South.l (y : Int) = some (gA p.South y) := getA _ hy
  have u := u64n hx
  have c : chk (0 ≤ (x : Int)) = some () := chkT (by omega)
  cases s
  · simp [spec_l01Set.f, sdI, sp, u, chk, g1, putF]
  · simp [spec_l01Set.f, sdI, sp, u, chk, g2, putF]
theorem put_eq (p : Pasture) {x y : Nat} (hx : x < 10) (hy : y < 10) (s : Bool) : impl_Pasture_put.f p (hu x y s) false = some (putF p x y s) := by
  have g1 : getI p.East.l (y : Int) = some (gA p.East y) := getA _ hy
  have g2 : getI p.South.l (y : Int) = some (gA p.South y) := getA _ hy
  have c : chk (0 ≤ (x : Int)) = some () := chkT (by omega)
  cases s
  · simp [impl_Pasture_put.f, hu, sp, chk, g1, putF]
  · simp [impl_Pasture_put.f, hu, sp, chk, g2, putF]
theorem specPut_ev (p : Pasture) {x y : Nat} (hx : x < 10) (hy : y < 10) (s : Bool) : Ev (fun k => spec_l03Put.f k p [hu x y s] false) (putF p x y s) := by
  refine Ev.bind (Ev.step (fun k => spec_l03Put.l1.eq_2 _ _ _ _ _) (Ev.pos (by simp) (Ev.bind (Ev.const (show _ = some (hu x y s) from rfl)) (Ev.bind (Ev.const (show _ = some (hu x y s) from rfl)) (Ev.bind (Ev.const (side_eq _)) (Ev.bind (Ev.const (set_eq p hx hy s)) ?_)))))) (Ev.const rfl)
  exact Ev.step (fun k => spec_l03Put.l1.eq_2 _ _ _ _ _) (Ev.neg (by rw [show IntKind.i64.wrap (0 + 1) = 1 from by decide]; simp) (Ev.const rfl))
theorem implWith_ev (p : Pasture) {x y : Nat} (hx : x < 10) (hy : y < 10) (s : Bool) : Ev (fun k => impl_Pasture_with.f k p [hu x y s] false) (putF p x y s) := by
  refine Ev.bind (Ev.step (fun k => impl_Pasture_with.l1.eq_2 _ _ _ _ _) (Ev.pos (by simp) (Ev.bind (Ev.const (show _ = some (hu x y s) from rfl)) (Ev.bind (Ev.const (put_eq p hx hy s)) ?_)))) (Ev.const rfl)
  exact Ev.step (fun k => impl_Pasture_with.l1.eq_2 _ _ _ _ _) (Ev.neg (by rw [show IntKind.i64.wrap (0 + 1) = 1 from by decide]; simp) (Ev.const rfl))
theorem u16_in (z : Int) : inI .u16 (IntKind.u16.wrap z) := by
  have h1 : IntKind.u16.min = 0 := by decide
  have h2 : IntKind.u16.max = 65535 := by decide
  have : IntKind.u16.wrap z = z % 65536 := by simp [IntKind.wrap, IntKind.bits, IntKind.signed]
  refine ⟨?_, ?_⟩ <;> rw [this] <;> simp only [h1, h2] <;> omega
theorem putF_V {p : Pasture} (v : VPasture p) (x y : Nat) (s : Bool) : VPasture (putF p x y s) := by
  obtain ⟨v1, v2, v3, v4, v5⟩ := v
  cases s
  · refine ⟨v1, v2, v3, fun e he => ?_, v5⟩
    rcases List.mem_or_eq_of_mem_set (show e ∈ p.East.l.set y _ from he) with h | h
    · exact v4 e h
    · rw [h]; exact u16_in _
  · refine ⟨v1, v2, v3, v4, fun e he => ?_⟩
    rcases List.mem_or_eq_of_mem_set (show e ∈ p.South.l.set y _ from he) with h | h
    · exact v5 e h
    · rw [h]; exact u16_in _
theorem putF_okW (p : Pasture) (x y : Nat) (s : Bool) : okW (putF p x y s) = okW p := by cases s <;> rfl
theorem putF_cell (p : Pasture) (x y : Nat) (s : Bool) (a b : Int) : cellB (putF p x y s) a b = cellB p a b := by cases s <;> rfl
end Go.Proofs.YtdbppckimfhgeaaGreatDoor
/-
  Plain law: what slices.DeleteFunc leaves.
-/
namespace Go.Proofs.YtdbppckimfhgeaaGreatDoor
open G
set_option linter.unusedVariables false
set_option linter.unusedSimpArgs false
theorem evAllH {xs : List Hurdle} {g : Nat → Hurdle → Option Bool} {p : Hurdle → Bool} (h : ∀ x ∈ xs, Ev (fun k => g k x) (p x)) : ∃ J, ∀ j, J ≤ j → ∀ x ∈ xs, g j x = some (p x) := by
  induction xs with
  | nil => exact ⟨0, fun j _ x hx => by simp at hx⟩
  | cons y ys ih =>
    obtain ⟨J, hJ⟩ := ih fun x hx => h x (List.mem_cons_of_mem _ hx)
    obtain ⟨K, hK⟩ := h y (List.mem_cons_self ..)
    refine ⟨J + K, fun j hj x hx => ?_⟩
    rcases List.mem_cons.1 hx with rfl | hx
    · exact hK j (by omega)
    · exact hJ j (by omega) x hx
theorem take_set {ys : List Hurdle} {w : Nat} (hw : w < ys.length) (a : Hurdle) : (ys.set w a).take (w + 1) = ys.take w ++ [a] := by
  rw [List.take_add_one, List.getElem?_set_self hw]
  congr 1
  apply List.ext_getElem?
  intro j
  simp only [List.getElem?_take, List.getElem?_set]
  split
  · rw [if_neg (by omega)]
  · rfl
theorem drop_set' {ys : List Hurdle} {w j : Nat} (hw : w < j) (a : Hurdle) : (ys.set w a).drop j = ys.drop j := by
  apply List.ext_getElem?
  intro i
  rw [List.getElem?_drop, List.getElem?_drop, List.getElem?_set_ne (by omega)]
theorem take_keep {xs : List Hurdle} {j : Nat} (hj : j < xs.length) (f : Hurdle → Bool) : (xs.take (j + 1)).filter f = (xs.take j).filter f ++ (if f xs[j] = true then [xs[j]] else []) := by
  rw [List.take_add_one, List.getElem?_eq_getElem hj, List.filter_append]
  congr 1
  simp only [Option.toList, List.filter_cons, List.filter_nil]
theorem del_loop (xs : List Hurdle) (dl : Hurdle → Bool) (hn : xs.length ≤ 1048576) : ∀ (d j w : Nat) (ys : List Hurdle), j + d = xs.length → w ≤ j → ys.length = xs.length → ys.take w = (xs.take j).filter (fun h => !dl h) → ys.drop j = xs.drop j →
    ∃ (ys' : List Hurdle) (w' : Nat), ys'.length = xs.length ∧ w' ≤ xs.length ∧ ys'.take w' = xs.filter (fun h => !dl h) ∧ ∀ g : Hurdle → Option Bool, (∀ h ∈ xs, g h = some (dl h)) → ∀ k, d < k → slices_DeleteFunc_impl_Hurdle_impl_Hurdle.l1 g k ys (w : Int) (j : Int) = some (ys', (w' : Int))
  | 0, j, w, ys, hj, hw, hl, ht, hd => by
    refine ⟨ys, w, hl, by omega, ?_, fun g hg k hk => ?_⟩
    · rw [ht, List.take_of_length_le (by omega)]
    · obtain ⟨k, rfl⟩ : ∃ z, k = z + 1 := ⟨k - 1, by omega⟩
      rw [slices_DeleteFunc_impl_Hurdle_impl_Hurdle.l1, if_neg (by omega)]
  | d + 1, j, w, ys, hj, hw, hl, ht, hd => by
    have hjx : j < xs.length := by omega
    have hjy : j < ys.length := by omega
    have e : ys[j] = xs[j] := by
      have := congrArg (fun l => l[0]?) hd
      simp only [List.getElem?_drop, Nat.add_zero, List.getElem?_eq_getElem hjy, List.getElem?_eq_getElem hjx] at this
      exact Option.some.inj this
    have hg0 : getI ys (j : Int) = some xs[j] := by rw [getI_nat hjy, e]
    have hd1 : ys.drop (j + 1) = xs.drop (j + 1) := by
      have := congrArg (fun l => l.drop 1) hd
      simpa [List.drop_drop] using this
    cases hc : dl xs[j]
    · obtain ⟨ys', w', h1, h2, h3, h4⟩ := del_loop xs dl hn d (j + 1) (w + 1) (ys.set w xs[j]) (by omega) (by omega) (by simpa using hl) (by rw [take_set (by omega), ht, take_keep hjx, hc]; rfl) (by rw [drop_set' (by omega), hd1])
      refine ⟨ys', w', h1, h2, h3, fun g hg k hk => ?_⟩
      obtain ⟨k, rfl⟩ : ∃ z, k = z + 1 := ⟨k - 1, by omega⟩
      rw [slices_DeleteFunc_impl_Hurdle_impl_Hurdle.l1, if_pos (by omega), hg0, Option.bind_some, hg _ (List.getElem_mem hjx), Option.bind_some, hc, if_pos (by rfl), getI_nat (show w < ys.length by omega), Option.bind_some, Int.toNat_natCast, wsucc hjx (by omega), wsucc (show w < xs.length by omega) (by omega)]
      exact h4 g hg k (by omega)
    · obtain ⟨ys', w', h1, h2, h3, h4⟩ := del_loop xs dl hn d (j + 1) w ys (by omega) (by omega) hl (by rw [ht, take_keep hjx, hc]; simp) hd1
      refine ⟨ys', w', h1, h2, h3, fun g hg k hk => ?_⟩
      obtain ⟨k, rfl⟩ : ∃ z, k = z + 1 := ⟨k - 1, by omega⟩
      rw [slices_DeleteFunc_impl_Hurdle_impl_Hurdle.l1, if_pos (by omega), hg0, Option.bind_some, hg _ (List.getElem_mem hjx), Option.bind_some, hc, if_neg (by simp), wsucc hjx (by omega)]
      exact h4 g hg k (by omega)
theorem idxH_loop (xs : List Hurdle) (dl : Hurdle → Bool) (hx : xs.length ≤ 1048576) : ∀ i : Nat, i ≤ xs.length → ∃ r : Int ⊕ Unit, (∀ g : Hurdle → Option Bool, (∀ x ∈ xs, g x = some (dl x)) → ∀ k, xs.length - i < k → slices_IndexFunc_impl_Hurdle_impl_Hurdle.l1 xs g k (i : Int) = some r) ∧
    ((r = .inr () ∧ ∀ h ∈ xs.drop i, dl h = false) ∨ ∃ (j : Nat) (hj : j < xs.length), i ≤ j ∧ r = .inl (j : Int) ∧ dl xs[j] = true ∧ ∀ h ∈ (xs.drop i).take (j - i), dl h = false) := by
  refine upL ?_ ?_
  · refine ⟨.inr (), fun g hg k hk => ?_, .inl ⟨rfl, by simp⟩⟩
    obtain ⟨k, rfl⟩ : ∃ j, k = j + 1 := ⟨k - 1, by omega⟩
    rw [slices_IndexFunc_impl_Hurdle_impl_Hurdle.l1, if_neg (by omega)]
  · rintro i hi ⟨r, ih, h⟩
    cases hb : dl xs[i]
    · refine ⟨r, fun g hg k hk => ?_, ?_⟩
      · obtain ⟨k, rfl⟩ : ∃ j, k = j + 1 := ⟨k - 1, by omega⟩
        rw [slices_IndexFunc_impl_Hurdle_impl_Hurdle.l1, if_pos (by omega), getI_nat hi, Option.bind_some, hg _ (List.getElem_mem hi), Option.bind_some, hb, if_neg (by simp), wsucc hi (by omega)]
        exact ih g hg k (by omega)
      · rcases h with ⟨h1, h2⟩ | ⟨j, hj, h1, h2, h3, h4⟩
        · refine .inl ⟨h1, fun z hz => ?_⟩
          rw [List.drop_eq_getElem_cons hi] at hz
          rcases List.mem_cons.1 hz with rfl | hz
          · exact hb
          · exact h2 z hz
        · refine .inr ⟨j, hj, by omega, h2, h3, fun z hz => ?_⟩
          rw [List.drop_eq_getElem_cons hi, show j - i = (j - (i + 1)) + 1 by omega, List.take_succ_cons] at hz
          rcases List.mem_cons.1 hz with rfl | hz
          · exact hb
          · exact h4 z hz
    · refine ⟨.inl (i : Int), fun g hg k hk => ?_, .inr ⟨i, hi, Nat.le_refl _, rfl, hb, by simp⟩⟩
      obtain ⟨k, rfl⟩ : ∃ j, k = j + 1 := ⟨k - 1, by omega⟩
      rw [slices_IndexFunc_impl_Hurdle_impl_Hurdle.l1, if_pos (by omega), getI_nat hi, Option.bind_some, hg _ (List.getElem_mem hi), Option.bind_some, hb, if_pos rfl]
theorem delete_ev (xs : List Hurdle) {g : Nat → Hurdle → Option Bool} {dl : Hurdle → Bool} (hg : ∀ x ∈ xs, Ev (fun k => g k x) (dl x)) (hx : xs.length ≤ 1048576) : Ev (fun k => slices_DeleteFunc_impl_Hurdle_impl_Hurdle.f k xs (g k)) (xs.filter fun h => !dl h) := by
  obtain ⟨J, hJ⟩ := evAllH hg
  obtain ⟨r, hr, h⟩ := idxH_loop xs dl hx 0 (Nat.zero_le _)
  rcases h with ⟨rfl, h⟩ | ⟨j, hj, _, rfl, h3, h4⟩
  · refine ⟨J + xs.length + 1, fun k hk => ?_⟩
    have e : slices_IndexFunc_impl_Hurdle_impl_Hurdle.l1 xs (g k) k 0 = some (.inr ()) := hr (g k) (hJ k (by omega)) k (by omega)
    show slices_DeleteFunc_impl_Hurdle_impl_Hurdle.f k xs (g k) = _
    unfold slices_DeleteFunc_impl_Hurdle_impl_Hurdle.f slices_IndexFunc_impl_Hurdle_impl_Hurdle.f
    rw [e]
    simp only [Option.bind_some, if_true]
    congr 1
    symm
    rw [List.filter_eq_self]
    intro z hz
    rw [List.drop_zero] at h
    rw [h z hz]; rfl
  · rw [List.drop_zero, Nat.sub_zero] at h4
    have hk : xs.take j = (xs.take (j + 1)).filter (fun h => !dl h) := by
      rw [take_keep hj, h3, Bool.not_true, if_neg (by simp), List.append_nil]
      symm
      rw [List.filter_eq_self]
      intro z hz
      rw [h4 z hz]; rfl
    obtain ⟨ys', w', q1, q2, q3, q4⟩ := del_loop xs dl hx (xs.length - (j + 1)) (j + 1) j xs (by omega) (by omega) rfl hk rfl
    refine ⟨J + xs.length + 1, fun k hk => ?_⟩
    have e : slices_IndexFunc_impl_Hurdle_impl_Hurdle.l1 xs (g k) k 0 = some (.inl (j : Int)) := hr (g k) (hJ k (by omega)) k (by omega)
    have e2 := q4 (g k) (hJ k (by omega)) k (by omega)
    rw [← wsucc hj (by omega)] at e2
    show slices_DeleteFunc_impl_Hurdle_impl_Hurdle.f k xs (g k) = _
    unfold slices_DeleteFunc_impl_Hurdle_impl_Hurdle.f slices_IndexFunc_impl_Hurdle_impl_Hurdle.f
    rw [e]
    simp only [Option.bind_some]
    rw [if_neg (by omega), e2]
    simp only [Option.bind_some, Int.toNat_natCast]
    rw [chkT (by omega), Option.bind_some, chkT (by simp; omega), Option.bind_some, q3.symm]
    congr 1
    rw [List.take_append_of_le_length (by simp; omega), List.take_take, Nat.min_self]
end Go.Proofs.YtdbppckimfhgeaaGreatDoor
