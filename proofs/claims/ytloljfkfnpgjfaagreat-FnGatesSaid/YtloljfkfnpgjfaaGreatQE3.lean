import Derived.Test.YtloljfkfnpgjfaaGreatQD4
import Derived.Test.YtloljfkfnpgjfaaGreatQC

/-
  Plain laws: sides of cells: which there are, which stand.
-/
namespace Go.Proofs.YtloljfkfnpgjfaaGreat
open G
set_option linter.unusedVariables false
set_option linter.unusedSimpArgs false
def hu (x y : Nat) (s : Bool) : Hurdle := ⟨sp x y, s⟩
def sdI (s : Bool) : Nat := if s = true then 2 else 1
def isB (p : Pasture) (x y : Nat) (s : Bool) : Bool := cellB p (nx (sp x y) (sdI s)).X (nx (sp x y) (sdI s)).Y
def stB (p : Pasture) (x y : Nat) (s : Bool) : Bool := if s = true then btB (gA p.South y) x else btB (gA p.East y) x
theorem side_eq (h : Hurdle) : spec_l03Side.f h = some (sdI h.South : Int) := by
  unfold spec_l03Side.f sdI
  cases h.South <;> rfl
theorem other_eq (h : Hurdle) : impl_Hurdle_other.f h = some (nx h.At (sdI h.South : Int)) := by
  unfold impl_Hurdle_other.f sdI
  cases h.South
  · first | rfl | (simp [ahead_eq])
  · first | rfl | (simp [ahead_eq])
theorem specIs_eq {p : Pasture} (v : VPasture p) {x y : Nat} (hx : x < 10) (hy : y < 10) (hc : cellB p (x : Int) (y : Int) = true) (s : Bool) : spec_l03Is.f p (hu x y s) = some (isB p x y s) := by
  unfold spec_l03Is.f
  rw [show (hu x y s).At = sp x y from rfl, l01Is_eq v (sp x y) (VSpot_nat (by omega) (by omega)), Option.bind_some]
  rw [if_pos (show cellB p (sp x y).X (sp x y).Y = true from hc), side_eq, Option.bind_some, next_eq, Option.bind_some]
  rw [l01Is_eq v _ (nx_in hx hy _)]
  rfl
theorem implIs_eq {p : Pasture} (v : VPasture p) (hw : okW p = true) {x y : Nat} (hx : x < 10) (hy : y < 10) (hc : cellB p (x : Int) (y : Int) = true) (s : Bool) : impl_Pasture_isHurdle.f p (hu x y s) = some (isB p x y s) := by
  unfold impl_Pasture_isHurdle.f
  rw [show (hu x y s).At = sp x y from rfl, isCell_eq v hw (sp x y) (VSpot_nat (by omega) (by omega)), Option.bind_some]
  rw [if_pos (show cellB p (sp x y).X (sp x y).Y = true from hc), other_eq, Option.bind_some]
  rw [show (hu x y s).At = sp x y from rfl, isCell_eq v hw _ (nx_in hx hy _)]
  rfl
theorem implSt_eq (p : Pasture) {x y : Nat} (hy : y < 10) (s : Bool) : impl_Pasture_stands.f p (hu x y s) = some (stB p x y s) := by
  unfold impl_Pasture_stands.f stB hu
  cases s
  · rw [if_neg (by simp), if_neg (by simp)]
    show (getI p.East.l (y : Int)).bind _ = _
    rw [getA _ hy, Option.bind_some]
    show (chk (0 ≤ (x : Int))).bind _ = _
    rw [chkT (by omega), Option.bind_some]; rfl
  · rw [if_pos rfl, if_pos rfl]
    show (getI p.South.l (y : Int)).bind _ = _
    rw [getA _ hy, Option.bind_some]
    show (chk (0 ≤ (x : Int))).bind _ = _
    rw [chkT (by omega), Option.bind_some]; rfl
theorem specSt_eq {p : Pasture} (v : VPasture p) (hw : okW p = true) {x y : Nat} (hx : x < 10) (hy : y < 10) {s : Bool} (hi : isB p x y s = true) : spec_l03Stands.f p (hu x y s) = some (stB p x y s) := by
  unfold spec_l03Stands.f
  rw [side_eq, Option.bind_some, show (hu x y s).At = sp x y from rfl]
  rw [closed_eq v hw hx hy (show sdI (hu x y s).South < 4 by unfold sdI; split <;> omega), Option.bind_some]
  unfold openB
  rw [show cellB p (nx (sp x y) (sdI (hu x y s).South : Nat)).X (nx (sp x y) (sdI (hu x y s).South : Nat)).Y = true from hi, Bool.true_and, Bool.not_not]
  cases s <;> rfl
/-! ### All sides, cell by cell -/
def cellH (p : Pasture) (x y : Nat) : List Hurdle := (if isB p x y false = true then [hu x y false] else []) ++ (if isB p x y true = true then [hu x y true] else [])
def rowH (p : Pasture) (y : Nat) : Nat → Nat → List Hurdle
  | _, 0 => []
  | x, n + 1 => cellH p x y ++ rowH p y (x + 1) n
def gridH (p : Pasture) (W : Nat) : Nat → Nat → List Hurdle
  | _, 0 => []
  | y, n + 1 => rowH p y 0 W ++ gridH p W (y + 1) n
theorem cellH_len (p : Pasture) (x y : Nat) : (cellH p x y).length ≤ 2 := by
  unfold cellH
  split <;> split <;> simp
theorem rowH_len (p : Pasture) (y : Nat) : ∀ n x, (rowH p y x n).length ≤ 2 * n
  | 0, x => by simp [rowH]
  | n + 1, x => by
    have := rowH_len p y n (x + 1)
    have := cellH_len p x y
    simp only [rowH, List.length_append]; omega
theorem gridH_len (p : Pasture) (W : Nat) : ∀ n y, (gridH p W y n).length ≤ 2 * W * n
  | 0, y => by simp [gridH]
  | n + 1, y => by
    have h1 := gridH_len p W n (y + 1)
    have h2 := rowH_len p y W 0
    simp only [gridH, List.length_append, Nat.mul_add, Nat.mul_one]; omega
theorem cellB_grid {p : Pasture} (hw : okW p = true) {x y : Nat} (hx : x < p.Wide.toNat) (hy : y < p.High.toNat) : cellB p (x : Int) (y : Int) = true := by
  obtain ⟨a, b⟩ := okW_iff.1 hw
  unfold cellB
  rw [Bool.and_eq_true, decide_eq_true_eq, decide_eq_true_eq]
  omega
theorem specRow_ev {p : Pasture} (v : VPasture p) (hw : okW p = true) {y : Nat} (hy : y < p.High.toNat) : ∀ x, x ≤ p.Wide.toNat → ∀ acc : List Hurdle, acc.length ≤ 4000 → Ev (fun k => spec_l03All.l2 p (y : Int) k acc (x : Int)) (acc ++ rowH p y x (p.Wide.toNat - x)) := by
  obtain ⟨a, b⟩ := okW_iff.1 hw
  have key : ∀ x, x ≤ p.Wide.toNat → ∀ acc : List Hurdle, acc.length + 2 * (p.Wide.toNat - x) ≤ 5000 → Ev (fun k => spec_l03All.l2 p (y : Int) k acc (x : Int)) (acc ++ rowH p y x (p.Wide.toNat - x)) := by
    refine upL ?_ ?_
    · intro acc ha
      refine Ev.step (fun k => spec_l03All.l2.eq_2 _ _ _ _ _) (Ev.neg (by omega) (Ev.const ?_))
      simp [rowH]
    · intro x hx ih acc ha
      have hc := cellB_grid hw hx hy
      have h1 := specIs_eq v (x := x) (y := y) (by omega) (by omega) hc false
      have h2 := specIs_eq v (x := x) (y := y) (by omega) (by omega) hc true
      have e : IntKind.i8.wrap ((x : Int) + 1) = ((x + 1 : Nat) : Int) := by rw [w8 (by omega) (by omega)]; omega
      have er : rowH p y x (p.Wide.toNat - x) = cellH p x y ++ rowH p y (x + 1) (p.Wide.toNat - (x + 1)) := by rw [show p.Wide.toNat - x = (p.Wide.toNat - (x + 1)) + 1 by omega]; rfl
      rw [er]
      refine Ev.step (fun k => spec_l03All.l2.eq_2 _ _ _ _ _) (Ev.pos (by omega) (Ev.bind (Ev.const h1) ?_))
      rw [e]
      unfold cellH
      cases i1 : isB p x y false
      · refine Ev.neg (by simp) (Ev.bind (Ev.const h2) ?_)
        cases i2 : isB p x y true
        · refine Ev.neg (by simp) ?_
          simpa using ih acc (by omega)
        · refine Ev.pos rfl (Ev.bind (Ev.const (chkT (by simp; omega))) ?_)
          have := ih (acc ++ [hu x y true]) (by simp; omega)
          rw [List.append_assoc] at this
          exact this
      · refine Ev.pos rfl (Ev.bind (Ev.const (chkT (by simp; omega))) (Ev.bind (Ev.const h2) ?_))
        cases i2 : isB p x y true
        · refine Ev.neg (by simp) ?_
          have := ih (acc ++ [hu x y false]) (by simp; omega)
          rw [List.append_assoc] at this
          exact this
        · refine Ev.pos rfl (Ev.bind (Ev.const (chkT (by simp; omega))) ?_)
          have := ih ((acc ++ [hu x y false]) ++ [hu x y true]) (by simp; omega)
          rw [show ((acc ++ [hu x y false]) ++ [hu x y true]) ++ rowH p y (x + 1) (p.Wide.toNat - (x + 1)) = acc ++ (([hu x y false] ++ [hu x y true]) ++ rowH p y (x + 1) (p.Wide.toNat - (x + 1))) by simp] at this
          exact this
  exact fun x hx acc ha => key x hx acc (by omega)
end Go.Proofs.YtloljfkfnpgjfaaGreat
/-
  Plain laws: the hurdles that stand; one hurdle taken away.
-/
namespace Go.Proofs.YtloljfkfnpgjfaaGreat
open G
set_option linter.unusedVariables false
set_option linter.unusedSimpArgs false
theorem specAllH_ev {p : Pasture} (v : VPasture p) (hw : okW p = true) : Ev (fun k => spec_l03All.f k p) (gridH p p.Wide.toNat 0 p.High.toNat) := by
  obtain ⟨a, b⟩ := okW_iff.1 hw
  have key : ∀ y, y ≤ p.High.toNat → ∀ acc : List Hurdle, acc.length ≤ 20 * y → Ev (fun k => spec_l03All.l1 p k acc (y : Int)) (acc ++ gridH p p.Wide.toNat y (p.High.toNat - y)) := by
    refine upL ?_ ?_
    · intro acc ha
      refine Ev.step (fun k => spec_l03All.l1.eq_2 _ _ _ _) (Ev.neg (by omega) (Ev.const ?_))
      simp [gridH]
    · intro y hy ih acc ha
      have e : IntKind.i8.wrap ((y : Int) + 1) = ((y + 1 : Nat) : Int) := by rw [w8 (by omega) (by omega)]; omega
      have hr := specRow_ev v hw hy 0 (Nat.zero_le _) acc (by omega)
      rw [Nat.sub_zero] at hr
      have hl := rowH_len p y p.Wide.toNat 0
      have := ih (acc ++ rowH p y 0 p.Wide.toNat) (by rw [List.length_append]; omega)
      rw [List.append_assoc] at this
      rw [show gridH p p.Wide.toNat y (p.High.toNat - y) = rowH p y 0 p.Wide.toNat ++ gridH p p.Wide.toNat (y + 1) (p.High.toNat - (y + 1)) by rw [show p.High.toNat - y = (p.High.toNat - (y + 1)) + 1 by omega]; rfl]
      refine Ev.step (fun k => spec_l03All.l1.eq_2 _ _ _ _) (Ev.pos (by omega) (Ev.bind (Ev.bind hr (Ev.const rfl)) ?_))
      rw [e]; exact this
  have := key 0 (Nat.zero_le _) [] (by simp)
  rw [List.nil_append, Nat.sub_zero] at this
  exact this.bind (Ev.const rfl)
/-- A side that is told. -/
def told (p : Pasture) (h : Hurdle) : Prop := ∃ (x y : Nat) (s : Bool), x < p.Wide.toNat ∧ y < p.High.toNat ∧ isB p x y s = true ∧ h = hu x y s
theorem cellH_told {p : Pasture} {x y : Nat} (hx : x < p.Wide.toNat) (hy : y < p.High.toNat) : ∀ h ∈ cellH p x y, told p h := by
  intro h hh
  unfold cellH at hh
  rcases List.mem_append.1 hh with hh | hh
  · split at hh
    · rename_i hi; exact ⟨x, y, false, hx, hy, hi, List.mem_singleton.1 hh⟩
    · simp at hh
  · split at hh
    · rename_i hi; exact ⟨x, y, true, hx, hy, hi, List.mem_singleton.1 hh⟩
    · simp at hh
theorem rowH_told {p : Pasture} {y : Nat} (hy : y < p.High.toNat) : ∀ n x, x + n ≤ p.Wide.toNat → ∀ h ∈ rowH p y x n, told p h
  | 0, x, _, h, hh => by simp [rowH] at hh
  | n + 1, x, hx, h, hh => by
    rcases List.mem_append.1 hh with hh | hh
    · exact cellH_told (by omega) hy h hh
    · exact rowH_told hy n (x + 1) (by omega) h hh
theorem gridH_told {p : Pasture} : ∀ n y, y + n ≤ p.High.toNat → ∀ h ∈ gridH p p.Wide.toNat y n, told p h
  | 0, y, _, h, hh => by simp [gridH] at hh
  | n + 1, y, hy, h, hh => by
    rcases List.mem_append.1 hh with hh | hh
    · exact rowH_told (by omega) _ 0 (by omega) h hh
    · exact gridH_told n (y + 1) (by omega) h hh
def stH (p : Pasture) (h : Hurdle) : Bool := stB p h.At.X.toNat h.At.Y.toNat h.South
theorem standing_ev {p : Pasture} (v : VPasture p) (hw : okW p = true) : Ev (fun k => spec_l03Standing.f k p) ((gridH p p.Wide.toNat 0 p.High.toNat).filter (stH p)) := by
  obtain ⟨a, b⟩ := okW_iff.1 hw
  have hT := gridH_told (p := p) p.High.toNat 0 (by omega)
  have hlen : (gridH p p.Wide.toNat 0 p.High.toNat).length ≤ 200 := by
    have := gridH_len p p.Wide.toNat p.High.toNat 0
    have h2 : 2 * p.Wide.toNat * p.High.toNat ≤ 20 * 10 := Nat.mul_le_mul (by omega) (by omega)
    omega
  have key : ∀ i, i ≤ (gridH p p.Wide.toNat 0 p.High.toNat).length → ∀ acc : List Hurdle, acc.length ≤ i → Ev (fun k => spec_l03Standing.l1 p (gridH p p.Wide.toNat 0 p.High.toNat) k acc (i : Int)) (acc ++ ((gridH p p.Wide.toNat 0 p.High.toNat).drop i).filter (stH p)) := by
    refine upL ?_ ?_
    · intro acc ha
      refine Ev.step (fun k => spec_l03Standing.l1.eq_2 _ _ _ _ _) (Ev.neg (by omega) (Ev.const ?_))
      rw [List.drop_length]; simp
    · intro i hi ih acc ha
      obtain ⟨x, y, s, hx, hy, hs, e⟩ := hT _ (List.getElem_mem hi)
      have hst : spec_l03Stands.f p (gridH p p.Wide.toNat 0 p.High.toNat)[i] = some (stH p (gridH p p.Wide.toNat 0 p.High.toNat)[i]) := by
        rw [e]; exact specSt_eq v hw (by omega) (by omega) hs
      refine Ev.step (fun k => spec_l03Standing.l1.eq_2 _ _ _ _ _) (Ev.pos (by omega) (Ev.bind (Ev.const (getI_nat hi)) (Ev.bind (Ev.const hst) ?_)))
      rw [List.drop_eq_getElem_cons hi, List.filter_cons, wsucc hi (by omega)]
      cases hc : stH p (gridH p p.Wide.toNat 0 p.High.toNat)[i]
      · refine Ev.neg (by simp) ?_
        simpa using ih acc (by omega)
      · refine Ev.pos rfl (Ev.bind (Ev.const (getI_nat hi)) (Ev.bind (Ev.const (chkT (by simp; omega))) ?_))
        have := ih (acc ++ [(gridH p p.Wide.toNat 0 p.High.toNat)[i]]) (by simp; omega)
        rw [List.append_assoc] at this
        simpa using this
  have := key 0 (Nat.zero_le _) [] (by simp)
  rw [List.nil_append, List.drop_zero] at this
  exact (specAllH_ev v hw).bind (this.bind (Ev.const rfl))
/-! ### The program's -/
theorem implCell_ev {p : Pasture} (v : VPasture p) (hw : okW p = true) {x y : Nat} (hx : x < p.Wide.toNat) (hy : y < p.High.toNat) (acc : List Hurdle) (ha : acc.length ≤ 4000) : Ev (fun k => impl_Pasture_sides.l2 p (impl_Pasture_stands.f p) (sp x y) k acc 0) (acc ++ (cellH p x y).filter (stH p)) := by
  obtain ⟨a, b⟩ := okW_iff.1 hw
  have hc := cellB_grid hw hx hy
  have one : ∀ (s : Bool) (i : Nat) (acc : List Hurdle) (r : List Hurdle), i < 2 → acc.length ≤ 4001 → getI ([false, true] : List Bool) (i : Int) = some s →
      (∀ acc' : List Hurdle, acc' = acc ++ (if isB p x y s = true ∧ stH p (hu x y s) = true then [hu x y s] else []) → Ev (fun k => impl_Pasture_sides.l2 p (impl_Pasture_stands.f p) (sp x y) k acc' ((i + 1 : Nat) : Int)) r) →
      Ev (fun k => impl_Pasture_sides.l2 p (impl_Pasture_stands.f p) (sp x y) k acc (i : Int)) r := by
    intro s i acc r hi hal hg hk
    have h1 := implIs_eq v hw (x := x) (y := y) (by omega) (by omega) hc s
    have h2 := implSt_eq p (x := x) (y := y) (by omega) s
    have e : IntKind.i64.wrap ((i : Int) + 1) = ((i + 1 : Nat) : Int) := wsucc hi (by omega)
    refine Ev.step (fun k => impl_Pasture_sides.l2.eq_2 _ _ _ _ _ _) (Ev.pos (by simp; omega) (Ev.bind (Ev.const hg) (Ev.bind (Ev.const h1) ?_)))
    rw [e]
    cases i1 : isB p x y s
    · exact Ev.neg (by simp) (hk acc (by rw [if_neg (by rw [i1]; simp)]; simp))
    · refine Ev.pos rfl (Ev.bind (Ev.const h2) ?_)
      have es : stH p (hu x y s) = stB p x y s := rfl
      cases i2 : stB p x y s
      · exact Ev.neg (by simp) (hk acc (by rw [if_neg (by rw [es, i2]; simp)]; simp))
      · exact Ev.pos rfl (Ev.bind (Ev.const (chkT (by simp; omega))) (hk _ (by rw [if_pos ⟨i1, es.trans i2⟩]; rfl)))
  refine one false 0 acc _ (by omega) (by omega) rfl (fun acc' e => ?_)
  have hl : acc'.length ≤ 4001 := by rw [e]; split <;> simp <;> omega
  refine one true 1 acc' _ (by omega) hl rfl (fun acc2 e2 => ?_)
  refine Ev.step (fun k => impl_Pasture_sides.l2.eq_2 _ _ _ _ _ _) (Ev.neg (by simp) (Ev.const ?_))
  rw [e2, e, List.append_assoc]
  congr 2
  unfold cellH
  rw [List.filter_append]
  cases isB p x y false <;> cases isB p x y true <;> cases h3 : stH p (hu x y false) <;> cases h4 : stH p (hu x y true) <;> simp [h3, h4]
end Go.Proofs.YtloljfkfnpgjfaaGreat
/-
  Plain laws: the program's standing hurdles; one hurdle taken away.
-/
namespace Go.Proofs.YtloljfkfnpgjfaaGreat
open G
set_option linter.unusedVariables false
set_option linter.unusedSimpArgs false
def fl (p : Pasture) (l : List Spot) : List Hurdle := l.flatMap fun s => (cellH p s.X.toNat s.Y.toNat).filter (stH p)
theorem fl_app (p : Pasture) (a b : List Spot) : fl p (a ++ b) = fl p a ++ fl p b := by unfold fl; rw [List.flatMap_append]
theorem fl_row (p : Pasture) (y : Nat) : ∀ n x, fl p (rowF (fun _ => true) y x n) = (rowH p y x n).filter (stH p)
  | 0, x => rfl
  | n + 1, x => by
    rw [rowF, rowH, if_pos rfl, fl_app, fl_row p y n (x + 1), List.filter_append]
    congr 1
    show (cellH p (x : Int).toNat (y : Int).toNat).filter (stH p) ++ [] = _
    rw [List.append_nil]; rfl
theorem fl_grid (p : Pasture) (W : Nat) : ∀ n y, fl p (gridF (fun _ _ => true) W y n) = (gridH p W y n).filter (stH p)
  | 0, y => rfl
  | n + 1, y => by rw [gridF, gridH, fl_app, fl_row, fl_grid p W n (y + 1), List.filter_append]
theorem hurdles_ev {p : Pasture} (v : VPasture p) (hw : okW p = true) : Ev (fun k => impl_Pasture_hurdles.f k p) ((gridH p p.Wide.toNat 0 p.High.toNat).filter (stH p)) := by
  obtain ⟨a, b⟩ := okW_iff.1 hw
  have hall : Ev (fun k => impl_Pasture_all.f k p) (gridF (fun _ _ => true) p.Wide.toNat 0 p.High.toNat) := ⟨24, fun k hk => all_eq hw hk⟩
  have hlen : (gridF (fun _ _ => true) p.Wide.toNat 0 p.High.toNat).length ≤ 100 := by
    have := gridF_len (fun _ _ => true) p.Wide.toNat p.High.toNat 0
    have h2 : p.High.toNat * p.Wide.toNat ≤ 10 * 10 := Nat.mul_le_mul (by omega) (by omega)
    omega
  have key : ∀ i, i ≤ (gridF (fun _ _ => true) p.Wide.toNat 0 p.High.toNat).length → ∀ acc : List Hurdle, acc.length ≤ 2 * i → Ev (fun k => impl_Pasture_sides.l1 p (impl_Pasture_stands.f p) (gridF (fun _ _ => true) p.Wide.toNat 0 p.High.toNat) k acc (i : Int)) (acc ++ fl p ((gridF (fun _ _ => true) p.Wide.toNat 0 p.High.toNat).drop i)) := by
    refine upL ?_ ?_
    · intro acc ha
      refine Ev.step (fun k => impl_Pasture_sides.l1.eq_2 _ _ _ _ _ _) (Ev.neg (by omega) (Ev.const ?_))
      rw [List.drop_length]; simp [fl]
    · intro i hi ih acc ha
      obtain ⟨y, x, _, hy, hx, _, e⟩ := gridF_mem.1 (List.getElem_mem hi)
      have hg : getI (gridF (fun _ _ => true) p.Wide.toNat 0 p.High.toNat) (i : Int) = some (sp x y) := by rw [getI_nat hi, e]; rfl
      have hc := implCell_ev v hw (x := x) (y := y) hx (by omega) acc (by omega)
      have hl : ((cellH p x y).filter (stH p)).length ≤ 2 := Nat.le_trans (List.length_filter_le _ _) (cellH_len p x y)
      have := ih (acc ++ (cellH p x y).filter (stH p)) (by rw [List.length_append]; omega)
      rw [List.append_assoc] at this
      refine Ev.step (fun k => impl_Pasture_sides.l1.eq_2 _ _ _ _ _ _) (Ev.pos (by omega) (Ev.bind (Ev.bind (Ev.const hg) (hc.bind (Ev.const rfl))) ?_))
      rw [wsucc hi (by omega), List.drop_eq_getElem_cons hi, e]
      exact this
  have := key 0 (Nat.zero_le _) [] (by simp)
  rw [List.nil_append, List.drop_zero, fl_grid] at this
  exact Ev.bind (hall.bind (this.bind (Ev.const rfl))) (Ev.const rfl)
/-! ### One hurdle taken away -/
def putF (p : Pasture) (x y : Nat) (s : Bool) : Pasture := if s = true then ⟨p.Wide, p.High, p.Grass, p.East, aset p.South y (andNotI .u16 (gA p.South y) (shlI .u16 1 (x : Int)))⟩ else ⟨p.Wide, p.High, p.Grass, aset p.East y (andNotI .u16 (gA p.East y) (shlI .u16 1 (x : Int))), p.South⟩
theorem set_eq (p : Pasture) {x y : Nat} (hx : x < 10) (hy : y < 10) (s : Bool) : spec_l01Set.f p (sp x y) (sdI s : Int) false = some (putF p x y s) := by
  have g1 : getI p.East.l (y : Int) = some (gA p.East y) := getA _ hy
  have g2 : getI p.South.l (y : Int) = some (gA p.South y) := getA _ hy
  have u := u64n hx
  have c : chk (0 ≤ (x : Int)) = some () := chkT (by omega)
  cases s
  · simp [spec_l01Set.f, sdI, sp, u, chk, g1, putF]
  · simp [spec_l01Set.f, sdI, sp, u, chk, g2, putF]
theorem put_eq (p : Pasture) {x y : Nat} (hx : x < 10) (hy : y < 10) (s : Bool) : impl_Pasture_put.f p (hu x y s) false = some (putF p x y s) := by
  have g1 : getI p.East.l (y : Int) = some (gA p.East y) := getA _ hy
  have g2 : getI p.South.l (y : Int) = some (gA p.South y) := getA _ hy
  have c : chk (0 ≤ (x : Int)) = some () := chkT (by omega)
  cases s
  · simp [impl_Pasture_put.f, hu, sp, chk, g1, putF]
  · simp [impl_Pasture_put.f, hu, sp, chk, g2, putF]
end Go.Proofs.YtloljfkfnpgjfaaGreat
