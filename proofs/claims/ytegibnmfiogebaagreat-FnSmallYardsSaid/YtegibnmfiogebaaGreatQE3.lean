import Derived.Test.YtegibnmfiogebaaGreatQD4
import Derived.Test.YtegibnmfiogebaaGreatQC

/-
  Plain laws: sides of cells: which there are, which stand.
-/
namespace Go.Proofs.YtegibnmfiogebaaGreat
open G
set_option linter.unusedVariables false
set_option linter.unusedSimpArgs false
def hu (x y : Nat) (s : Bool) : Hurdle := ⟨sp x y, s⟩
def sdI (s : Bool) : Nat := if s = true then 2 else 1
def isB (p : Pasture) (x y : Nat) (s : Bool) : Bool := cellB p (nx (sp x y) (sdI s)).X (nx (sp x y) (sdI s)).Y
def stB (p : Pasture) (x y : Nat) (s : Bool) : Bool := if s = true then btB (gA p.South y) x else btB (gA p.East y) x
theorem side_eq (h : Hurdle) : spec_l03Side.f h = some (sdI h.South : Int) := by
 unfold spec_l03Side.f sdI
 cases h.South <;> rfl
theorem specIs_eq {p : Pasture} (v : VPasture p) {x y : Nat} (hx : x < 10) (hy : y < 10) (hc : cellB p (x : Int) (y : Int) = true) (s : Bool) : spec_l03Is.f p (hu x y s) = some (isB p x y s) := by
 unfold spec_l03Is.f
 rw [show (hu x y s).At = sp x y from rfl, l01Is_eq v (sp x y) (VSpot_nat (by omega) (by omega)), Option.bind_some]
 rw [if_pos (show cellB p (sp x y).X (sp x y).Y = true from hc), side_eq, Option.bind_some, next_eq, Option.bind_some]
 rw [l01Is_eq v _ (nx_in hx hy _)]
 rfl
theorem implSt_eq (p : Pasture) {x y : Nat} (hy : y < 10) (s : Bool) : impl_Pasture_stands.f p (hu x y s) = some (stB p x y s) := by
 unfold impl_Pasture_stands.f stB hu
 cases s
 ·rw [if_neg (by simp), if_neg (by simp)]
  show (getI p.East.l (y : Int)).bind _ = _
  rw [getA _ hy, Option.bind_some]
  show (chk (0 ≤ (x : Int))).bind _ = _
  rw [chkT (by omega), Option.bind_some]; rfl
 rw [if_pos rfl, if_pos rfl]
 show (getI p.South.l (y : Int)).bind _ = _
 rw [getA _ hy, Option.bind_some]
 show (chk (0 ≤ (x : Int))).bind _ = _
 rw [chkT (by omega), Option.bind_some]; rfl
theorem specSt_eq {p : Pasture} (v : VPasture p) (hw : okW p = true) {x y : Nat} (hx : x < 10) (hy : y < 10) {s : Bool} (hi : isB p x y s = true) : spec_l03Stands.f p (hu x y s) = some (stB p x y s) := by
 unfold spec_l03Stands.f
 rw [side_eq, Option.bind_some, show (hu x y s).At = sp x y from rfl]
 rw [closed_eq v hw hx hy (show sdI (hu x y s).South < 4 by unfold sdI; split <;> omega), Option.bind_some]
 unfold openB
 rw [show cellB p (nx (sp x y) (sdI (hu x y s).South : Nat)).X (nx (sp x y) (sdI (hu x y s).South : Nat)).Y = true from hi, Bool.true_and, Bool.not_not]
 cases s <;> rfl
/-! ### All sides, cell by cell -/
def cellH (p : Pasture) (x y : Nat) : List Hurdle := (if isB p x y false = true then [hu x y false] else []) ++ (if isB p x y true = true then [hu x y true] else [])
def rowH (p : Pasture) (y : Nat) : Nat → Nat → List Hurdle
  | _, 0 => []
  | x, n + 1 => cellH p x y ++ rowH p y (x + 1) n
def gridH (p : Pasture) (W : Nat) : Nat → Nat → List Hurdle
  | _, 0 => []
  | y, n + 1 => rowH p y 0 W ++ gridH p W (y + 1) n
theorem cellH_len (p : Pasture) (x y : Nat) : (cellH p x y).length ≤ 2 := by
 unfold cellH
 split <;> split <;> simp
theorem rowH_len (p : Pasture) (y : Nat) : ∀ n x, (rowH p y x n).length ≤ 2 * n
  | 0, x => by simp [rowH]
  | n + 1, x => by
    have := rowH_len p y n (x + 1)
    have := cellH_len p x y
    simp only [rowH, List.length_append]; omega
theorem gridH_len (p : Pasture) (W : Nat) : ∀ n y, (gridH p W y n).length ≤ 2 * W * n
  | 0, y => by simp [gridH]
  | n + 1, y => by
    have h1 := gridH_len p W n (y + 1)
    have h2 := rowH_len p y W 0
    simp only [gridH, List.length_append, Nat.mul_add, Nat.mul_one]; omega
theorem cellB_grid {p : Pasture} (hw : okW p = true) {x y : Nat} (hx : x < p.Wide.toNat) (hy : y < p.High.toNat) : cellB p (x : Int) (y : Int) = true := by
 obtain ⟨a, b⟩ := okW_iff.1 hw
 unfold cellB
 rw [Bool.and_eq_true, decide_eq_true_eq, decide_eq_true_eq]
 omega
theorem specRow_ev {p : Pasture} (v : VPasture p) (hw : okW p = true) {y : Nat} (hy : y < p.High.toNat) : ∀ x, x ≤ p.Wide.toNat → ∀ acc : List Hurdle, acc.length ≤ 4000 → Ev (fun k => spec_l03All.l2 p (y : Int) k acc (x : Int)) (acc ++ rowH p y x (p.Wide.toNat - x)) := by
 obtain ⟨a, b⟩ := okW_iff.1 hw
 have key : ∀ x, x ≤ p.Wide.toNat → ∀ acc : List Hurdle, acc.length + 2 * (p.Wide.toNat - x) ≤ 5000 → Ev (fun k => spec_l03All.l2 p (y : Int) k acc (x : Int)) (acc ++ rowH p y x (p.Wide.toNat - x)) := by
   refine upL ?_ ?_
   · intro acc ha
     refine Ev.step (fun k => spec_l03All.l2.eq_2 _ _ _ _ _) (Ev.neg (by omega) (Ev.const ?_))
     simp [rowH]
   · intro x hx ih acc ha
     have hc := cellB_grid hw hx hy
     have h1 := specIs_eq v (x := x) (y := y) (by omega) (by omega) hc false
     have h2 := specIs_eq v (x := x) (y := y) (by omega) (by omega) hc true
     have e : IntKind.i8.wrap ((x : Int) + 1) = ((x + 1 : Nat) : Int) := by rw [w8 (by omega) (by omega)]; omega
     have er : rowH p y x (p.Wide.toNat - x) = cellH p x y ++ rowH p y (x + 1) (p.Wide.toNat - (x + 1)) := by rw [show p.Wide.toNat - x = (p.Wide.toNat - (x + 1)) + 1 by omega]; rfl
     rw [er]
     refine Ev.step (fun k => spec_l03All.l2.eq_2 _ _ _ _ _) (Ev.pos (by omega) (Ev.bind (Ev.const h1) ?_))
     rw [e]
     unfold cellH
     cases i1 : isB p x y false
     · refine Ev.neg (by simp) (Ev.bind (Ev.const h2) ?_)
       cases i2 : isB p x y true
       · refine Ev.neg (by simp) ?_
         simpa using ih acc (by omega)
       · refine Ev.pos rfl (Ev.bind (Ev.const (chkT (by simp; omega))) ?_)
         have := ih (acc ++ [hu x y true]) (by simp; omega)
         rw [List.append_assoc] at this
         exact this
     · refine Ev.pos rfl (Ev.bind (Ev.const (chkT (by simp; omega))) (Ev.bind (Ev.const h2) ?_))
       cases i2 : isB p x y true
       · refine Ev.neg (by simp) ?_
         have := ih (acc ++ [hu x y false]) (by simp; omega)
         rw [List.append_assoc] at this
         exact this
       · refine Ev.pos rfl (Ev.bind (Ev.const (chkT (by simp; omega))) ?_)
         have := ih ((acc ++ [hu x y false]) ++ [hu x y true]) (by simp; omega)
         rw [show ((acc ++ [hu x y false]) ++ [hu x y true]) ++ rowH p y (x + 1) (p.Wide.toNat - (x + 1)) = acc ++ (([hu x y false] ++ [hu x y true]) ++ rowH p y (x + 1) (p.Wide.toNat - (x + 1))) by simp] at this
         exact this
 exact fun x hx acc ha => key x hx acc (by omega)
end Go.Proofs.YtegibnmfiogebaaGreat
/-
  Plain laws: the hurdles that stand; one hurdle taken away.
-/
namespace Go.Proofs.YtegibnmfiogebaaGreat
open G
set_option linter.unusedVariables false
set_option linter.unusedSimpArgs false
theorem specAllH_ev {p : Pasture} (v : VPasture p) (hw : okW p = true) : Ev (fun k => spec_l03All.f k p) (gridH p p.Wide.toNat 0 p.High.toNat) := by
 obtain ⟨a, b⟩ := okW_iff.1 hw
 have key : ∀ y, y ≤ p.High.toNat → ∀ acc : List Hurdle, acc.length ≤ 20 * y → Ev (fun k => spec_l03All.l1 p k acc (y : Int)) (acc ++ gridH p p.Wide.toNat y (p.High.toNat - y)) := by
   refine upL ?_ ?_
   · intro acc ha
     refine Ev.step (fun k => spec_l03All.l1.eq_2 _ _ _ _) (Ev.neg (by omega) (Ev.const ?_))
     simp [gridH]
   · intro y hy ih acc ha
     have e : IntKind.i8.wrap ((y : Int) + 1) = ((y + 1 : Nat) : Int) := by rw [w8 (by omega) (by omega)]; omega
     have hr := specRow_ev v hw hy 0 (Nat.zero_le _) acc (by omega)
     rw [Nat.sub_zero] at hr
     have hl := rowH_len p y p.Wide.toNat 0
     have := ih (acc ++ rowH p y 0 p.Wide.toNat) (by rw [List.length_append]; omega)
     rw [List.append_assoc] at this
     rw [show gridH p p.Wide.toNat y (p.High.toNat - y) = rowH p y 0 p.Wide.toNat ++ gridH p p.Wide.toNat (y + 1) (p.High.toNat - (y + 1)) by rw [show p.High.toNat - y = (p.High.toNat - (y + 1)) + 1 by omega]; rfl]
     refine Ev.step (fun k => spec_l03All.l1.eq_2 _ _ _ _) (Ev.pos (by omega) (Ev.bind (Ev.bind hr (Ev.const rfl)) ?_))
     rw [e]; exact this
 have := key 0 (Nat.zero_le _) [] (by simp)
 rw [List.nil_append, Nat.sub_zero] at this
 exact this.bind (Ev.const rfl)
/-- A side that is told. -/
def told (p : Pasture) (h : Hurdle) : Prop := ∃ (x y : Nat) (s : Bool), x < p.Wide.toNat ∧ y < p.High.toNat ∧ isB p x y s = true ∧ h = hu x y s
theorem cellH_told {p : Pasture} {x y : Nat} (hx : x < p.Wide.toNat) (hy : y < p.High.toNat) : ∀ h ∈ cellH p x y, told p h := by
 intro h hh
 unfold cellH at hh
 rcases List.mem_append.1 hh with hh | hh
 ·split at hh
  ·rename_i hi; exact ⟨x, y, false, hx, hy, hi, List.mem_singleton.1 hh⟩
  simp at hh
 split at hh
 ·rename_i hi; exact ⟨x, y, true, hx, hy, hi, List.mem_singleton.1 hh⟩
 simp at hh
theorem rowH_told {p : Pasture} {y : Nat} (hy : y < p.High.toNat) : ∀ n x, x + n ≤ p.Wide.toNat → ∀ h ∈ rowH p y x n, told p h
  | 0, x, _, h, hh => by simp [rowH] at hh
  | n + 1, x, hx, h, hh => by
    rcases List.mem_append.1 hh with hh | hh
    · exact cellH_told (by omega) hy h hh
    · exact rowH_told hy n (x + 1) (by omega) h hh
theorem gridH_told {p : Pasture} : ∀ n y, y + n ≤ p.High.toNat → ∀ h ∈ gridH p p.Wide.toNat y n, told p h
  | 0, y, _, h, hh => by simp [gridH] at hh
  | n + 1, y, hy, h, hh => by
    rcases List.mem_append.1 hh with hh | hh
    · exact rowH_told (by omega) _ 0 (by omega) h hh
    · exact gridH_told n (y + 1) (by omega) h hh
def stH (p : Pasture) (h : Hurdle) : Bool := stB p h.At.X.toNat h.At.Y.toNat h.South
/-! ### The program's -/
end Go.Proofs.YtegibnmfiogebaaGreat
/-
  Plain laws: the program's standing hurdles; one hurdle taken away.
-/
namespace Go.Proofs.YtegibnmfiogebaaGreat
open G
set_option linter.unusedVariables false
set_option linter.unusedSimpArgs false
def fl (p : Pasture) (l : List Spot) : List Hurdle := l.flatMap fun s => (cellH p s.X.toNat s.Y.toNat).filter (stH p)
/-! ### One hurdle taken away -/
def putF (p : Pasture) (x y : Nat) (s : Bool) : Pasture := if s = true then ⟨p.Wide, p.High, p.Grass, p.East, aset p.South y (andNotI .u16 (gA p.South y) (shlI .u16 1 (x : Int)))⟩ else ⟨p.Wide, p.High, p.Grass, aset p.East y (andNotI .u16 (gA p.East y) (shlI .u16 1 (x : Int))), p.South⟩
theorem set_eq (p : Pasture) {x y : Nat} (hx : x < 10) (hy : y < 10) (s : Bool) : spec_l01Set.f p (sp x y) (sdI s : Int) false = some (putF p x y s) := by
 have g1 : getI p.East.l (y : Int) = some (gA p.East y) := getA _ hy
 have g2 : getI p.South.l (y : Int) = some (gA p.South y) := getA _ hy
 have u := u64n hx
 have c : chk (0 ≤ (x : Int)) = some () := chkT (by omega)
 cases s
 ·simp [spec_l01Set.f, sdI, sp, u, chk, g1, putF]
 simp [spec_l01Set.f, sdI, sp, u, chk, g2, putF]
theorem put_eq (p : Pasture) {x y : Nat} (hx : x < 10) (hy : y < 10) (s : Bool) : impl_Pasture_put.f p (hu x y s) false = some (putF p x y s) := by
 have g1 : getI p.East.l (y : Int) = some (gA p.East y) := getA _ hy
 have g2 : getI p.South.l (y : Int) = some (gA p.South y) := getA _ hy
 have c : chk (0 ≤ (x : Int)) = some () := chkT (by omega)
 cases s
 ·simp [impl_Pasture_put.f, hu, sp, chk, g1, putF]
 simp [impl_Pasture_put.f, hu, sp, chk, g2, putF]
end Go.Proofs.YtegibnmfiogebaaGreat
