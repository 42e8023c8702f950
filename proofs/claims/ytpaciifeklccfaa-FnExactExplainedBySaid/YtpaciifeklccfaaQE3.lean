/-
  Plain laws: the program's standing hurdles; one hurdle taken away.
-/
import Derived.Test.YtpaciifeklccfaaQE2
namespace Go.Proofs.Ytpaciifeklccfaa
open G
set_option linter.unusedVariables false
set_option linter.unusedSimpArgs false
def fl (p : Pasture) (l : List Spot) : List Hurdle := l.flatMap fun s => (cellH p s.X.toNat s.Y.toNat).filter (stH p)
theorem fl_app (p : Pasture) (a b : List Spot) : fl p (a ++ b) = fl p a ++ fl p b := by unfold fl; rw [List.flatMap_append]
theorem fl_row (p : Pasture) (y : Nat) : ∀ n x, fl p (rowF (fun _ => true) y x n) = (rowH p y x n).filter (stH p)
  | 0, x => rfl
  | n + 1, x => by
    rw [rowF, rowH, if_pos rfl, fl_app, fl_row p y n (x + 1), List.filter_append]
    congr 1
    show (cellH p (x : Int).toNat (y : Int).toNat).filter (stH p) ++ [] = _
    rw [List.append_nil]; rfl
theorem fl_grid (p : Pasture) (W : Nat) : ∀ n y, fl p (gridF (fun _ _ => true) W y n) = (gridH p W y n).filter (stH p)
  | 0, y => rfl
  | n + 1, y => by rw [gridF, gridH, fl_app, fl_row, fl_grid p W n (y + 1), List.filter_append]
theorem hurdles_ev {p : Pasture} (v : VPasture p) (hw : okW p = true) : Ev (fun k => impl_Pasture_hurdles.f k p) ((gridH p p.Wide.toNat 0 p.High.toNat).filter (stH p)) := by
  obtain ⟨a, b⟩ := okW_iff.1 hw
  have hall : Ev (fun k => impl_Pasture_all.f k p) (gridF (fun _ _ => true) p.Wide.toNat 0 p.High.toNat) := ⟨24, fun k hk => all_eq hw hk⟩
  have hlen : (gridF (fun _ _ => true) p.Wide.toNat 0 p.High.toNat).length ≤ 100 := by
    have := gridF_len (fun _ _ => true) p.Wide.toNat p.High.toNat 0
    have h2 : p.High.toNat * p.Wide.toNat ≤ 10 * 10 := Nat.mul_le_mul (by omega) (by omega)
    omega
  have key : ∀ i, i ≤ (gridF (fun _ _ => true) p.Wide.toNat 0 p.High.toNat).length → ∀ acc : List Hurdle, acc.length ≤ 2 * i → Ev (fun k => impl_Pasture_sides.l1 p (impl_Pasture_stands.f p) (gridF (fun _ _ => true) p.Wide.toNat 0 p.High.toNat) k acc (i : Int)) (acc ++ fl p ((gridF (fun _ _ => true) p.Wide.toNat 0 p.High.toNat).drop i)) := by
    refine upL ?_ ?_
    · intro acc ha
      refine Ev.step (fun k => impl_Pasture_sides.l1.eq_2 _ _ _ _ _ _) (Ev.neg (by omega) (Ev.const ?_))
      rw [List.drop_length]; simp [fl]
    · intro i hi ih acc ha
      obtain ⟨y, x, _, hy, hx, _, e⟩ := gridF_mem.1 (List.getElem_mem hi)
      have hg : getI (gridF (fun _ _ => true) p.Wide.toNat 0 p.High.toNat) (i : Int) = some (sp x y) := by rw [getI_nat hi, e]; rfl
      have hc := implCell_ev v hw (x := x) (y := y) hx (by omega) acc (by omega)
      have hl : ((cellH p x y).filter (stH p)).length ≤ 2 := Nat.le_trans (List.length_filter_le _ _) (cellH_len p x y)
      have := ih (acc ++ (cellH p x y).filter (stH p)) (by rw [List.length_append]; omega)
      rw [List.append_assoc] at this
      refine Ev.step (fun k => impl_Pasture_sides.l1.eq_2 _ _ _ _ _ _) (Ev.pos (by omega) (Ev.bind (Ev.bind (Ev.const hg) (hc.bind (Ev.const rfl))) ?_))
      rw [wsucc hi (by omega), List.drop_eq_getElem_cons hi, e]
      exact this
  have := key 0 (Nat.zero_le _) [] (by simp)
  rw [List.nil_append, List.drop_zero, fl_grid] at this
  exact Ev.bind (hall.bind (this.bind (Ev.const rfl))) (Ev.const rfl)
/-! ### One hurdle taken away -/
def putF (p : Pasture) (x y : Nat) (s : Bool) : Pasture := if s = true then ⟨p.Wide, p.High, p.Grass, p.East, aset p.South y (andNotI .u16 (gA p.South y) (shlI .u16 1 (x : Int)))⟩ else ⟨p.Wide, p.High, p.Grass, aset p.East y (andNotI .u16 (gA p.East y) (shlI .u16 1 (x : Int))), p.South⟩
theorem set_eq (p : Pasture) {x y : Nat} (hx : x < 10) (hy : y < 10) (s : Bool) : spec_l01Set.f p (sp x y) (sdI s : Int) false = some (putF p x y s) := by
  have g1 : getI p.East.l (y : Int) = some (gA p.East y) := getA _ hy
  have g2 : getI p.South.l (y : Int) = some (gA p.South y) := getA _ hy
  have u := u64n hx
  have c : chk (0 ≤ (x : Int)) = some () := chkT (by omega)
  cases s
  · simp [spec_l01Set.f, sdI, sp, u, chk, g1, putF]
  · simp [spec_l01Set.f, sdI, sp, u, chk, g2, putF]
theorem put_eq (p : Pasture) {x y : Nat} (hx : x < 10) (hy : y < 10) (s : Bool) : impl_Pasture_put.f p (hu x y s) false = some (putF p x y s) := by
  have g1 : getI p.East.l (y : Int) = some (gA p.East y) := getA _ hy
  have g2 : getI p.South.l (y : Int) = some (gA p.South y) := getA _ hy
  have c : chk (0 ≤ (x : Int)) = some () := chkT (by omega)
  cases s
  · simp [impl_Pasture_put.f, hu, sp, chk, g1, putF]
  · simp [impl_Pasture_put.f, hu, sp, chk, g2, putF]
theorem specPut_ev (p : Pasture) {x y : Nat} (hx : x < 10) (hy : y < 10) (s : Bool) : Ev (fun k => spec_l03Put.f k p [hu x y s] false) (putF p x y s) := by
  refine Ev.bind (Ev.step (fun k => spec_l03Put.l1.eq_2 _ _ _ _ _) (Ev.pos (by simp) (Ev.bind (Ev.const (show _ = some (hu x y s) from rfl)) (Ev.bind (Ev.const (show _ = some (hu x y s) from rfl)) (Ev.bind (Ev.const (side_eq _)) (Ev.bind (Ev.const (set_eq p hx hy s)) ?_)))))) (Ev.const rfl)
  exact Ev.step (fun k => spec_l03Put.l1.eq_2 _ _ _ _ _) (Ev.neg (by rw [show IntKind.i64.wrap (0 + 1) = 1 from by decide]; simp) (Ev.const rfl))
theorem implWith_ev (p : Pasture) {x y : Nat} (hx : x < 10) (hy : y < 10) (s : Bool) : Ev (fun k => impl_Pasture_with.f k p [hu x y s] false) (putF p x y s) := by
  refine Ev.bind (Ev.step (fun k => impl_Pasture_with.l1.eq_2 _ _ _ _ _) (Ev.pos (by simp) (Ev.bind (Ev.const (show _ = some (hu x y s) from rfl)) (Ev.bind (Ev.const (put_eq p hx hy s)) ?_)))) (Ev.const rfl)
  exact Ev.step (fun k => impl_Pasture_with.l1.eq_2 _ _ _ _ _) (Ev.neg (by rw [show IntKind.i64.wrap (0 + 1) = 1 from by decide]; simp) (Ev.const rfl))
theorem u16_in (z : Int) : inI .u16 (IntKind.u16.wrap z) := by
  have h1 : IntKind.u16.min = 0 := by decide
  have h2 : IntKind.u16.max = 65535 := by decide
  have : IntKind.u16.wrap z = z % 65536 := by simp [IntKind.wrap, IntKind.bits, IntKind.signed]
  refine ⟨?_, ?_⟩ <;> rw [this] <;> simp only [h1, h2] <;> omega
theorem putF_V {p : Pasture} (v : VPasture p) (x y : Nat) (s : Bool) : VPasture (putF p x y s) := by
  obtain ⟨v1, v2, v3, v4, v5⟩ := v
  cases s
  · refine ⟨v1, v2, v3, fun e he => ?_, v5⟩
    rcases List.mem_or_eq_of_mem_set (show e ∈ p.East.l.set y _ from he) with h | h
    · exact v4 e h
    · rw [h]; exact u16_in _
  · refine ⟨v1, v2, v3, v4, fun e he => ?_⟩
    rcases List.mem_or_eq_of_mem_set (show e ∈ p.South.l.set y _ from he) with h | h
    · exact v5 e h
    · rw [h]; exact u16_in _
theorem putF_okW (p : Pasture) (x y : Nat) (s : Bool) : okW (putF p x y s) = okW p := by cases s <;> rfl
theorem putF_cell (p : Pasture) (x y : Nat) (s : Bool) (a b : Int) : cellB (putF p x y s) a b = cellB p a b := by cases s <;> rfl
end Go.Proofs.Ytpaciifeklccfaa
