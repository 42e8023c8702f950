/-
  Plain laws: the hurdles that stand; one hurdle taken away.
-/
import Derived.Test.YtpaciifeklccfaaQE
namespace Go.Proofs.Ytpaciifeklccfaa
open G
set_option linter.unusedVariables false
set_option linter.unusedSimpArgs false
theorem specAll_ev {p : Pasture} (v : VPasture p) (hw : okW p = true) : Ev (fun k => spec_l03All.f k p) (gridH p p.Wide.toNat 0 p.High.toNat) := by
  obtain ⟨a, b⟩ := okW_iff.1 hw
  have key : ∀ y, y ≤ p.High.toNat → ∀ acc : List Hurdle, acc.length ≤ 20 * y → Ev (fun k => spec_l03All.l1 p k acc (y : Int)) (acc ++ gridH p p.Wide.toNat y (p.High.toNat - y)) := by
    refine upL ?_ ?_
    · intro acc ha
      refine Ev.step (fun k => spec_l03All.l1.eq_2 _ _ _ _) (Ev.neg (by omega) (Ev.const ?_))
      simp [gridH]
    · intro y hy ih acc ha
      have e : IntKind.i8.wrap ((y : Int) + 1) = ((y + 1 : Nat) : Int) := by rw [w8 (by omega) (by omega)]; omega
      have hr := specRow_ev v hw hy 0 (Nat.zero_le _) acc (by omega)
      rw [Nat.sub_zero] at hr
      have hl := rowH_len p y p.Wide.toNat 0
      have := ih (acc ++ rowH p y 0 p.Wide.toNat) (by rw [List.length_append]; omega)
      rw [List.append_assoc] at this
      rw [show gridH p p.Wide.toNat y (p.High.toNat - y) = rowH p y 0 p.Wide.toNat ++ gridH p p.Wide.toNat (y + 1) (p.High.toNat - (y + 1)) by rw [show p.High.toNat - y = (p.High.toNat - (y + 1)) + 1 by omega]; rfl]
      refine Ev.step (fun k => spec_l03All.l1.eq_2 _ _ _ _) (Ev.pos (by omega) (Ev.bind (Ev.bind hr (Ev.const rfl)) ?_))
      rw [e]; exact this
  have := key 0 (Nat.zero_le _) [] (by simp)
  rw [List.nil_append, Nat.sub_zero] at this
  exact this.bind (Ev.const rfl)
/-- A side that is told. -/
def told (p : Pasture) (h : Hurdle) : Prop := ∃ (x y : Nat) (s : Bool), x < p.Wide.toNat ∧ y < p.High.toNat ∧ isB p x y s = true ∧ h = hu x y s
theorem cellH_told {p : Pasture} {x y : Nat} (hx : x < p.Wide.toNat) (hy : y < p.High.toNat) : ∀ h ∈ cellH p x y, told p h := by
  intro h hh
  unfold cellH at hh
  rcases List.mem_append.1 hh with hh | hh
  · split at hh
    · rename_i hi; exact ⟨x, y, false, hx, hy, hi, List.mem_singleton.1 hh⟩
    · simp at hh
  · split at hh
    · rename_i hi; exact ⟨x, y, true, hx, hy, hi, List.mem_singleton.1 hh⟩
    · simp at hh
theorem rowH_told {p : Pasture} {y : Nat} (hy : y < p.High.toNat) : ∀ n x, x + n ≤ p.Wide.toNat → ∀ h ∈ rowH p y x n, told p h
  | 0, x, _, h, hh => by simp [rowH] at hh
  | n + 1, x, hx, h, hh => by
    rcases List.mem_append.1 hh with hh | hh
    · exact cellH_told (by omega) hy h hh
    · exact rowH_told hy n (x + 1) (by omega) h hh
theorem gridH_told {p : Pasture} : ∀ n y, y + n ≤ p.High.toNat → ∀ h ∈ gridH p p.Wide.toNat y n, told p h
  | 0, y, _, h, hh => by simp [gridH] at hh
  | n + 1, y, hy, h, hh => by
    rcases List.mem_append.1 hh with hh | hh
    · exact rowH_told (by omega) _ 0 (by omega) h hh
    · exact gridH_told n (y + 1) (by omega) h hh
def stH (p : Pasture) (h : Hurdle) : Bool := stB p h.At.X.toNat h.At.Y.toNat h.South
theorem standing_ev {p : Pasture} (v : VPasture p) (hw : okW p = true) : Ev (fun k => spec_l03Standing.f k p) ((gridH p p.Wide.toNat 0 p.High.toNat).filter (stH p)) := by
  obtain ⟨a, b⟩ := okW_iff.1 hw
  have hT := gridH_told (p := p) p.High.toNat 0 (by omega)
  have hlen : (gridH p p.Wide.toNat 0 p.High.toNat).length ≤ 200 := by
    have := gridH_len p p.Wide.toNat p.High.toNat 0
    have h2 : 2 * p.Wide.toNat * p.High.toNat ≤ 20 * 10 := Nat.mul_le_mul (by omega) (by omega)
    omega
  have key : ∀ i, i ≤ (gridH p p.Wide.toNat 0 p.High.toNat).length → ∀ acc : List Hurdle, acc.length ≤ i → Ev (fun k => spec_l03Standing.l1 p (gridH p p.Wide.toNat 0 p.High.toNat) k acc (i : Int)) (acc ++ ((gridH p p.Wide.toNat 0 p.High.toNat).drop i).filter (stH p)) := by
    refine upL ?_ ?_
    · intro acc ha
      refine Ev.step (fun k => spec_l03Standing.l1.eq_2 _ _ _ _ _) (Ev.neg (by omega) (Ev.const ?_))
      rw [List.drop_length]; simp
    · intro i hi ih acc ha
      obtain ⟨x, y, s, hx, hy, hs, e⟩ := hT _ (List.getElem_mem hi)
      have hst : spec_l03Stands.f p (gridH p p.Wide.toNat 0 p.High.toNat)[i] = some (stH p (gridH p p.Wide.toNat 0 p.High.toNat)[i]) := by
        rw [e]; exact specSt_eq v hw (by omega) (by omega) hs
      refine Ev.step (fun k => spec_l03Standing.l1.eq_2 _ _ _ _ _) (Ev.pos (by omega) (Ev.bind (Ev.const (getI_nat hi)) (Ev.bind (Ev.const hst) ?_)))
      rw [List.drop_eq_getElem_cons hi, List.filter_cons, wsucc hi (by omega)]
      cases hc : stH p (gridH p p.Wide.toNat 0 p.High.toNat)[i]
      · refine Ev.neg (by simp) ?_
        simpa using ih acc (by omega)
      · refine Ev.pos rfl (Ev.bind (Ev.const (getI_nat hi)) (Ev.bind (Ev.const (chkT (by simp; omega))) ?_))
        have := ih (acc ++ [(gridH p p.Wide.toNat 0 p.High.toNat)[i]]) (by simp; omega)
        rw [List.append_assoc] at this
        simpa using this
  have := key 0 (Nat.zero_le _) [] (by simp)
  rw [List.nil_append, List.drop_zero] at this
  exact (specAll_ev v hw).bind (this.bind (Ev.const rfl))
/-! ### The program's -/
theorem implCell_ev {p : Pasture} (v : VPasture p) (hw : okW p = true) {x y : Nat} (hx : x < p.Wide.toNat) (hy : y < p.High.toNat) (acc : List Hurdle) (ha : acc.length ≤ 4000) : Ev (fun k => impl_Pasture_sides.l2 p (impl_Pasture_stands.f p) (sp x y) k acc 0) (acc ++ (cellH p x y).filter (stH p)) := by
  obtain ⟨a, b⟩ := okW_iff.1 hw
  have hc := cellB_grid hw hx hy
  have one : ∀ (s : Bool) (i : Nat) (acc : List Hurdle) (r : List Hurdle), i < 2 → acc.length ≤ 4001 → getI ([false, true] : List Bool) (i : Int) = some s →
      (∀ acc' : List Hurdle, acc' = acc ++ (if isB p x y s = true ∧ stH p (hu x y s) = true then [hu x y s] else []) → Ev (fun k => impl_Pasture_sides.l2 p (impl_Pasture_stands.f p) (sp x y) k acc' ((i + 1 : Nat) : Int)) r) →
      Ev (fun k => impl_Pasture_sides.l2 p (impl_Pasture_stands.f p) (sp x y) k acc (i : Int)) r := by
    intro s i acc r hi hal hg hk
    have h1 := implIs_eq v hw (x := x) (y := y) (by omega) (by omega) hc s
    have h2 := implSt_eq p (x := x) (y := y) (by omega) s
    have e : IntKind.i64.wrap ((i : Int) + 1) = ((i + 1 : Nat) : Int) := wsucc hi (by omega)
    refine Ev.step (fun k => impl_Pasture_sides.l2.eq_2 _ _ _ _ _ _) (Ev.pos (by simp; omega) (Ev.bind (Ev.const hg) (Ev.bind (Ev.const h1) ?_)))
    rw [e]
    cases i1 : isB p x y s
    · exact Ev.neg (by simp) (hk acc (by rw [if_neg (by rw [i1]; simp)]; simp))
    · refine Ev.pos rfl (Ev.bind (Ev.const h2) ?_)
      have es : stH p (hu x y s) = stB p x y s := rfl
      cases i2 : stB p x y s
      · exact Ev.neg (by simp) (hk acc (by rw [if_neg (by rw [es, i2]; simp)]; simp))
      · exact Ev.pos rfl (Ev.bind (Ev.const (chkT (by simp; omega))) (hk _ (by rw [if_pos ⟨i1, es.trans i2⟩]; rfl)))
  refine one false 0 acc _ (by omega) (by omega) rfl (fun acc' e => ?_)
  have hl : acc'.length ≤ 4001 := by rw [e]; split <;> simp <;> omega
  refine one true 1 acc' _ (by omega) hl rfl (fun acc2 e2 => ?_)
  refine Ev.step (fun k => impl_Pasture_sides.l2.eq_2 _ _ _ _ _ _) (Ev.neg (by simp) (Ev.const ?_))
  rw [e2, e, List.append_assoc]
  congr 2
  unfold cellH
  rw [List.filter_append]
  cases isB p x y false <;> cases isB p x y true <;> cases h3 : stH p (hu x y false) <;> cases h4 : stH p (hu x y true) <;> simp [h3, h4]
end Go.Proofs.Ytpaciifeklccfaa
