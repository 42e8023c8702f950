/-
  Plain law: ExplainedBy of the program and of the reference answer alike.
-/
import Derived.Test.YtpaciifeklccfaaQF
import Derived.Test.YtpaciifeklccfaaQX
namespace Go.Proofs.Ytpaciifeklccfaa
open G
set_option linter.unusedVariables false
set_option linter.unusedSimpArgs false
/-- What is seen with one hurdle less. -/
def Sg (p : Pasture) (xs : List Sight) (c : Int) (h : Hurdle) (r : Int) : Prop := ∃ p', Ev (fun k => spec_l03Put.f k p [h] false) p' ∧ Ev (fun k => impl_Pasture_with.f k p [h] false) p' ∧ Ev (fun k => spec_l07Strange.f k p' xs c) r ∧ Ev (fun k => impl_Pasture_strange.f k p' xs c) r
theorem less_loop {p : Pasture} {xs : List Sight} {c : Int} {T : List Hurdle} (hT : T.length ≤ 200) {dl : Hurdle → Bool} (hd : ∀ h ∈ T, ∃ r, Sg p xs c h r ∧ dl h = decide (0 ≤ r)) : ∀ i, i ≤ T.length → ∀ acc : List Hurdle, acc.length ≤ i → Ev (fun k => spec_ExplainedBy.l1 p xs c k acc T (i : Int)) (acc ++ (T.drop i).filter (fun h => !dl h)) := by
  refine upL ?_ ?_
  · intro acc ha
    refine Ev.step (fun k => spec_ExplainedBy.l1.eq_2 _ _ _ _ _ _ _) (Ev.neg (by omega) (Ev.const ?_))
    rw [List.drop_length]; simp
  · intro i hi ih acc ha
    obtain ⟨r, ⟨p', s1, _, s3, _⟩, hr⟩ := hd _ (List.getElem_mem hi)
    have hw := wsucc hi (by omega)
    have hcut : (T.drop ((i : Int).toNat)).take ((IntKind.i64.wrap ((i : Int) + 1)).toNat - (i : Int).toNat) = [T[i]] := by
      rw [hw, Int.toNat_natCast, Int.toNat_natCast, show i + 1 - i = 1 by omega, List.drop_eq_getElem_cons hi]; rfl
    refine Ev.step (fun k => spec_ExplainedBy.l1.eq_2 _ _ _ _ _ _ _) (Ev.pos (by omega) (Ev.bind (Ev.const (chkT (by rw [hw]; omega))) ?_))
    rw [hcut, hw, List.drop_eq_getElem_cons hi, List.filter_cons]
    refine s1.bind (s3.bind ?_)
    rw [hr]
    by_cases z : r < 0
    · refine Ev.pos z (Ev.bind (Ev.const (getI_nat hi)) (Ev.bind (Ev.const (chkT (by simp; omega))) ?_))
      rw [decide_eq_false (by omega)]
      have := ih (acc ++ [T[i]]) (by simp; omega)
      rw [List.append_assoc] at this
      exact this
    · refine Ev.neg z ?_
      rw [decide_eq_true (by omega)]
      simpa using ih acc (by omega)
theorem explained_ev {p : Pasture} (v : VPasture p) (xs : List Sight) (hv : ∀ s ∈ xs, VSight s) (hx : xs.length ≤ 1048576) (c : Int) : ∃ r : List Hurdle × Int, r.1.length ≤ 200 ∧ Ev (fun k => spec_ExplainedBy.f k p xs c) r ∧ Ev (fun k => impl_ExplainedBy.f k p xs c) r := by
  have h1 := goat_ev v xs hv hx c
  have h2 := sightCode_ev v xs hv hx c
  by_cases h : sCode p xs c = 0
  · obtain ⟨hw, _, hc⟩ := sCode_zero h
    obtain ⟨r, r1, r2⟩ := strange_ev v hw xs hx hc c
    by_cases z : r < 0
    · exact ⟨([], 6), by simp, h1.bind (Ev.neg (by rw [h]; simp) (r1.bind (Ev.pos z (Ev.const rfl)))), h2.bind (Ev.neg (by rw [h]; simp) (r2.bind (Ev.pos z (Ev.const rfl))))⟩
    · obtain ⟨w1, w2⟩ := okW_iff.1 hw
      have hlen : ((gridH p p.Wide.toNat 0 p.High.toNat).filter (stH p)).length ≤ 200 := by
        have := gridH_len p p.Wide.toNat p.High.toNat 0
        have h2 : 2 * p.Wide.toNat * p.High.toNat ≤ 20 * 10 := Nat.mul_le_mul (by omega) (by omega)
        have := List.length_filter_le (stH p) (gridH p p.Wide.toNat 0 p.High.toNat)
        omega
      have hS : ∀ h ∈ (gridH p p.Wide.toNat 0 p.High.toNat).filter (stH p), ∃ r, Sg p xs c h r := by
        intro h hh
        obtain ⟨x, y, s, hx', hy', _, rfl⟩ := gridH_told (p := p) p.High.toNat 0 (by omega) h (List.mem_filter.1 hh).1
        obtain ⟨q, q1, q2⟩ := strange_ev (p := putF p x y s) (putF_V v x y s) (by rw [putF_okW]; exact hw) xs hx (fun i hi => by rw [putF_cell]; exact hc i hi) c
        exact ⟨q, putF p x y s, specPut_ev p (by omega) (by omega) s, implWith_ev p (by omega) (by omega) s, q1, q2⟩
      obtain ⟨dl, hdl⟩ : ∃ dl : Hurdle → Bool, ∀ h ∈ (gridH p p.Wide.toNat 0 p.High.toNat).filter (stH p), ∃ r, Sg p xs c h r ∧ dl h = decide (0 ≤ r) := by
        classical
        exact ⟨fun h => if hh : h ∈ (gridH p p.Wide.toNat 0 p.High.toNat).filter (stH p) then decide (0 ≤ Classical.choose (hS h hh)) else false, fun h hh => ⟨Classical.choose (hS h hh), Classical.choose_spec (hS h hh), dif_pos hh⟩⟩
      have l1 := less_loop hlen hdl 0 (Nat.zero_le _) [] (by simp)
      rw [List.nil_append, List.drop_zero] at l1
      have l2 := delete_ev ((gridH p p.Wide.toNat 0 p.High.toNat).filter (stH p)) (g := fun k => impl_ExplainedBy_1.f k p xs c) (dl := dl) (fun h hh => by
        obtain ⟨q, ⟨p', _, s2, _, s4⟩, hq⟩ := hdl h hh
        rw [hq]
        exact s2.bind (s4.bind (Ev.const rfl))) (by omega)
      refine ⟨(((gridH p p.Wide.toNat 0 p.High.toNat).filter (stH p)).filter (fun h => !dl h), 0), Nat.le_trans (List.length_filter_le _ _) hlen, h1.bind (Ev.neg (by rw [h]; simp) (r1.bind (Ev.neg z ((standing_ev v hw).bind (l1.bind (Ev.const rfl)))))), h2.bind (Ev.neg (by rw [h]; simp) (r2.bind (Ev.neg z ((hurdles_ev v hw).bind (l2.bind (Ev.const rfl))))))⟩
  · exact ⟨([], sCode p xs c), by simp, h1.bind (Ev.pos h (Ev.const rfl)), h2.bind (Ev.pos h (Ev.const rfl))⟩
theorem FnExactExplainedBy.pure (x0 : Pasture) (hv0 : VPasture x0) (x1 : List Sight) (hv1 : ∀ x ∈ x1, (VSight) x) (hb1 : x1.length * 4 ≤ 140737488351232) (x2 : Int) (hv2 : inI .i64 x2) : ∃ k, laws_FnExactExplainedBy.f k x0 x1 x2 = some true := by
  refine Ev.get (r := true) ?_
  refine Ev.bind (Ev.const (laws_szSightS_eq x1 1048576 (by omega) (by omega) (by omega))) ?_
  by_cases h0 : (1048576 : Int) < x1.length
  · rw [if_pos h0]; exact Ev.const rfl
  rw [if_neg h0]
  have hp := laws_toPasture_ev x0
  have ht := laws_toSightS_ev x1 (by omega)
  have he := laws_eqSightS_ev x1 x1 (by omega)
  rw [decide_eq_true rfl] at he
  obtain ⟨⟨g, c⟩, hl, r1, r2⟩ := explained_ev hv0 x1 hv1 (by omega) x2
  have hl : g.length ≤ 200 := hl
  have hq : Ev (fun k => (laws_eqHurdleS.f k g g).bind fun t18 => if (!t18) = true then (some true) else (some (decide (c ≠ c)))) false := by
    have he := laws_eqHurdleS_ev g g (by omega)
    rw [decide_eq_true rfl] at he
    exact he.bind (Ev.neg (by simp) (Ev.const (by simp)))
  obtain ⟨ys, hm⟩ := markSight_ev x1 1 (by omega) (by omega)
  have hk := markHurdle_ev g 1 (by omega) (by omega)
  have hd := heldHurdle_ev g.length 1 (by omega) (by omega)
  exact Ev.neg (by omega) (hp.bind (ht.bind (r1.bind (ht.bind (hp.bind (r2.bind (Ev.bind hq (Ev.neg (by simp) (ht.bind (he.bind (Ev.neg (by simp) (hm.bind (Ev.bind (Ev.neg (by show ¬ (1 + 3 * (x1.length : Int)) < 0; omega) hq) (Ev.neg (by simp) (hk.bind (hd.bind (Ev.neg (by omega) (Ev.neg (by simp) (hp.bind (ht.bind (r2.bind (Ev.bind hq (Ev.neg (by simp) (hd.bind (Ev.neg (by omega) (Ev.neg (by simp) (Ev.const rfl)))))))))))))))))))))))))))
end Go.Proofs.Ytpaciifeklccfaa
