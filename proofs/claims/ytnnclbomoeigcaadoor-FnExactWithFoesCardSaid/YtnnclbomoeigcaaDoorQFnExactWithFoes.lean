/-
  Plain law: WithFoes of the program and of the reference answer alike.
-/
import Derived.Test.YtnnclbomoeigcaaDoorQJ
import Derived.Test.YtnnclbomoeigcaaDoorQL
namespace Go.Proofs.YtnnclbomoeigcaaDoor
open G
set_option linter.unusedVariables false
set_option linter.unusedSimpArgs false
theorem or_none (x y b : Int) : orI .u16 (andNotI .u16 x y) (shlI .u16 (IntKind.u16.wrap 0) b) = andNotI .u16 x y := by
  have h0 : shlI .u16 (IntKind.u16.wrap 0) b = 0 := by
    unfold shlI
    rw [show IntKind.u16.wrap 0 = 0 from rfl, Int.zero_mul]; rfl
  rw [h0]
  have e : andNotI .u16 x y = (((B16 x &&& ~~~ B16 y).toNat : Nat) : Int) := wu16b _
  rw [e]
  unfold orI
  have e2 : (B16 (((B16 x &&& ~~~ B16 y).toNat : Nat) : Int) ||| B16 0) = B16 x &&& ~~~ B16 y := by
    rw [B16_nat]
    show (B16 x &&& ~~~ B16 y) ||| 0#16 = _
    simp
  show IntKind.u16.wrap (((B16 (((B16 x &&& ~~~ B16 y).toNat : Nat) : Int) ||| B16 0).toNat : Nat) : Int) = _
  rw [e2]
  exact wu16b _
theorem put_eq {h : Herd} {a b : Nat} (ha : a < h.Foes.length) (hb : b < h.Foes.length) (hab : a ≠ b) (hl : h.Foes.length ≤ 14) (f : Bool) : ∃ r : List Int, r.length = h.Foes.length ∧ spec_l06Put.f h (a : Int) (b : Int) f = some r ∧ impl_Herd_set.f h (a : Int) (b : Int) f = some r := by
  have ua : IntKind.u64.wrap (a : Int) = (a : Int) := wu64 (by omega) (by omega)
  have ub : IntKind.u64.wrap (b : Int) = (b : Int) := wu64 (by omega) (by omega)
  have c1 : chk (0 ≤ (a : Int)) = some () := chkT (by omega)
  have c2 : chk (0 ≤ (b : Int)) = some () := chkT (by omega)
  have g1 : getI h.Foes (a : Int) = some h.Foes[a] := getI_nat ha
  have g2 : ∀ X, getI (h.Foes.set a X) (b : Int) = some h.Foes[b] := fun X => by
    rw [getI_nat (by simpa using hb), List.getElem_set_ne hab]
  have g3 : ∀ X Y, getI ((h.Foes.set a X).set b Y) (a : Int) = some X := fun X Y => by
    rw [getI_nat (by simpa using ha), List.getElem_set_ne (Ne.symm hab), List.getElem_set_self]
  have cl : ∀ X Y Z, ((h.Foes.set a X).set b Y).set a Z = (h.Foes.set a Z).set b Y := fun X Y Z => by
    rw [List.set_comm Y Z (Ne.symm hab), List.set_set]
  have g4 : ∀ X Y, getI ((h.Foes.set a X).set b Y) (b : Int) = some Y := fun X Y => by
    rw [getI_nat (by simpa using hb), List.getElem_set_self]
  cases f
  · refine ⟨(h.Foes.set a (andNotI .u16 h.Foes[a] (shlI .u16 1 b))).set b (andNotI .u16 h.Foes[b] (shlI .u16 1 a)), by simp, ?_, ?_⟩
    · unfold spec_l06Put.f
      simp only [ua, ub, Int.toNat_natCast, g1, Option.bind_some, g2, c1, c2, Bool.false_eq_true, if_false]
    · unfold impl_Herd_set.f impl_bit.f
      simp only [Int.toNat_natCast, g1, Option.bind_some, g2, c1, c2, Bool.false_eq_true, if_false, or_none]
  · refine ⟨(h.Foes.set a (orI .u16 (andNotI .u16 h.Foes[a] (shlI .u16 1 b)) (shlI .u16 1 b))).set b (orI .u16 (andNotI .u16 h.Foes[b] (shlI .u16 1 a)) (shlI .u16 1 a)), by simp, ?_, ?_⟩
    · unfold spec_l06Put.f
      simp only [ua, ub, Int.toNat_natCast, g1, Option.bind_some, g2, c1, c2, if_true, g3, cl, g4, List.set_set]
    · unfold impl_Herd_set.f impl_bit.f
      simp only [Int.toNat_natCast, g1, Option.bind_some, g2, c1, c2, if_true, show IntKind.u16.wrap 1 = 1 from rfl]
theorem withFoes_ev {h : Herd} (v : VHerd h) (hs : smallH h) (a b : Int) (f : Bool) : ∃ r : Herd × Int, smallH r.1 ∧ Ev (fun k => spec_WithFoes.f k h a b f) r ∧ Ev (fun k => impl_WithFoes.f k h a b f) r := by
  have h1 := specAsked_ev v [a, b] (by simp)
  have h2 := herdCode_ev v [a, b] (by simp)
  have hsm : smallH (⟨[], [], []⟩ : Herd) := ⟨by simp, by simp, by simp⟩
  have hu := unless_eq (decide (a ≠ b)) 4
  by_cases hc : goatC h [a, b] = 0
  · by_cases hab : a = b
    · have e4 : foL [goatC h [a, b], if decide (a ≠ b) = true then 0 else 4] = 4 := by
        rw [hc, decide_eq_false (show ¬ a ≠ b from fun h => h hab)]; rfl
      refine ⟨((⟨[], [], []⟩ : Herd), 4), hsm, h1.bind (Ev.bind (Ev.pos hc (Ev.const rfl)) (Ev.pos (by simp [hab]) (Ev.const rfl))), h2.bind (Ev.bind (Ev.const hu) (Ev.bind (firstOf_ev _ (by simp)) (Ev.pos ?_ (Ev.const ?_))))⟩
      · rw [e4]; omega
      · rw [e4]
    · obtain ⟨hv, hg⟩ := goatC_zero hc
      obtain ⟨i, hi, rfl⟩ := hg a (by simp)
      obtain ⟨j, hj, rfl⟩ := hg b (by simp)
      obtain ⟨n1, n2, n3⟩ := vH_len hv
      obtain ⟨r, hr, p1, p2⟩ := put_eq (h := h) (a := i) (b := j) (by omega) (by omega) (fun e => hab (by rw [e])) (by omega) f
      refine ⟨((⟨h.Names, h.Eats, r⟩ : Herd), 0), ⟨by show h.Names.length ≤ _; omega, by show h.Eats.length ≤ _; omega, by show r.length ≤ _; omega⟩, h1.bind (Ev.bind (Ev.pos hc (Ev.const rfl)) (Ev.neg (by simp only [decide_eq_true_eq]; exact hab) (Ev.neg (by rw [hc]; simp) (Ev.bind (Ev.const (specOwn_eq h hs)) (Ev.bind (Ev.const p1) (Ev.const rfl)))))),
        h2.bind (Ev.bind (Ev.const hu) (Ev.bind (firstOf_ev _ (by simp)) (Ev.neg ?_ (Ev.bind (Ev.const (implOwn_eq h hs)) (Ev.bind (Ev.const p2) (Ev.const rfl))))))⟩
      have hd : decide ((i : Int) ≠ (j : Int)) = true := decide_eq_true hab
      rw [hd, hc]; simp [foL]
  · refine ⟨((⟨[], [], []⟩ : Herd), goatC h [a, b]), hsm, h1.bind (Ev.bind (Ev.neg hc (Ev.const rfl)) (Ev.neg (by simp) (Ev.pos hc (Ev.const rfl)))), h2.bind (Ev.bind (Ev.const hu) (Ev.bind (firstOf_ev _ (by simp)) (Ev.pos ?_ (Ev.const ?_))))⟩
    · simp [foL, hc]
    · simp [foL, hc]
theorem FnExactWithFoes.pure (x0 : Herd) (hv0 : VHerd x0) (x1 : Int) (hv1 : inI .i64 x1) (x2 : Int) (hv2 : inI .i64 x2) (x3 : Bool) : ∃ k, laws_FnExactWithFoes.f k x0 x1 x2 x3 = some true := by
  refine Ev.get (r := true) ?_
  obtain ⟨r, hr, h⟩ := szHerd_ev x0 hv0 1048576 (by omega) (by omega)
  refine hr.bind ?_
  rcases h with rfl | ⟨a, c⟩
  · exact Ev.pos (by omega) (Ev.const rfl)
  · have hs : smallH x0 := ⟨by omega, by omega, by omega⟩
    have ht := toHerd_ev x0 hs
    have he := eqHerd_ev x0 x0 hs
    rw [decide_eq_true rfl] at he
    obtain ⟨⟨g, c⟩, hl, h1, h2⟩ := withFoes_ev hv0 hs x1 x2 x3
    have hl : smallH g := hl
    have hq := sameH_ev g hl c
    have hm := markH_ev x0 hs 1 (by omega) (by omega)
    have hk := markH_ev g hl 1 (by omega) (by omega)
    have hd := heldH_ev g.Names.length g.Eats.length g.Foes.length hl.1 hl.2.1 hl.2.2
    exact Ev.neg (by omega) (ht.bind (h1.bind (ht.bind (h2.bind (Ev.bind hq (Ev.neg (by simp) (ht.bind (he.bind (Ev.neg (by simp) (hm.bind (Ev.bind (Ev.neg (by show ¬ (1 + (x0.Names.length : Int) + x0.Eats.length + x0.Foes.length) < 0; omega) hq) (Ev.neg (by simp) (hk.bind (hd.bind (Ev.neg (by omega) (Ev.neg (by simp) (ht.bind (h2.bind (Ev.bind hq (Ev.neg (by simp) (hd.bind (Ev.neg (by omega) (Ev.neg (by simp) (Ev.const rfl))))))))))))))))))))))))
end Go.Proofs.YtnnclbomoeigcaaDoor
