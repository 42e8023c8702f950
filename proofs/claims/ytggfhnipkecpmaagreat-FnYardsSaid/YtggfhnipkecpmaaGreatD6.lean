/-
  Plain law: StepsBetween, SameYard, WayBetween.
-/
import Derived.Test.YtggfhnipkecpmaaGreatD5
import Derived.Test.YtggfhnipkecpmaaGreatQYe
import Derived.Test.YtggfhnipkecpmaaGreatW4
namespace Go.Proofs.YtggfhnipkecpmaaGreat
open G
set_option linter.unusedVariables false
set_option linter.unusedSimpArgs false
variable {p : Pasture}
/-- Two cells of a pasture that is in order. -/
structure C2 (p : Pasture) (ax ay bx by_ : Nat) : Prop where
  v : VPasture p
  ok : vP p = true
  a : ax < p.Wide.toNat ∧ ay < p.High.toNat
  b : bx < p.Wide.toNat ∧ by_ < p.High.toNat
theorem C2.swap {ax ay bx by_ : Nat} (h : C2 p ax ay bx by_) : C2 p bx by_ ax ay := ⟨h.v, h.ok, h.b, h.a⟩
theorem C2.ten {ax ay bx by_ : Nat} (h : C2 p ax ay bx by_) : (ax < 10 ∧ ay < 10) ∧ bx < 10 ∧ by_ < 10 := by
  obtain ⟨w1, w2⟩ := okW_iff.1 (vP_okW h.ok)
  have := h.a; have := h.b
  omega
theorem cells_code {xs : List Spot} (v : VPasture p) (ok : vP p = true) (hx : xs.length ≤ 1000) (h : ∀ s ∈ xs, ∃ x y : Nat, x < p.Wide.toNat ∧ y < p.High.toNat ∧ s = sp x y) : Ev (fun k => impl_cellCode.f k p xs) 0 := by
  obtain ⟨w1, w2⟩ := okW_iff.1 (vP_okW ok)
  have hc := cellCode_ev v xs (fun s hs => by
    obtain ⟨x, y, hx, hy, rfl⟩ := h s hs
    exact VSpot_nat (by omega) (by omega)) (by omega)
  have e : cCode p xs = 0 := by
    unfold cCode
    rw [ok]
    have : okC p xs = true := List.all_eq_true.2 fun s hs => by
      obtain ⟨x, y, hx, hy, rfl⟩ := h s hs
      exact cellB_grid (vP_okW ok) hx hy
    rw [this]; rfl
  rw [e] at hc
  exact hc
theorem C2.code {ax ay bx by_ : Nat} (h : C2 p ax ay bx by_) : Ev (fun k => impl_cellCode.f k p ([sp ax ay, sp bx by_] : List Spot)) 0 := by
  refine cells_code h.v h.ok (by simp) fun s hs => ?_
  simp only [List.mem_cons, List.not_mem_nil, or_false] at hs
  rcases hs with rfl | rfl
  · exact ⟨ax, ay, h.a.1, h.a.2, rfl⟩
  · exact ⟨bx, by_, h.b.1, h.b.2, rfl⟩
/-- Where steps go there are cells. -/
theorem Dm.cells {y x : Nat} {m : Tb} (hw : okW p = true) (d : Dm p y x m) (hy : y < 10) (hx : x < 10) (hc : cellB p (x : Int) (y : Int) = true) : ∀ b a, b < 10 → a < 10 → 0 ≤ g2 m b a → cellB p (a : Int) (b : Int) = true := fun b a hb ha h => by
  obtain ⟨k, hk⟩ := Int.eq_ofNat_of_zero_le h
  exact ((d.wk k b a hb ha hk).back hw hy hx hc).2
/-- All that two cells come to: the steps from a to b, and the way. -/
theorem two_ev {ax ay bx by_ : Nat} (h : C2 p ax ay bx by_) : ∃ (m m' : Tb), Dm p ay ax m ∧ Dm p by_ bx m' ∧ g2 m by_ bx = g2 m' ay ax ∧ -1 ≤ g2 m by_ bx ∧ g2 m by_ bx ≤ 101 ∧
    Ev (fun k => impl_StepsBetween.f k p (sp ax ay) (sp bx by_)) (if g2 m by_ bx < 0 then (0, 6) else (g2 m by_ bx, 0)) ∧
    Ev (fun k => impl_SameYard.f k p (sp ax ay) (sp bx by_)) (decide (0 ≤ g2 m by_ bx), 0) ∧
    ∃ W : List Spot, (0 ≤ g2 m by_ bx → (W.length : Int) = g2 m by_ bx ∧ goesTo p (sp ax ay) W (sp bx by_)) ∧
      Ev (fun k => impl_WayBetween.f k p (sp ax ay) (sp bx by_)) (if g2 m by_ bx < 0 then ([], 6) else (sp ax ay :: W, 0)) ∧
      Ev (fun k => spec_WayBetween.f k p (sp ax ay) (sp bx by_)) (if g2 m by_ bx < 0 then ([], 6) else (sp ax ay :: W, 0)) := by
  have hw := vP_okW h.ok
  obtain ⟨⟨a1, a2⟩, b1, b2⟩ := h.ten
  have ca := cellB_grid hw h.a.1 h.a.2
  have cb := cellB_grid hw h.b.1 h.b.2
  obtain ⟨m, n, e1, e2, d, hm⟩ := farD_ev h.v hw a1 a2
  obtain ⟨m', n', e1', e2', d', hm'⟩ := farD_ev h.v hw b1 b2
  have hz := hm by_ bx b2 b1
  have hz' := hm' ay ax a2 a1
  have hs : g2 m by_ bx = g2 m' ay ax := Dm.symm hw a2 a1 b2 b1 ca cb d d' hz.2.1 hz'.2.1
  have hst := steps_at (m := m) b1 b2 (by omega)
  have hSt : Ev (fun k => impl_StepsBetween.f k p (sp ax ay) (sp bx by_)) (if g2 m by_ bx < 0 then (0, 6) else (g2 m by_ bx, 0)) := by
    refine h.code.bind (Ev.neg (by simp) (e1.bind (Ev.bind (Ev.const hst) ?_)))
    by_cases c : g2 m by_ bx < 0
    · rw [show (if g2 m by_ bx < 0 then ((0 : Int), (6 : Int)) else (g2 m by_ bx, 0)) = (0, 6) from if_pos c]; exact Ev.pos c (Ev.const rfl)
    · rw [show (if g2 m by_ bx < 0 then ((0 : Int), (6 : Int)) else (g2 m by_ bx, 0)) = (g2 m by_ bx, 0) from if_neg c]; exact Ev.neg c (Ev.bind (Ev.const hst) (Ev.const rfl))
  have hSy : Ev (fun k => impl_SameYard.f k p (sp ax ay) (sp bx by_)) (decide (0 ≤ g2 m by_ bx), 0) := h.code.bind (Ev.neg (by simp) (e1.bind (Ev.bind (Ev.const hst) (Ev.const rfl))))
  have hIs : spec_l01Is.f p (sp bx by_) = some true := (l01Is_eq h.v (sp bx by_) (VSpot_nat (x := bx) (y := by_) (by omega) (by omega))).trans (congrArg some cb)
  have hIa : spec_l01Is.f p (sp ax ay) = some true := (l01Is_eq h.v (sp ax ay) (VSpot_nat (x := ax) (y := ay) (by omega) (by omega))).trans (congrArg some ca)
  have hAsk : Ev (fun k => spec_l01Asked.f k p (sp ax ay) true) 0 := by
    refine (specOk_ev h.v).bind ?_
    rw [h.ok]
    exact Ev.neg (by simp) (Ev.bind (Ev.const hIa) (Ev.neg (by simp) (Ev.neg (by simp) (Ev.const rfl))))
  refine ⟨m, m', d, d', hs, hz.2.1, hz.2.2, hSt, hSy, ?_⟩
  by_cases c : g2 m by_ bx < 0
  · rw [if_pos c] at hSt
    refine ⟨[], fun h0 => by omega, by rw [if_pos c]; exact hSt.bind (Ev.pos (by simp) (Ev.const rfl)), ?_⟩
    rw [if_pos c]
    refine Ev.bind (Ev.const hIs) (hAsk.bind (Ev.neg (by simp) (e2'.bind (Ev.bind (Ev.const (getR n' a2)) (Ev.bind (Ev.const (getA _ a1)) (Ev.pos ?_ (Ev.const rfl)))))))
    show g2 n' ay ax = 0
    omega
  · rw [if_neg c] at hSt
    obtain ⟨k, hk⟩ := Int.eq_ofNat_of_zero_le (show 0 ≤ g2 m' ay ax by omega)
    obtain ⟨W, w1, w2, w3, w4⟩ := way_loop h.v hw d' hm' (d'.cells hw b2 b1 cb) k ax ay a1 a2 hk [sp ax ay] (by simp; omega)
    refine ⟨W, fun _ => ⟨by rw [w1]; omega, w2⟩, ?_, ?_⟩
    · rw [if_neg c]
      exact hSt.bind (Ev.neg (by simp) (e1'.bind (Ev.bind (w3.bind (Ev.const rfl)) (Ev.const rfl))))
    · rw [if_neg c]
      refine Ev.bind (Ev.const hIs) (hAsk.bind (Ev.neg (by simp) (e2'.bind (Ev.bind (Ev.const (getR n' a2)) (Ev.bind (Ev.const (getA _ a1)) (Ev.neg ?_ (w4.bind (Ev.const rfl))))))))
      show ¬ g2 n' ay ax = 0
      omega
end Go.Proofs.YtggfhnipkecpmaaGreat
