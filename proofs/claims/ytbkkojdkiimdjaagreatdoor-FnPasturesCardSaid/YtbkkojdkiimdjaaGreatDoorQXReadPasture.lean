import Derived.Test.YtbkkojdkiimdjaaGreatDoorQO0
import Derived.Test.YtbkkojdkiimdjaaGreatDoorQB
/-
  Plain laws: arrays, wraps, and when a pasture is valid.
-/
namespace Go.Proofs.YtbkkojdkiimdjaaGreatDoor.T
open G
set_option linter.unusedVariables false
set_option linter.unusedSimpArgs false

def VSpot (x : Spot) : Prop := (inI .i8) x.X ∧ (inI .i8) x.Y
def VPasture (x : Pasture) : Prop := (inI .i8) x.Wide ∧ (inI .i8) x.High ∧ (fun a => ∀ x ∈ a.l, (fun a => ∀ x ∈ a.l, (inI .i16) x) x) x.Grass ∧ (fun a => ∀ x ∈ a.l, (inI .u16) x) x.East ∧ (fun a => ∀ x ∈ a.l, (inI .u16) x) x.South
/-! ### Arrays -/
def gA {n : Nat} (a : Arr n Int) (i : Nat) : Int := a.l.getD i 0
def gR {m n : Nat} (a : Arr m (Arr n Int)) (i : Nat) : Arr n Int := (a.l[i]?).getD (Arr.mk' 0)
theorem getA {n : Nat} (a : Arr n Int) {i : Nat} (h : i < n) : getI a.l (i : Int) = some (gA a i) := by
  have : i < a.l.length := by rw [a.len]; exact h
  rw [getI_nat this]; simp [gA, List.getD_eq_getElem?_getD, List.getElem?_eq_getElem this]
theorem getR {m n : Nat} (a : Arr m (Arr n Int)) {i : Nat} (h : i < m) : getI a.l (i : Int) = some (gR a i) := by
  have : i < a.l.length := by rw [a.len]; exact h
  rw [getI_nat this]; simp [gR, List.getElem?_eq_getElem this]
theorem gA_mem {n : Nat} (a : Arr n Int) {i : Nat} (h : i < n) : gA a i ∈ a.l := by
  have : i < a.l.length := by rw [a.len]; exact h
  simp [gA, List.getD_eq_getElem?_getD, List.getElem?_eq_getElem this]
theorem gR_mem {m n : Nat} (a : Arr m (Arr n Int)) {i : Nat} (h : i < m) : gR a i ∈ a.l := by
  have : i < a.l.length := by rw [a.len]; exact h
  simp [gR, List.getElem?_eq_getElem this]
/-- The grass of a cell. -/
def gG (p : Pasture) (y x : Nat) : Int := gA (gR p.Grass y) x
theorem gG_in {p : Pasture} (v : VPasture p) {y x : Nat} (hy : y < 10) (hx : x < 10) : -32768 ≤ gG p y x ∧ gG p y x ≤ 32767 := i16b (v.2.2.1 _ (gR_mem _ hy) _ (gA_mem _ hx))
/-! ### Valid pastures -/
def cellB (p : Pasture) (x y : Int) : Bool := decide (0 ≤ x ∧ x < p.Wide) && decide (0 ≤ y ∧ y < p.High)
def okG (p : Pasture) (y x : Nat) : Bool := decide (0 ≤ gG p y x ∧ gG p y x ≤ 1000) && (decide (gG p y x ≤ 0) || cellB p x y)
def eMask (p : Pasture) (y : Nat) : Int := if (y : Int) < p.High then 2 ^ (p.Wide.toNat - 1) - 1 else 0
def sMask (p : Pasture) (y : Nat) : Int := if (y : Int) + 1 < p.High then 2 ^ p.Wide.toNat - 1 else 0
def okR (p : Pasture) (y : Nat) : Bool := upA (okG p y) 0 10 && (decide (andNotI .u16 (gA p.East y) (eMask p y) = 0) && decide (andNotI .u16 (gA p.South y) (sMask p y) = 0))
def okW (p : Pasture) : Bool := decide (1 ≤ p.Wide ∧ p.Wide ≤ 10) && decide (1 ≤ p.High ∧ p.High ≤ 10)
def vP (p : Pasture) : Bool := okW p && upA (okR p) 0 10
theorem okW_iff {p : Pasture} : okW p = true ↔ (1 ≤ p.Wide ∧ p.Wide ≤ 10) ∧ (1 ≤ p.High ∧ p.High ≤ 10) := by simp [okW]

theorem l01Is_eq {p : Pasture} (v : VPasture p) (s : Spot) (hs : VSpot s) : spec_l01Is.f p s = some (cellB p s.X s.Y) := by
  have a := i8b v.1; have b := i8b v.2.1; have c := i8b hs.1; have d := i8b hs.2
  unfold spec_l01Is.f cellB
  simp only [l00In_eq, w64 (show -9223372036854775808 ≤ s.X by omega) (by omega), w64 (show -9223372036854775808 ≤ s.Y by omega) (by omega), w64 (show -9223372036854775808 ≤ p.Wide by omega) (by omega), w64 (show -9223372036854775808 ≤ p.High by omega) (by omega),
    w64 (show -9223372036854775808 ≤ p.Wide - 1 by omega) (by omega), w64 (show -9223372036854775808 ≤ p.High - 1 by omega) (by omega), Option.bind_some]
  by_cases h1 : 0 ≤ s.X ∧ s.X ≤ p.Wide - 1
  · rw [if_pos (by simp [h1])]
    simp only [show (0 ≤ s.X ∧ s.X < p.Wide) by omega, decide_true, Bool.true_and]
    congr 2
    simp only [eq_iff_iff]; omega
  · rw [if_neg (by simp [h1])]
    simp only [show ¬ (0 ≤ s.X ∧ s.X < p.Wide) by omega, decide_false, Bool.false_and]
theorem isCell_eq {p : Pasture} (v : VPasture p) (hw : okW p = true) (s : Spot) (hs : VSpot s) : impl_Pasture_isCell.f p s = some (cellB p s.X s.Y) := by
  have c := i8b hs.1; have d := i8b hs.2
  obtain ⟨a, b⟩ := okW_iff.1 hw
  unfold impl_Pasture_isCell.f cellB
  simp only [within_eq, w64 (show -9223372036854775808 ≤ s.X by omega) (by omega), w64 (show -9223372036854775808 ≤ s.Y by omega) (by omega), w64 (show -9223372036854775808 ≤ p.Wide by omega) (by omega), w64 (show -9223372036854775808 ≤ p.High by omega) (by omega),
    if_neg (show ¬ (10 : Int) < p.Wide by omega), if_neg (show ¬ (10 : Int) < p.High by omega), w64 (show -9223372036854775808 ≤ p.Wide - 1 by omega) (by omega), w64 (show -9223372036854775808 ≤ p.High - 1 by omega) (by omega), Option.bind_some]
  by_cases h1 : 0 ≤ s.X ∧ s.X ≤ p.Wide - 1
  · rw [if_pos (by simp [h1])]
    simp only [show (0 ≤ s.X ∧ s.X < p.Wide) by omega, decide_true, Bool.true_and]
    congr 2
    simp only [eq_iff_iff]; omega
  · rw [if_neg (by simp [h1])]
    simp only [show ¬ (0 ≤ s.X ∧ s.X < p.Wide) by omega, decide_false, Bool.false_and]
theorem VSpot_nat {x y : Nat} (hx : x ≤ 100) (hy : y ≤ 100) : VSpot ⟨(x : Int), (y : Int)⟩ := by
  have h1 : IntKind.i8.min = -128 := by decide
  have h2 : IntKind.i8.max = 127 := by decide
  refine ⟨⟨?_, ?_⟩, ⟨?_, ?_⟩⟩ <;> simp only [h1, h2] <;> omega

theorem specRow_loop {p : Pasture} (v : VPasture p) {y : Nat} (hy : y < 10) : ∀ x : Nat, x ≤ 10 → Ev (fun k => spec_l01Ok.l2 p (y : Int) k (x : Int)) (if upA (okG p y) x (10 - x) = true then .inr () else .inl (.inl (.inl false))) := by
  refine upL ?_ ?_
  · exact Ev.step (fun k => spec_l01Ok.l2.eq_2 _ _ _ _) (Ev.neg (by omega) (Ev.const rfl))
  · intro x hx ih
    have hg := gG_in v hy hx
    refine Ev.step (fun k => spec_l01Ok.l2.eq_2 _ _ _ _) (Ev.pos (by omega) ?_)
    have e : upA (okG p y) x (10 - x) = (okG p y x && upA (okG p y) (x + 1) (10 - (x + 1))) := by
      rw [show 10 - x = (10 - (x + 1)) + 1 by omega]; rfl
    have hgg : gA (gR p.Grass y) x = gG p y x := rfl
    simp only [getR p.Grass hy, getA (gR p.Grass y) hx, Option.bind_some, spec_l01Grass.f, l00In_eq, hgg, w64 (show -9223372036854775808 ≤ gG p y x by omega) (by omega), e, l01Is_eq v _ (VSpot_nat (show x ≤ 100 by omega) (show y ≤ 100 by omega)), w8 (show (-128 : Int) ≤ (x : Int) + 1 by omega) (by omega)]
    by_cases h1 : 0 ≤ gG p y x ∧ gG p y x ≤ 1000
    · refine Ev.neg (by simp [h1]) ?_
      by_cases h2 : 0 < gG p y x
      · refine Ev.pos h2 ?_
        cases h3 : cellB p x y
        · refine Ev.pos rfl (Ev.const ?_)
          simp [okG, h1, h3, show ¬ gG p y x ≤ 0 by omega]
        · refine Ev.neg (by simp) ?_
          simpa [okG, h1, h3] using ih
      · refine Ev.neg h2 ?_
        simpa [okG, h1, show gG p y x ≤ 0 by omega] using ih
    · refine Ev.pos (by simp [h1]) (Ev.const ?_)
      simp [okG, h1]
theorem masks_spec : ∀ W : Nat, 1 ≤ W → W ≤ 10 → IntKind.u16.wrap ((shlI .u16 1 (W : Int)) - 1) = 2 ^ W - 1 ∧ shrI .u16 (2 ^ W - 1) 1 = 2 ^ (W - 1) - 1 := by
  intro W h1 h2
  obtain rfl | rfl | rfl | rfl | rfl | rfl | rfl | rfl | rfl | rfl : W = 1 ∨ W = 2 ∨ W = 3 ∨ W = 4 ∨ W = 5 ∨ W = 6 ∨ W = 7 ∨ W = 8 ∨ W = 9 ∨ W = 10 := by omega
  all_goals decide
theorem specOk_loop {p : Pasture} (v : VPasture p) (hw : okW p = true) : ∀ y : Nat, y ≤ 10 → Ev (fun k => spec_l01Ok.l1 p k (y : Int)) (if upA (okR p) y (10 - y) = true then .inr () else .inl false) := by
  obtain ⟨a, b⟩ := okW_iff.1 hw
  obtain ⟨W, hW⟩ : ∃ W : Nat, p.Wide = (W : Int) := ⟨p.Wide.toNat, by omega⟩
  obtain ⟨m1, m2⟩ := masks_spec W (by omega) (by omega)
  refine upL ?_ ?_
  · exact Ev.step (fun k => spec_l01Ok.l1.eq_2 _ _ _) (Ev.neg (by omega) (Ev.const rfl))
  · intro y hy ih
    refine Ev.step (fun k => spec_l01Ok.l1.eq_2 _ _ _) (Ev.pos (by omega) ?_)
    have e : upA (okR p) y (10 - y) = (okR p y && upA (okR p) (y + 1) (10 - (y + 1))) := by
      rw [show 10 - y = (10 - (y + 1)) + 1 by omega]; rfl
    have s0 : shrI .u16 0 1 = 0 := by decide
    have hr := specRow_loop v hy 0 (Nat.zero_le _)
    simp only [Nat.sub_zero] at hr
    have e2 : IntKind.i8.wrap ((y : Int) + 1) = ((y + 1 : Nat) : Int) := by rw [w8 (by omega) (by omega)]; omega
    have e3 : IntKind.u64.wrap p.Wide = p.Wide := wu64 (by omega) (by omega)
    have e4 : IntKind.i8.wrap (p.High - 1) = p.High - 1 := w8 (by omega) (by omega)
    have eW : p.Wide.toNat = W := by omega
    rw [e]
    simp only [e2, e3, e4]
    cases hg : upA (okG p y) 0 10
    · rw [hg] at hr
      refine Ev.bind (a := .inl (.inl false)) (Ev.bind hr (Ev.const rfl)) ?_
      simp only [okR, hg, Bool.false_and]
      exact Ev.const rfl
    rw [hg] at hr
    have hE := getA p.East hy
    have hS := getA p.South hy
    have key : ∀ E S : Int, eMask p y = E → sMask p y = S → (∀ k, spec_l01Ok.l2 p (y : Int) k 0 = some (.inr ()) → ((spec_l01Ok.l2 p (y : Int) k 0).bind fun s14 => match s14 with
        | .inl r => some r
        | .inr _ => (chk (0 ≤ p.Wide)).bind fun u10 => if p.High ≤ (y : Int) then ((getI p.East.l (y : Int)).bind fun t11 => if (andNotI .u16 t11 (shrI .u16 0 1)) ≠ 0 then (some (Sum.inl (Sum.inl false))) else (if p.High - 1 ≤ (y : Int) then ((getI p.South.l (y : Int)).bind fun t12 => if (andNotI .u16 t12 0) ≠ 0 then (some (Sum.inl (Sum.inl false))) else (some (Sum.inr ()))) else ((getI p.South.l (y : Int)).bind fun t13 => if (andNotI .u16 t13 0) ≠ 0 then (some (Sum.inl (Sum.inl false))) else (some (Sum.inr ()))))) else ((getI p.East.l (y : Int)).bind fun t14 => if (andNotI .u16 t14 (shrI .u16 (IntKind.u16.wrap ((shlI .u16 1 p.Wide) - 1)) 1)) ≠ 0 then (some (Sum.inl (Sum.inl false))) else (if p.High - 1 ≤ (y : Int) then ((getI p.South.l (y : Int)).bind fun t15 => if (andNotI .u16 t15 0) ≠ 0 then (some (Sum.inl (Sum.inl false))) else (some (Sum.inr ()))) else ((getI p.South.l (y : Int)).bind fun t16 => if (andNotI .u16 t16 (IntKind.u16.wrap ((shlI .u16 1 p.Wide) - 1))) ≠ 0 then (some (Sum.inl (Sum.inl false))) else (some (Sum.inr ())))))) = (if okR p y = true then (some (.inr ()) : Option ((Bool ⊕ Unit) ⊕ Unit)) else some (.inl (.inl false)))) := by
      intro E S hE' hS' k hk
      have hk' : okR p y = (decide (andNotI .u16 (gA p.East y) E = 0) && decide (andNotI .u16 (gA p.South y) S = 0)) := by simp [okR, hg, hE', hS']
      rw [hk, hk']
      simp only [Option.bind_some, hE, hS, s0, hW, m1, m2, chk_t (show (0 : Int) ≤ (W : Int) by omega)]
      by_cases h1 : p.High ≤ (y : Int)
      · have em : E = 0 := by rw [← hE']; simp [eMask]; omega
        have sm : S = 0 := by rw [← hS']; simp [sMask]; omega
        rw [if_pos h1, if_pos (show p.High - 1 ≤ (y : Int) by omega), em, sm]
        by_cases g1 : andNotI .u16 (gA p.East y) 0 = 0 <;> by_cases g2 : andNotI .u16 (gA p.South y) 0 = 0 <;> simp [g1, g2]
      · have em : E = 2 ^ (W - 1) - 1 := by rw [← hE']; simp [eMask, eW]; omega
        rw [if_neg h1, em]
        by_cases h2 : p.High - 1 ≤ (y : Int)
        · have sm : S = 0 := by rw [← hS']; simp [sMask]; omega
          rw [if_pos h2, sm]
          by_cases g1 : andNotI .u16 (gA p.East y) (2 ^ (W - 1) - 1) = 0 <;> by_cases g2 : andNotI .u16 (gA p.South y) 0 = 0 <;> simp [g1, g2]
        · have sm : S = 2 ^ W - 1 := by rw [← hS']; simp [sMask, eW]; omega
          rw [if_neg h2, sm]
          by_cases g1 : andNotI .u16 (gA p.East y) (2 ^ (W - 1) - 1) = 0 <;> by_cases g2 : andNotI .u16 (gA p.South y) (2 ^ W - 1) = 0 <;> simp [g1, g2]
    refine hr.use (fun k hk => congrArg (fun z => Option.bind z _) (key _ _ rfl rfl k hk)) ?_
    cases hb : okR p y
    · exact Ev.const rfl
    · simpa using ih
theorem specOk_ev {p : Pasture} (v : VPasture p) : Ev (fun k => spec_l01Ok.f k p) (vP p) := by
  have a := i8b v.1; have b := i8b v.2.1
  have ha : IntKind.i64.wrap p.Wide = p.Wide := w64 (by omega) (by omega)
  have hb : IntKind.i64.wrap p.High = p.High := w64 (by omega) (by omega)
  unfold spec_l01Ok.f
  simp only [l00In_eq, ha, hb, Option.bind_some]
  cases hw : okW p
  · have : vP p = false := by simp [vP, hw]
    rw [this]
    by_cases h1 : 1 ≤ p.Wide ∧ p.Wide ≤ 10
    · by_cases h2 : 1 ≤ p.High ∧ p.High ≤ 10
      · simp [okW, h1, h2] at hw
      · simp only [h1, h2, decide_true, decide_false, Bool.not_true, Bool.not_false, if_true, if_false, Bool.false_eq_true, Option.bind_some, and_self]
        exact Ev.const rfl
    · simp only [h1, decide_false, Bool.not_false, if_true, Option.bind_some]
      exact Ev.const rfl
  · obtain ⟨h1, h2⟩ := okW_iff.1 hw
    simp only [h1, h2, decide_true, Bool.not_true, Bool.false_eq_true, if_false, Option.bind_some, and_self]
    refine (specOk_loop v hw 0 (Nat.zero_le _)).bind ?_
    simp only [vP, hw, Bool.true_and, Nat.sub_zero]
    cases upA (okR p) 0 10 <;> exact Ev.const rfl

/-! ### The same, of the program -/
/-- The bits that may stand in a row, up to a place. -/
def mE (p : Pasture) (y x : Nat) : Int := if (y : Int) < p.High then 2 ^ (min x (p.Wide.toNat - 1)) - 1 else 0
def mS (p : Pasture) (y x : Nat) : Int := if (y : Int) + 1 < p.High then 2 ^ (min x p.Wide.toNat) - 1 else 0
theorem or_bit : ∀ x : Nat, x < 12 → orI .u16 (2 ^ x - 1) (shlI .u16 (IntKind.u16.wrap 1) (x : Int)) = 2 ^ (x + 1) - 1 := by decide
theorem or_none : ∀ m : Nat, m < 12 → ∀ x : Nat, x < 12 → orI .u16 (2 ^ m - 1) (shlI .u16 (IntKind.u16.wrap 0) (x : Int)) = 2 ^ m - 1 := by decide
theorem or_none0 : ∀ x : Nat, x < 12 → orI .u16 0 (shlI .u16 (IntKind.u16.wrap 0) (x : Int)) = 0 := by decide
theorem bit_eq (b : Bool) : impl_bit.f b = some (if b = true then 1 else 0) := by cases b <;> rfl
theorem implRow_loop {p : Pasture} (v : VPasture p) (hw : okW p = true) {y : Nat} (hy : y < 10) : ∀ x : Nat, x ≤ 10 → Ev (fun k => impl_ValidPasture.l2 p (y : Int) k (mE p y x) (mS p y x) (x : Int)) (if upA (okG p y) x (10 - x) = true then .inr (eMask p y, sMask p y) else .inl (.inl (.inl false))) := by
  obtain ⟨a, b⟩ := okW_iff.1 hw
  obtain ⟨W, hW⟩ : ∃ W : Nat, p.Wide = (W : Int) := ⟨p.Wide.toNat, by omega⟩
  have eW : p.Wide.toNat = W := by omega
  refine upL ?_ ?_
  · refine Ev.step (fun k => impl_ValidPasture.l2.eq_2 _ _ _ _ _ _) (Ev.neg (by omega) (Ev.const ?_))
    have e1 : mE p y 10 = eMask p y := by unfold mE eMask; rw [Nat.min_eq_right (by omega)]
    have e2 : mS p y 10 = sMask p y := by unfold mS sMask; rw [Nat.min_eq_right (by omega)]
    rw [e1, e2]; rfl
  · intro x hx ih
    have hg := gG_in v hy hx
    have w8x : IntKind.i8.wrap (x : Int) = (x : Int) := w8 (by omega) (by omega)
    have w8y : IntKind.i8.wrap (y : Int) = (y : Int) := w8 (by omega) (by omega)
    have wx : IntKind.i64.wrap ((x : Int) + 1) = ((x + 1 : Nat) : Int) := by rw [w64 (by omega) (by omega)]; omega
    have wy : IntKind.i64.wrap ((y : Int) + 1) = ((y + 1 : Nat) : Int) := by rw [w64 (by omega) (by omega)]; omega
    have w8x1 : IntKind.i8.wrap ((x + 1 : Nat) : Int) = ((x + 1 : Nat) : Int) := w8 (by omega) (by omega)
    have w8y1 : IntKind.i8.wrap ((y + 1 : Nat) : Int) = ((y + 1 : Nat) : Int) := w8 (by omega) (by omega)
    refine Ev.step (fun k => impl_ValidPasture.l2.eq_2 _ _ _ _ _ _) (Ev.pos (by omega) ?_)
    have e : upA (okG p y) x (10 - x) = (okG p y x && upA (okG p y) (x + 1) (10 - (x + 1))) := by
      rw [show 10 - x = (10 - (x + 1)) + 1 by omega]; rfl
    have hgg : gA (gR p.Grass y) x = gG p y x := rfl
    rw [e]
    simp only [w8x, w8y, wx, wy, w8x1, w8y1, isCell_eq v hw _ (VSpot_nat (show x ≤ 100 by omega) (show y ≤ 100 by omega)), isCell_eq v hw _ (VSpot_nat (show x + 1 ≤ 100 by omega) (show y ≤ 100 by omega)), isCell_eq v hw _ (VSpot_nat (show x ≤ 100 by omega) (show y + 1 ≤ 100 by omega)),
      bit_eq, chk_t (show (0 : Int) ≤ (x : Int) by omega), getR p.Grass hy, getA (gR p.Grass y) hx, hgg, within_eq, w64 (show -9223372036854775808 ≤ gG p y x by omega) (by omega), Option.bind_some]
    cases hc : cellB p x y
    · refine Ev.neg (by simp) ?_
      have hc' : ¬ ((x : Int) < p.Wide ∧ (y : Int) < p.High) := by
        intro h; simp [cellB, h] at hc
      have e1 : mE p y (x + 1) = mE p y x := by
        unfold mE
        by_cases h : (y : Int) < p.High
        · rw [if_pos h, if_pos h, Nat.min_eq_right (by omega), Nat.min_eq_right (by omega)]
        · rw [if_neg h, if_neg h]
      have e2 : mS p y (x + 1) = mS p y x := by
        unfold mS
        by_cases h : (y : Int) + 1 < p.High
        · rw [if_pos h, if_pos h, Nat.min_eq_right (by omega), Nat.min_eq_right (by omega)]
        · rw [if_neg h, if_neg h]
      by_cases h1 : 0 ≤ gG p y x ∧ gG p y x ≤ 0
      · refine Ev.neg (by simp [h1]) ?_
        rw [e1, e2] at ih
        simpa [okG, show 0 ≤ gG p y x ∧ gG p y x ≤ 1000 by omega, h1] using ih
      · refine Ev.pos (by simp [h1]) (Ev.const ?_)
        have : okG p y x = false := by simp only [okG, hc, Bool.or_false]; simp; omega
        simp [this]
    · refine Ev.pos rfl ?_
      have hc' : (x : Int) < p.Wide ∧ (y : Int) < p.High := by
        simp [cellB] at hc; omega
      have e1 : orI .u16 (mE p y x) (shlI .u16 (IntKind.u16.wrap (if cellB p ((x + 1 : Nat) : Int) y = true then 1 else 0)) (x : Int)) = mE p y (x + 1) := by
        unfold mE
        rw [if_pos hc'.2, if_pos hc'.2, eW]
        by_cases h : x + 1 < W
        · have : cellB p ((x + 1 : Nat) : Int) y = true := by simp [cellB]; omega
          rw [if_pos this, Nat.min_eq_left (by omega), Nat.min_eq_left (by omega)]
          exact or_bit x (by omega)
        · have : cellB p ((x + 1 : Nat) : Int) y = false := by simp [cellB]; omega
          rw [this, if_neg (by simp), Nat.min_eq_right (by omega), Nat.min_eq_right (by omega)]
          exact or_none (W - 1) (by omega) x (by omega)
      have e2 : orI .u16 (mS p y x) (shlI .u16 (IntKind.u16.wrap (if cellB p (x : Int) ((y + 1 : Nat) : Int) = true then 1 else 0)) (x : Int)) = mS p y (x + 1) := by
        unfold mS
        by_cases h : (y : Int) + 1 < p.High
        · have : cellB p (x : Int) ((y + 1 : Nat) : Int) = true := by simp [cellB]; omega
          rw [if_pos this, if_pos h, if_pos h, eW, Nat.min_eq_left (by omega), Nat.min_eq_left (by omega)]
          exact or_bit x (by omega)
        · have : cellB p (x : Int) ((y + 1 : Nat) : Int) = false := by simp [cellB]; omega
          rw [this, if_neg h, if_neg h, if_neg (by simp)]
          exact or_none0 x (by omega)
      rw [e1, e2]
      by_cases h1 : 0 ≤ gG p y x ∧ gG p y x ≤ 1000
      · refine Ev.neg (by simp [h1]) ?_
        simpa [okG, h1, hc] using ih
      · refine Ev.pos (by simp [h1]) (Ev.const ?_)
        simp [okG, h1]
theorem implOk_loop {p : Pasture} (v : VPasture p) (hw : okW p = true) : ∀ y : Nat, y ≤ 10 → Ev (fun k => impl_ValidPasture.l1 p k (y : Int)) (if upA (okR p) y (10 - y) = true then .inr () else .inl false) := by
  obtain ⟨a, b⟩ := okW_iff.1 hw
  refine upL ?_ ?_
  · exact Ev.step (fun k => impl_ValidPasture.l1.eq_2 _ _ _) (Ev.neg (by omega) (Ev.const rfl))
  · intro y hy ih
    refine Ev.step (fun k => impl_ValidPasture.l1.eq_2 _ _ _) (Ev.pos (by omega) ?_)
    have e : upA (okR p) y (10 - y) = (okR p y && upA (okR p) (y + 1) (10 - (y + 1))) := by
      rw [show 10 - y = (10 - (y + 1)) + 1 by omega]; rfl
    have hr := implRow_loop v hw hy 0 (Nat.zero_le _)
    have z1 : mE p y 0 = 0 := by unfold mE; split <;> simp
    have z2 : mS p y 0 = 0 := by unfold mS; split <;> simp
    simp only [Nat.sub_zero, z1, z2] at hr
    have wy : IntKind.i64.wrap ((y : Int) + 1) = ((y + 1 : Nat) : Int) := by rw [w64 (by omega) (by omega)]; omega
    rw [e]
    simp only [wy]
    cases hg : upA (okG p y) 0 10
    · rw [hg] at hr
      refine Ev.bind (a := .inl (.inl false)) (Ev.bind hr (Ev.const rfl)) ?_
      simp only [okR, hg, Bool.false_and]
      exact Ev.const rfl
    rw [hg] at hr
    refine Ev.bind (a := if okR p y = true then .inr () else .inl (.inl false)) (hr.bind ?_) ?_
    · refine Ev.const ?_
      have hk' : okR p y = (decide (andNotI .u16 (gA p.East y) (eMask p y) = 0) && decide (andNotI .u16 (gA p.South y) (sMask p y) = 0)) := by simp [okR, hg]
      rw [hk']
      simp only [if_true, getA p.East hy, getA p.South hy, Option.bind_some]
      by_cases g1 : andNotI .u16 (gA p.East y) (eMask p y) = 0 <;> by_cases g2 : andNotI .u16 (gA p.South y) (sMask p y) = 0 <;> simp [g1, g2]
    · cases hb : okR p y
      · exact Ev.const rfl
      · simpa using ih
theorem implOk_ev {p : Pasture} (v : VPasture p) : Ev (fun k => impl_ValidPasture.f k p) (vP p) := by
  have a := i8b v.1; have b := i8b v.2.1
  have ha : IntKind.i64.wrap p.Wide = p.Wide := w64 (by omega) (by omega)
  have hb : IntKind.i64.wrap p.High = p.High := w64 (by omega) (by omega)
  unfold impl_ValidPasture.f
  simp only [within_eq, ha, hb, Option.bind_some]
  cases hw : okW p
  · have : vP p = false := by simp [vP, hw]
    rw [this]
    by_cases h1 : 1 ≤ p.Wide ∧ p.Wide ≤ 10
    · by_cases h2 : 1 ≤ p.High ∧ p.High ≤ 10
      · simp [okW, h1, h2] at hw
      · simp only [h1, h2, decide_true, decide_false, Bool.not_true, Bool.not_false, if_true, if_false, Bool.false_eq_true, Option.bind_some, and_self]
        exact Ev.const rfl
    · simp only [h1, decide_false, Bool.not_false, if_true, Option.bind_some]
      exact Ev.const rfl
  · obtain ⟨h1, h2⟩ := okW_iff.1 hw
    simp only [h1, h2, decide_true, Bool.not_true, Bool.false_eq_true, if_false, Option.bind_some, and_self]
    refine (implOk_loop v hw 0 (Nat.zero_le _)).bind ?_
    simp only [vP, hw, Bool.true_and, Nat.sub_zero]
    cases upA (okR p) 0 10 <;> exact Ev.const rfl
theorem vP_okW {p : Pasture} (h : vP p = true) : okW p = true := by
  unfold vP at h; rw [Bool.and_eq_true] at h; exact h.1
/-- The grass of a valid pasture. -/
theorem vP_G {p : Pasture} (h : vP p = true) {y x : Nat} (hy : y < 10) (hx : x < 10) : (0 ≤ gG p y x ∧ gG p y x ≤ 1000) ∧ (cellB p x y = false → gG p y x = 0) := by
  unfold vP at h
  rw [Bool.and_eq_true] at h
  have h1 := (upA_iff _ _ _).1 h.2 y (Nat.zero_le _) (by omega)
  unfold okR at h1
  rw [Bool.and_eq_true] at h1
  have h2 := (upA_iff _ _ _).1 h1.1 x (Nat.zero_le _) (by omega)
  simp only [okG, Bool.and_eq_true, Bool.or_eq_true, decide_eq_true_eq] at h2
  refine ⟨h2.1, fun hc => ?_⟩
  rcases h2.2 with h3 | h3
  · omega
  · rw [hc] at h3; cases h3

end Go.Proofs.YtbkkojdkiimdjaaGreatDoor.T
/-
  Plain laws: bits of a row.
-/
namespace Go.Proofs.YtbkkojdkiimdjaaGreatDoor.T
open G
set_option linter.unusedVariables false
set_option linter.unusedSimpArgs false
def bitN (m : Int) (i : Nat) : Bool := decide (andI .u16 (shrI .u16 m (i : Int)) 1 = 1)
abbrev B16 (m : Int) : BitVec 16 := BitVec.ofInt 16 m
theorem wu16b (b : BitVec 16) : IntKind.u16.wrap (b.toNat : Int) = (b.toNat : Int) := wu16 (by omega) (by have := b.isLt; omega)
theorem B16_nat (b : BitVec 16) : B16 (b.toNat : Int) = b := by
  apply BitVec.eq_of_toNat_eq
  rw [BitVec.toNat_ofInt]
  have := b.isLt
  omega
theorem B_andNot (x y : Int) : B16 (andNotI .u16 x y) = B16 x &&& ~~~ B16 y := by
  unfold andNotI
  exact (congrArg B16 (wu16b (B16 x &&& ~~~ B16 y))).trans (B16_nat _)
theorem shr_nat {m j : Nat} (hj : j ≤ 16) : shrI .u16 (m : Int) (j : Int) = ((m / 2 ^ j : Nat) : Int) := by
  unfold shrI
  rw [show min (j : Int).toNat IntKind.u16.bits = j by show min (j : Int).toNat 16 = j; omega]
  rw [Int.fdiv_eq_ediv_of_nonneg _ (Int.le_of_lt (Int.pow_pos (by omega)))]
  push_cast
  rfl
theorem bit_nat {m j : Nat} (hm : m ≤ 65535) (hj : j ≤ 16) : bitN (m : Int) j = m.testBit j := by
  unfold bitN
  rw [shr_nat hj, and1 (Int.natCast_nonneg _) (by have := Nat.div_le_self m (2 ^ j); omega), Nat.testBit_eq_decide_div_mod_eq]
  congr 1
  simp only [eq_iff_iff]; omega
theorem bit_lsb {m : Int} (h : 0 ≤ m) (h' : m ≤ 65535) {j : Nat} (hj : j < 16) : (B16 m).getLsbD j = bitN m j := by
  obtain ⟨n, rfl⟩ := Int.eq_ofNat_of_zero_le h
  rw [bit_nat (by omega) (by omega), BitVec.getLsbD, BitVec.toNat_ofInt]
  congr 1
  omega
theorem shl_one {i : Nat} (hi : i < 16) : shlI .u16 1 (i : Int) = ((2 ^ i : Nat) : Int) := by
  have : ∀ i : Fin 16, shlI .u16 1 (i : Nat) = ((2 ^ (i : Nat) : Nat) : Int) := by decide
  exact this ⟨i, hi⟩
theorem one_bit {i j : Nat} (hi : i < 16) (hj : j < 16) : (B16 (shlI .u16 1 (i : Int))).getLsbD j = decide (i = j) := by
  have h1 : (2 : Nat) ^ i ≤ 2 ^ 15 := Nat.pow_le_pow_right (by omega) (by omega)
  rw [shl_one hi, bit_lsb (Int.natCast_nonneg _) (by omega) hj, bit_nat (by omega) (by omega), Nat.testBit_two_pow]
theorem B_or (x y : Int) : B16 (orI .u16 x y) = B16 x ||| B16 y := by
  unfold orI
  exact (congrArg B16 (wu16b (B16 x ||| B16 y))).trans (B16_nat _)
theorem or_in (x y : Int) : 0 ≤ orI .u16 x y ∧ orI .u16 x y ≤ 65535 := by
  have e : orI .u16 x y = (((B16 x ||| B16 y).toNat : Nat) : Int) := wu16b _
  have := (B16 x ||| B16 y).isLt
  rw [e]; omega
def in16 (m : Int) : Prop := 0 ≤ m ∧ m ≤ 65535
theorem orI_bit {x y : Int} (hx : in16 x) (hy : in16 y) {j : Nat} (hj : j < 16) : bitN (orI .u16 x y) j = (bitN x j || bitN y j) := by
  obtain ⟨a, b⟩ := or_in x y
  rw [← bit_lsb a b hj, B_or, BitVec.getLsbD_or, bit_lsb hx.1 hx.2 hj, bit_lsb hy.1 hy.2 hj]
theorem one_in {i : Nat} (hi : i < 16) : in16 (shlI .u16 1 (i : Int)) := by
  rw [shl_one hi]
  have h1 : (2 : Nat) ^ i ≤ 2 ^ 15 := Nat.pow_le_pow_right (by omega) (by omega)
  have h2 : (((2 : Nat) ^ i : Nat) : Int) ≤ ((2 ^ 15 : Nat) : Int) := Int.ofNat_le.2 h1
  have h3 : ((2 ^ 15 : Nat) : Int) = 32768 := rfl
  exact ⟨Int.natCast_nonneg _, by rw [h3] at h2; omega⟩
theorem one_bitN {i j : Nat} (hi : i < 16) (hj : j < 16) : bitN (shlI .u16 1 (i : Int)) j = decide (i = j) := by
  obtain ⟨a, b⟩ := one_in hi
  rw [← bit_lsb a b hj, one_bit hi hj]
theorem bits_eq {x y : Int} (hx : in16 x) (hy : in16 y) (h : ∀ j, j < 16 → bitN x j = bitN y j) : x = y := by
  have e : B16 x = B16 y := by
    apply BitVec.eq_of_getLsbD_eq
    intro j hj
    rw [bit_lsb hx.1 hx.2 hj, bit_lsb hy.1 hy.2 hj, h j hj]
  have e2 := congrArg BitVec.toNat e
  rw [BitVec.toNat_ofInt, BitVec.toNat_ofInt] at e2
  obtain ⟨a, b⟩ := hx
  obtain ⟨c, d⟩ := hy
  omega
theorem andNot_in (x y : Int) : 0 ≤ andNotI .u16 x y ∧ andNotI .u16 x y ≤ 65535 := by
  have e : andNotI .u16 x y = (((B16 x &&& ~~~ B16 y).toNat : Nat) : Int) := wu16b _
  have := (B16 x &&& ~~~ B16 y).isLt
  rw [e]; omega
theorem andNot_bit {x y : Int} (hx : in16 x) (hy : in16 y) {j : Nat} (hj : j < 16) : bitN (andNotI .u16 x y) j = (bitN x j && !bitN y j) := by
  obtain ⟨a, b⟩ := andNot_in x y
  rw [← bit_lsb a b hj, B_andNot, BitVec.getLsbD_and, BitVec.getLsbD_not, bit_lsb hx.1 hx.2 hj, bit_lsb hy.1 hy.2 hj, decide_eq_true hj, Bool.true_and]
end Go.Proofs.YtbkkojdkiimdjaaGreatDoor.T
/-
  Plain laws: a pasture that is read: words, cells, one row.
-/
namespace Go.Proofs.YtbkkojdkiimdjaaGreatDoor.T
open G
set_option linter.unusedVariables false
set_option linter.unusedSimpArgs false
/-! ### Pieces -/
theorem pre_len (p : List UInt8) (n : Nat) : ∀ xs : List (List UInt8), (∀ x ∈ xs, x.length ≤ n) → ∀ x ∈ preL p xs, x.length ≤ p.length + n
  | [], _, x, hx => by simp [preL] at hx; subst hx; omega
  | y :: ys, h, x, hx => by
    rcases List.mem_cons.1 hx with rfl | hx
    · have := h y (by simp); simp; omega
    · have := h x (List.mem_cons_of_mem _ hx); omega
theorem spl_len (c : UInt8) : ∀ (l : List UInt8), ∀ x ∈ spl c l, x.length ≤ l.length
  | [], x, hx => by simp [spl] at hx; subst hx; simp
  | b :: l, x, hx => by
    unfold spl at hx
    split at hx
    · rcases List.mem_cons.1 hx with rfl | hx
      · simp
      · have := spl_len c l x hx; simp; omega
    · have := pre_len [b] l.length _ (spl_len c l) x hx
      simp at this ⊢; omega
theorem pre_count1 (p : List UInt8) {xs : List (List UInt8)} (h : xs ≠ []) : (preL p xs).length = xs.length := by
  cases xs with
  | nil => exact absurd rfl h
  | cons y ys => simp [preL]
theorem spl_count (c : UInt8) : ∀ (l : List UInt8), (spl c l).length ≤ l.length + 1
  | [] => by simp [spl]
  | b :: l => by
    have := spl_count c l
    unfold spl
    split
    · simp; omega
    · rw [pre_count1 _ (spl_ne c l)]; simp; omega
theorem spl_join (c : UInt8) : ∀ {xs : List (List UInt8)}, xs ≠ [] → (∀ x ∈ xs, c ∉ x) → spl c (Go.Lib.join xs [c]) = xs
  | [], h, _ => absurd rfl h
  | [x], _, h => by rw [Go.Lib.join_one, spl_miss (h x (by simp))]
  | x :: y :: r, _, h => by
    have ih := spl_join c (xs := y :: r) (by simp) fun z hz => h z (List.mem_cons_of_mem _ hz)
    have e : Go.Lib.join (x :: y :: r) [c] = x ++ c :: Go.Lib.join (y :: r) [c] := by
      rw [Go.Lib.join_cons, Go.Lib.join_cons]
      simp [Go.Lib.joinTail]
    rw [e, spl_hit (h x (by simp)), ih]
/-! ### Ends that are cut -/
def cutE (c : UInt8) (l : List UInt8) : List UInt8 × Bool := if l.getLast? = some c then (l.dropLast, true) else (l, false)
theorem cutE_text (c : UInt8) (l : List UInt8) : l = (cutE c l).1 ++ (if (cutE c l).2 = true then [c] else []) := by
  unfold cutE
  split
  · rename_i h
    obtain ⟨ys, rfl⟩ := List.getLast?_eq_some_iff.1 h
    simp
  · simp
theorem cutE_len (c : UInt8) (l : List UInt8) : (cutE c l).1.length ≤ l.length := by
  unfold cutE
  split <;> simp
theorem exL_all (l : List UInt8) {n : Nat} : exL l 0 n = l.take n := by simp [exL]
theorem implCut_eq (l : List UInt8) (c : UInt8) (hl : l.length ≤ 1048576) : strings_CutSuffix.f (toB l) (⟨#[c]⟩ : ByteArray) = some (toB (cutE c l).1, (cutE c l).2) := by
  have hz : (toB l).size = l.length := toB_size l
  have h1 : (⟨#[c]⟩ : ByteArray).size = 1 := rfl
  unfold strings_CutSuffix.f internal_stringslite_CutSuffix.f internal_stringslite_HasSuffix.f
  by_cases h0 : l = []
  · subst h0
    rw [if_neg (by rw [hz, h1]; simp)]
    rfl
  · have hpos : 0 < l.length := List.length_pos_iff.2 h0
    have e1 : IntKind.i64.wrap (((toB l).size : Int) - ((⟨#[c]⟩ : ByteArray).size : Int)) = ((l.length - 1 : Nat) : Int) := by rw [hz, h1, w64 (by omega) (by omega)]; omega
    have hlast : l.getLast? = some l[l.length - 1] := by rw [List.getLast?_eq_getElem?, List.getElem?_eq_getElem (by omega)]
    have ex : (toB l).extract (l.length - 1) (toB l).size = toB [l[l.length - 1]] := by
      rw [ex_toB, toB_list, hz]
      unfold exL
      rw [List.drop_eq_getElem_cons (by omega), show l.length - (l.length - 1) = 1 by omega]; rfl
    rw [if_pos (by rw [hz, h1]; omega), e1, chkX ⟨by omega, by omega, by omega⟩, Option.bind_some, Int.toNat_natCast, ex, Option.bind_some]
    unfold cutE
    rw [hlast]
    by_cases hc : l[l.length - 1] = c
    · rw [hc, decide_eq_true (show toB [c] = (⟨#[c]⟩ : ByteArray) from rfl), if_neg (show ¬ (!true) = true by simp), if_pos (show some c = some c from rfl), chkX ⟨by omega, by omega, by omega⟩, Option.bind_some, Option.bind_some, ex_toB, toB_list, exL_all, ← List.dropLast_eq_take]
    · rw [if_neg (fun h => hc (Option.some.inj h))]
      rw [decide_eq_false (show ¬ toB [l[l.length - 1]] = (⟨#[c]⟩ : ByteArray) from fun h => hc (by have := toB_inj (m := [c]) h; exact (List.cons.inj this).1)), if_pos (show (!false) = true from rfl)]; rfl
/-! ### Words -/
structure Cell where
  n : Nat
  e : Bool
  s : Bool
def okA (z : List UInt8) (m : Nat) : Bool := okNum z && decide (valF 0 z ≤ m)
def word? (l : List UInt8) : Option Cell := if okA (cutE 124 (cutE 95 l).1).1 1000 = true then some ⟨valF 0 (cutE 124 (cutE 95 l).1).1, (cutE 124 (cutE 95 l).1).2, (cutE 95 l).2⟩ else none
def wordT (c : Cell) : List UInt8 := (Go.Lib.decDigits c.n ++ (if c.e = true then [124] else [])) ++ (if c.s = true then [95] else [])
theorem word_some {l : List UInt8} {c : Cell} (h : word? l = some c) : l = wordT c ∧ c.n ≤ 1000 := by
  unfold word? at h
  split at h
  · rename_i ho
    have h := Option.some.inj h
    subst h
    unfold okA at ho
    rw [Bool.and_eq_true, decide_eq_true_eq] at ho
    refine ⟨?_, ho.2⟩
    unfold wordT
    simp only
    rw [okNum_dec _ _ rfl ho.1, ← cutE_text, ← cutE_text]
  · cases h
def rowP : List (List UInt8) → Option (List Cell)
  | [] => some []
  | w :: ws => match word? w with
    | none => none
    | some c => (rowP ws).map (c :: ·)
theorem rowP_some : ∀ {ws : List (List UInt8)} {cs : List Cell}, rowP ws = some cs → ws = cs.map wordT ∧ ∀ c ∈ cs, c.n ≤ 1000
  | [], cs, h => by
    have h := Option.some.inj h
    subst h
    exact ⟨rfl, by simp⟩
  | w :: ws, cs, h => by
    unfold rowP at h
    cases hw : word? w with
    | none => rw [hw] at h; cases h
    | some c =>
      rw [hw] at h
      cases hs : rowP ws with
      | none => rw [hs] at h; cases h
      | some ys =>
        rw [hs] at h
        have h := Option.some.inj h
        subst h
        obtain ⟨a, b⟩ := rowP_some hs
        obtain ⟨d, e⟩ := word_some hw
        refine ⟨by rw [List.map_cons, ← d, ← a], fun z hz => ?_⟩
        rcases List.mem_cons.1 hz with rfl | hz
        · exact e
        · exact b z hz
/-! ### Arrays -/
abbrev Tb := Arr 10 (Arr 10 Int)
theorem gR_set (m : Tb) {y : Nat} (hy : y < 10) (r : Arr 10 Int) (y' : Nat) : gR (aset m y r) y' = if y = y' then r else gR m y' := by
  unfold gR aset
  simp only [List.getElem?_set, m.len, hy, if_true]
  split <;> simp
theorem gA_set (a : Arr 10 Int) {x : Nat} (hx : x < 10) (v : Int) (x' : Nat) : gA (aset a x v) x' = if x = x' then v else gA a x' := by
  unfold gA aset
  simp only [List.getD_eq_getElem?_getD, List.getElem?_set, a.len, hx, if_true]
  split <;> simp
theorem Arr.ext' {α : Type} {n : Nat} {a b : Arr n α} (h : a.l = b.l) : a = b := by
  cases a; cases b
  cases h; rfl
theorem aset_aset {α : Type} {n : Nat} (a : Arr n α) (i : Nat) (u v : α) : aset (aset a i u) i v = aset a i v := Arr.ext' (by simp [aset])
theorem aset_self (a : Arr 10 Int) {i : Nat} (hi : i < 10) : aset a i (gA a i) = a := by
  apply Arr.ext'
  show a.l.set i (gA a i) = a.l
  have h : i < a.l.length := by rw [a.len]; exact hi
  unfold gA
  rw [List.getD_eq_getElem?_getD, List.getElem?_eq_getElem h, Option.getD_some, List.set_getElem_self]
/-! ### Cells -/
def setG (P : Pasture) (y x : Nat) (n : Nat) : Tb := aset P.Grass y (aset (gR P.Grass y) x (n : Int))
def orB (a : Arr 10 Int) (y x : Nat) (on : Bool) : Arr 10 Int := if on = true then aset a y (orI .u16 (gA a y) (shlI .u16 1 (x : Int))) else a
def cellS (P : Pasture) (y x : Nat) (c : Cell) : Pasture := (⟨P.Wide, P.High, setG P y x c.n, orB P.East y x c.e, orB P.South y x c.s⟩ : Pasture)
def newB (a : Arr 10 Int) (y x : Nat) (on : Bool) : Arr 10 Int := aset a y (if on = true then orI .u16 (andNotI .u16 (gA a y) (shlI .u16 1 (x : Int))) (shlI .u16 1 (x : Int)) else andNotI .u16 (gA a y) (shlI .u16 1 (x : Int)))
def cellI (P : Pasture) (y x : Nat) (c : Cell) : Pasture := (⟨P.Wide, P.High, setG P y x c.n, newB P.East y x c.e, newB P.South y x c.s⟩ : Pasture)
theorem put_east (P : Pasture) {y x : Nat} (hy : y < 10) (hx : x < 10) (on : Bool) : impl_Pasture_put.f P (⟨(⟨(x : Int), (y : Int)⟩ : Spot), false⟩ : Hurdle) on = some (⟨P.Wide, P.High, P.Grass, newB P.East y x on, P.South⟩ : Pasture) := by
  unfold impl_Pasture_put.f newB
  simp only [if_neg (show ¬ (false = true) by simp)]
  rw [getA P.East hy, Option.bind_some, chkX (show (0 : Int) ≤ (x : Int) by omega), Option.bind_some, Option.bind_some]
  simp only [Int.toNat_natCast]
  cases on
  · rfl
  · rw [if_pos rfl, getA _ hy, Option.bind_some, Option.bind_some, Option.bind_some, gA_set _ hy, if_pos rfl, aset_aset]; rfl
theorem put_south (P : Pasture) {y x : Nat} (hy : y < 10) (hx : x < 10) (on : Bool) : impl_Pasture_put.f P (⟨(⟨(x : Int), (y : Int)⟩ : Spot), true⟩ : Hurdle) on = some (⟨P.Wide, P.High, P.Grass, P.East, newB P.South y x on⟩ : Pasture) := by
  unfold impl_Pasture_put.f newB
  simp only [if_true]
  rw [getA P.South hy, Option.bind_some, chkX (show (0 : Int) ≤ (x : Int) by omega), Option.bind_some, Option.bind_some]
  simp only [Int.toNat_natCast]
  cases on
  · rfl
  · rw [if_pos rfl, getA _ hy, Option.bind_some, Option.bind_some, Option.bind_some, gA_set _ hy, if_pos rfl, aset_aset]; rfl
/-! ### One row -/
abbrev zeroP : Pasture := (⟨0, 0, (Arr.mk' (Arr.mk' 0 : Arr 10 Int) : Arr 10 (Arr 10 Int)), (Arr.mk' 0 : Arr 10 Int), (Arr.mk' 0 : Arr 10 Int)⟩ : Pasture)
def fillR : Pasture → Nat → Nat → List Cell → Pasture
  | P, y, x, [] => P
  | P, y, x, c :: cs => fillR (cellS P y x c) y (x + 1) cs
def outS (o : Option Pasture) : (((Pasture × Int) ⊕ Pasture) ⊕ Pasture) ⊕ Pasture := match o with
  | none => Sum.inl (Sum.inl (Sum.inl (zeroP, 5)))
  | some P => Sum.inr P
def specRow (P : Pasture) (y : Nat) : Nat → List (List UInt8) → Option Pasture := fun x ws => (rowP ws).map (fillR P y x)
theorem specRow_nil (P : Pasture) (y x : Nat) : specRow P y x [] = some P := rfl
theorem specRow_none {P : Pasture} {y x : Nat} {w : List UInt8} {ws : List (List UInt8)} (h : word? w = none) : specRow P y x (w :: ws) = none := by
  unfold specRow rowP; rw [h]; rfl
theorem specRow_some {P : Pasture} {y x : Nat} {w : List UInt8} {ws : List (List UInt8)} {c : Cell} (h : word? w = some c) : specRow P y x (w :: ws) = specRow (cellS P y x c) y (x + 1) ws := by
  unfold specRow
  rw [rowP, h]
  cases rowP ws <;> rfl
theorem getM (ls : List (List UInt8)) {i : Nat} (hi : i < ls.length) : getI (ls.map toB) (i : Int) = some (toB ls[i]) := by
  rw [getI_nat (by simpa using hi), List.getElem_map]
theorem wi16 {x : Nat} (h : x ≤ 1000) : IntKind.i16.wrap (x : Int) = (x : Int) := by
  simp [IntKind.wrap, IntKind.bits, IntKind.signed]; omega
theorem wi8 {x : Nat} (h : x ≤ 100) : IntKind.i8.wrap (x : Int) = (x : Int) := by
  simp [IntKind.wrap, IntKind.bits, IntKind.signed]; omega
def implRow (W : Nat) : Pasture → Nat → Nat → List (List UInt8) → Option Pasture
  | P, y, x, [] => some P
  | P, y, x, w :: ws => match word? w with
    | none => none
    | some c => if W ≤ x then none else implRow W (cellI P y x c) y (x + 1) ws
theorem number_toB (z : List UInt8) (m : Nat) (hz : z.length ≤ 1048576) (hm : m ≤ 1000) : impl_number.f (toB z) (m : Int) = some (if okA z m = true then (((valF 0 z : Nat) : Int), true) else (0, false)) := by
  rw [number_eq (toB z) (m : Int) (by rw [toB_size]; omega) (by omega), toB_list]
  unfold okA
  congr 1
  by_cases h : okNum z = true
  · by_cases h2 : valF 0 z ≤ m
    · rw [if_pos ⟨h, by omega⟩, if_pos (by simp [h, h2])]
    · rw [if_neg (by intro hh; omega), if_neg (by simp [h, h2])]
  · rw [if_neg (by intro hh; exact h hh.1), if_neg (by simp [h])]
theorem implRow_ev {y W : Nat} (hy : y < 10) (hW : W ≤ 10) (ws : List (List UInt8)) (hl : ws.length ≤ 1048577) (hs : ∀ w ∈ ws, w.length ≤ 1048576) : ∀ x, x ≤ ws.length → ∀ P : Pasture, P.Wide = (W : Int) → Ev (fun k => impl_ReadPasture.l2 (y : Int) (ws.map toB) k P (x : Int)) (outS (implRow W P y x (ws.drop x))) := by
  have hlen : (ws.map toB).length = ws.length := by simp
  refine upL ?_ ?_
  · intro P hP
    rw [List.drop_length]
    exact Ev.step (fun k => impl_ReadPasture.l2.eq_2 _ _ _ _ _) (Ev.neg (by omega) (Ev.const rfl))
  · intro x hx ih P hP
    rw [List.drop_eq_getElem_cons hx]
    have hz := hs _ (List.getElem_mem hx)
    generalize hL : ws[x] = l at hz ⊢
    have hg : getI (ws.map toB) (x : Int) = some (toB l) := by rw [getM ws hx, hL]
    have c1 := implCut_eq l 95 hz
    have z1 := cutE_len 95 l
    have c2 := implCut_eq (cutE 95 l).1 124 (by omega)
    have z2 := cutE_len 124 (cutE 95 l).1
    have n1 := number_toB (cutE 124 (cutE 95 l).1).1 1000 (by omega) (by omega)
    refine Ev.step (fun k => impl_ReadPasture.l2.eq_2 _ _ _ _ _) (Ev.pos (by omega) (Ev.bind (Ev.const hg) (Ev.bind (Ev.const c1) (Ev.bind (Ev.const c2) (Ev.bind (Ev.const n1) ?_)))))
    cases ho : okA (cutE 124 (cutE 95 l).1).1 1000
    · have hw : word? l = none := by unfold word?; rw [ho]; rfl
      rw [implRow, hw]
      exact Ev.bind (a := true) (Ev.pos rfl (Ev.const rfl)) (Ev.pos rfl (Ev.const rfl))
    · have hw : word? l = some ⟨valF 0 (cutE 124 (cutE 95 l).1).1, (cutE 124 (cutE 95 l).1).2, (cutE 95 l).2⟩ := by unfold word?; rw [ho]; rfl
      have hv : valF 0 (cutE 124 (cutE 95 l).1).1 ≤ 1000 := by
        unfold okA at ho
        rw [Bool.and_eq_true, decide_eq_true_eq] at ho
        exact ho.2
      rw [implRow, hw]
      have wW : IntKind.i64.wrap P.Wide = (W : Int) := by rw [hP, w64 (by omega) (by omega)]
      by_cases hWx : W ≤ x
      · simp only [if_pos hWx]
        exact Ev.bind (a := true) (Ev.neg (by simp) (Ev.const (congrArg some (decide_eq_true (by rw [wW]; omega))))) (Ev.pos rfl (Ev.const rfl))
      · simp only [if_neg hWx]
        have hx10 : x < 10 := by omega
        have ih := ih (cellI P y x ⟨valF 0 (cutE 124 (cutE 95 l).1).1, (cutE 124 (cutE 95 l).1).2, (cutE 95 l).2⟩) hP
        rw [← wsucc hx (by omega)] at ih
        refine Ev.bind (a := false) (Ev.neg (by simp) (Ev.const (congrArg some (decide_eq_false (by rw [wW]; omega))))) (Ev.neg (by simp) (Ev.bind (Ev.const (getR P.Grass hy)) (Ev.bind (Ev.const (getA _ hx10)) ?_)))
        simp only [if_true, Int.toNat_natCast, wi16 hv, wi8 (show x ≤ 100 by omega), wi8 (show y ≤ 100 by omega)]
        exact Ev.bind (Ev.const (put_east _ hy hx10 _)) (Ev.bind (Ev.const (put_south _ hy hx10 _)) ih)
end Go.Proofs.YtbkkojdkiimdjaaGreatDoor.T
/-
  Plain laws: cells, row by row.
-/
namespace Go.Proofs.YtbkkojdkiimdjaaGreatDoor.T
open G
set_option linter.unusedVariables false
set_option linter.unusedSimpArgs false

/-- The cells of a row, of some rows. -/
def rowF (q : Nat → Bool) (y : Nat) : Nat → Nat → List Spot
  | _, 0 => []
  | x, n + 1 => (if q x = true then [⟨(x : Int), (y : Int)⟩] else []) ++ rowF q y (x + 1) n
def gridF (q : Nat → Nat → Bool) (W : Nat) : Nat → Nat → List Spot
  | _, 0 => []
  | y, n + 1 => rowF (q y) y 0 W ++ gridF q W (y + 1) n
theorem rowF_len (q : Nat → Bool) (y : Nat) : ∀ n x : Nat, (rowF q y x n).length ≤ n
  | 0, x => by simp [rowF]
  | n + 1, x => by
    have := rowF_len q y n (x + 1)
    simp only [rowF, List.length_append]
    split <;> simp <;> omega
theorem gridF_len (q : Nat → Nat → Bool) (W : Nat) : ∀ n y : Nat, (gridF q W y n).length ≤ n * W
  | 0, y => by simp [gridF]
  | n + 1, y => by
    have h1 := gridF_len q W n (y + 1)
    have h2 := rowF_len (q y) y W 0
    simp only [gridF, List.length_append, Nat.add_mul, Nat.one_mul]; omega
theorem rowF_mem {q : Nat → Bool} {y : Nat} {s : Spot} : ∀ {n x : Nat}, s ∈ rowF q y x n ↔ ∃ j : Nat, x ≤ j ∧ j < x + n ∧ q j = true ∧ s = ⟨(j : Int), (y : Int)⟩
  | 0, x => by simp only [rowF, List.not_mem_nil, false_iff]; rintro ⟨j, h1, h2, _⟩; omega
  | n + 1, x => by
    simp only [rowF, List.mem_append, rowF_mem (n := n) (x := x + 1)]
    constructor
    · rintro (h | ⟨j, h1, h2, h3⟩)
      · split at h
        · rename_i hq
          obtain rfl := List.mem_singleton.1 h
          exact ⟨x, Nat.le_refl _, by omega, hq, rfl⟩
        · simp at h
      · exact ⟨j, by omega, by omega, h3⟩
    · rintro ⟨j, h1, h2, h3, rfl⟩
      rcases Nat.eq_or_lt_of_le h1 with rfl | h4
      · left; rw [if_pos h3]; simp
      · exact .inr ⟨j, by omega, by omega, h3, rfl⟩
theorem gridF_mem {q : Nat → Nat → Bool} {W : Nat} {s : Spot} : ∀ {n y : Nat}, s ∈ gridF q W y n ↔ ∃ i j : Nat, y ≤ i ∧ i < y + n ∧ j < W ∧ q i j = true ∧ s = ⟨(j : Int), (i : Int)⟩
  | 0, y => by simp only [gridF, List.not_mem_nil, false_iff]; rintro ⟨i, j, h1, h2, _⟩; omega
  | n + 1, y => by
    simp only [gridF, List.mem_append, gridF_mem (n := n) (y := y + 1), rowF_mem]
    constructor
    · rintro (⟨j, h1, h2, h3, rfl⟩ | ⟨i, j, h1, h2, h3⟩)
      · exact ⟨y, j, Nat.le_refl _, by omega, by omega, h3, rfl⟩
      · exact ⟨i, j, by omega, by omega, h3⟩
    · rintro ⟨i, j, h1, h2, h3, h4, rfl⟩
      rcases Nat.eq_or_lt_of_le h1 with rfl | h5
      · exact .inl ⟨j, Nat.zero_le _, by omega, h4, rfl⟩
      · exact .inr ⟨i, j, by omega, by omega, h3, h4, rfl⟩
theorem cellsRow {p : Pasture} {W : Nat} (hW : p.Wide = (W : Int)) (hW' : W ≤ 10) {g : Spot → Option Bool} {q : Nat → Bool} {y : Nat} (hg : ∀ x : Nat, x < W → g ⟨(x : Int), (y : Int)⟩ = some (q x)) : ∀ (n x k : Nat) (acc : List Spot), x + n = W → n < k → acc.length + n ≤ 4000000000 →
    impl_Pasture_cells.l2 p g (y : Int) k acc (x : Int) = some (acc ++ rowF q y x n)
  | 0, x, k + 1, acc, hx, hk, hl => by
    rw [impl_Pasture_cells.l2, if_neg (by omega)]; simp [rowF]
  | n + 1, x, k + 1, acc, hx, hk, hl => by
    have e : IntKind.i8.wrap ((x : Int) + 1) = ((x + 1 : Nat) : Int) := by rw [w8 (by omega) (by omega)]; omega
    rw [impl_Pasture_cells.l2, if_pos (by omega), hg x (by omega), Option.bind_some, e]
    cases hq : q x
    · rw [if_neg (by simp), cellsRow hW hW' hg n (x + 1) k acc (by omega) (by omega) (by omega)]
      simp [rowF, hq]
    · rw [if_pos rfl, chk_t (by simp; omega), Option.bind_some, cellsRow hW hW' hg n (x + 1) k _ (by omega) (by omega) (by simp; omega)]
      simp [rowF, hq]
  | _, _, 0, _, _, hk, _ => by omega
theorem cellsGrid {p : Pasture} {W H : Nat} (hW : p.Wide = (W : Int)) (hW' : W ≤ 10) (hH : p.High = (H : Int)) (hH' : H ≤ 10) {g : Spot → Option Bool} {q : Nat → Nat → Bool} (hg : ∀ y x : Nat, y < H → x < W → g ⟨(x : Int), (y : Int)⟩ = some (q y x)) : ∀ (n y k : Nat) (acc : List Spot), y + n = H → n + 12 < k → acc.length + n * 10 ≤ 4000000000 →
    impl_Pasture_cells.l1 p g k acc (y : Int) = some (acc ++ gridF q W y n)
  | 0, y, k + 1, acc, hx, hk, hl => by
    rw [impl_Pasture_cells.l1, if_neg (by omega)]; simp [gridF]
  | n + 1, y, k + 1, acc, hy, hk, hl => by
    have e : IntKind.i8.wrap ((y : Int) + 1) = ((y + 1 : Nat) : Int) := by rw [w8 (by omega) (by omega)]; omega
    have hr := cellsRow hW hW' (hg y · (by omega)) W 0 k acc (by omega) (by omega) (by omega)
    have hl2 := rowF_len (q y) y W 0
    rw [show ((0 : Nat) : Int) = 0 from rfl] at hr
    rw [impl_Pasture_cells.l1, if_pos (by omega), hr, Option.bind_some, Option.bind_some, e, cellsGrid hW hW' hH hH' hg n (y + 1) k _ (by omega) (by omega) (by simp only [List.length_append]; omega)]
    simp [gridF]
  | _, _, 0, _, _, hk, _ => by omega
theorem cells_eq {p : Pasture} (hw : okW p = true) {g : Spot → Option Bool} {q : Nat → Nat → Bool} (hg : ∀ y x : Nat, y < p.High.toNat → x < p.Wide.toNat → g ⟨(x : Int), (y : Int)⟩ = some (q y x)) {k : Nat} (hk : 24 ≤ k) :
    impl_Pasture_cells.f k p g = some (gridF q p.Wide.toNat 0 p.High.toNat) := by
  obtain ⟨a, b⟩ := okW_iff.1 hw
  unfold impl_Pasture_cells.f
  have := cellsGrid (p := p) (W := p.Wide.toNat) (H := p.High.toNat) (by omega) (by omega) (by omega) (by omega) hg p.High.toNat 0 k [] (by omega) (by omega) (by simp; omega)
  rw [show ((0 : Nat) : Int) = 0 from rfl] at this
  rw [this]; simp
theorem all_eq {p : Pasture} (hw : okW p = true) {k : Nat} (hk : 24 ≤ k) : impl_Pasture_all.f k p = some (gridF (fun _ _ => true) p.Wide.toNat 0 p.High.toNat) := by
  unfold impl_Pasture_all.f
  rw [cells_eq hw (q := fun _ _ => true) (fun y x _ _ => rfl) hk]; rfl
end Go.Proofs.YtbkkojdkiimdjaaGreatDoor.T
/-
  Plain laws: a pasture that is read: rows, what the cells tell.
-/
namespace Go.Proofs.YtbkkojdkiimdjaaGreatDoor.T
open G
set_option linter.unusedVariables false
set_option linter.unusedSimpArgs false
/-! ### What the cells tell -/
def celT (P : Pasture) (y j : Nat) : Cell := ⟨(gG P y j).toNat, bitN (gA P.East y) j, bitN (gA P.South y) j⟩
def goodP (P : Pasture) : Prop := (∀ y, y < 10 → in16 (gA P.East y) ∧ in16 (gA P.South y)) ∧ ∀ y x, y < 10 → x < 10 → 0 ≤ gG P y x ∧ gG P y x ≤ 1000
def clean (P : Pasture) (y x : Nat) : Prop := ∀ j, x ≤ j → j < 16 → bitN (gA P.East y) j = false ∧ bitN (gA P.South y) j = false
theorem orB_get (a : Arr 10 Int) {y : Nat} (hy : y < 10) (x : Nat) (on : Bool) (y' : Nat) : gA (orB a y x on) y' = if y = y' ∧ on = true then orI .u16 (gA a y) (shlI .u16 1 (x : Int)) else gA a y' := by
  unfold orB
  cases on
  · simp
  · rw [if_pos rfl, gA_set _ hy]
    by_cases h : y = y' <;> simp [h]
theorem setG_get (P : Pasture) {y x : Nat} (hy : y < 10) (hx : x < 10) (n : Nat) (y' x' : Nat) : gA (gR (setG P y x n) y') x' = if y = y' ∧ x = x' then (n : Int) else gG P y' x' := by
  unfold setG gG
  rw [gR_set _ hy]
  by_cases h1 : y = y'
  · subst h1
    rw [if_pos rfl, gA_set _ hx]
    by_cases h2 : x = x' <;> simp [h2]
  · rw [if_neg h1, if_neg (fun h => h1 h.1)]
theorem newB_get (a : Arr 10 Int) {y : Nat} (hy : y < 10) (x : Nat) (on : Bool) (y' : Nat) : gA (newB a y x on) y' = if y = y' then (if on = true then orI .u16 (andNotI .u16 (gA a y) (shlI .u16 1 (x : Int))) (shlI .u16 1 (x : Int)) else andNotI .u16 (gA a y) (shlI .u16 1 (x : Int))) else gA a y' := by
  unfold newB
  rw [gA_set _ hy]
theorem andNot_same {m : Int} {x : Nat} (hm : in16 m) (hx : x < 16) (h : bitN m x = false) : andNotI .u16 m (shlI .u16 1 (x : Int)) = m := by
  refine bits_eq (andNot_in _ _) hm fun j hj => ?_
  rw [andNot_bit hm (one_in hx) hj, one_bitN hx hj]
  by_cases e : x = j
  · subst e; rw [h]; rfl
  · rw [decide_eq_false e]; simp
theorem newB_orB (a : Arr 10 Int) {y x : Nat} (hy : y < 10) (hx : x < 16) (on : Bool) (hm : in16 (gA a y)) (h : bitN (gA a y) x = false) : newB a y x on = orB a y x on := by
  unfold newB orB
  rw [andNot_same hm hx h]
  cases on
  · simp only [if_neg (show ¬ (false = true) by simp)]
    exact aset_self a hy
  · rfl
theorem orB_bit (a : Arr 10 Int) {y x : Nat} (hy : y < 10) (hx : x < 10) (on : Bool) (y' : Nat) (hm : in16 (gA a y)) {j : Nat} (hj : j < 16) : bitN (gA (orB a y x on) y') j = if y = y' ∧ on = true then (bitN (gA a y) j || decide (x = j)) else bitN (gA a y') j := by
  rw [orB_get a hy]
  split
  · rw [orI_bit hm (one_in (by omega)) hj, one_bitN (by omega) hj]
  · rfl
theorem orB_in (a : Arr 10 Int) {y x : Nat} (hy : y < 10) (on : Bool) (h : ∀ y, y < 10 → in16 (gA a y)) : ∀ y', y' < 10 → in16 (gA (orB a y x on) y') := by
  intro y' hy'
  rw [orB_get a hy]
  split
  · exact or_in _ _
  · exact h y' hy'
theorem cell_eq (c d : Cell) (h1 : c.n = d.n) (h2 : c.e = d.e) (h3 : c.s = d.s) : c = d := by
  cases c; cases d
  simp at h1 h2 h3
  subst h1 h2 h3; rfl
theorem cellS_facts {P : Pasture} {y x : Nat} (hy : y < 10) (hx : x < 10) (g : goodP P) (hc : clean P y x) {c : Cell} (hn : c.n ≤ 1000) : goodP (cellS P y x c) ∧ clean (cellS P y x c) y (x + 1) ∧ (∀ y' j, y' < 10 → j < 10 → (y' ≠ y ∨ j ≠ x) → celT (cellS P y x c) y' j = celT P y' j) ∧ celT (cellS P y x c) y x = c ∧ ∀ y', y' < 10 → y' ≠ y → clean P y' 0 → clean (cellS P y x c) y' 0 := by
  obtain ⟨g1, g2⟩ := g
  have hE := (g1 y hy).1
  have hS := (g1 y hy).2
  refine ⟨⟨fun y' hy' => ⟨orB_in P.East hy c.e (fun y h => (g1 y h).1) y' hy', orB_in P.South hy c.s (fun y h => (g1 y h).2) y' hy'⟩, fun y' x' hy' hx' => ?_⟩, fun j h1 h2 => ?_, fun y' j hy' hj hne => ?_, ?_, fun y' hy' hne hcl j h1 h2 => ?_⟩
  · show 0 ≤ gA (gR (setG P y x c.n) y') x' ∧ gA (gR (setG P y x c.n) y') x' ≤ 1000
    rw [setG_get P hy hx]
    split
    · omega
    · exact g2 y' x' hy' hx'
  · obtain ⟨a, b⟩ := hc j (by omega) h2
    refine ⟨?_, ?_⟩
    · show bitN (gA (orB P.East y x c.e) y) j = false
      rw [orB_bit _ hy hx _ _ hE h2, a]
      split
      · simp; omega
      · rfl
    · show bitN (gA (orB P.South y x c.s) y) j = false
      rw [orB_bit _ hy hx _ _ hS h2, b]
      split
      · simp; omega
      · rfl
  · refine cell_eq _ _ ?_ ?_ ?_
    · show (gA (gR (setG P y x c.n) y') j).toNat = _
      rw [setG_get P hy hx, if_neg (by omega)]; rfl
    · show bitN (gA (orB P.East y x c.e) y') j = bitN (gA P.East y') j
      rw [orB_bit _ hy hx _ _ hE (by omega)]
      split
      · rename_i h
        rw [h.1] at hne ⊢
        rw [decide_eq_false (by omega), Bool.or_false]
      · rfl
    · show bitN (gA (orB P.South y x c.s) y') j = bitN (gA P.South y') j
      rw [orB_bit _ hy hx _ _ hS (by omega)]
      split
      · rename_i h
        rw [h.1] at hne ⊢
        rw [decide_eq_false (by omega), Bool.or_false]
      · rfl
  · obtain ⟨a, b⟩ := hc x (Nat.le_refl _) (by omega)
    refine cell_eq _ _ ?_ ?_ ?_
    · show (gA (gR (setG P y x c.n) y) x).toNat = _
      rw [setG_get P hy hx, if_pos ⟨rfl, rfl⟩]; omega
    · show bitN (gA (orB P.East y x c.e) y) x = c.e
      rw [orB_bit _ hy hx _ _ hE (by omega), a]
      cases c.e <;> simp
    · show bitN (gA (orB P.South y x c.s) y) x = c.s
      rw [orB_bit _ hy hx _ _ hS (by omega), b]
      cases c.s <;> simp
  · obtain ⟨a, b⟩ := hcl j h1 h2
    refine ⟨?_, ?_⟩
    · show bitN (gA (orB P.East y x c.e) y') j = false
      rw [orB_bit _ hy hx _ _ hE h2, if_neg (fun h => hne h.1.symm), a]
    · show bitN (gA (orB P.South y x c.s) y') j = false
      rw [orB_bit _ hy hx _ _ hS h2, if_neg (fun h => hne h.1.symm), b]
theorem fillR_dims : ∀ (cs : List Cell) (P : Pasture) (y x : Nat), (fillR P y x cs).Wide = P.Wide ∧ (fillR P y x cs).High = P.High
  | [], P, y, x => ⟨rfl, rfl⟩
  | c :: cs, P, y, x => fillR_dims cs (cellS P y x c) y (x + 1)
theorem fillR_facts {y : Nat} (hy : y < 10) : ∀ (cs : List Cell) (P : Pasture) (x : Nat), x + cs.length ≤ 10 → goodP P → clean P y x → (∀ c ∈ cs, c.n ≤ 1000) →
    goodP (fillR P y x cs) ∧ (∀ y' j, y' < 10 → j < 10 → (y' ≠ y ∨ j < x) → celT (fillR P y x cs) y' j = celT P y' j) ∧ ((List.range' x cs.length).map (celT (fillR P y x cs) y) = cs) ∧ ∀ y', y' < 10 → y' ≠ y → clean P y' 0 → clean (fillR P y x cs) y' 0
  | [], P, x, hl, g, hc, hn => ⟨g, fun _ _ _ _ _ => rfl, rfl, fun _ _ _ h => h⟩
  | c :: cs, P, x, hl, g, hc, hn => by
    rw [List.length_cons] at hl
    obtain ⟨a1, a2, a3, a4, a5⟩ := cellS_facts hy (show x < 10 by omega) g hc (hn c (by simp))
    obtain ⟨b1, b2, b3, b4⟩ := fillR_facts hy cs (cellS P y x c) (x + 1) (by omega) a1 a2 fun z hz => hn z (List.mem_cons_of_mem _ hz)
    refine ⟨b1, fun y' j h1 h2 h3 => ?_, ?_, fun y' h1 h2 h3 => b4 y' h1 h2 (a5 y' h1 h2 h3)⟩
    · show celT (fillR (cellS P y x c) y (x + 1) cs) y' j = _
      rw [b2 y' j h1 h2 (by omega), a3 y' j h1 h2 (by omega)]
    · show (List.range' x (cs.length + 1)).map (celT (fillR (cellS P y x c) y (x + 1) cs) y) = _
      rw [List.range'_succ, List.map_cons, b3, b2 y x hy (by omega) (.inr (by omega)), a4]
theorem implRow_eq {W y : Nat} (hy : y < 10) (hW : W ≤ 10) : ∀ (ws : List (List UInt8)) (cs : List Cell) (P : Pasture) (x : Nat), rowP ws = some cs → x + ws.length ≤ W → goodP P → clean P y x → implRow W P y x ws = some (fillR P y x cs)
  | [], cs, P, x, h, _, _, _ => by
    have h := Option.some.inj h
    subst h; rfl
  | w :: ws, cs, P, x, h, hl, g, hc => by
    rw [List.length_cons] at hl
    unfold rowP at h
    cases hw : word? w with
    | none => rw [hw] at h; cases h
    | some c =>
      rw [hw] at h
      cases hs : rowP ws with
      | none => rw [hs] at h; cases h
      | some ys =>
        rw [hs] at h
        have h := Option.some.inj h
        subst h
        have hn := (word_some hw).2
        obtain ⟨a1, a2, _⟩ := cellS_facts hy (show x < 10 by omega) g hc hn
        obtain ⟨b1, b2⟩ := hc x (Nat.le_refl _) (by omega)
        have e : cellI P y x c = cellS P y x c := by
          unfold cellI cellS
          rw [newB_orB P.East hy (by omega) c.e (g.1 y hy).1 b1, newB_orB P.South hy (by omega) c.s (g.1 y hy).2 b2]
        rw [implRow, hw]
        simp only
        rw [if_neg (by omega), e]
        exact implRow_eq hy hW ws ys _ _ hs (by omega) a1 a2
theorem cellI_good {P : Pasture} {y x : Nat} (hy : y < 10) (hx : x < 10) (g : goodP P) {c : Cell} (hn : c.n ≤ 1000) : goodP (cellI P y x c) := by
  obtain ⟨g1, g2⟩ := g
  refine ⟨fun y' hy' => ⟨?_, ?_⟩, fun y' x' hy' hx' => ?_⟩
  · show in16 (gA (newB P.East y x c.e) y')
    rw [newB_get _ hy]
    split
    · split
      · exact or_in _ _
      · exact andNot_in _ _
    · exact (g1 y' hy').1
  · show in16 (gA (newB P.South y x c.s) y')
    rw [newB_get _ hy]
    split
    · split
      · exact or_in _ _
      · exact andNot_in _ _
    · exact (g1 y' hy').2
  · show 0 ≤ gA (gR (setG P y x c.n) y') x' ∧ gA (gR (setG P y x c.n) y') x' ≤ 1000
    rw [setG_get P hy hx]
    split
    · omega
    · exact g2 y' x' hy' hx'
theorem implRow_some {W y : Nat} (hy : y < 10) (hW : W ≤ 10) : ∀ (ws : List (List UInt8)) (P P' : Pasture) (x : Nat), goodP P → implRow W P y x ws = some P' → goodP P' ∧ P'.Wide = P.Wide ∧ P'.High = P.High ∧ ∃ cs, rowP ws = some cs
  | [], P, P', x, g, h => by
    have h := Option.some.inj h
    subst h
    exact ⟨g, rfl, rfl, [], rfl⟩
  | w :: ws, P, P', x, g, h => by
    rw [implRow] at h
    cases hw : word? w with
    | none => rw [hw] at h; cases h
    | some c =>
      rw [hw] at h
      simp only at h
      split at h
      · cases h
      · rename_i hx
        obtain ⟨a, b, d, cs, e⟩ := implRow_some hy hW ws _ _ _ (cellI_good hy (by omega) g (word_some hw).2) h
        exact ⟨a, b, d, c :: cs, by rw [rowP, hw, e]; rfl⟩
/-! ### All rows -/
def wideP (P : Pasture) (n : Nat) : Pasture := (⟨(n : Int), P.High, P.Grass, P.East, P.South⟩ : Pasture)
def specRows : Pasture → Nat → List (List UInt8) → Option Pasture
  | P, y, [] => some P
  | P, y, l :: ls => if 10 < (spl 32 l).length ∨ (0 < y ∧ (((spl 32 l).length : Nat) : Int) ≠ P.Wide) then none else match specRow (wideP P (spl 32 l).length) y 0 (spl 32 l) with
    | none => none
    | some P' => specRows P' (y + 1) ls
def implRows (W : Nat) : Pasture → Nat → List (List UInt8) → Option Pasture
  | P, y, [] => some P
  | P, y, l :: ls => match implRow W P y 0 (spl 32 l) with
    | none => none
    | some P' => implRows W P' (y + 1) ls
def outL (o : Option Pasture) : (Pasture × Int) ⊕ Pasture := match o with
  | none => Sum.inl (zeroP, 5)
  | some P => Sum.inr P
theorem specRow_wide {P P' : Pasture} {y x : Nat} {ws : List (List UInt8)} (h : specRow P y x ws = some P') : P'.Wide = P.Wide ∧ P'.High = P.High := by
  unfold specRow at h
  cases hr : rowP ws with
  | none => rw [hr] at h; cases h
  | some cs =>
    rw [hr] at h
    have h := Option.some.inj h
    subst h
    exact fillR_dims cs P y x
theorem split_eq (l : List UInt8) (c : UInt8) (hl : l.length ≤ 1048576) : strings_Split.f (toB l) (⟨#[c]⟩ : ByteArray) = some ((spl c l).map toB) := by
  unfold strings_Split.f
  rw [chkX ⟨by rw [toB_size]; omega, Nat.le_refl _⟩, Option.bind_some, split_spl, toB_list]
theorem implRows_ev (L : List (List UInt8)) {H W : Nat} (hH : H ≤ 10) (hL : H ≤ L.length) (hW : W ≤ 10) (hs : ∀ l ∈ L, l.length ≤ 1048576) (q : Pasture × Int) (hq : q.1.High = (H : Int)) : ∀ y, y ≤ H → ∀ P : Pasture, P.Wide = (W : Int) → goodP P → Ev (fun k => impl_ReadPasture.l1 (L.map toB) q k P (y : Int)) (outL (implRows W P y ((L.take H).drop y))) := by
  have hlt : (L.take H).length = H := by rw [List.length_take]; omega
  have hll : ((L.map toB).drop 0).take (q.1.High.toNat - 0) = (L.take H).map toB := by
    rw [List.drop_zero, hq, Int.toNat_natCast, Nat.sub_zero, List.map_take]
  refine upL ?_ ?_
  · intro P hP g
    rw [show (L.take H).drop H = [] from List.drop_of_length_le (by omega)]
    refine Ev.step (fun k => impl_ReadPasture.l1.eq_2 _ _ _ _ _) ?_
    rw [hll]
    exact Ev.neg (by rw [List.length_map, hlt]; omega) (Ev.const rfl)
  · intro y hy ih P hP g
    have hyL : y < L.length := by omega
    refine Ev.step (fun k => impl_ReadPasture.l1.eq_2 _ _ _ _ _) ?_
    rw [hll]
    have hg := getM (L.take H) (show y < (L.take H).length by omega)
    rw [List.drop_eq_getElem_cons (show y < (L.take H).length by omega)]
    have hz : ((L.take H)[y]'(by omega)).length ≤ 1048576 := by rw [List.getElem_take]; exact hs _ (List.getElem_mem hyL)
    generalize (L.take H)[y]'(by omega) = l at hz hg ⊢
    have sl := spl_len 32 l
    have sc := spl_count 32 l
    have sp := split_eq l 32 hz
    have hr := implRow_ev (show y < 10 by omega) hW (spl 32 l) (by omega) (fun w hw => by have := sl w hw; omega) 0 (Nat.zero_le _) P hP
    rw [List.drop_zero] at hr
    refine Ev.pos (by rw [List.length_map, hlt]; omega) ?_
    rw [implRows]
    cases e : implRow W P y 0 (spl 32 l) with
    | none =>
      rw [e] at hr
      exact Ev.bind (Ev.bind (Ev.const hg) (Ev.bind (Ev.const sp) (Ev.bind hr (Ev.const rfl)))) (Ev.const rfl)
    | some P' =>
      rw [e] at hr
      obtain ⟨a, b, d, _⟩ := implRow_some (show y < 10 by omega) hW _ _ _ _ g e
      have ih := ih P' (by rw [b]; exact hP) a
      rw [← wsucc (n := H) hy (by omega)] at ih
      exact Ev.bind (Ev.bind (Ev.const hg) (Ev.bind (Ev.const sp) (Ev.bind hr (Ev.const rfl)))) ih
end Go.Proofs.YtbkkojdkiimdjaaGreatDoor.T
/-
  Plain laws: a pasture that is read: all rows; its text.
-/
namespace Go.Proofs.YtbkkojdkiimdjaaGreatDoor.T
open G
set_option linter.unusedVariables false
set_option linter.unusedSimpArgs false
/-! ### All rows -/
theorem specRow_parse {P P' : Pasture} {y x : Nat} {ws : List (List UInt8)} (h : specRow P y x ws = some P') : ∃ cs, rowP ws = some cs := by
  unfold specRow at h
  cases hr : rowP ws with
  | none => rw [hr] at h; cases h
  | some cs => exact ⟨cs, rfl⟩
theorem specRows_some : ∀ (ls : List (List UInt8)) (P P' : Pasture) (y : Nat), 0 < y → specRows P y ls = some P' → ∀ l ∈ ls, (∃ cs, rowP (spl 32 l) = some cs) ∧ (((spl 32 l).length : Nat) : Int) = P.Wide
  | [], P, P', y, _, _ => by simp
  | l :: ls, P, P', y, hy, h => by
    rw [specRows] at h
    split at h
    · cases h
    · rename_i hb
      cases e : specRow (wideP P (spl 32 l).length) y 0 (spl 32 l) with
      | none => rw [e] at h; cases h
      | some P1 =>
        rw [e] at h
        have hw : P1.Wide = (((spl 32 l).length : Nat) : Int) := (specRow_wide e).1
        have hl : (((spl 32 l).length : Nat) : Int) = P.Wide := Classical.byContradiction fun hne => hb (.inr ⟨hy, hne⟩)
        have ih := specRows_some ls P1 P' (y + 1) (by omega) h
        intro z hz
        rcases List.mem_cons.1 hz with rfl | hz
        · exact ⟨specRow_parse e, hl⟩
        · have := ih z hz
          exact ⟨this.1, by rw [this.2, hw, hl]⟩
theorem specRows_first {l : List UInt8} {ls : List (List UInt8)} {P P' : Pasture} (h : specRows P 0 (l :: ls) = some P') : (spl 32 l).length ≤ 10 ∧ ∀ z ∈ l :: ls, (∃ cs, rowP (spl 32 z) = some cs) ∧ (spl 32 z).length = (spl 32 l).length := by
  rw [specRows] at h
  split at h
  · cases h
  · rename_i hb
    cases e : specRow (wideP P (spl 32 l).length) 0 0 (spl 32 l) with
    | none => rw [e] at h; cases h
    | some P1 =>
      rw [e] at h
      have hw : P1.Wide = (((spl 32 l).length : Nat) : Int) := (specRow_wide e).1
      have ih := specRows_some ls P1 P' 1 (by omega) h
      refine ⟨Classical.byContradiction fun hn => hb (.inl (by omega)), fun z hz => ?_⟩
      rcases List.mem_cons.1 hz with rfl | hz
      · exact ⟨specRow_parse e, rfl⟩
      · have := ih z hz
        exact ⟨this.1, by have h2 := this.2; rw [hw] at h2; omega⟩
theorem implRows_some {W : Nat} (hW : W ≤ 10) : ∀ (ls : List (List UInt8)) (P P' : Pasture) (y : Nat), goodP P → y + ls.length ≤ 10 → implRows W P y ls = some P' → goodP P' ∧ P'.Wide = P.Wide ∧ P'.High = P.High ∧ ∀ l ∈ ls, ∃ cs, rowP (spl 32 l) = some cs
  | [], P, P', y, g, _, h => by
    have h := Option.some.inj h
    subst h
    exact ⟨g, rfl, rfl, by simp⟩
  | l :: ls, P, P', y, g, hl, h => by
    rw [List.length_cons] at hl
    rw [implRows] at h
    cases e : implRow W P y 0 (spl 32 l) with
    | none => rw [e] at h; cases h
    | some P1 =>
      rw [e] at h
      obtain ⟨a, b, c, d⟩ := implRow_some (show y < 10 by omega) hW _ _ _ _ g e
      obtain ⟨a2, b2, c2, d2⟩ := implRows_some hW ls P1 P' (y + 1) a (by omega) h
      refine ⟨a2, b2.trans b, c2.trans c, fun z hz => ?_⟩
      rcases List.mem_cons.1 hz with rfl | hz
      · exact d
      · exact d2 z hz
def rowT (P : Pasture) (y W : Nat) : List (List UInt8) := (List.range' 0 W).map fun j => wordT (celT P y j)
theorem wideP_same {P : Pasture} {W : Nat} (h : P.Wide = (W : Int)) : wideP P W = P := by
  unfold wideP
  rw [← h]
theorem rows_both {W : Nat} (hW : W ≤ 10) : ∀ (ls : List (List UInt8)) (P : Pasture) (y : Nat), P.Wide = (W : Int) → y + ls.length ≤ 10 → goodP P → (∀ y', y ≤ y' → y' < 10 → clean P y' 0) → (∀ l ∈ ls, (∃ cs, rowP (spl 32 l) = some cs) ∧ (spl 32 l).length = W) →
    ∃ Q : Pasture, specRows P y ls = some Q ∧ implRows W P y ls = some Q ∧ goodP Q ∧ Q.Wide = P.Wide ∧ Q.High = P.High ∧ (∀ y' j, y' < y → j < 10 → celT Q y' j = celT P y' j) ∧ ∀ i (h : i < ls.length), rowT Q (y + i) W = spl 32 ls[i]
  | [], P, y, _, _, g, _, _ => ⟨P, rfl, rfl, g, rfl, rfl, fun _ _ _ _ => rfl, fun i h => by simp at h⟩
  | l :: ls, P, y, hP, hl, g, hc, hr => by
    rw [List.length_cons] at hl
    obtain ⟨⟨cs, hcs⟩, hlen⟩ := hr l (by simp)
    obtain ⟨hw, hn⟩ := rowP_some hcs
    have hcl : cs.length = W := by rw [← hlen, hw, List.length_map]
    have hy : y < 10 := by omega
    obtain ⟨f1, f2, f3, f4⟩ := fillR_facts hy cs P 0 (by omega) g (hc y (Nat.le_refl _) hy) hn
    obtain ⟨d1, d2⟩ := fillR_dims cs P y 0
    have e1 : specRow (wideP P (spl 32 l).length) y 0 (spl 32 l) = some (fillR P y 0 cs) := by
      rw [hlen, wideP_same hP]
      unfold specRow
      rw [hcs]; rfl
    have e2 : implRow W P y 0 (spl 32 l) = some (fillR P y 0 cs) := implRow_eq hy hW _ _ _ _ hcs (by omega) g (hc y (Nat.le_refl _) hy)
    obtain ⟨Q, q1, q2, q3, q4, q5, q6, q7⟩ := rows_both hW ls (fillR P y 0 cs) (y + 1) (d1.trans hP) (by omega) f1 (fun y' h1 h2 => f4 y' h2 (by omega) (hc y' (by omega) h2)) fun z hz => hr z (List.mem_cons_of_mem _ hz)
    refine ⟨Q, ?_, ?_, q3, q4.trans d1, q5.trans d2, fun y' j h1 h2 => ?_, fun i h => ?_⟩
    · rw [specRows, if_neg (by rw [hlen, hP]; omega), e1]; exact q1
    · rw [implRows, e2]; exact q2
    · rw [q6 y' j (by omega) h2, f2 y' j (by omega) h2 (.inl (by omega))]
    · cases i with
      | zero =>
        unfold rowT
        rw [Nat.add_zero]
        show _ = spl 32 l
        rw [hw, ← f3, hcl, List.map_map]
        refine List.map_congr_left fun j hj => ?_
        have hj : j < W := by have := List.mem_range'_1.1 hj; omega
        show wordT (celT Q y j) = wordT (celT (fillR P y 0 cs) y j)
        rw [q6 y j (by omega) (by omega)]
      | succ i =>
        have := q7 i (by simp at h; omega)
        rw [show y + (i + 1) = y + 1 + i by omega]
        exact this
/-! ### The text -/
theorem grass_eq {P : Pasture} (g : goodP P) {y x : Nat} (hy : y < 10) (hx : x < 10) : impl_Pasture_grass.f P (⟨(x : Int), (y : Int)⟩ : Spot) = some (gG P y x) := by
  have := g.2 y x hy hx
  unfold impl_Pasture_grass.f
  show (getI P.Grass.l ((y : Nat) : Int)).bind _ = _
  rw [getR P.Grass hy, Option.bind_some]
  show (getI (gR P.Grass y).l ((x : Nat) : Int)).bind _ = _
  rw [getA _ hx, Option.bind_some]
  show some (IntKind.i64.wrap (gG P y x)) = _
  rw [w64 (by omega) (by omega)]
theorem stE_eq (P : Pasture) {y x : Nat} (hy : y < 10) : impl_Pasture_stands.f P (⟨(⟨(x : Int), (y : Int)⟩ : Spot), false⟩ : Hurdle) = some (bitN (gA P.East y) x) := by
  unfold impl_Pasture_stands.f
  simp only [if_neg (show ¬ (false = true) by simp)]
  rw [getA P.East hy, Option.bind_some, chkX (by omega), Option.bind_some]; rfl
theorem stS_eq (P : Pasture) {y x : Nat} (hy : y < 10) : impl_Pasture_stands.f P (⟨(⟨(x : Int), (y : Int)⟩ : Spot), true⟩ : Hurdle) = some (bitN (gA P.South y) x) := by
  unfold impl_Pasture_stands.f
  simp only [if_true]
  rw [getA P.South hy, Option.bind_some, chkX (by omega), Option.bind_some]; rfl
theorem dec_le {n : Nat} (h : n ≤ 1000) : (Go.Lib.decDigits n).length ≤ 4 := dec_len 3 n (by omega)
theorem wordT_len {c : Cell} (h : c.n ≤ 1000) : (wordT c).length ≤ 6 := by
  have := dec_le h
  unfold wordT
  simp only [List.length_append]
  split <;> split <;> simp <;> omega
theorem textRow_loop {P : Pasture} (g : goodP P) {y W : Nat} (hy : y < 10) (hW : W ≤ 10) (hP : P.Wide = (W : Int)) : ∀ x, x ≤ W → ∀ acc : List ByteArray, acc.length ≤ x → Ev (fun k => impl_PastureText.l2 P (y : Int) k acc (x : Int)) (acc ++ ((List.range' x (W - x)).map fun j => toB (wordT (celT P y j)))) := by
  refine upL ?_ ?_
  · intro acc ha
    rw [Nat.sub_self]
    exact Ev.step (fun k => impl_PastureText.l2.eq_2 _ _ _ _ _) (Ev.neg (by omega) (Ev.const (by simp)))
  · intro x hx ih acc ha
    have hG := g.2 y x hy (by omega)
    have e8 : IntKind.i8.wrap ((x : Int) + 1) = ((x + 1 : Nat) : Int) := by rw [w8 (by omega) (by omega)]; omega
    have hd : impl_decimal.f (gG P y x) = some (toB (Go.Lib.decDigits (gG P y x).toNat)) := by
      rw [decimal_eq hG.1 (by omega)]
      have : gG P y x = (((gG P y x).toNat : Nat) : Int) := by omega
      conv => lhs; rw [this, itoa_nat]
      rfl
    have hdl := dec_le (n := (gG P y x).toNat) (by omega)
    have hdz : (toB (Go.Lib.decDigits (gG P y x).toNat)).size ≤ 4 := by rw [toB_size]; exact hdl
    have s1 : (⟨#[124]⟩ : ByteArray).size = 1 := rfl
    have s2 : (⟨#[95]⟩ : ByteArray).size = 1 := rfl
    have sz : (toB (Go.Lib.decDigits (gG P y x).toNat) ++ (⟨#[124]⟩ : ByteArray)).size ≤ 5 := by rw [ByteArray.size_append]; omega
    have ih := ih (acc ++ [toB (wordT (celT P y x))]) (by simp; omega)
    rw [← e8, List.append_assoc] at ih
    refine Ev.step (fun k => impl_PastureText.l2.eq_2 _ _ _ _ _) (Ev.pos (by omega) (Ev.bind (Ev.const (grass_eq g hy (by omega))) (Ev.bind (Ev.const hd) (Ev.bind (Ev.const (stE_eq P hy)) ?_))))
    rw [show W - x = (W - (x + 1)) + 1 by omega, List.range'_succ, List.map_cons]
    have ew : toB (wordT (celT P y x)) = (toB (Go.Lib.decDigits (gG P y x).toNat) ++ toB (if bitN (gA P.East y) x = true then [124] else [])) ++ toB (if bitN (gA P.South y) x = true then [95] else []) := by
      unfold wordT celT
      rw [toB_app, toB_app]
    have en : ∀ z : ByteArray, z ++ toB [] = z := fun z => by
      apply ByteArray.ext
      rw [ByteArray.data_append]; simp [toB]
    cases hE : bitN (gA P.East y) x
    · refine Ev.neg (by simp) (Ev.bind (Ev.const (stS_eq P hy)) ?_)
      cases hS : bitN (gA P.South y) x
      · rw [hE, hS] at ew
        simp only [if_neg (show ¬ (false = true) by simp), en] at ew
        refine Ev.neg (by simp) (Ev.bind (Ev.const (chkX (by simp; omega))) ?_)
        rw [← ew]; exact ih
      · rw [hE, hS] at ew
        simp only [if_neg (show ¬ (false = true) by simp), if_true, en] at ew
        refine Ev.pos rfl (Ev.bind (Ev.const (chkX (by omega))) (Ev.bind (Ev.const (chkX (by simp; omega))) ?_))
        rw [show toB (Go.Lib.decDigits (gG P y x).toNat) ++ (⟨#[95]⟩ : ByteArray) = toB (wordT (celT P y x)) from ew.symm]
        exact ih
    · refine Ev.pos rfl (Ev.bind (Ev.const (chkX (by omega))) (Ev.bind (Ev.const (stS_eq P hy)) ?_))
      cases hS : bitN (gA P.South y) x
      · rw [hE, hS] at ew
        simp only [if_neg (show ¬ (false = true) by simp), if_true, en] at ew
        refine Ev.neg (by simp) (Ev.bind (Ev.const (chkX (by simp; omega))) ?_)
        rw [show toB (Go.Lib.decDigits (gG P y x).toNat) ++ (⟨#[124]⟩ : ByteArray) = toB (wordT (celT P y x)) from ew.symm]
        exact ih
      · rw [hE, hS] at ew
        simp only [if_true] at ew
        refine Ev.pos rfl (Ev.bind (Ev.const (chkX (by omega))) (Ev.bind (Ev.const (chkX (by simp; omega))) ?_))
        rw [show (toB (Go.Lib.decDigits (gG P y x).toNat) ++ (⟨#[124]⟩ : ByteArray)) ++ (⟨#[95]⟩ : ByteArray) = toB (wordT (celT P y x)) from ew.symm]
        exact ih
theorem joinT_len (c : UInt8) (b : Nat) : ∀ xs : List (List UInt8), (∀ x ∈ xs, x.length ≤ b) → (Go.Lib.joinTail [c] xs).length ≤ (b + 1) * xs.length
  | [], _ => by simp [Go.Lib.joinTail]
  | x :: xs, h => by
    have ih := joinT_len c b xs fun z hz => h z (List.mem_cons_of_mem _ hz)
    have := h x (by simp)
    unfold Go.Lib.joinTail at ih ⊢
    simp only [List.map_cons, List.flatten_cons, List.length_append, List.length_cons, List.length_nil]
    rw [Nat.mul_succ]
    omega
theorem join_len (c : UInt8) (b : Nat) (xs : List (List UInt8)) (h : ∀ x ∈ xs, x.length ≤ b) : (Go.Lib.join xs [c]).length ≤ (b + 1) * xs.length := by
  cases xs with
  | nil => simp [Go.Lib.join_nil]
  | cons x xs =>
    rw [Go.Lib.join_cons]
    have := joinT_len c b xs fun z hz => h z (List.mem_cons_of_mem _ hz)
    have hx := h x (by simp)
    rw [List.length_append, List.length_cons, Nat.mul_succ]
    omega
theorem join_toB (ls : List (List UInt8)) (c : UInt8) : joinB (ls.map toB) ⟨#[c]⟩ = toB (Go.Lib.join ls [c]) := by
  unfold joinB
  have e : (ls.map toB).map (·.data.toList) = ls := by
    rw [List.map_map]
    conv => rhs; rw [← List.map_id ls]
    exact List.map_congr_left fun x _ => toB_list x
  rw [e]; rfl
def lineT (P : Pasture) (W y : Nat) : List UInt8 := Go.Lib.join (rowT P y W) [32]
def rowsT (P : Pasture) (W : Nat) : Nat → Nat → List UInt8
  | _, 0 => []
  | y, n + 1 => (lineT P W y ++ [10]) ++ rowsT P W (y + 1) n
theorem lineT_len {P : Pasture} (g : goodP P) {y W : Nat} (hy : y < 10) (hW : W ≤ 10) : (lineT P W y).length ≤ 70 := by
  have := join_len 32 6 (rowT P y W) fun w hw => by
    obtain ⟨j, hj, rfl⟩ := List.mem_map.1 hw
    have hj : j < W := by have := List.mem_range'_1.1 hj; omega
    have := g.2 y j hy (by omega)
    exact wordT_len (by show (gG P y j).toNat ≤ 1000; omega)
  have hl : (rowT P y W).length = W := by unfold rowT; simp
  rw [hl] at this
  unfold lineT
  omega
theorem text_loop {P : Pasture} (g : goodP P) {H W : Nat} (hW : W ≤ 10) (hP : P.Wide = (W : Int)) (hH : H ≤ 10) (hPH : P.High = (H : Int)) : ∀ y, y ≤ H → ∀ acc : ByteArray, acc.size ≤ 100 * y → Ev (fun k => impl_PastureText.l1 P k acc (y : Int)) (acc ++ toB (rowsT P W y (H - y))) := by
  refine upL ?_ ?_
  · intro acc ha
    rw [Nat.sub_self]
    refine Ev.step (fun k => impl_PastureText.l1.eq_2 _ _ _ _) (Ev.neg (by omega) (Ev.const ?_))
    congr 1
    apply ByteArray.ext
    rw [ByteArray.data_append]; simp [toB, rowsT]
  · intro y hy ih acc ha
    have e8 : IntKind.i8.wrap ((y : Int) + 1) = ((y + 1 : Nat) : Int) := by rw [w8 (by omega) (by omega)]; omega
    have hr := textRow_loop g (show y < 10 by omega) hW hP 0 (Nat.zero_le _) [] (by simp)
    rw [List.nil_append, Nat.sub_zero] at hr
    have hr' : Ev (fun k => impl_PastureText.l2 P (y : Int) k [] ((0 : Nat) : Int)) ((rowT P y W).map toB) := by
      unfold rowT
      rw [List.map_map]
      exact hr
    have hll := lineT_len g (show y < 10 by omega) hW
    have hrl : (rowT P y W).length = W := by unfold rowT; simp
    have hj : strings_Join.f ((rowT P y W).map toB) (⟨#[32]⟩ : ByteArray) = some (toB (lineT P W y), (rowT P y W).map toB) := by
      unfold strings_Join.f
      rw [join_toB, chkX ⟨by rw [List.length_map, hrl]; omega, by show (toB (lineT P W y)).size ≤ _; rw [toB_size]; omega⟩]; rfl
    have s1 : (⟨#[10]⟩ : ByteArray).size = 1 := rfl
    have sl : (toB (lineT P W y)).size ≤ 70 := by rw [toB_size]; exact hll
    have sa : (toB (lineT P W y) ++ (⟨#[10]⟩ : ByteArray)).size ≤ 71 := by rw [ByteArray.size_append]; omega
    have ih := ih (acc ++ (toB (lineT P W y) ++ (⟨#[10]⟩ : ByteArray))) (by rw [ByteArray.size_append]; omega)
    rw [← e8] at ih
    refine Ev.step (fun k => impl_PastureText.l1.eq_2 _ _ _ _) (Ev.pos (by omega) (Ev.bind (Ev.bind hr' (Ev.bind (Ev.const hj) (Ev.bind (Ev.const (chkX (by show (toB (lineT P W y)).size + _ ≤ _; omega))) (Ev.bind (Ev.const (chkX (by show acc.size + (toB (lineT P W y) ++ (⟨#[10]⟩ : ByteArray)).size ≤ _; omega))) (Ev.const rfl))))) ?_))
    rw [show H - y = (H - (y + 1)) + 1 by omega, rowsT, toB_app, toB_app, show acc ++ ((toB (lineT P W y) ++ toB [10]) ++ toB (rowsT P W (y + 1) (H - (y + 1)))) = (acc ++ (toB (lineT P W y) ++ toB [10])) ++ toB (rowsT P W (y + 1) (H - (y + 1))) from ByteArray.append_assoc.symm]
    exact ih
theorem VPasture_of {P : Pasture} (g : goodP P) (h1 : 0 ≤ P.Wide ∧ P.Wide ≤ 10) (h2 : 0 ≤ P.High ∧ P.High ≤ 10) : VPasture P := by
  have a1 : IntKind.i8.min = -128 := by decide
  have a2 : IntKind.i8.max = 127 := by decide
  have b1 : IntKind.i16.min = -32768 := by decide
  have b2 : IntKind.i16.max = 32767 := by decide
  have c1 : IntKind.u16.min = 0 := by decide
  have c2 : IntKind.u16.max = 65535 := by decide
  have key : ∀ a : Arr 10 Int, (∀ i, i < 10 → in16 (gA a i)) → ∀ x ∈ a.l, inI .u16 x := fun a h x hx => by
    obtain ⟨i, hi, rfl⟩ := List.mem_iff_getElem.1 hx
    have hi' : i < 10 := by rw [← a.len]; exact hi
    have := h i hi'
    unfold gA at this
    rw [List.getD_eq_getElem?_getD, List.getElem?_eq_getElem hi, Option.getD_some] at this
    exact ⟨by rw [c1]; exact this.1, by rw [c2]; exact this.2⟩
  refine ⟨⟨by rw [a1]; omega, by rw [a2]; omega⟩, ⟨by rw [a1]; omega, by rw [a2]; omega⟩, fun r hr x hx => ?_, key _ fun i hi => (g.1 i hi).1, key _ fun i hi => (g.1 i hi).2⟩
  obtain ⟨y, hy, rfl⟩ := List.mem_iff_getElem.1 hr
  obtain ⟨i, hi, rfl⟩ := List.mem_iff_getElem.1 hx
  have hy' : y < 10 := by rw [← P.Grass.len]; exact hy
  have hi' : i < 10 := by rw [← (P.Grass.l[y]).len]; exact hi
  have := g.2 y i hy' hi'
  unfold gG gA gR at this
  rw [List.getElem?_eq_getElem hy, Option.getD_some, List.getD_eq_getElem?_getD, List.getElem?_eq_getElem hi, Option.getD_some] at this
  exact ⟨by rw [b1]; omega, by rw [b2]; omega⟩
theorem text_ev {P : Pasture} (g : goodP P) {H W : Nat} (hW : W ≤ 10) (hP : P.Wide = (W : Int)) (hH : H ≤ 10) (hPH : P.High = (H : Int)) : Ev (fun k => impl_PastureText.f k P) (if vP P = true then toB (rowsT P W 0 H) else ByteArray.empty) := by
  have v := VPasture_of g (by omega) (by omega)
  refine (implOk_ev v).bind ?_
  cases vP P
  · exact Ev.pos rfl (Ev.const rfl)
  · refine Ev.neg (by simp) ?_
    have := text_loop g hW hP hH hPH 0 (Nat.zero_le _) ByteArray.empty (by simp)
    have en : ∀ z : ByteArray, ByteArray.empty ++ z = z := fun z => by
      apply ByteArray.ext
      rw [ByteArray.data_append]; simp
    rw [en, Nat.sub_zero] at this
    exact this.bind (Ev.const rfl)
theorem rowsT_join (P : Pasture) (W : Nat) : ∀ n y, rowsT P W y n = Go.Lib.join (((List.range' y n).map (lineT P W)) ++ [[]]) [10]
  | 0, y => by simp [rowsT, Go.Lib.join_one]
  | n + 1, y => by
    rw [rowsT, rowsT_join P W n (y + 1), List.range'_succ, List.map_cons, List.cons_append]
    cases n with
    | zero => simp [Go.Lib.join_one, Go.Lib.join_cons, Go.Lib.joinTail]
    | succ n =>
      rw [List.range'_succ, List.map_cons, List.cons_append, Go.Lib.join_cons, Go.Lib.join_cons]
      simp [Go.Lib.joinTail]
/-! ### Which bytes these are -/
theorem word_bytes {c : Cell} {b : UInt8} (h : b ∈ wordT c) : digB b = true ∨ b = 124 ∨ b = 95 := by
  unfold wordT at h
  rcases List.mem_append.1 h with h | h
  · rcases List.mem_append.1 h with h | h
    · exact .inl (List.all_eq_true.1 (dec_all c.n) b h)
    · split at h
      · exact .inr (.inl (List.mem_singleton.1 h))
      · simp at h
  · split at h
    · exact .inr (.inr (List.mem_singleton.1 h))
    · simp at h
theorem mem_join {b c : UInt8} : ∀ {xs : List (List UInt8)}, b ∈ Go.Lib.join xs [c] → b = c ∨ ∃ x ∈ xs, b ∈ x
  | [], h => by simp [Go.Lib.join_nil] at h
  | x :: xs, h => by
    rw [Go.Lib.join_cons] at h
    rcases List.mem_append.1 h with h | h
    · exact .inr ⟨x, by simp, h⟩
    · unfold Go.Lib.joinTail at h
      obtain ⟨l, hl, hb⟩ := List.mem_flatten.1 h
      obtain ⟨z, hz, rfl⟩ := List.mem_map.1 hl
      rcases List.mem_append.1 hb with hb | hb
      · exact .inl (List.mem_singleton.1 hb)
      · exact .inr ⟨z, List.mem_cons_of_mem _ hz, hb⟩
theorem line_words {P : Pasture} {W y : Nat} (hW : 1 ≤ W) : spl 32 (lineT P W y) = rowT P y W ∧ (10 : UInt8) ∉ lineT P W y := by
  have hne : rowT P y W ≠ [] := by
    unfold rowT
    cases W with
    | zero => omega
    | succ W => simp
  have hw : ∀ x ∈ rowT P y W, ∀ b ∈ x, digB b = true ∨ b = 124 ∨ b = 95 := fun x hx b hb => by
    obtain ⟨j, hj, rfl⟩ := List.mem_map.1 hx
    exact word_bytes hb
  refine ⟨spl_join 32 hne fun x hx hb => ?_, fun h => ?_⟩
  · rcases hw x hx _ hb with h | h | h
    · exact absurd h (by decide)
    · exact absurd h (by decide)
    · exact absurd h (by decide)
  · rcases mem_join h with h | ⟨x, hx, hb⟩
    · exact absurd h (by decide)
    · rcases hw x hx _ hb with h | h | h
      · exact absurd h (by decide)
      · exact absurd h (by decide)
      · exact absurd h (by decide)
end Go.Proofs.YtbkkojdkiimdjaaGreatDoor.T
/-
  Plain law: ReadPasture of the program and of the reference answer alike.
-/
namespace Go.Proofs.YtbkkojdkiimdjaaGreatDoor.T
open G
set_option linter.unusedVariables false
set_option linter.unusedSimpArgs false
/-! ### The pasture at the begin -/
def startP (W H : Nat) : Pasture := (⟨(W : Int), (H : Int), (Arr.mk' (Arr.mk' 0 : Arr 10 Int) : Arr 10 (Arr 10 Int)), (Arr.mk' 0 : Arr 10 Int), (Arr.mk' 0 : Arr 10 Int)⟩ : Pasture)
theorem gA_zero (x : Nat) : gA (Arr.mk' 0 : Arr 10 Int) x = 0 := by
  unfold gA Arr.mk'
  rw [List.getD_eq_getElem?_getD]
  by_cases h : x < 10
  · rw [List.getElem?_replicate, if_pos h]; rfl
  · rw [List.getElem?_replicate, if_neg h]; rfl
theorem gR_zero (y : Nat) : gR (Arr.mk' (Arr.mk' 0 : Arr 10 Int) : Tb) y = (Arr.mk' 0 : Arr 10 Int) := by
  unfold gR Arr.mk'
  by_cases h : y < 10
  · rw [List.getElem?_replicate, if_pos h]; rfl
  · rw [List.getElem?_replicate, if_neg h]; rfl
theorem bit_zero (j : Nat) : bitN 0 j = false := by
  unfold bitN shrI
  rw [Int.zero_fdiv]; rfl
theorem start_good (W H : Nat) : goodP (startP W H) ∧ ∀ y, clean (startP W H) y 0 := by
  refine ⟨⟨fun y _ => ⟨?_, ?_⟩, fun y x _ _ => ?_⟩, fun y j _ _ => ⟨?_, ?_⟩⟩
  · show in16 (gA (Arr.mk' 0 : Arr 10 Int) y)
    rw [gA_zero]; exact ⟨by omega, by omega⟩
  · show in16 (gA (Arr.mk' 0 : Arr 10 Int) y)
    rw [gA_zero]; exact ⟨by omega, by omega⟩
  · show 0 ≤ gA (gR (Arr.mk' (Arr.mk' 0 : Arr 10 Int) : Tb) y) x ∧ gA (gR (Arr.mk' (Arr.mk' 0 : Arr 10 Int) : Tb) y) x ≤ 1000
    rw [gR_zero, gA_zero]; omega
  · show bitN (gA (Arr.mk' 0 : Arr 10 Int) y) j = false
    rw [gA_zero, bit_zero]
  · show bitN (gA (Arr.mk' 0 : Arr 10 Int) y) j = false
    rw [gA_zero, bit_zero]
theorem asetR_self (m : Tb) {y : Nat} (hy : y < 10) : aset m y (gR m y) = m := by
  apply Arr.ext'
  show m.l.set y (gR m y) = m.l
  have h : y < m.l.length := by rw [m.len]; exact hy
  unfold gR
  rw [List.getElem?_eq_getElem h, Option.getD_some, List.set_getElem_self]
theorem plain_loop {W H : Nat} (cells : List Spot) (hl : cells.length ≤ 1000) (hc : ∀ s ∈ cells, ∃ x y : Nat, x < 10 ∧ y < 10 ∧ s = ⟨(x : Int), (y : Int)⟩) : ∀ i, i ≤ cells.length → Ev (fun k => impl_PlainPasture.l1 0 cells k (startP W H) (i : Int)) (startP W H) := by
  refine upL ?_ ?_
  · exact Ev.step (fun k => impl_PlainPasture.l1.eq_2 _ _ _ _ _) (Ev.neg (by omega) (Ev.const rfl))
  · intro i hi ih
    obtain ⟨x, y, hx, hy, e⟩ := hc _ (List.getElem_mem hi)
    rw [← wsucc hi (by omega)] at ih
    have hg : getI cells (i : Int) = some ⟨(x : Int), (y : Int)⟩ := by rw [getI_nat hi, e]
    have eg : aset (startP W H).Grass y (aset (gR (startP W H).Grass y) x (IntKind.i16.wrap 0)) = (startP W H).Grass := by
      have h0 : IntKind.i16.wrap 0 = gA (gR (startP W H).Grass y) x := by
        show _ = gA (gR (Arr.mk' (Arr.mk' 0 : Arr 10 Int) : Tb) y) x
        rw [gR_zero, gA_zero]; decide
      rw [h0, aset_self _ hx, asetR_self _ hy]
    refine Ev.step (fun k => impl_PlainPasture.l1.eq_2 _ _ _ _ _) (Ev.pos (by omega) (Ev.bind (Ev.const hg) (Ev.bind (Ev.const (getR (startP W H).Grass hy)) (Ev.bind (Ev.const (getA _ hx)) ?_))))
    simp only [Int.toNat_natCast]
    rw [eg]
    exact ih
theorem plain_ev {W H : Nat} (hW : W ≤ 1048577) (hH : H ≤ 1048577) : Ev (fun k => impl_PlainPasture.f k (W : Int) (H : Int) 0) (if (1 ≤ W ∧ W ≤ 10) ∧ (1 ≤ H ∧ H ≤ 10) then (startP W H, 0) else (zeroP, 2)) := by
  by_cases h1 : 1 ≤ W ∧ W ≤ 10
  · by_cases h2 : 1 ≤ H ∧ H ≤ 10
    · rw [if_pos ⟨h1, h2⟩]
      have ew : (⟨IntKind.i8.wrap (W : Int), IntKind.i8.wrap (H : Int), (Arr.mk' (Arr.mk' 0 : Arr 10 Int) : Arr 10 (Arr 10 Int)), (Arr.mk' 0 : Arr 10 Int), (Arr.mk' 0 : Arr 10 Int)⟩ : Pasture) = startP W H := by
        unfold startP
        rw [wi8 (by omega), wi8 (by omega)]
      have hok : okW (startP W H) = true := okW_iff.2 ⟨⟨by show (1 : Int) ≤ (W : Int); omega, by show (W : Int) ≤ 10; omega⟩, by show (1 : Int) ≤ (H : Int); omega, by show (H : Int) ≤ 10; omega⟩
      refine Ev.bind (a := false) (Ev.bind (Ev.const (within_eq _ _ _)) (Ev.neg (by simp; omega) (Ev.bind (Ev.const (within_eq _ _ _)) (Ev.neg (by simp; omega) (Ev.bind (Ev.const (within_eq _ _ _)) (Ev.const (by decide))))))) (Ev.neg (by simp) ?_)
      rw [ew]
      have hgl := gridF_len (fun _ _ => true) (startP W H).Wide.toNat (startP W H).High.toNat 0
      have hm : (startP W H).High.toNat * (startP W H).Wide.toNat ≤ 10 * 10 := Nat.mul_le_mul (by show ((H : Int)).toNat ≤ 10; omega) (by show ((W : Int)).toNat ≤ 10; omega)
      refine Ev.bind ⟨24, fun k hk => all_eq hok hk⟩ (Ev.bind (plain_loop _ (by omega) (fun s hs => ?_) 0 (Nat.zero_le _)) (Ev.const rfl))
      obtain ⟨i, j, a1, a2, a3, a4, rfl⟩ := gridF_mem.1 hs
      have b1 : (startP W H).High.toNat = H := by show ((H : Int)).toNat = H; omega
      have b2 : (startP W H).Wide.toNat = W := by show ((W : Int)).toNat = W; omega
      exact ⟨j, i, by omega, by omega, rfl⟩
    · rw [if_neg (fun h => h2 h.2)]
      exact Ev.bind (a := true) (Ev.bind (Ev.const (within_eq _ _ _)) (Ev.neg (by simp; omega) (Ev.bind (Ev.const (within_eq _ _ _)) (Ev.pos (by simp; omega) (Ev.const rfl))))) (Ev.pos rfl (Ev.const rfl))
  · rw [if_neg (fun h => h1 h.1)]
    exact Ev.bind (a := true) (Ev.bind (Ev.const (within_eq _ _ _)) (Ev.pos (by simp; omega) (Ev.const rfl))) (Ev.pos rfl (Ev.const rfl))
theorem specRows_wide (W H : Nat) : ∀ ls : List (List UInt8), ls ≠ [] → specRows (startP 0 H) 0 ls = specRows (startP W H) 0 ls
  | [], h => absurd rfl h
  | l :: ls, _ => by
    rw [specRows, specRows]
    simp only [Nat.lt_irrefl, false_and, or_false]
    rfl
theorem toB_empty {x : List UInt8} : toB x = ByteArray.empty ↔ x = [] := ⟨fun h => toB_inj (m := []) h, fun h => by rw [h]; rfl⟩
/-! ### The pastures are compared -/
end Go.Proofs.YtbkkojdkiimdjaaGreatDoor.T
