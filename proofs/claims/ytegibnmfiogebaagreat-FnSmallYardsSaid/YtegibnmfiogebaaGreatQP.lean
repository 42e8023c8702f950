import Derived.Test.YtegibnmfiogebaaGreatQH
/-
  Plain laws: small functions, wraps, all of some places.
-/
namespace Go.Proofs.YtegibnmfiogebaaGreat
open G
set_option linter.unusedVariables false
set_option linter.unusedSimpArgs false

theorem l00In_eq (a b c : Int) : spec_l00In.f a b c = some (decide (b ≤ a ∧ a ≤ c)) := by
 unfold spec_l00In.f
 by_cases h : b ≤ a <;> simp [h]
theorem within_eq (a b c : Int) : impl_within.f a b c = some (decide (b ≤ a ∧ a ≤ c)) := by
 unfold impl_within.f
 by_cases h : b ≤ a <;> simp [h]
theorem i8b {x : Int} (h : inI .i8 x) : -128 ≤ x ∧ x ≤ 127 := by
 have h1 : IntKind.i8.min = -128 := by decide
 have h2 : IntKind.i8.max = 127 := by decide
 exact ⟨h1 ▸ h.1, h2 ▸ h.2⟩
theorem i16b {x : Int} (h : inI .i16 x) : -32768 ≤ x ∧ x ≤ 32767 := by
 have h1 : IntKind.i16.min = -32768 := by decide
 have h2 : IntKind.i16.max = 32767 := by decide
 exact ⟨h1 ▸ h.1, h2 ▸ h.2⟩
theorem u16b {x : Int} (h : inI .u16 x) : 0 ≤ x ∧ x ≤ 65535 := by
 have h1 : IntKind.u16.min = 0 := by decide
 have h2 : IntKind.u16.max = 65535 := by decide
 exact ⟨h1 ▸ h.1, h2 ▸ h.2⟩
theorem wu64 {x : Int} (h : 0 ≤ x) (h' : x ≤ 18446744073709551615) : IntKind.u64.wrap x = x := by
 have : IntKind.u64.wrap x = x % 18446744073709551616 := by simp [IntKind.wrap, IntKind.bits, IntKind.signed]
 rw [this]; omega

/-! ### All of some places -/
def upA (q : Nat → Bool) : Nat → Nat → Bool
  | _, 0 => true
  | i, n + 1 => q i && upA q (i + 1) n
theorem upA_iff (q : Nat → Bool) : ∀ (n i : Nat), upA q i n = true ↔ ∀ j, i ≤ j → j < i + n → q j = true
  | 0, i => by simp only [upA, true_iff]; intro j h1 h2; omega
  | n + 1, i => by
    simp only [upA, Bool.and_eq_true, upA_iff q n (i + 1)]
    constructor
    · rintro ⟨h1, h2⟩ j h3 h4
      rcases Nat.eq_or_lt_of_le h3 with rfl | h5
      · exact h1
      · exact h2 j h5 (by omega)
    · intro h
      exact ⟨h i (Nat.le_refl _) (by omega), fun j h1 h2 => h j (by omega) (by omega)⟩

/-- Bits. -/
theorem and1 {x : Int} (h : 0 ≤ x) (h' : x ≤ 65535) : andI .u16 x 1 = x % 2 := by
 obtain ⟨n, rfl⟩ := Int.eq_ofNat_of_zero_le h
 unfold andI
 have e : (BitVec.ofInt 16 (n : Int) &&& BitVec.ofInt 16 1).toNat = n % 2 := by
   rw [BitVec.toNat_and, BitVec.toNat_ofInt, BitVec.toNat_ofInt]
   have h1 : ((n : Int) % ((2 ^ 16 : Nat) : Int)).toNat = n := by omega
   rw [h1]
   exact Nat.and_one_is_mod n
 show IntKind.u16.wrap (((BitVec.ofInt 16 (n : Int) &&& BitVec.ofInt 16 1).toNat : Nat) : Int) = _
 rw [e, wu16 (by omega) (by omega)]; omega
end Go.Proofs.YtegibnmfiogebaaGreat
/-
  Plain laws: common ones (a code that is told unless).
-/
namespace Go.Proofs.YtegibnmfiogebaaGreat
open G
set_option linter.unusedVariables false
set_option linter.unusedSimpArgs false
def VSpot (x : Spot) : Prop := (inI .i8) x.X ∧ (inI .i8) x.Y
def VPasture (x : Pasture) : Prop := (inI .i8) x.Wide ∧ (inI .i8) x.High ∧ (fun a => ∀ x ∈ a.l, (fun a => ∀ x ∈ a.l, (inI .i16) x) x) x.Grass ∧ (fun a => ∀ x ∈ a.l, (inI .u16) x) x.East ∧ (fun a => ∀ x ∈ a.l, (inI .u16) x) x.South
theorem unless_eq (b : Bool) (c : Int) : impl_unless.f b c = some (if b = true then 0 else c) := by
 unfold impl_unless.f; split <;> rfl
end Go.Proofs.YtegibnmfiogebaaGreat
/-
  Plain laws: arrays, wraps, and when a pasture is valid.
-/
namespace Go.Proofs.YtegibnmfiogebaaGreat
open G
set_option linter.unusedVariables false
set_option linter.unusedSimpArgs false

/-! ### Arrays -/
def gA {n : Nat} (a : Arr n Int) (i : Nat) : Int := a.l.getD i 0
def gR {m n : Nat} (a : Arr m (Arr n Int)) (i : Nat) : Arr n Int := (a.l[i]?).getD (Arr.mk' 0)
theorem getA {n : Nat} (a : Arr n Int) {i : Nat} (h : i < n) : getI a.l (i : Int) = some (gA a i) := by
 have : i < a.l.length := by rw [a.len]; exact h
 rw [getI_nat this]; simp [gA, List.getD_eq_getElem?_getD, List.getElem?_eq_getElem this]
theorem getR {m n : Nat} (a : Arr m (Arr n Int)) {i : Nat} (h : i < m) : getI a.l (i : Int) = some (gR a i) := by
 have : i < a.l.length := by rw [a.len]; exact h
 rw [getI_nat this]; simp [gR, List.getElem?_eq_getElem this]
theorem gA_mem {n : Nat} (a : Arr n Int) {i : Nat} (h : i < n) : gA a i ∈ a.l := by
 have : i < a.l.length := by rw [a.len]; exact h
 simp [gA, List.getD_eq_getElem?_getD, List.getElem?_eq_getElem this]
theorem gR_mem {m n : Nat} (a : Arr m (Arr n Int)) {i : Nat} (h : i < m) : gR a i ∈ a.l := by
 have : i < a.l.length := by rw [a.len]; exact h
 simp [gR, List.getElem?_eq_getElem this]
/-- The grass of a cell. -/
def gG (p : Pasture) (y x : Nat) : Int := gA (gR p.Grass y) x
theorem gG_in {p : Pasture} (v : VPasture p) {y x : Nat} (hy : y < 10) (hx : x < 10) : -32768 ≤ gG p y x ∧ gG p y x ≤ 32767 := i16b (v.2.2.1 _ (gR_mem _ hy) _ (gA_mem _ hx))
/-! ### Valid pastures -/
def cellB (p : Pasture) (x y : Int) : Bool := decide (0 ≤ x ∧ x < p.Wide) && decide (0 ≤ y ∧ y < p.High)
def okG (p : Pasture) (y x : Nat) : Bool := decide (0 ≤ gG p y x ∧ gG p y x ≤ 1000) && (decide (gG p y x ≤ 0) || cellB p x y)
def eMask (p : Pasture) (y : Nat) : Int := if (y : Int) < p.High then 2 ^ (p.Wide.toNat - 1) - 1 else 0
def sMask (p : Pasture) (y : Nat) : Int := if (y : Int) + 1 < p.High then 2 ^ p.Wide.toNat - 1 else 0
def okR (p : Pasture) (y : Nat) : Bool := upA (okG p y) 0 10 && (decide (andNotI .u16 (gA p.East y) (eMask p y) = 0) && decide (andNotI .u16 (gA p.South y) (sMask p y) = 0))
def okW (p : Pasture) : Bool := decide (1 ≤ p.Wide ∧ p.Wide ≤ 10) && decide (1 ≤ p.High ∧ p.High ≤ 10)
def vP (p : Pasture) : Bool := okW p && upA (okR p) 0 10
theorem okW_iff {p : Pasture} : okW p = true ↔ (1 ≤ p.Wide ∧ p.Wide ≤ 10) ∧ (1 ≤ p.High ∧ p.High ≤ 10) := by simp [okW]

theorem l01Is_eq {p : Pasture} (v : VPasture p) (s : Spot) (hs : VSpot s) : spec_l01Is.f p s = some (cellB p s.X s.Y) := by
 have a := i8b v.1; have b := i8b v.2.1; have c := i8b hs.1; have d := i8b hs.2
 unfold spec_l01Is.f cellB
 simp only [l00In_eq, w64 (show -9223372036854775808 ≤ s.X by omega) (by omega), w64 (show -9223372036854775808 ≤ s.Y by omega) (by omega), w64 (show -9223372036854775808 ≤ p.Wide by omega) (by omega), w64 (show -9223372036854775808 ≤ p.High by omega) (by omega),
   w64 (show -9223372036854775808 ≤ p.Wide - 1 by omega) (by omega), w64 (show -9223372036854775808 ≤ p.High - 1 by omega) (by omega), Option.bind_some]
 by_cases h1 : 0 ≤ s.X ∧ s.X ≤ p.Wide - 1
 ·rw [if_pos (by simp [h1])]
  simp only [show (0 ≤ s.X ∧ s.X < p.Wide) by omega, decide_true, Bool.true_and]
  congr 2
  simp only [eq_iff_iff]; omega
 rw [if_neg (by simp [h1])]
 simp only [show ¬ (0 ≤ s.X ∧ s.X < p.Wide) by omega, decide_false, Bool.false_and]
theorem isCell_eq {p : Pasture} (v : VPasture p) (hw : okW p = true) (s : Spot) (hs : VSpot s) : impl_Pasture_isCell.f p s = some (cellB p s.X s.Y) := by
 have c := i8b hs.1; have d := i8b hs.2
 obtain ⟨a, b⟩ := okW_iff.1 hw
 unfold impl_Pasture_isCell.f cellB
 simp only [within_eq, w64 (show -9223372036854775808 ≤ s.X by omega) (by omega), w64 (show -9223372036854775808 ≤ s.Y by omega) (by omega), w64 (show -9223372036854775808 ≤ p.Wide by omega) (by omega), w64 (show -9223372036854775808 ≤ p.High by omega) (by omega),
   if_neg (show ¬ (10 : Int) < p.Wide by omega), if_neg (show ¬ (10 : Int) < p.High by omega), w64 (show -9223372036854775808 ≤ p.Wide - 1 by omega) (by omega), w64 (show -9223372036854775808 ≤ p.High - 1 by omega) (by omega), Option.bind_some]
 by_cases h1 : 0 ≤ s.X ∧ s.X ≤ p.Wide - 1
 ·rw [if_pos (by simp [h1])]
  simp only [show (0 ≤ s.X ∧ s.X < p.Wide) by omega, decide_true, Bool.true_and]
  congr 2
  simp only [eq_iff_iff]; omega
 rw [if_neg (by simp [h1])]
 simp only [show ¬ (0 ≤ s.X ∧ s.X < p.Wide) by omega, decide_false, Bool.false_and]
theorem VSpot_nat {x y : Nat} (hx : x ≤ 100) (hy : y ≤ 100) : VSpot ⟨(x : Int), (y : Int)⟩ := by
 have h1 : IntKind.i8.min = -128 := by decide
 have h2 : IntKind.i8.max = 127 := by decide
 refine ⟨⟨?_, ?_⟩, ⟨?_, ?_⟩⟩ <;> simp only [h1, h2] <;> omega

theorem specRow_loop {p : Pasture} (v : VPasture p) {y : Nat} (hy : y < 10) : ∀ x : Nat, x ≤ 10 → Ev (fun k => spec_l01Ok.l2 p (y : Int) k (x : Int)) (if upA (okG p y) x (10 - x) = true then .inr () else .inl (.inl (.inl false))) := by
 refine upL ?_ ?_
 ·exact Ev.step (fun k => spec_l01Ok.l2.eq_2 _ _ _ _) (Ev.neg (by omega) (Ev.const rfl))
 intro x hx ih
 have hg := gG_in v hy hx
 refine Ev.step (fun k => spec_l01Ok.l2.eq_2 _ _ _ _) (Ev.pos (by omega) ?_)
 have e : upA (okG p y) x (10 - x) = (okG p y x && upA (okG p y) (x + 1) (10 - (x + 1))) := by
   rw [show 10 - x = (10 - (x + 1)) + 1 by omega]; rfl
 have hgg : gA (gR p.Grass y) x = gG p y x := rfl
 simp only [getR p.Grass hy, getA (gR p.Grass y) hx, Option.bind_some, spec_l01Grass.f, l00In_eq, hgg, w64 (show -9223372036854775808 ≤ gG p y x by omega) (by omega), e, l01Is_eq v _ (VSpot_nat (show x ≤ 100 by omega) (show y ≤ 100 by omega)), w8 (show (-128 : Int) ≤ (x : Int) + 1 by omega) (by omega)]
 by_cases h1 : 0 ≤ gG p y x ∧ gG p y x ≤ 1000
 ·refine Ev.neg (by simp [h1]) ?_
  by_cases h2 : 0 < gG p y x
  ·refine Ev.pos h2 ?_
   cases h3 : cellB p x y
   ·refine Ev.pos rfl (Ev.const ?_)
    simp [okG, h1, h3, show ¬ gG p y x ≤ 0 by omega]
   refine Ev.neg (by simp) ?_
   simpa [okG, h1, h3] using ih
  refine Ev.neg h2 ?_
  simpa [okG, h1, show gG p y x ≤ 0 by omega] using ih
 refine Ev.pos (by simp [h1]) (Ev.const ?_)
 simp [okG, h1]
theorem masks_spec : ∀ W : Nat, 1 ≤ W → W ≤ 10 → IntKind.u16.wrap ((shlI .u16 1 (W : Int)) - 1) = 2 ^ W - 1 ∧ shrI .u16 (2 ^ W - 1) 1 = 2 ^ (W - 1) - 1 := by
 intro W h1 h2
 obtain rfl | rfl | rfl | rfl | rfl | rfl | rfl | rfl | rfl | rfl : W = 1 ∨ W = 2 ∨ W = 3 ∨ W = 4 ∨ W = 5 ∨ W = 6 ∨ W = 7 ∨ W = 8 ∨ W = 9 ∨ W = 10 := by omega
 all_goals decide
theorem specOk_loop {p : Pasture} (v : VPasture p) (hw : okW p = true) : ∀ y : Nat, y ≤ 10 → Ev (fun k => spec_l01Ok.l1 p k (y : Int)) (if upA (okR p) y (10 - y) = true then .inr () else .inl false) := by
 obtain ⟨a, b⟩ := okW_iff.1 hw
 obtain ⟨W, hW⟩ : ∃ W : Nat, p.Wide = (W : Int) := ⟨p.Wide.toNat, by omega⟩
 obtain ⟨m1, m2⟩ := masks_spec W (by omega) (by omega)
 refine upL ?_ ?_
 ·exact Ev.step (fun k => spec_l01Ok.l1.eq_2 _ _ _) (Ev.neg (by omega) (Ev.const rfl))
 intro y hy ih
 refine Ev.step (fun k => spec_l01Ok.l1.eq_2 _ _ _) (Ev.pos (by omega) ?_)
 have e : upA (okR p) y (10 - y) = (okR p y && upA (okR p) (y + 1) (10 - (y + 1))) := by
   rw [show 10 - y = (10 - (y + 1)) + 1 by omega]; rfl
 have s0 : shrI .u16 0 1 = 0 := by decide
 have hr := specRow_loop v hy 0 (Nat.zero_le _)
 simp only [Nat.sub_zero] at hr
 have e2 : IntKind.i8.wrap ((y : Int) + 1) = ((y + 1 : Nat) : Int) := by rw [w8 (by omega) (by omega)]; omega
 have e3 : IntKind.u64.wrap p.Wide = p.Wide := wu64 (by omega) (by omega)
 have e4 : IntKind.i8.wrap (p.High - 1) = p.High - 1 := w8 (by omega) (by omega)
 have eW : p.Wide.toNat = W := by omega
 rw [e]
 simp only [e2, e3, e4]
 cases hg : upA (okG p y) 0 10
 ·rw [hg] at hr
  refine Ev.bind (a := .inl (.inl false)) (Ev.bind hr (Ev.const rfl)) ?_
  simp only [okR, hg, Bool.false_and]
  exact Ev.const rfl
 rw [hg] at hr
 have hE := getA p.East hy
 have hS := getA p.South hy
 have key : ∀ E S : Int, eMask p y = E → sMask p y = S → (∀ k, spec_l01Ok.l2 p (y : Int) k 0 = some (.inr ()) → ((spec_l01Ok.l2 p (y : Int) k 0).bind fun s14 => match s14 with
     | .inl r => some r
     | .inr _ => (chk (0 ≤ p.Wide)).bind fun u10 => if p.High ≤ (y : Int) then ((getI p.East.l (y : Int)).bind fun t11 => if (andNotI .u16 t11 (shrI .u16 0 1)) ≠ 0 then (some (Sum.inl (Sum.inl false))) else (if p.High - 1 ≤ (y : Int) then ((getI p.South.l (y : Int)).bind fun t12 => if (andNotI .u16 t12 0) ≠ 0 then (some (Sum.inl (Sum.inl false))) else (some (Sum.inr ()))) else ((getI p.South.l (y : Int)).bind fun t13 => if (andNotI .u16 t13 0) ≠ 0 then (some (Sum.inl (Sum.inl false))) else (some (Sum.inr ()))))) else ((getI p.East.l (y : Int)).bind fun t14 => if (andNotI .u16 t14 (shrI .u16 (IntKind.u16.wrap ((shlI .u16 1 p.Wide) - 1)) 1)) ≠ 0 then (some (Sum.inl (Sum.inl false))) else (if p.High - 1 ≤ (y : Int) then ((getI p.South.l (y : Int)).bind fun t15 => if (andNotI .u16 t15 0) ≠ 0 then (some (Sum.inl (Sum.inl false))) else (some (Sum.inr ()))) else ((getI p.South.l (y : Int)).bind fun t16 => if (andNotI .u16 t16 (IntKind.u16.wrap ((shlI .u16 1 p.Wide) - 1))) ≠ 0 then (some (Sum.inl (Sum.inl false))) else (some (Sum.inr ())))))) = (if okR p y = true then (some (.inr ()) : Option ((Bool ⊕ Unit) ⊕ Unit)) else some (.inl (.inl false)))) := by
   intro E S hE' hS' k hk
   have hk' : okR p y = (decide (andNotI .u16 (gA p.East y) E = 0) && decide (andNotI .u16 (gA p.South y) S = 0)) := by simp [okR, hg, hE', hS']
   rw [hk, hk']
   simp only [Option.bind_some, hE, hS, s0, hW, m1, m2, chk_t (show (0 : Int) ≤ (W : Int) by omega)]
   by_cases h1 : p.High ≤ (y : Int)
   · have em : E = 0 := by rw [← hE']; simp [eMask]; omega
     have sm : S = 0 := by rw [← hS']; simp [sMask]; omega
     rw [if_pos h1, if_pos (show p.High - 1 ≤ (y : Int) by omega), em, sm]
     by_cases g1 : andNotI .u16 (gA p.East y) 0 = 0 <;> by_cases g2 : andNotI .u16 (gA p.South y) 0 = 0 <;> simp [g1, g2]
   · have em : E = 2 ^ (W - 1) - 1 := by rw [← hE']; simp [eMask, eW]; omega
     rw [if_neg h1, em]
     by_cases h2 : p.High - 1 ≤ (y : Int)
     · have sm : S = 0 := by rw [← hS']; simp [sMask]; omega
       rw [if_pos h2, sm]
       by_cases g1 : andNotI .u16 (gA p.East y) (2 ^ (W - 1) - 1) = 0 <;> by_cases g2 : andNotI .u16 (gA p.South y) 0 = 0 <;> simp [g1, g2]
     · have sm : S = 2 ^ W - 1 := by rw [← hS']; simp [sMask, eW]; omega
       rw [if_neg h2, sm]
       by_cases g1 : andNotI .u16 (gA p.East y) (2 ^ (W - 1) - 1) = 0 <;> by_cases g2 : andNotI .u16 (gA p.South y) (2 ^ W - 1) = 0 <;> simp [g1, g2]
 refine hr.use (fun k hk => congrArg (fun z => Option.bind z _) (key _ _ rfl rfl k hk)) ?_
 cases hb : okR p y
 ·exact Ev.const rfl
 simpa using ih
theorem specOk_ev {p : Pasture} (v : VPasture p) : Ev (fun k => spec_l01Ok.f k p) (vP p) := by
 have a := i8b v.1; have b := i8b v.2.1
 have ha : IntKind.i64.wrap p.Wide = p.Wide := w64 (by omega) (by omega)
 have hb : IntKind.i64.wrap p.High = p.High := w64 (by omega) (by omega)
 unfold spec_l01Ok.f
 simp only [l00In_eq, ha, hb, Option.bind_some]
 cases hw : okW p
 ·have : vP p = false := by simp [vP, hw]
  rw [this]
  by_cases h1 : 1 ≤ p.Wide ∧ p.Wide ≤ 10
  ·by_cases h2 : 1 ≤ p.High ∧ p.High ≤ 10
   ·simp [okW, h1, h2] at hw
   simp only [h1, h2, decide_true, decide_false, Bool.not_true, Bool.not_false, if_true, if_false, Bool.false_eq_true, Option.bind_some, and_self]
   exact Ev.const rfl
  simp only [h1, decide_false, Bool.not_false, if_true, Option.bind_some]
  exact Ev.const rfl
 obtain ⟨h1, h2⟩ := okW_iff.1 hw
 simp only [h1, h2, decide_true, Bool.not_true, Bool.false_eq_true, if_false, Option.bind_some, and_self]
 refine (specOk_loop v hw 0 (Nat.zero_le _)).bind ?_
 simp only [vP, hw, Bool.true_and, Nat.sub_zero]
 cases upA (okR p) 0 10 <;> exact Ev.const rfl

/-! ### The same, of the program -/
/-- The bits that may stand in a row, up to a place. -/
def mE (p : Pasture) (y x : Nat) : Int := if (y : Int) < p.High then 2 ^ (min x (p.Wide.toNat - 1)) - 1 else 0
def mS (p : Pasture) (y x : Nat) : Int := if (y : Int) + 1 < p.High then 2 ^ (min x p.Wide.toNat) - 1 else 0
theorem or_bit : ∀ x : Nat, x < 12 → orI .u16 (2 ^ x - 1) (shlI .u16 (IntKind.u16.wrap 1) (x : Int)) = 2 ^ (x + 1) - 1 := by decide
theorem or_none : ∀ m : Nat, m < 12 → ∀ x : Nat, x < 12 → orI .u16 (2 ^ m - 1) (shlI .u16 (IntKind.u16.wrap 0) (x : Int)) = 2 ^ m - 1 := by decide
theorem or_none0 : ∀ x : Nat, x < 12 → orI .u16 0 (shlI .u16 (IntKind.u16.wrap 0) (x : Int)) = 0 := by decide
theorem bit_eq (b : Bool) : impl_bit.f b = some (if b = true then 1 else 0) := by cases b <;> rfl
theorem implRow_loop {p : Pasture} (v : VPasture p) (hw : okW p = true) {y : Nat} (hy : y < 10) : ∀ x : Nat, x ≤ 10 → Ev (fun k => impl_ValidPasture.l2 p (y : Int) k (mE p y x) (mS p y x) (x : Int)) (if upA (okG p y) x (10 - x) = true then .inr (eMask p y, sMask p y) else .inl (.inl (.inl false))) := by
 obtain ⟨a, b⟩ := okW_iff.1 hw
 obtain ⟨W, hW⟩ : ∃ W : Nat, p.Wide = (W : Int) := ⟨p.Wide.toNat, by omega⟩
 have eW : p.Wide.toNat = W := by omega
 refine upL ?_ ?_
 ·refine Ev.step (fun k => impl_ValidPasture.l2.eq_2 _ _ _ _ _ _) (Ev.neg (by omega) (Ev.const ?_))
  have e1 : mE p y 10 = eMask p y := by unfold mE eMask; rw [Nat.min_eq_right (by omega)]
  have e2 : mS p y 10 = sMask p y := by unfold mS sMask; rw [Nat.min_eq_right (by omega)]
  rw [e1, e2]; rfl
 intro x hx ih
 have hg := gG_in v hy hx
 have w8x : IntKind.i8.wrap (x : Int) = (x : Int) := w8 (by omega) (by omega)
 have w8y : IntKind.i8.wrap (y : Int) = (y : Int) := w8 (by omega) (by omega)
 have wx : IntKind.i64.wrap ((x : Int) + 1) = ((x + 1 : Nat) : Int) := by rw [w64 (by omega) (by omega)]; omega
 have wy : IntKind.i64.wrap ((y : Int) + 1) = ((y + 1 : Nat) : Int) := by rw [w64 (by omega) (by omega)]; omega
 have w8x1 : IntKind.i8.wrap ((x + 1 : Nat) : Int) = ((x + 1 : Nat) : Int) := w8 (by omega) (by omega)
 have w8y1 : IntKind.i8.wrap ((y + 1 : Nat) : Int) = ((y + 1 : Nat) : Int) := w8 (by omega) (by omega)
 refine Ev.step (fun k => impl_ValidPasture.l2.eq_2 _ _ _ _ _ _) (Ev.pos (by omega) ?_)
 have e : upA (okG p y) x (10 - x) = (okG p y x && upA (okG p y) (x + 1) (10 - (x + 1))) := by
   rw [show 10 - x = (10 - (x + 1)) + 1 by omega]; rfl
 have hgg : gA (gR p.Grass y) x = gG p y x := rfl
 rw [e]
 simp only [w8x, w8y, wx, wy, w8x1, w8y1, isCell_eq v hw _ (VSpot_nat (show x ≤ 100 by omega) (show y ≤ 100 by omega)), isCell_eq v hw _ (VSpot_nat (show x + 1 ≤ 100 by omega) (show y ≤ 100 by omega)), isCell_eq v hw _ (VSpot_nat (show x ≤ 100 by omega) (show y + 1 ≤ 100 by omega)),
   bit_eq, chk_t (show (0 : Int) ≤ (x : Int) by omega), getR p.Grass hy, getA (gR p.Grass y) hx, hgg, within_eq, w64 (show -9223372036854775808 ≤ gG p y x by omega) (by omega), Option.bind_some]
 cases hc : cellB p x y
 ·refine Ev.neg (by simp) ?_
  have hc' : ¬ ((x : Int) < p.Wide ∧ (y : Int) < p.High) := by
    intro h; simp [cellB, h] at hc
  have e1 : mE p y (x + 1) = mE p y x := by
    unfold mE
    by_cases h : (y : Int) < p.High
    · rw [if_pos h, if_pos h, Nat.min_eq_right (by omega), Nat.min_eq_right (by omega)]
    · rw [if_neg h, if_neg h]
  have e2 : mS p y (x + 1) = mS p y x := by
    unfold mS
    by_cases h : (y : Int) + 1 < p.High
    · rw [if_pos h, if_pos h, Nat.min_eq_right (by omega), Nat.min_eq_right (by omega)]
    · rw [if_neg h, if_neg h]
  by_cases h1 : 0 ≤ gG p y x ∧ gG p y x ≤ 0
  ·refine Ev.neg (by simp [h1]) ?_
   rw [e1, e2] at ih
   simpa [okG, show 0 ≤ gG p y x ∧ gG p y x ≤ 1000 by omega, h1] using ih
  refine Ev.pos (by simp [h1]) (Ev.const ?_)
  have : okG p y x = false := by simp only [okG, hc, Bool.or_false]; simp; omega
  simp [this]
 refine Ev.pos rfl ?_
 have hc' : (x : Int) < p.Wide ∧ (y : Int) < p.High := by
   simp [cellB] at hc; omega
 have e1 : orI .u16 (mE p y x) (shlI .u16 (IntKind.u16.wrap (if cellB p ((x + 1 : Nat) : Int) y = true then 1 else 0)) (x : Int)) = mE p y (x + 1) := by
   unfold mE
   rw [if_pos hc'.2, if_pos hc'.2, eW]
   by_cases h : x + 1 < W
   · have : cellB p ((x + 1 : Nat) : Int) y = true := by simp [cellB]; omega
     rw [if_pos this, Nat.min_eq_left (by omega), Nat.min_eq_left (by omega)]
     exact or_bit x (by omega)
   · have : cellB p ((x + 1 : Nat) : Int) y = false := by simp [cellB]; omega
     rw [this, if_neg (by simp), Nat.min_eq_right (by omega), Nat.min_eq_right (by omega)]
     exact or_none (W - 1) (by omega) x (by omega)
 have e2 : orI .u16 (mS p y x) (shlI .u16 (IntKind.u16.wrap (if cellB p (x : Int) ((y + 1 : Nat) : Int) = true then 1 else 0)) (x : Int)) = mS p y (x + 1) := by
   unfold mS
   by_cases h : (y : Int) + 1 < p.High
   · have : cellB p (x : Int) ((y + 1 : Nat) : Int) = true := by simp [cellB]; omega
     rw [if_pos this, if_pos h, if_pos h, eW, Nat.min_eq_left (by omega), Nat.min_eq_left (by omega)]
     exact or_bit x (by omega)
   · have : cellB p (x : Int) ((y + 1 : Nat) : Int) = false := by simp [cellB]; omega
     rw [this, if_neg h, if_neg h, if_neg (by simp)]
     exact or_none0 x (by omega)
 rw [e1, e2]
 by_cases h1 : 0 ≤ gG p y x ∧ gG p y x ≤ 1000
 ·refine Ev.neg (by simp [h1]) ?_
  simpa [okG, h1, hc] using ih
 refine Ev.pos (by simp [h1]) (Ev.const ?_)
 simp [okG, h1]
theorem implOk_loop {p : Pasture} (v : VPasture p) (hw : okW p = true) : ∀ y : Nat, y ≤ 10 → Ev (fun k => impl_ValidPasture.l1 p k (y : Int)) (if upA (okR p) y (10 - y) = true then .inr () else .inl false) := by
 obtain ⟨a, b⟩ := okW_iff.1 hw
 refine upL ?_ ?_
 ·exact Ev.step (fun k => impl_ValidPasture.l1.eq_2 _ _ _) (Ev.neg (by omega) (Ev.const rfl))
 intro y hy ih
 refine Ev.step (fun k => impl_ValidPasture.l1.eq_2 _ _ _) (Ev.pos (by omega) ?_)
 have e : upA (okR p) y (10 - y) = (okR p y && upA (okR p) (y + 1) (10 - (y + 1))) := by
   rw [show 10 - y = (10 - (y + 1)) + 1 by omega]; rfl
 have hr := implRow_loop v hw hy 0 (Nat.zero_le _)
 have z1 : mE p y 0 = 0 := by unfold mE; split <;> simp
 have z2 : mS p y 0 = 0 := by unfold mS; split <;> simp
 simp only [Nat.sub_zero, z1, z2] at hr
 have wy : IntKind.i64.wrap ((y : Int) + 1) = ((y + 1 : Nat) : Int) := by rw [w64 (by omega) (by omega)]; omega
 rw [e]
 simp only [wy]
 cases hg : upA (okG p y) 0 10
 ·rw [hg] at hr
  refine Ev.bind (a := .inl (.inl false)) (Ev.bind hr (Ev.const rfl)) ?_
  simp only [okR, hg, Bool.false_and]
  exact Ev.const rfl
 rw [hg] at hr
 refine Ev.bind (a := if okR p y = true then .inr () else .inl (.inl false)) (hr.bind ?_) ?_
 ·refine Ev.const ?_
  have hk' : okR p y = (decide (andNotI .u16 (gA p.East y) (eMask p y) = 0) && decide (andNotI .u16 (gA p.South y) (sMask p y) = 0)) := by simp [okR, hg]
  rw [hk']
  simp only [if_true, getA p.East hy, getA p.South hy, Option.bind_some]
  by_cases g1 : andNotI .u16 (gA p.East y) (eMask p y) = 0 <;> by_cases g2 : andNotI .u16 (gA p.South y) (sMask p y) = 0 <;> simp [g1, g2]
 cases hb : okR p y
 ·exact Ev.const rfl
 simpa using ih
theorem implOk_ev {p : Pasture} (v : VPasture p) : Ev (fun k => impl_ValidPasture.f k p) (vP p) := by
 have a := i8b v.1; have b := i8b v.2.1
 have ha : IntKind.i64.wrap p.Wide = p.Wide := w64 (by omega) (by omega)
 have hb : IntKind.i64.wrap p.High = p.High := w64 (by omega) (by omega)
 unfold impl_ValidPasture.f
 simp only [within_eq, ha, hb, Option.bind_some]
 cases hw : okW p
 ·have : vP p = false := by simp [vP, hw]
  rw [this]
  by_cases h1 : 1 ≤ p.Wide ∧ p.Wide ≤ 10
  ·by_cases h2 : 1 ≤ p.High ∧ p.High ≤ 10
   ·simp [okW, h1, h2] at hw
   simp only [h1, h2, decide_true, decide_false, Bool.not_true, Bool.not_false, if_true, if_false, Bool.false_eq_true, Option.bind_some, and_self]
   exact Ev.const rfl
  simp only [h1, decide_false, Bool.not_false, if_true, Option.bind_some]
  exact Ev.const rfl
 obtain ⟨h1, h2⟩ := okW_iff.1 hw
 simp only [h1, h2, decide_true, Bool.not_true, Bool.false_eq_true, if_false, Option.bind_some, and_self]
 refine (implOk_loop v hw 0 (Nat.zero_le _)).bind ?_
 simp only [vP, hw, Bool.true_and, Nat.sub_zero]
 cases upA (okR p) 0 10 <;> exact Ev.const rfl
theorem vP_okW {p : Pasture} (h : vP p = true) : okW p = true := by
 unfold vP at h; rw [Bool.and_eq_true] at h; exact h.1
/-- The grass of a valid pasture. -/
theorem vP_G {p : Pasture} (h : vP p = true) {y x : Nat} (hy : y < 10) (hx : x < 10) : (0 ≤ gG p y x ∧ gG p y x ≤ 1000) ∧ (cellB p x y = false → gG p y x = 0) := by
 unfold vP at h
 rw [Bool.and_eq_true] at h
 have h1 := (upA_iff _ _ _).1 h.2 y (Nat.zero_le _) (by omega)
 unfold okR at h1
 rw [Bool.and_eq_true] at h1
 have h2 := (upA_iff _ _ _).1 h1.1 x (Nat.zero_le _) (by omega)
 simp only [okG, Bool.and_eq_true, Bool.or_eq_true, decide_eq_true_eq] at h2
 refine ⟨h2.1, fun hc => ?_⟩
 rcases h2.2 with h3 | h3
 ·omega
 rw [hc] at h3; cases h3

end Go.Proofs.YtegibnmfiogebaaGreat
