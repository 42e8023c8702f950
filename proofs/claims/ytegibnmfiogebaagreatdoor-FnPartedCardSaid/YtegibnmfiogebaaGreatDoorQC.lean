import Derived.Test.YtegibnmfiogebaaGreatDoorGO
/-
  Plain laws: what the laws' own helpers come to (copies, comparisons, marks), type by type.
-/
namespace Go.Proofs.YtegibnmfiogebaaGreatDoor
open G
set_option linter.unusedVariables false
set_option linter.unusedSimpArgs false
section


end
section

theorem l00In_eq (a b c : Int) : q2c.f a b c = some (decide (b ≤ a ∧ a ≤ c)) := by
 unfold q2c.f
 by_cases h : b ≤ a <;> simp [h]
theorem within_eq (a b c : Int) : q1q.f a b c = some (decide (b ≤ a ∧ a ≤ c)) := by
 unfold q1q.f
 by_cases h : b ≤ a <;> simp [h]
theorem i8b {x : Int} (h : inI .i8 x) : -128 ≤ x ∧ x ≤ 127 := by
 have h1 : IntKind.i8.min = -128 := by decide
 have h2 : IntKind.i8.max = 127 := by decide
 exact ⟨h1 ▸ h.1, h2 ▸ h.2⟩
theorem i16b {x : Int} (h : inI .i16 x) : -32768 ≤ x ∧ x ≤ 32767 := by
 have h1 : IntKind.i16.min = -32768 := by decide
 have h2 : IntKind.i16.max = 32767 := by decide
 exact ⟨h1 ▸ h.1, h2 ▸ h.2⟩
theorem u16b {x : Int} (h : inI .u16 x) : 0 ≤ x ∧ x ≤ 65535 := by
 have h1 : IntKind.u16.min = 0 := by decide
 have h2 : IntKind.u16.max = 65535 := by decide
 exact ⟨h1 ▸ h.1, h2 ▸ h.2⟩
theorem wu64 {x : Int} (h : 0 ≤ x) (h' : x ≤ 18446744073709551615) : IntKind.u64.wrap x = x := by
 have : IntKind.u64.wrap x = x % 18446744073709551616 := by simp [IntKind.wrap, IntKind.bits, IntKind.signed]
 rw [this]; omega

def upA (q : Nat → Bool) : Nat → Nat → Bool
  | _, 0 => true
  | i, n + 1 => q i && upA q (i + 1) n
theorem upA_iff (q : Nat → Bool) : ∀ (n i : Nat), upA q i n = true ↔ ∀ j, i ≤ j → j < i + n → q j = true
  | 0, i => by simp only [upA, true_iff]; intro j h1 h2; omega
  | n + 1, i => by
    simp only [upA, Bool.and_eq_true, upA_iff q n (i + 1)]
    constructor
    · rintro ⟨h1, h2⟩ j h3 h4
      rcases Nat.eq_or_lt_of_le h3 with rfl | h5
      · exact h1
      · exact h2 j h5 (by omega)
    · intro h
      exact ⟨h i (Nat.le_refl _) (by omega), fun j h1 h2 => h j (by omega) (by omega)⟩

theorem and1 {x : Int} (h : 0 ≤ x) (h' : x ≤ 65535) : andI .u16 x 1 = x % 2 := by
 obtain ⟨n, rfl⟩ := Int.eq_ofNat_of_zero_le h
 unfold andI
 have e : (BitVec.ofInt 16 (n : Int) &&& BitVec.ofInt 16 1).toNat = n % 2 := by
   rw [BitVec.toNat_and, BitVec.toNat_ofInt, BitVec.toNat_ofInt]
   have h1 : ((n : Int) % ((2 ^ 16 : Nat) : Int)).toNat = n := by omega
   rw [h1]
   exact Nat.and_one_is_mod n
 show IntKind.u16.wrap (((BitVec.ofInt 16 (n : Int) &&& BitVec.ofInt 16 1).toNat : Nat) : Int) = _
 rw [e, wu16 (by omega) (by omega)]; omega
end
section
def VSpot (x : Spot) : Prop := (inI .i8) x.X ∧ (inI .i8) x.Y
def VPasture (x : Pasture) : Prop := (inI .i8) x.Wide ∧ (inI .i8) x.High ∧ (fun a => ∀ x ∈ a.l, (fun a => ∀ x ∈ a.l, (inI .i16) x) x) x.Grass ∧ (fun a => ∀ x ∈ a.l, (inI .u16) x) x.East ∧ (fun a => ∀ x ∈ a.l, (inI .u16) x) x.South
theorem unless_eq (b : Bool) (c : Int) : q2d.f b c = some (if b = true then 0 else c) := by
 unfold q2d.f; split <;> rfl
end
section

def gA {n : Nat} (a : Arr n Int) (i : Nat) : Int := a.l.getD i 0
def gR {m n : Nat} (a : Arr m (Arr n Int)) (i : Nat) : Arr n Int := (a.l[i]?).getD (Arr.mk' 0)
theorem getA {n : Nat} (a : Arr n Int) {i : Nat} (h : i < n) : getI a.l (i : Int) = some (gA a i) := by
 have : i < a.l.length := by rw [a.len]; exact h
 rw [getI_nat this]; simp [gA, List.getD_eq_getElem?_getD, List.getElem?_eq_getElem this]
theorem getR {m n : Nat} (a : Arr m (Arr n Int)) {i : Nat} (h : i < m) : getI a.l (i : Int) = some (gR a i) := by
 have : i < a.l.length := by rw [a.len]; exact h
 rw [getI_nat this]; simp [gR, List.getElem?_eq_getElem this]
theorem gA_mem {n : Nat} (a : Arr n Int) {i : Nat} (h : i < n) : gA a i ∈ a.l := by
 have : i < a.l.length := by rw [a.len]; exact h
 simp [gA, List.getD_eq_getElem?_getD, List.getElem?_eq_getElem this]
theorem gR_mem {m n : Nat} (a : Arr m (Arr n Int)) {i : Nat} (h : i < m) : gR a i ∈ a.l := by
 have : i < a.l.length := by rw [a.len]; exact h
 simp [gR, List.getElem?_eq_getElem this]
def gG (p : Pasture) (y x : Nat) : Int := gA (gR p.Grass y) x
theorem gG_in {p : Pasture} (v : VPasture p) {y x : Nat} (hy : y < 10) (hx : x < 10) : -32768 ≤ gG p y x ∧ gG p y x ≤ 32767 := i16b (v.2.2.1 _ (gR_mem _ hy) _ (gA_mem _ hx))
def cellB (p : Pasture) (x y : Int) : Bool := decide (0 ≤ x ∧ x < p.Wide) && decide (0 ≤ y ∧ y < p.High)
def okG (p : Pasture) (y x : Nat) : Bool := decide (0 ≤ gG p y x ∧ gG p y x ≤ 1000) && (decide (gG p y x ≤ 0) || cellB p x y)
def eMask (p : Pasture) (y : Nat) : Int := if (y : Int) < p.High then 2 ^ (p.Wide.toNat - 1) - 1 else 0
def sMask (p : Pasture) (y : Nat) : Int := if (y : Int) + 1 < p.High then 2 ^ p.Wide.toNat - 1 else 0
def okR (p : Pasture) (y : Nat) : Bool := upA (okG p y) 0 10 && (decide (andNotI .u16 (gA p.East y) (eMask p y) = 0) && decide (andNotI .u16 (gA p.South y) (sMask p y) = 0))
def okW (p : Pasture) : Bool := decide (1 ≤ p.Wide ∧ p.Wide ≤ 10) && decide (1 ≤ p.High ∧ p.High ≤ 10)
def vP (p : Pasture) : Bool := okW p && upA (okR p) 0 10
theorem okW_iff {p : Pasture} : okW p = true ↔ (1 ≤ p.Wide ∧ p.Wide ≤ 10) ∧ (1 ≤ p.High ∧ p.High ≤ 10) := by simp [okW]

theorem l01Is_eq {p : Pasture} (v : VPasture p) (s : Spot) (hs : VSpot s) : q1g.f p s = some (cellB p s.X s.Y) := by
 have a := i8b v.1; have b := i8b v.2.1; have c := i8b hs.1; have d := i8b hs.2
 unfold q1g.f cellB
 simp only [l00In_eq, w64 (show -9223372036854775808 ≤ s.X by omega) (by omega), w64 (show -9223372036854775808 ≤ s.Y by omega) (by omega), w64 (show -9223372036854775808 ≤ p.Wide by omega) (by omega), w64 (show -9223372036854775808 ≤ p.High by omega) (by omega),
   w64 (show -9223372036854775808 ≤ p.Wide - 1 by omega) (by omega), w64 (show -9223372036854775808 ≤ p.High - 1 by omega) (by omega), Option.bind_some]
 by_cases h1 : 0 ≤ s.X ∧ s.X ≤ p.Wide - 1
 ·rw [if_pos (by simp [h1])]
  simp only [show (0 ≤ s.X ∧ s.X < p.Wide) by omega, decide_true, Bool.true_and]
  congr 2
  simp only [eq_iff_iff]; omega
 rw [if_neg (by simp [h1])]
 simp only [show ¬ (0 ≤ s.X ∧ s.X < p.Wide) by omega, decide_false, Bool.false_and]
theorem isCell_eq {p : Pasture} (v : VPasture p) (hw : okW p = true) (s : Spot) (hs : VSpot s) : q0m.f p s = some (cellB p s.X s.Y) := by
 have c := i8b hs.1; have d := i8b hs.2
 obtain ⟨a, b⟩ := okW_iff.1 hw
 unfold q0m.f cellB
 simp only [within_eq, w64 (show -9223372036854775808 ≤ s.X by omega) (by omega), w64 (show -9223372036854775808 ≤ s.Y by omega) (by omega), w64 (show -9223372036854775808 ≤ p.Wide by omega) (by omega), w64 (show -9223372036854775808 ≤ p.High by omega) (by omega),
   if_neg (show ¬ (10 : Int) < p.Wide by omega), if_neg (show ¬ (10 : Int) < p.High by omega), w64 (show -9223372036854775808 ≤ p.Wide - 1 by omega) (by omega), w64 (show -9223372036854775808 ≤ p.High - 1 by omega) (by omega), Option.bind_some]
 by_cases h1 : 0 ≤ s.X ∧ s.X ≤ p.Wide - 1
 ·rw [if_pos (by simp [h1])]
  simp only [show (0 ≤ s.X ∧ s.X < p.Wide) by omega, decide_true, Bool.true_and]
  congr 2
  simp only [eq_iff_iff]; omega
 rw [if_neg (by simp [h1])]
 simp only [show ¬ (0 ≤ s.X ∧ s.X < p.Wide) by omega, decide_false, Bool.false_and]
theorem VSpot_nat {x y : Nat} (hx : x ≤ 100) (hy : y ≤ 100) : VSpot ⟨(x : Int), (y : Int)⟩ := by
 have h1 : IntKind.i8.min = -128 := by decide
 have h2 : IntKind.i8.max = 127 := by decide
 refine ⟨⟨?_, ?_⟩, ⟨?_, ?_⟩⟩ <;> simp only [h1, h2] <;> omega

theorem specRow_loop {p : Pasture} (v : VPasture p) {y : Nat} (hy : y < 10) : ∀ x : Nat, x ≤ 10 → Ev (fun k => q13.l2 p (y : Int) k (x : Int)) (if upA (okG p y) x (10 - x) = true then .inr () else .inl (.inl (.inl false))) := by
 refine upL ?_ ?_
 ·exact Ev.step (fun k => q13.l2.eq_2 _ _ _ _) (Ev.neg (by omega) (Ev.const rfl))
 intro x hx ih
 have hg := gG_in v hy hx
 refine Ev.step (fun k => q13.l2.eq_2 _ _ _ _) (Ev.pos (by omega) ?_)
 have e : upA (okG p y) x (10 - x) = (okG p y x && upA (okG p y) (x + 1) (10 - (x + 1))) := by
   rw [show 10 - x = (10 - (x + 1)) + 1 by omega]; rfl
 have hgg : gA (gR p.Grass y) x = gG p y x := rfl
 simp only [getR p.Grass hy, getA (gR p.Grass y) hx, Option.bind_some, q3d.f, l00In_eq, hgg, w64 (show -9223372036854775808 ≤ gG p y x by omega) (by omega), e, l01Is_eq v _ (VSpot_nat (show x ≤ 100 by omega) (show y ≤ 100 by omega)), w8 (show (-128 : Int) ≤ (x : Int) + 1 by omega) (by omega)]
 by_cases h1 : 0 ≤ gG p y x ∧ gG p y x ≤ 1000
 ·refine Ev.neg (by simp [h1]) ?_
  by_cases h2 : 0 < gG p y x
  ·refine Ev.pos h2 ?_
   cases h3 : cellB p x y
   ·refine Ev.pos rfl (Ev.const ?_)
    simp [okG, h1, h3, show ¬ gG p y x ≤ 0 by omega]
   refine Ev.neg (by simp) ?_
   simpa [okG, h1, h3] using ih
  refine Ev.neg h2 ?_
  simpa [okG, h1, show gG p y x ≤ 0 by omega] using ih
 refine Ev.pos (by simp [h1]) (Ev.const ?_)
 simp [okG, h1]
theorem masks_spec : ∀ W : Nat, 1 ≤ W → W ≤ 10 → IntKind.u16.wrap ((shlI .u16 1 (W : Int)) - 1) = 2 ^ W - 1 ∧ shrI .u16 (2 ^ W - 1) 1 = 2 ^ (W - 1) - 1 := by
 intro W h1 h2
 obtain rfl | rfl | rfl | rfl | rfl | rfl | rfl | rfl | rfl | rfl : W = 1 ∨ W = 2 ∨ W = 3 ∨ W = 4 ∨ W = 5 ∨ W = 6 ∨ W = 7 ∨ W = 8 ∨ W = 9 ∨ W = 10 := by omega
 all_goals decide
theorem specOk_loop {p : Pasture} (v : VPasture p) (hw : okW p = true) : ∀ y : Nat, y ≤ 10 → Ev (fun k => q13.l1 p k (y : Int)) (if upA (okR p) y (10 - y) = true then .inr () else .inl false) := by
 obtain ⟨a, b⟩ := okW_iff.1 hw
 obtain ⟨W, hW⟩ : ∃ W : Nat, p.Wide = (W : Int) := ⟨p.Wide.toNat, by omega⟩
 obtain ⟨m1, m2⟩ := masks_spec W (by omega) (by omega)
 refine upL ?_ ?_
 ·exact Ev.step (fun k => q13.l1.eq_2 _ _ _) (Ev.neg (by omega) (Ev.const rfl))
 intro y hy ih
 refine Ev.step (fun k => q13.l1.eq_2 _ _ _) (Ev.pos (by omega) ?_)
 have e : upA (okR p) y (10 - y) = (okR p y && upA (okR p) (y + 1) (10 - (y + 1))) := by
   rw [show 10 - y = (10 - (y + 1)) + 1 by omega]; rfl
 have s0 : shrI .u16 0 1 = 0 := by decide
 have hr := specRow_loop v hy 0 (Nat.zero_le _)
 simp only [Nat.sub_zero] at hr
 have e2 : IntKind.i8.wrap ((y : Int) + 1) = ((y + 1 : Nat) : Int) := by rw [w8 (by omega) (by omega)]; omega
 have e3 : IntKind.u64.wrap p.Wide = p.Wide := wu64 (by omega) (by omega)
 have e4 : IntKind.i8.wrap (p.High - 1) = p.High - 1 := w8 (by omega) (by omega)
 have eW : p.Wide.toNat = W := by omega
 rw [e]
 simp only [e2, e3, e4]
 cases hg : upA (okG p y) 0 10
 ·rw [hg] at hr
  refine Ev.bind (a := .inl (.inl false)) (Ev.bind hr (Ev.const rfl)) ?_
  simp only [okR, hg, Bool.false_and]
  exact Ev.const rfl
 rw [hg] at hr
 have hE := getA p.East hy
 have hS := getA p.South hy
 have key : ∀ E S : Int, eMask p y = E → sMask p y = S → (∀ k, q13.l2 p (y : Int) k 0 = some (.inr ()) → ((q13.l2 p (y : Int) k 0).bind fun s14 => match s14 with
     | .inl r => some r
     | .inr _ => (chk (0 ≤ p.Wide)).bind fun u10 => if p.High ≤ (y : Int) then ((getI p.East.l (y : Int)).bind fun t11 => if (andNotI .u16 t11 (shrI .u16 0 1)) ≠ 0 then (some (Sum.inl (Sum.inl false))) else (if p.High - 1 ≤ (y : Int) then ((getI p.South.l (y : Int)).bind fun t12 => if (andNotI .u16 t12 0) ≠ 0 then (some (Sum.inl (Sum.inl false))) else (some (Sum.inr ()))) else ((getI p.South.l (y : Int)).bind fun t13 => if (andNotI .u16 t13 0) ≠ 0 then (some (Sum.inl (Sum.inl false))) else (some (Sum.inr ()))))) else ((getI p.East.l (y : Int)).bind fun t14 => if (andNotI .u16 t14 (shrI .u16 (IntKind.u16.wrap ((shlI .u16 1 p.Wide) - 1)) 1)) ≠ 0 then (some (Sum.inl (Sum.inl false))) else (if p.High - 1 ≤ (y : Int) then ((getI p.South.l (y : Int)).bind fun t15 => if (andNotI .u16 t15 0) ≠ 0 then (some (Sum.inl (Sum.inl false))) else (some (Sum.inr ()))) else ((getI p.South.l (y : Int)).bind fun t16 => if (andNotI .u16 t16 (IntKind.u16.wrap ((shlI .u16 1 p.Wide) - 1))) ≠ 0 then (some (Sum.inl (Sum.inl false))) else (some (Sum.inr ())))))) = (if okR p y = true then (some (.inr ()) : Option ((Bool ⊕ Unit) ⊕ Unit)) else some (.inl (.inl false)))) := by
   intro E S hE' hS' k hk
   have hk' : okR p y = (decide (andNotI .u16 (gA p.East y) E = 0) && decide (andNotI .u16 (gA p.South y) S = 0)) := by simp [okR, hg, hE', hS']
   rw [hk, hk']
   simp only [Option.bind_some, hE, hS, s0, hW, m1, m2, chk_t (show (0 : Int) ≤ (W : Int) by omega)]
   by_cases h1 : p.High ≤ (y : Int)
   · have em : E = 0 := by rw [← hE']; simp [eMask]; omega
     have sm : S = 0 := by rw [← hS']; simp [sMask]; omega
     rw [if_pos h1, if_pos (show p.High - 1 ≤ (y : Int) by omega), em, sm]
     by_cases g1 : andNotI .u16 (gA p.East y) 0 = 0 <;> by_cases g2 : andNotI .u16 (gA p.South y) 0 = 0 <;> simp [g1, g2]
   · have em : E = 2 ^ (W - 1) - 1 := by rw [← hE']; simp [eMask, eW]; omega
     rw [if_neg h1, em]
     by_cases h2 : p.High - 1 ≤ (y : Int)
     · have sm : S = 0 := by rw [← hS']; simp [sMask]; omega
       rw [if_pos h2, sm]
       by_cases g1 : andNotI .u16 (gA p.East y) (2 ^ (W - 1) - 1) = 0 <;> by_cases g2 : andNotI .u16 (gA p.South y) 0 = 0 <;> simp [g1, g2]
     · have sm : S = 2 ^ W - 1 := by rw [← hS']; simp [sMask, eW]; omega
       rw [if_neg h2, sm]
       by_cases g1 : andNotI .u16 (gA p.East y) (2 ^ (W - 1) - 1) = 0 <;> by_cases g2 : andNotI .u16 (gA p.South y) (2 ^ W - 1) = 0 <;> simp [g1, g2]
 refine hr.use (fun k hk => congrArg (fun z => Option.bind z _) (key _ _ rfl rfl k hk)) ?_
 cases hb : okR p y
 ·exact Ev.const rfl
 simpa using ih
theorem specOk_ev {p : Pasture} (v : VPasture p) : Ev (fun k => q13.f k p) (vP p) := by
 have a := i8b v.1; have b := i8b v.2.1
 have ha : IntKind.i64.wrap p.Wide = p.Wide := w64 (by omega) (by omega)
 have hb : IntKind.i64.wrap p.High = p.High := w64 (by omega) (by omega)
 unfold q13.f
 simp only [l00In_eq, ha, hb, Option.bind_some]
 cases hw : okW p
 ·have : vP p = false := by simp [vP, hw]
  rw [this]
  by_cases h1 : 1 ≤ p.Wide ∧ p.Wide ≤ 10
  ·by_cases h2 : 1 ≤ p.High ∧ p.High ≤ 10
   ·simp [okW, h1, h2] at hw
   simp only [h1, h2, decide_true, decide_false, Bool.not_true, Bool.not_false, if_true, if_false, Bool.false_eq_true, Option.bind_some, and_self]
   exact Ev.const rfl
  simp only [h1, decide_false, Bool.not_false, if_true, Option.bind_some]
  exact Ev.const rfl
 obtain ⟨h1, h2⟩ := okW_iff.1 hw
 simp only [h1, h2, decide_true, Bool.not_true, Bool.false_eq_true, if_false, Option.bind_some, and_self]
 refine (specOk_loop v hw 0 (Nat.zero_le _)).bind ?_
 simp only [vP, hw, Bool.true_and, Nat.sub_zero]
 cases upA (okR p) 0 10 <;> exact Ev.const rfl

def mE (p : Pasture) (y x : Nat) : Int := if (y : Int) < p.High then 2 ^ (min x (p.Wide.toNat - 1)) - 1 else 0
def mS (p : Pasture) (y x : Nat) : Int := if (y : Int) + 1 < p.High then 2 ^ (min x p.Wide.toNat) - 1 else 0
theorem or_bit : ∀ x : Nat, x < 12 → orI .u16 (2 ^ x - 1) (shlI .u16 (IntKind.u16.wrap 1) (x : Int)) = 2 ^ (x + 1) - 1 := by decide
theorem or_none : ∀ m : Nat, m < 12 → ∀ x : Nat, x < 12 → orI .u16 (2 ^ m - 1) (shlI .u16 (IntKind.u16.wrap 0) (x : Int)) = 2 ^ m - 1 := by decide
theorem or_none0 : ∀ x : Nat, x < 12 → orI .u16 0 (shlI .u16 (IntKind.u16.wrap 0) (x : Int)) = 0 := by decide
theorem bit_eq (b : Bool) : q35.f b = some (if b = true then 1 else 0) := by cases b <;> rfl
theorem implRow_loop {p : Pasture} (v : VPasture p) (hw : okW p = true) {y : Nat} (hy : y < 10) : ∀ x : Nat, x ≤ 10 → Ev (fun k => q0i.l2 p (y : Int) k (mE p y x) (mS p y x) (x : Int)) (if upA (okG p y) x (10 - x) = true then .inr (eMask p y, sMask p y) else .inl (.inl (.inl false))) := by
 obtain ⟨a, b⟩ := okW_iff.1 hw
 obtain ⟨W, hW⟩ : ∃ W : Nat, p.Wide = (W : Int) := ⟨p.Wide.toNat, by omega⟩
 have eW : p.Wide.toNat = W := by omega
 refine upL ?_ ?_
 ·refine Ev.step (fun k => q0i.l2.eq_2 _ _ _ _ _ _) (Ev.neg (by omega) (Ev.const ?_))
  have e1 : mE p y 10 = eMask p y := by unfold mE eMask; rw [Nat.min_eq_right (by omega)]
  have e2 : mS p y 10 = sMask p y := by unfold mS sMask; rw [Nat.min_eq_right (by omega)]
  rw [e1, e2]; rfl
 intro x hx ih
 have hg := gG_in v hy hx
 have w8x : IntKind.i8.wrap (x : Int) = (x : Int) := w8 (by omega) (by omega)
 have w8y : IntKind.i8.wrap (y : Int) = (y : Int) := w8 (by omega) (by omega)
 have wx : IntKind.i64.wrap ((x : Int) + 1) = ((x + 1 : Nat) : Int) := by rw [w64 (by omega) (by omega)]; omega
 have wy : IntKind.i64.wrap ((y : Int) + 1) = ((y + 1 : Nat) : Int) := by rw [w64 (by omega) (by omega)]; omega
 have w8x1 : IntKind.i8.wrap ((x + 1 : Nat) : Int) = ((x + 1 : Nat) : Int) := w8 (by omega) (by omega)
 have w8y1 : IntKind.i8.wrap ((y + 1 : Nat) : Int) = ((y + 1 : Nat) : Int) := w8 (by omega) (by omega)
 refine Ev.step (fun k => q0i.l2.eq_2 _ _ _ _ _ _) (Ev.pos (by omega) ?_)
 have e : upA (okG p y) x (10 - x) = (okG p y x && upA (okG p y) (x + 1) (10 - (x + 1))) := by
   rw [show 10 - x = (10 - (x + 1)) + 1 by omega]; rfl
 have hgg : gA (gR p.Grass y) x = gG p y x := rfl
 rw [e]
 simp only [w8x, w8y, wx, wy, w8x1, w8y1, isCell_eq v hw _ (VSpot_nat (show x ≤ 100 by omega) (show y ≤ 100 by omega)), isCell_eq v hw _ (VSpot_nat (show x + 1 ≤ 100 by omega) (show y ≤ 100 by omega)), isCell_eq v hw _ (VSpot_nat (show x ≤ 100 by omega) (show y + 1 ≤ 100 by omega)),
   bit_eq, chk_t (show (0 : Int) ≤ (x : Int) by omega), getR p.Grass hy, getA (gR p.Grass y) hx, hgg, within_eq, w64 (show -9223372036854775808 ≤ gG p y x by omega) (by omega), Option.bind_some]
 cases hc : cellB p x y
 ·refine Ev.neg (by simp) ?_
  have hc' : ¬ ((x : Int) < p.Wide ∧ (y : Int) < p.High) := by
    intro h; simp [cellB, h] at hc
  have e1 : mE p y (x + 1) = mE p y x := by
    unfold mE
    by_cases h : (y : Int) < p.High
    · rw [if_pos h, if_pos h, Nat.min_eq_right (by omega), Nat.min_eq_right (by omega)]
    · rw [if_neg h, if_neg h]
  have e2 : mS p y (x + 1) = mS p y x := by
    unfold mS
    by_cases h : (y : Int) + 1 < p.High
    · rw [if_pos h, if_pos h, Nat.min_eq_right (by omega), Nat.min_eq_right (by omega)]
    · rw [if_neg h, if_neg h]
  by_cases h1 : 0 ≤ gG p y x ∧ gG p y x ≤ 0
  ·refine Ev.neg (by simp [h1]) ?_
   rw [e1, e2] at ih
   simpa [okG, show 0 ≤ gG p y x ∧ gG p y x ≤ 1000 by omega, h1] using ih
  refine Ev.pos (by simp [h1]) (Ev.const ?_)
  have : okG p y x = false := by simp only [okG, hc, Bool.or_false]; simp; omega
  simp [this]
 refine Ev.pos rfl ?_
 have hc' : (x : Int) < p.Wide ∧ (y : Int) < p.High := by
   simp [cellB] at hc; omega
 have e1 : orI .u16 (mE p y x) (shlI .u16 (IntKind.u16.wrap (if cellB p ((x + 1 : Nat) : Int) y = true then 1 else 0)) (x : Int)) = mE p y (x + 1) := by
   unfold mE
   rw [if_pos hc'.2, if_pos hc'.2, eW]
   by_cases h : x + 1 < W
   · have : cellB p ((x + 1 : Nat) : Int) y = true := by simp [cellB]; omega
     rw [if_pos this, Nat.min_eq_left (by omega), Nat.min_eq_left (by omega)]
     exact or_bit x (by omega)
   · have : cellB p ((x + 1 : Nat) : Int) y = false := by simp [cellB]; omega
     rw [this, if_neg (by simp), Nat.min_eq_right (by omega), Nat.min_eq_right (by omega)]
     exact or_none (W - 1) (by omega) x (by omega)
 have e2 : orI .u16 (mS p y x) (shlI .u16 (IntKind.u16.wrap (if cellB p (x : Int) ((y + 1 : Nat) : Int) = true then 1 else 0)) (x : Int)) = mS p y (x + 1) := by
   unfold mS
   by_cases h : (y : Int) + 1 < p.High
   · have : cellB p (x : Int) ((y + 1 : Nat) : Int) = true := by simp [cellB]; omega
     rw [if_pos this, if_pos h, if_pos h, eW, Nat.min_eq_left (by omega), Nat.min_eq_left (by omega)]
     exact or_bit x (by omega)
   · have : cellB p (x : Int) ((y + 1 : Nat) : Int) = false := by simp [cellB]; omega
     rw [this, if_neg h, if_neg h, if_neg (by simp)]
     exact or_none0 x (by omega)
 rw [e1, e2]
 by_cases h1 : 0 ≤ gG p y x ∧ gG p y x ≤ 1000
 ·refine Ev.neg (by simp [h1]) ?_
  simpa [okG, h1, hc] using ih
 refine Ev.pos (by simp [h1]) (Ev.const ?_)
 simp [okG, h1]
theorem implOk_loop {p : Pasture} (v : VPasture p) (hw : okW p = true) : ∀ y : Nat, y ≤ 10 → Ev (fun k => q0i.l1 p k (y : Int)) (if upA (okR p) y (10 - y) = true then .inr () else .inl false) := by
 obtain ⟨a, b⟩ := okW_iff.1 hw
 refine upL ?_ ?_
 ·exact Ev.step (fun k => q0i.l1.eq_2 _ _ _) (Ev.neg (by omega) (Ev.const rfl))
 intro y hy ih
 refine Ev.step (fun k => q0i.l1.eq_2 _ _ _) (Ev.pos (by omega) ?_)
 have e : upA (okR p) y (10 - y) = (okR p y && upA (okR p) (y + 1) (10 - (y + 1))) := by
   rw [show 10 - y = (10 - (y + 1)) + 1 by omega]; rfl
 have hr := implRow_loop v hw hy 0 (Nat.zero_le _)
 have z1 : mE p y 0 = 0 := by unfold mE; split <;> simp
 have z2 : mS p y 0 = 0 := by unfold mS; split <;> simp
 simp only [Nat.sub_zero, z1, z2] at hr
 have wy : IntKind.i64.wrap ((y : Int) + 1) = ((y + 1 : Nat) : Int) := by rw [w64 (by omega) (by omega)]; omega
 rw [e]
 simp only [wy]
 cases hg : upA (okG p y) 0 10
 ·rw [hg] at hr
  refine Ev.bind (a := .inl (.inl false)) (Ev.bind hr (Ev.const rfl)) ?_
  simp only [okR, hg, Bool.false_and]
  exact Ev.const rfl
 rw [hg] at hr
 refine Ev.bind (a := if okR p y = true then .inr () else .inl (.inl false)) (hr.bind ?_) ?_
 ·refine Ev.const ?_
  have hk' : okR p y = (decide (andNotI .u16 (gA p.East y) (eMask p y) = 0) && decide (andNotI .u16 (gA p.South y) (sMask p y) = 0)) := by simp [okR, hg]
  rw [hk']
  simp only [if_true, getA p.East hy, getA p.South hy, Option.bind_some]
  by_cases g1 : andNotI .u16 (gA p.East y) (eMask p y) = 0 <;> by_cases g2 : andNotI .u16 (gA p.South y) (sMask p y) = 0 <;> simp [g1, g2]
 cases hb : okR p y
 ·exact Ev.const rfl
 simpa using ih
theorem implOk_ev {p : Pasture} (v : VPasture p) : Ev (fun k => q0i.f k p) (vP p) := by
 have a := i8b v.1; have b := i8b v.2.1
 have ha : IntKind.i64.wrap p.Wide = p.Wide := w64 (by omega) (by omega)
 have hb : IntKind.i64.wrap p.High = p.High := w64 (by omega) (by omega)
 unfold q0i.f
 simp only [within_eq, ha, hb, Option.bind_some]
 cases hw : okW p
 ·have : vP p = false := by simp [vP, hw]
  rw [this]
  by_cases h1 : 1 ≤ p.Wide ∧ p.Wide ≤ 10
  ·by_cases h2 : 1 ≤ p.High ∧ p.High ≤ 10
   ·simp [okW, h1, h2] at hw
   simp only [h1, h2, decide_true, decide_false, Bool.not_true, Bool.not_false, if_true, if_false, Bool.false_eq_true, Option.bind_some, and_self]
   exact Ev.const rfl
  simp only [h1, decide_false, Bool.not_false, if_true, Option.bind_some]
  exact Ev.const rfl
 obtain ⟨h1, h2⟩ := okW_iff.1 hw
 simp only [h1, h2, decide_true, Bool.not_true, Bool.false_eq_true, if_false, Option.bind_some, and_self]
 refine (implOk_loop v hw 0 (Nat.zero_le _)).bind ?_
 simp only [vP, hw, Bool.true_and, Nat.sub_zero]
 cases upA (okR p) 0 10 <;> exact Ev.const rfl
theorem vP_okW {p : Pasture} (h : vP p = true) : okW p = true := by
 unfold vP at h; rw [Bool.and_eq_true] at h; exact h.1
theorem vP_G {p : Pasture} (h : vP p = true) {y x : Nat} (hy : y < 10) (hx : x < 10) : (0 ≤ gG p y x ∧ gG p y x ≤ 1000) ∧ (cellB p x y = false → gG p y x = 0) := by
 unfold vP at h
 rw [Bool.and_eq_true] at h
 have h1 := (upA_iff _ _ _).1 h.2 y (Nat.zero_le _) (by omega)
 unfold okR at h1
 rw [Bool.and_eq_true] at h1
 have h2 := (upA_iff _ _ _).1 h1.1 x (Nat.zero_le _) (by omega)
 simp only [okG, Bool.and_eq_true, Bool.or_eq_true, decide_eq_true_eq] at h2
 refine ⟨h2.1, fun hc => ?_⟩
 rcases h2.2 with h3 | h3
 ·omega
 rw [hc] at h3; cases h3

end
section
theorem chkT {p : Prop} [Decidable p] (h : p) : chk p = some () := if_pos h
abbrev Tb := Arr 10 (Arr 10 Int)
def g2 (m : Tb) (y x : Nat) : Int := gA (gR m y) x
def put2 (m : Tb) (y x : Nat) (v : Int) : Tb := aset m y (aset (gR m y) x v)
theorem gR_set (m : Tb) {y : Nat} (hy : y < 10) (r : Arr 10 Int) (y' : Nat) : gR (aset m y r) y' = if y = y' then r else gR m y' := by
 unfold gR aset
 simp only [List.getElem?_set, m.len, hy, if_true]
 split <;> simp
theorem gA_set (a : Arr 10 Int) {x : Nat} (hx : x < 10) (v : Int) (x' : Nat) : gA (aset a x v) x' = if x = x' then v else gA a x' := by
 unfold gA aset
 simp only [List.getD_eq_getElem?_getD, List.getElem?_set, a.len, hx, if_true]
 split <;> simp
theorem g2_put (m : Tb) {y x : Nat} (hy : y < 10) (hx : x < 10) (v : Int) (y' x' : Nat) : g2 (put2 m y x v) y' x' = if y = y' ∧ x = x' then v else g2 m y' x' := by
 unfold g2 put2
 rw [gR_set m hy]
 by_cases h1 : y = y'
 ·subst h1
  rw [if_pos rfl, gA_set _ hx]
  by_cases h2 : x = x'
  ·rw [if_pos h2, if_pos ⟨rfl, h2⟩]
  rw [if_neg h2, if_neg (fun h => h2 h.2)]
 rw [if_neg h1, if_neg (fun h => h1 h.1)]
def sp (x y : Nat) : Spot := ⟨(x : Int), (y : Int)⟩
def nx (s : Spot) (i : Int) : Spot := if i = 0 then ⟨s.X, IntKind.i8.wrap (s.Y - 1)⟩ else if i = 1 then ⟨IntKind.i8.wrap (s.X + 1), s.Y⟩ else if i = 2 then ⟨s.X, IntKind.i8.wrap (s.Y + 1)⟩ else ⟨IntKind.i8.wrap (s.X - 1), s.Y⟩
theorem next_eq (s : Spot) (i : Int) : q0y.f s i = some (nx s i) := by
 unfold q0y.f nx
 split
 ·rfl
 split
 ·rfl
 split <;> rfl
theorem ahead_eq (s : Spot) (i : Int) : q0u.f s i = some (nx s i) := by
 unfold q0u.f nx
 split
 ·rfl
 split
 ·rfl
 split <;> rfl
def btB (m : Int) (j : Nat) : Bool := decide (andI .u16 (shrI .u16 m (j : Int)) 1 = 1)
def hurB (p : Pasture) (x y : Nat) (i : Nat) : Bool := if i = 0 then btB (gA p.South (y - 1)) x else if i = 1 then btB (gA p.East y) x else if i = 2 then btB (gA p.South y) x else btB (gA p.East y) (x - 1)
def openB (p : Pasture) (x y : Nat) (i : Nat) : Bool := cellB p (nx (sp x y) i).X (nx (sp x y) i).Y && !hurB p x y i
theorem w8 {x : Int} (h : -128 ≤ x) (h' : x ≤ 127) : IntKind.i8.wrap x = x := by
 have : ∀ n : Fin 256, IntKind.i8.wrap ((n : Nat) - 128 : Int) = (n : Nat) - 128 := by decide +kernel
 have := this ⟨(x + 128).toNat, by omega⟩
 simp only at this
 rw [show (((x + 128).toNat : Nat) : Int) - 128 = x by omega] at this
 exact this
theorem nx_in {x y : Nat} (hx : x < 10) (hy : y < 10) (i : Int) : VSpot (nx (sp x y) i) := by
 have h1 : IntKind.i8.min = -128 := by decide
 have h2 : IntKind.i8.max = 127 := by decide
 have key : ∀ a b : Int, -1 ≤ a → a ≤ 10 → -1 ≤ b → b ≤ 10 → VSpot ⟨a, b⟩ := by
   intro a b g1 g2 g3 g4
   refine ⟨⟨?_, ?_⟩, ⟨?_, ?_⟩⟩ <;> simp only [h1, h2] <;> omega
 have e1 : IntKind.i8.wrap ((y : Int) - 1) = (y : Int) - 1 := w8 (by omega) (by omega)
 have e2 : IntKind.i8.wrap ((x : Int) + 1) = (x : Int) + 1 := w8 (by omega) (by omega)
 have e3 : IntKind.i8.wrap ((y : Int) + 1) = (y : Int) + 1 := w8 (by omega) (by omega)
 have e4 : IntKind.i8.wrap ((x : Int) - 1) = (x : Int) - 1 := w8 (by omega) (by omega)
 unfold nx sp
 simp only [e1, e2, e3, e4]
 split
 ·exact key _ _ (by omega) (by omega) (by omega) (by omega)
 split
 ·exact key _ _ (by omega) (by omega) (by omega) (by omega)
 split
 ·exact key _ _ (by omega) (by omega) (by omega) (by omega)
 exact key _ _ (by omega) (by omega) (by omega) (by omega)
theorem cellB_nat {p : Pasture} (hw : okW p = true) {s : Spot} (h : cellB p s.X s.Y = true) : ∃ x y : Nat, x < 10 ∧ y < 10 ∧ s = sp x y := by
 obtain ⟨w1, w2⟩ := okW_iff.1 hw
 unfold cellB at h
 rw [Bool.and_eq_true, decide_eq_true_eq, decide_eq_true_eq] at h
 refine ⟨s.X.toNat, s.Y.toNat, by omega, by omega, ?_⟩
 unfold sp
 cases s
 simp only at h ⊢
 congr 1 <;> omega
theorem side {i : Nat} (hi : i < 4) : i = 0 ∨ i = 1 ∨ i = 2 ∨ i = 3 := by omega
theorem u64n {x : Nat} (hx : x < 10) : IntKind.u64.wrap (x : Int) = (x : Int) := wu64 (by omega) (by omega)
theorem closed_eq {p : Pasture} (v : VPasture p) (hw : okW p = true) {x y : Nat} (hx : x < 10) (hy : y < 10) {i : Nat} (hi : i < 4) : q23.f p (sp x y) (i : Int) = some (!openB p x y i) := by
 unfold q23.f
 rw [next_eq, Option.bind_some, l01Is_eq v _ (nx_in hx hy _), Option.bind_some]
 unfold openB
 cases hc : cellB p (nx (sp x y) i).X (nx (sp x y) i).Y
 ·simp
 obtain ⟨x', y', hx', hy', e⟩ := cellB_nat hw hc
 rw [if_neg (by simp), Bool.true_and, Bool.not_not]
 have ux := u64n hx
 rcases side hi with rfl | rfl | rfl | rfl
 ·have ey : (y' : Int) = (y : Int) - 1 := by
    have := congrArg Spot.Y e
    simp only [nx, sp] at this
    rw [← this]; simp; rw [w8 (by omega) (by omega)]
  rw [if_pos (show ((0 : Nat) : Int) = 0 from rfl), e]
  show (getI p.South.l (y' : Int)).bind _ = _
  rw [getA _ hy', Option.bind_some]
  show (chk (0 ≤ IntKind.u64.wrap (x : Int))).bind _ = _
  rw [ux, chkT (by omega), Option.bind_some]
  unfold hurB btB
  rw [if_pos rfl, show y' = y - 1 by omega]
  show some (decide (andI .u16 (shrI .u16 _ (IntKind.u64.wrap (x : Int))) 1 = 1)) = _
  rw [ux]
 ·rw [if_neg (by decide), if_pos (show ((1 : Nat) : Int) = 1 from rfl)]
  show (getI p.East.l (y : Int)).bind _ = _
  rw [getA _ hy, Option.bind_some]
  show (chk (0 ≤ IntKind.u64.wrap (x : Int))).bind _ = _
  rw [ux, chkT (by omega), Option.bind_some]
  show some (decide (andI .u16 (shrI .u16 _ (IntKind.u64.wrap (x : Int))) 1 = 1)) = _
  rw [ux]; rfl
 ·rw [if_neg (by decide), if_neg (by decide), if_pos (show ((2 : Nat) : Int) = 2 from rfl)]
  show (getI p.South.l (y : Int)).bind _ = _
  rw [getA _ hy, Option.bind_some]
  show (chk (0 ≤ IntKind.u64.wrap (x : Int))).bind _ = _
  rw [ux, chkT (by omega), Option.bind_some]
  show some (decide (andI .u16 (shrI .u16 _ (IntKind.u64.wrap (x : Int))) 1 = 1)) = _
  rw [ux]; rfl
 have ex : (x' : Int) = (x : Int) - 1 := by
   have := congrArg Spot.X e
   simp only [nx, sp] at this
   rw [← this]; simp; rw [w8 (by omega) (by omega)]
 have ux' := u64n hx'
 rw [if_neg (by decide), if_neg (by decide), if_neg (by decide), e]
 show (getI p.East.l (y : Int)).bind _ = _
 rw [getA _ hy, Option.bind_some]
 show (chk (0 ≤ IntKind.u64.wrap (x' : Int))).bind _ = _
 rw [ux', chkT (by omega), Option.bind_some]
 show some (decide (andI .u16 (shrI .u16 _ (IntKind.u64.wrap (x' : Int))) 1 = 1)) = _
 rw [ux', show x' = x - 1 by omega]; rfl
theorem canGo_eq {p : Pasture} (v : VPasture p) (hw : okW p = true) {x y : Nat} (hx : x < 10) (hy : y < 10) {i : Nat} (hi : i < 4) : q1k.f p (sp x y) (i : Int) = some (openB p x y i) := by
 unfold q1k.f
 rw [ahead_eq, Option.bind_some, isCell_eq v hw _ (nx_in hx hy _), Option.bind_some]
 unfold openB
 cases hc : cellB p (nx (sp x y) i).X (nx (sp x y) i).Y
 ·simp
 obtain ⟨x', y', hx', hy', e⟩ := cellB_nat hw hc
 rw [if_pos rfl, Bool.true_and]
 have key : ∀ (hh : Hurdle) (a : Nat) (b : Nat), b < 10 → a < 10 → hh.At = sp a b → q15.f p hh = some (if hh.South = true then btB (gA p.South b) a else btB (gA p.East b) a) := by
   intro hh a b hb ha he
   unfold q15.f
   rw [he]
   cases hh.South
   · rw [if_neg (by simp), if_neg (by simp)]
     show (getI p.East.l (b : Int)).bind _ = _
     rw [getA _ hb, Option.bind_some]
     show (chk (0 ≤ (a : Int))).bind _ = _
     rw [chkT (by omega), Option.bind_some]; rfl
   · rw [if_pos rfl, if_pos rfl]
     show (getI p.South.l (b : Int)).bind _ = _
     rw [getA _ hb, Option.bind_some]
     show (chk (0 ≤ (a : Int))).bind _ = _
     rw [chkT (by omega), Option.bind_some]; rfl
 rcases side hi with rfl | rfl | rfl | rfl
 ·have ey : (y' : Int) = (y : Int) - 1 := by
    have := congrArg Spot.Y e
    simp only [nx, sp] at this
    rw [← this]; simp; rw [w8 (by omega) (by omega)]
  have ex : (x' : Int) = (x : Int) := by
    have := congrArg Spot.X e
    simp only [nx, sp] at this
    rw [← this]; simp
  have hh : q1j.f (sp x y) ((0 : Nat) : Int) = some ⟨nx (sp x y) ((0 : Nat) : Int), true⟩ := by
    unfold q1j.f; rw [ahead_eq]; rfl
  rw [hh, Option.bind_some, key _ x' y' hy' hx' e, Option.bind_some, if_pos rfl]
  unfold hurB
  rw [if_pos rfl, show y' = y - 1 by omega, show x' = x by omega]
 ·have hh : q1j.f (sp x y) ((1 : Nat) : Int) = some ⟨sp x y, false⟩ := rfl
  rw [hh, Option.bind_some, key _ x y hy hx rfl, Option.bind_some]; rfl
 ·have hh : q1j.f (sp x y) ((2 : Nat) : Int) = some ⟨sp x y, true⟩ := rfl
  rw [hh, Option.bind_some, key _ x y hy hx rfl, Option.bind_some]; rfl
 have ex : (x' : Int) = (x : Int) - 1 := by
   have := congrArg Spot.X e
   simp only [nx, sp] at this
   rw [← this]; simp; rw [w8 (by omega) (by omega)]
 have ey : (y' : Int) = (y : Int) := by
   have := congrArg Spot.Y e
   simp only [nx, sp] at this
   rw [← this]; simp
 have hh : q1j.f (sp x y) ((3 : Nat) : Int) = some ⟨nx (sp x y) ((3 : Nat) : Int), false⟩ := by
   unfold q1j.f; rw [ahead_eq]; rfl
 rw [hh, Option.bind_some, key _ x' y' hy' hx' e, Option.bind_some, if_neg (by simp)]
 unfold hurB
 rw [if_neg (by omega), if_neg (by omega), if_neg (by omega), show y' = y by omega, show x' = x - 1 by omega]
end
section
def fr1 (m : Tb) (y : Nat) : Nat → Nat
  | 0 => 0
  | n + 1 => fr1 m y n + (if g2 m y n < 0 then 1 else 0)
def frA (m : Tb) : Nat → Nat
  | 0 => 0
  | n + 1 => frA m n + fr1 m n 10
theorem fr1_other (m : Tb) {y x : Nat} (hy : y < 10) (hx : x < 10) (v : Int) {y' : Nat} (h : y ≠ y') : ∀ n, fr1 (put2 m y x v) y' n = fr1 m y' n
  | 0 => rfl
  | n + 1 => by
    simp only [fr1, fr1_other m hy hx v h n, g2_put m hy hx]
    rw [if_neg (fun e : y = y' ∧ x = n => h e.1)]
theorem fr1_same (m : Tb) {y x : Nat} (hy : y < 10) (hx : x < 10) {v : Int} (hv : 0 ≤ v) (hg : g2 m y x < 0) : ∀ n, (n ≤ x → fr1 (put2 m y x v) y n = fr1 m y n) ∧ (x < n → fr1 (put2 m y x v) y n + 1 = fr1 m y n)
  | 0 => ⟨fun _ => rfl, fun h => by omega⟩
  | n + 1 => by
    obtain ⟨h1, h2⟩ := fr1_same m hy hx hv hg n
    refine ⟨fun h => ?_, fun h => ?_⟩
    · simp only [fr1]
      rw [h1 (by omega), g2_put m hy hx, if_neg (fun e : y = y ∧ x = n => by omega)]
    · simp only [fr1]
      rw [g2_put m hy hx]
      rcases Nat.lt_or_ge x n with hlt | hge
      · rw [if_neg (fun e : y = y ∧ x = n => by omega)]
        have := h2 hlt
        omega
      · obtain rfl : x = n := by omega
        have e : (if y = y ∧ x = x then v else g2 m y x) = v := if_pos ⟨rfl, rfl⟩
        rw [e, h1 (Nat.le_refl _), if_neg (show ¬ v < 0 by omega), if_pos hg]
theorem frA_put (m : Tb) {y x : Nat} (hy : y < 10) (hx : x < 10) {v : Int} (hv : 0 ≤ v) (hg : g2 m y x < 0) : ∀ n, (n ≤ y → frA (put2 m y x v) n = frA m n) ∧ (y < n → frA (put2 m y x v) n + 1 = frA m n)
  | 0 => ⟨fun _ => rfl, fun h => by omega⟩
  | n + 1 => by
    obtain ⟨h1, h2⟩ := frA_put m hy hx hv hg n
    refine ⟨fun h => ?_, fun h => ?_⟩
    · simp only [frA]
      rw [h1 (by omega), fr1_other m hy hx v (by omega)]
    · simp only [frA]
      rcases Nat.lt_or_ge y n with hlt | hge
      · rw [fr1_other m hy hx v (by omega)]
        have := h2 hlt
        omega
      · obtain rfl : y = n := by omega
        have := (fr1_same m hy hx hv hg 10).2 hx
        rw [h1 (Nat.le_refl _)]
        omega
structure Rl (m n : Tb) (q : List Spot) : Prop where
  eq : ∀ y x, y < 10 → x < 10 → g2 n y x = g2 m y x + 1
  lo : ∀ y x, y < 10 → x < 10 → -1 ≤ g2 m y x
  hi : ∀ y x, y < 10 → x < 10 → g2 m y x < (q.length : Int)
  fr : q.length + frA m 10 ≤ 101
  cells : ∀ s ∈ q, ∃ x y : Nat, x < 10 ∧ y < 10 ∧ s = sp x y
theorem Rl.put {m n : Tb} {q : List Spot} (h : Rl m n q) {y x y' x' : Nat} (hy : y < 10) (hx : x < 10) (hy' : y' < 10) (hx' : x' < 10) (hg : g2 m y' x' < 0) : Rl (put2 m y' x' (g2 m y x + 1)) (put2 n y' x' (g2 n y x + 1)) (q ++ [sp x' y']) := by
 have h1 := h.lo y x hy hx
 have h2 := h.hi y x hy hx
 have hf := (frA_put m hy' hx' (v := g2 m y x + 1) (by omega) hg 10).2 hy'
 refine ⟨fun a b ha hb => ?_, fun a b ha hb => ?_, fun a b ha hb => ?_, ?_, fun s hs => ?_⟩
 ·rw [g2_put n hy' hx', g2_put m hy' hx', h.eq y x hy hx]
  split
  ·rfl
  exact h.eq a b ha hb
 ·rw [g2_put m hy' hx']
  split
  ·omega
  exact h.lo a b ha hb
 ·rw [g2_put m hy' hx', List.length_append]
  have := h.hi a b ha hb
  split
  ·simp; omega
  simp; omega
 ·have := h.fr
  simp only [List.length_append, List.length_cons, List.length_nil]
  omega
 rcases List.mem_append.1 hs with hs | hs
 ·exact h.cells s hs
 exact ⟨x', y', hx', hy', List.mem_singleton.1 hs⟩
def nbs (p : Pasture) (x y : Nat) : Nat → Nat → List Spot
  | 0, _ => []
  | n + 1, i => (if openB p x y i = true then [nx (sp x y) (i : Int)] else []) ++ nbs p x y n (i + 1)
theorem nbs_step (p : Pasture) (x y : Nat) {i : Nat} (h : i < 4) : nbs p x y (4 - i) i = (if openB p x y i = true then [nx (sp x y) (i : Int)] else []) ++ nbs p x y (4 - (i + 1)) (i + 1) := by
 rw [show 4 - i = (4 - (i + 1)) + 1 by omega]; rfl
theorem beside_ev {p : Pasture} (v : VPasture p) (hw : okW p = true) {x y : Nat} (hx : x < 10) (hy : y < 10) : Ev (fun k => q1a.f k p (sp x y)) (nbs p x y 4 0) := by
 have key : ∀ i, i ≤ 4 → ∀ acc : List Spot, acc.length ≤ i → Ev (fun k => q1a.l1 p (sp x y) k acc (i : Int)) (acc ++ nbs p x y (4 - i) i) := by
   refine upL ?_ ?_
   · intro acc ha
     refine Ev.step (fun k => q1a.l1.eq_2 _ _ _ _ _) (Ev.neg (by omega) (Ev.const ?_))
     simp [nbs]
   · intro i hi ih acc ha
     refine Ev.step (fun k => q1a.l1.eq_2 _ _ _ _ _) (Ev.pos (by omega) (Ev.bind (Ev.const (closed_eq v hw hx hy hi)) ?_))
     rw [nbs_step p x y hi, wsucc hi (by omega)]
     cases ho : openB p x y i
     · refine Ev.neg (by simp) ?_
       simpa using ih acc (by omega)
     · refine Ev.pos (by simp) (Ev.bind (Ev.const (next_eq _ _)) (Ev.bind (Ev.const (chkT (by simp; omega))) ?_))
       have := ih (acc ++ [nx (sp x y) (i : Int)]) (by simp; omega)
       rw [List.append_assoc] at this
       rw [if_pos rfl]; exact this
 have := key 0 (Nat.zero_le _) [] (by simp)
 rw [List.nil_append] at this
 exact this.bind (Ev.const rfl)
theorem nbs_len (p : Pasture) (x y : Nat) : ∀ n i, (nbs p x y n i).length ≤ n
  | 0, i => by simp [nbs]
  | n + 1, i => by
    have := nbs_len p x y n (i + 1)
    simp only [nbs, List.length_append]
    split <;> simp <;> omega
theorem inner {p : Pasture} (v : VPasture p) (hw : okW p = true) {x y : Nat} (hx : x < 10) (hy : y < 10) : ∀ i, i ≤ 4 → ∀ (m n : Tb) (q : List Spot), Rl m n q → ∀ pre : List Spot, pre ++ nbs p x y (4 - i) i = nbs p x y 4 0 →
 ∃ (m' n' : Tb) (q' : List Spot), Rl m' n' q' ∧ q.length ≤ q'.length ∧ q'.length + frA m' 10 = q.length + frA m 10 ∧ Ev (fun k => q00.l5 p (sp x y) k m q (i : Int)) (m', q') ∧ Ev (fun k => q0w.l2 (sp x y) (nbs p x y 4 0) k n q (pre.length : Int)) (n', q') := by
 have hT := nbs_len p x y 4 0
 refine upL ?_ ?_
 ·intro m n q hr pre hp
  have hl : pre.length = (nbs p x y 4 0).length := by rw [← hp]; simp [nbs]
  exact ⟨m, n, q, hr, Nat.le_refl _, rfl, Ev.step (fun k => q00.l5.eq_2 _ _ _ _ _ _) (Ev.neg (by omega) (Ev.const rfl)), Ev.step (fun k => q0w.l2.eq_2 _ _ _ _ _ _) (Ev.neg (by omega) (Ev.const rfl))⟩
 intro i hi ih m n q hr pre hp
 rw [nbs_step p x y hi] at hp
 have hg := canGo_eq v hw hx hy hi
 cases ho : openB p x y i
 ·rw [ho] at hg
  rw [ho, if_neg (by simp), List.nil_append] at hp
  obtain ⟨m', n', q', r1, r2, r3, r4, r5⟩ := ih m n q hr pre hp
  rw [← wsucc hi (by omega)] at r4
  exact ⟨m', n', q', r1, r2, r3, Ev.step (fun k => q00.l5.eq_2 _ _ _ _ _ _) (Ev.pos (by omega) (Ev.bind (Ev.const (ahead_eq _ _)) (Ev.bind (Ev.bind (Ev.const hg) (Ev.neg (by simp) (Ev.const rfl))) (Ev.neg (by simp) r4)))), r5⟩
 rw [ho] at hg
 rw [ho, if_pos rfl] at hp
 have hc : cellB p (nx (sp x y) (i : Int)).X (nx (sp x y) (i : Int)).Y = true := by
   unfold openB at ho
   rw [Bool.and_eq_true] at ho
   exact ho.1
 obtain ⟨x', y', hx', hy', e⟩ := cellB_nat hw hc
 rw [e] at hp
 have ha : q0u.f (sp x y) (i : Int) = some (sp x' y') := (ahead_eq _ _).trans (congrArg some e)
 have hlt : pre.length < (nbs p x y 4 0).length := by rw [← hp]; simp
 have hgt : getI (nbs p x y 4 0) (pre.length : Int) = some (sp x' y') := by
   rw [getI_nat hlt]
   congr 1
   have : (nbs p x y 4 0)[pre.length]? = some (sp x' y') := by rw [← hp]; simp
   rw [List.getElem?_eq_getElem hlt] at this
   exact Option.some.inj this
 have hp' : (pre ++ [sp x' y']) ++ nbs p x y (4 - (i + 1)) (i + 1) = nbs p x y 4 0 := by rw [List.append_assoc]; exact hp
 have hl' : ((pre ++ [sp x' y']).length : Int) = IntKind.i64.wrap ((pre.length : Int) + 1) := by
   rw [wsucc hlt (by omega)]; simp
 have l1 := hr.lo y x hy hx
 have l2 := hr.hi y x hy hx
 have l3 := hr.fr
 have l4 := hr.eq y x hy hx
 have l5 := hr.eq y' x' hy' hx'
 have cm : Ev (fun k => (q1k.f p (sp x y) (i : Int)).bind fun t47 => if t47 = true then ((getI m.l (sp x' y').Y).bind fun t48 => (getI t48.l (sp x' y').X).bind fun t49 => some (decide (t49 < 0))) else (some false)) (decide (g2 m y' x' < 0)) :=
   Ev.bind (Ev.const hg) (Ev.pos rfl (Ev.bind (Ev.const (getR m hy')) (Ev.bind (Ev.const (getA _ hx')) (Ev.const rfl))))
 by_cases hneg : g2 m y' x' < 0
 ·obtain ⟨m', n', q', r1, r2, r3, r4, r5⟩ := ih _ _ _ (hr.put hy hx hy' hx' hneg) (pre ++ [sp x' y']) hp'
  rw [← wsucc hi (by omega)] at r4
  rw [hl'] at r5
  have hf := (frA_put m hy' hx' (v := g2 m y x + 1) (by omega) hneg 10).2 hy'
  simp only [List.length_append, List.length_cons, List.length_nil] at r2 r3
  have e16 : IntKind.i16.wrap (gA (gR m y) x + 1) = g2 m y x + 1 := w16 (show -32768 ≤ g2 m y x + 1 by omega) (show g2 m y x + 1 ≤ 32767 by omega)
  have e64 : IntKind.i64.wrap (gA (gR n y) x + 1) = g2 n y x + 1 := w64 (show -9223372036854775808 ≤ g2 n y x + 1 by omega) (show g2 n y x + 1 ≤ 9223372036854775807 by omega)
  refine ⟨m', n', q', r1, by omega, by omega, Ev.step (fun k => q00.l5.eq_2 _ _ _ _ _ _) (Ev.pos (by omega) (Ev.bind (Ev.const ha) (Ev.bind cm (Ev.pos (decide_eq_true hneg) (Ev.bind (Ev.const (getR m hy)) (Ev.bind (Ev.const (getA _ hx)) (Ev.bind (Ev.const (getR m hy')) (Ev.bind (Ev.const (getA _ hx')) (Ev.bind (Ev.const (chkT (by simp; omega))) ?_))))))))),
    Ev.step (fun k => q0w.l2.eq_2 _ _ _ _ _ _) (Ev.pos (by omega) (Ev.bind (Ev.const hgt) (Ev.bind (Ev.const hgt) (Ev.bind (Ev.const (getR n hy')) (Ev.bind (Ev.const (getA _ hx')) (Ev.pos (show g2 n y' x' = 0 by have := hr.lo y' x' hy' hx'; omega) (Ev.bind (Ev.const hgt) (Ev.bind (Ev.const hgt) (Ev.bind (Ev.const (getR n hy)) (Ev.bind (Ev.const (getA _ hx)) (Ev.bind (Ev.const (getR n hy')) (Ev.bind (Ev.const (getA _ hx')) (Ev.bind (Ev.const hgt) (Ev.bind (Ev.const (chkT (by simp; omega))) ?_))))))))))))))⟩
  ·rw [e16]; exact r4
  rw [e64]; exact r5
 obtain ⟨m', n', q', r1, r2, r3, r4, r5⟩ := ih m n q hr (pre ++ [sp x' y']) hp'
 rw [← wsucc hi (by omega)] at r4
 rw [hl'] at r5
 exact ⟨m', n', q', r1, r2, r3, Ev.step (fun k => q00.l5.eq_2 _ _ _ _ _ _) (Ev.pos (by omega) (Ev.bind (Ev.const ha) (Ev.bind cm (Ev.neg (by simp only [decide_eq_true_eq]; exact hneg) r4)))),
   Ev.step (fun k => q0w.l2.eq_2 _ _ _ _ _ _) (Ev.pos (by omega) (Ev.bind (Ev.const hgt) (Ev.bind (Ev.const hgt) (Ev.bind (Ev.const (getR n hy')) (Ev.bind (Ev.const (getA _ hx')) (Ev.neg (show ¬ g2 n y' x' = 0 by omega) r5))))))⟩
theorem outer {p : Pasture} (v : VPasture p) (hw : okW p = true) : ∀ (d i : Nat) (m n : Tb) (q : List Spot), Rl m n q → i ≤ q.length → q.length - i + frA m 10 ≤ d →
 ∃ (m' n' : Tb), (∀ y x, y < 10 → x < 10 → g2 n' y x = g2 m' y x + 1 ∧ -1 ≤ g2 m' y x ∧ g2 m' y x ≤ 101) ∧ Ev (fun k => q00.l4 p k m q (i : Int)) m' ∧ Ev (fun k => q0w.l1 p k n q (i : Int)) n' := by
  intro d
  induction d with
  | zero =>
    intro i m n q hr hi hd
    have := hr.fr
    exact ⟨m, n, fun y x hy hx => ⟨hr.eq y x hy hx, hr.lo y x hy hx, by have := hr.hi y x hy hx; omega⟩, Ev.step (fun k => q00.l4.eq_2 _ _ _ _ _) (Ev.neg (by omega) (Ev.const rfl)), Ev.step (fun k => q0w.l1.eq_2 _ _ _ _ _) (Ev.neg (by omega) (Ev.const rfl))⟩
  | succ d ih =>
    intro i m n q hr hi hd
    have hfr := hr.fr
    by_cases hlt : i < q.length
    · obtain ⟨x, y, hx, hy, e⟩ := hr.cells q[i] (List.getElem_mem hlt)
      have hg : getI q (i : Int) = some (sp x y) := by rw [getI_nat hlt, e]
      obtain ⟨m1, n1, q1, r1, r2, r3, r4, r5⟩ := inner v hw hx hy 0 (Nat.zero_le _) m n q hr [] (by simp)
      obtain ⟨m', n', g1, g2, g3⟩ := ih (i + 1) m1 n1 q1 r1 (by omega) (by omega)
      rw [← wsucc hlt (by omega)] at g2 g3
      exact ⟨m', n', g1, Ev.step (fun k => q00.l4.eq_2 _ _ _ _ _) (Ev.pos (by omega) (Ev.bind (Ev.bind (Ev.const hg) (Ev.bind r4 (Ev.const rfl))) g2)), Ev.step (fun k => q0w.l1.eq_2 _ _ _ _ _) (Ev.pos (by omega) (Ev.bind (Ev.bind (Ev.const hg) ((beside_ev v hw hx hy).bind (Ev.bind r5 (Ev.const rfl)))) g3))⟩
    · exact ⟨m, n, fun y x hy hx => ⟨hr.eq y x hy hx, hr.lo y x hy hx, by have := hr.hi y x hy hx; omega⟩, Ev.step (fun k => q00.l4.eq_2 _ _ _ _ _) (Ev.neg (by omega) (Ev.const rfl)), Ev.step (fun k => q0w.l1.eq_2 _ _ _ _ _) (Ev.neg (by omega) (Ev.const rfl))⟩
end
section
theorem row_ev {y : Nat} (hy : y < 10) : ∀ x, x ≤ 10 → ∀ m : Tb, ∃ m' : Tb, (∀ y' x', y' < 10 → x' < 10 → g2 m' y' x' = if y = y' ∧ x ≤ x' then -1 else g2 m y' x') ∧ Ev (fun k => q00.l2 (y : Int) k m (x : Int)) m' := by
 refine upL ?_ ?_
 ·intro m
  exact ⟨m, fun y' x' hy' hx' => by rw [if_neg (fun e => by omega)], Ev.step (fun k => q00.l2.eq_2 _ _ _ _) (Ev.neg (by omega) (Ev.const rfl))⟩
 intro x hx ih m
 obtain ⟨m', h1, h2⟩ := ih (put2 m y x (-1))
 rw [← wsucc hx (by omega)] at h2
 refine ⟨m', fun y' x' hy' hx' => ?_, Ev.step (fun k => q00.l2.eq_2 _ _ _ _) (Ev.pos (by omega) (Ev.bind (Ev.const (getR m hy)) (Ev.bind (Ev.const (getA _ hx)) h2)))⟩
 rw [h1 y' x' hy' hx', g2_put m hy hx]
 by_cases e1 : y = y'
 ·by_cases e2 : x + 1 ≤ x'
  ·rw [if_pos ⟨e1, e2⟩, if_pos ⟨e1, by omega⟩]
  rw [if_neg (fun e => e2 e.2)]
  by_cases e3 : x = x'
  ·rw [if_pos ⟨e1, e3⟩, if_pos ⟨e1, by omega⟩]
  rw [if_neg (fun e => e3 e.2), if_neg (fun e => by omega)]
 rw [if_neg (fun e => e1 e.1), if_neg (fun e => e1 e.1), if_neg (fun e => e1 e.1)]
theorem tab_ev : ∀ y, y ≤ 10 → ∀ m : Tb, ∃ m' : Tb, (∀ y' x', y' < 10 → x' < 10 → g2 m' y' x' = if y ≤ y' then -1 else g2 m y' x') ∧ Ev (fun k => q00.l1 k m (y : Int)) m' := by
 refine upL ?_ ?_
 ·intro m
  exact ⟨m, fun y' x' hy' hx' => by rw [if_neg (by omega)], Ev.step (fun k => q00.l1.eq_2 _ _ _) (Ev.neg (by omega) (Ev.const rfl))⟩
 intro y hy ih m
 obtain ⟨m1, a1, a2⟩ := row_ev hy 0 (Nat.zero_le _) m
 obtain ⟨m', h1, h2⟩ := ih m1
 rw [← wsucc hy (by omega)] at h2
 refine ⟨m', fun y' x' hy' hx' => ?_, Ev.step (fun k => q00.l1.eq_2 _ _ _) (Ev.pos (by omega) (Ev.bind (Ev.bind a2 (Ev.const rfl)) h2))⟩
 rw [h1 y' x' hy' hx', a1 y' x' hy' hx']
 by_cases e1 : y + 1 ≤ y'
 ·rw [if_pos e1, if_pos (by omega)]
 rw [if_neg e1]
 by_cases e2 : y = y'
 ·rw [if_pos ⟨e2, Nat.zero_le _⟩, if_pos (by omega)]
 rw [if_neg (fun e => e2 e.1), if_neg (by omega)]
theorem g2_zero {y x : Nat} (hy : y < 10) (hx : x < 10) : g2 (Arr.mk' (Arr.mk' 0 : Arr 10 Int) : Tb) y x = 0 := by
 have : ∀ a b : Fin 10, g2 (Arr.mk' (Arr.mk' 0 : Arr 10 Int) : Tb) a b = 0 := by decide
 exact this ⟨y, hy⟩ ⟨x, hx⟩
theorem fr1_all {m : Tb} (h : ∀ y x, y < 10 → x < 10 → g2 m y x < 0) {y : Nat} (hy : y < 10) : ∀ n, n ≤ 10 → fr1 m y n = n
  | 0, _ => rfl
  | n + 1, hn => by rw [fr1, fr1_all h hy n (by omega), if_pos (h y n hy (by omega))]
theorem frA_all {m : Tb} (h : ∀ y x, y < 10 → x < 10 → g2 m y x < 0) : ∀ n, n ≤ 10 → frA m n = n * 10
  | 0, _ => rfl
  | n + 1, hn => by rw [frA, frA_all h n (by omega), fr1_all h (by omega) 10 (Nat.le_refl _)]; omega
theorem far_ev {p : Pasture} (v : VPasture p) (hw : okW p = true) {x y : Nat} (hx : x < 10) (hy : y < 10) : ∃ m n : Tb, (∀ y x, y < 10 → x < 10 → g2 n y x = g2 m y x + 1 ∧ -1 ≤ g2 m y x ∧ g2 m y x ≤ 101) ∧ Ev (fun k => q00.f k p ([sp x y] : List Spot)) m ∧ Ev (fun k => q0w.f k p (sp x y)) n := by
 obtain ⟨m0, a1, a2⟩ := tab_ev 0 (Nat.zero_le _) (Arr.mk' (Arr.mk' 0 : Arr 10 Int) : Tb)
 have hneg : ∀ y x, y < 10 → x < 10 → g2 m0 y x < 0 := fun y x hy hx => by rw [a1 y x hy hx, if_pos (Nat.zero_le _)]; omega
 have hfr := (frA_put m0 hy hx (v := 0) (by omega) (hneg y x hy hx) 10).2 hy
 rw [frA_all hneg 10 (Nat.le_refl _)] at hfr
 have hr : Rl (put2 m0 y x 0) (put2 (Arr.mk' (Arr.mk' 0 : Arr 10 Int) : Tb) y x 1) [sp x y] := by
   refine ⟨fun a b ha hb => ?_, fun a b ha hb => ?_, fun a b ha hb => ?_, ?_, fun s hs => ⟨x, y, hx, hy, List.mem_singleton.1 hs⟩⟩
   · rw [g2_put _ hy hx, g2_put _ hy hx, g2_zero ha hb, a1 a b ha hb, if_pos (Nat.zero_le _)]
     split <;> rfl
   · rw [g2_put _ hy hx, a1 a b ha hb, if_pos (Nat.zero_le _)]
     split <;> omega
   · rw [g2_put _ hy hx, a1 a b ha hb, if_pos (Nat.zero_le _)]
     split <;> simp
   · simp only [List.length_cons, List.length_nil]; omega
 obtain ⟨m, n, h1, h2, h3⟩ := outer v hw 101 0 _ _ _ hr (Nat.zero_le _) (by simp only [List.length_cons, List.length_nil]; omega)
 have hl3 : Ev (fun k => q00.l3 ([sp x y] : List Spot) k m0 0) (put2 m0 y x 0) := by
   refine Ev.step (fun k => q00.l3.eq_2 _ _ _ _) (Ev.pos (by simp) (Ev.bind (Ev.const (show _ = some (sp x y) from rfl)) (Ev.bind (Ev.const (getR m0 hy)) (Ev.bind (Ev.const (getA _ hx)) ?_))))
   exact Ev.step (fun k => q00.l3.eq_2 _ _ _ _) (Ev.neg (by rw [show IntKind.i64.wrap (0 + 1) = 1 from by decide]; simp) (Ev.const rfl))
 exact ⟨m, n, h1, a2.bind (hl3.bind (Ev.bind (Ev.const (show q0e.f [sp x y] = some [sp x y] from rfl)) (h2.bind (Ev.const rfl)))),
   Ev.bind (Ev.const (getR _ hy)) (Ev.bind (Ev.const (getA _ hx)) (h3.bind (Ev.const rfl)))⟩
end
section

def rowF (q : Nat → Bool) (y : Nat) : Nat → Nat → List Spot
  | _, 0 => []
  | x, n + 1 => (if q x = true then [⟨(x : Int), (y : Int)⟩] else []) ++ rowF q y (x + 1) n
def gridF (q : Nat → Nat → Bool) (W : Nat) : Nat → Nat → List Spot
  | _, 0 => []
  | y, n + 1 => rowF (q y) y 0 W ++ gridF q W (y + 1) n
theorem rowF_len (q : Nat → Bool) (y : Nat) : ∀ n x : Nat, (rowF q y x n).length ≤ n
  | 0, x => by simp [rowF]
  | n + 1, x => by
    have := rowF_len q y n (x + 1)
    simp only [rowF, List.length_append]
    split <;> simp <;> omega
theorem rowF_mem {q : Nat → Bool} {y : Nat} {s : Spot} : ∀ {n x : Nat}, s ∈ rowF q y x n ↔ ∃ j : Nat, x ≤ j ∧ j < x + n ∧ q j = true ∧ s = ⟨(j : Int), (y : Int)⟩
  | 0, x => by simp only [rowF, List.not_mem_nil, false_iff]; rintro ⟨j, h1, h2, _⟩; omega
  | n + 1, x => by
    simp only [rowF, List.mem_append, rowF_mem (n := n) (x := x + 1)]
    constructor
    · rintro (h | ⟨j, h1, h2, h3⟩)
      · split at h
        · rename_i hq
          obtain rfl := List.mem_singleton.1 h
          exact ⟨x, Nat.le_refl _, by omega, hq, rfl⟩
        · simp at h
      · exact ⟨j, by omega, by omega, h3⟩
    · rintro ⟨j, h1, h2, h3, rfl⟩
      rcases Nat.eq_or_lt_of_le h1 with rfl | h4
      · left; rw [if_pos h3]; simp
      · exact .inr ⟨j, by omega, by omega, h3, rfl⟩
theorem gridF_mem {q : Nat → Nat → Bool} {W : Nat} {s : Spot} : ∀ {n y : Nat}, s ∈ gridF q W y n ↔ ∃ i j : Nat, y ≤ i ∧ i < y + n ∧ j < W ∧ q i j = true ∧ s = ⟨(j : Int), (i : Int)⟩
  | 0, y => by simp only [gridF, List.not_mem_nil, false_iff]; rintro ⟨i, j, h1, h2, _⟩; omega
  | n + 1, y => by
    simp only [gridF, List.mem_append, gridF_mem (n := n) (y := y + 1), rowF_mem]
    constructor
    · rintro (⟨j, h1, h2, h3, rfl⟩ | ⟨i, j, h1, h2, h3⟩)
      · exact ⟨y, j, Nat.le_refl _, by omega, by omega, h3, rfl⟩
      · exact ⟨i, j, by omega, by omega, h3⟩
    · rintro ⟨i, j, h1, h2, h3, h4, rfl⟩
      rcases Nat.eq_or_lt_of_le h1 with rfl | h5
      · exact .inl ⟨j, Nat.zero_le _, by omega, h4, rfl⟩
      · exact .inr ⟨i, j, by omega, by omega, h3, h4, rfl⟩
theorem cellsRow {p : Pasture} {W : Nat} (hW : p.Wide = (W : Int)) (hW' : W ≤ 10) {g : Spot → Option Bool} {q : Nat → Bool} {y : Nat} (hg : ∀ x : Nat, x < W → g ⟨(x : Int), (y : Int)⟩ = some (q x)) : ∀ (n x k : Nat) (acc : List Spot), x + n = W → n < k → acc.length + n ≤ 4000000000 →
 q0n.l2 p g (y : Int) k acc (x : Int) = some (acc ++ rowF q y x n)
  | 0, x, k + 1, acc, hx, hk, hl => by
    rw [q0n.l2, if_neg (by omega)]; simp [rowF]
  | n + 1, x, k + 1, acc, hx, hk, hl => by
    have e : IntKind.i8.wrap ((x : Int) + 1) = ((x + 1 : Nat) : Int) := by rw [w8 (by omega) (by omega)]; omega
    rw [q0n.l2, if_pos (by omega), hg x (by omega), Option.bind_some, e]
    cases hq : q x
    · rw [if_neg (by simp), cellsRow hW hW' hg n (x + 1) k acc (by omega) (by omega) (by omega)]
      simp [rowF, hq]
    · rw [if_pos rfl, chk_t (by simp; omega), Option.bind_some, cellsRow hW hW' hg n (x + 1) k _ (by omega) (by omega) (by simp; omega)]
      simp [rowF, hq]
  | _, _, 0, _, _, hk, _ => by omega
theorem cellsGrid {p : Pasture} {W H : Nat} (hW : p.Wide = (W : Int)) (hW' : W ≤ 10) (hH : p.High = (H : Int)) (hH' : H ≤ 10) {g : Spot → Option Bool} {q : Nat → Nat → Bool} (hg : ∀ y x : Nat, y < H → x < W → g ⟨(x : Int), (y : Int)⟩ = some (q y x)) : ∀ (n y k : Nat) (acc : List Spot), y + n = H → n + 12 < k → acc.length + n * 10 ≤ 4000000000 →
 q0n.l1 p g k acc (y : Int) = some (acc ++ gridF q W y n)
  | 0, y, k + 1, acc, hx, hk, hl => by
    rw [q0n.l1, if_neg (by omega)]; simp [gridF]
  | n + 1, y, k + 1, acc, hy, hk, hl => by
    have e : IntKind.i8.wrap ((y : Int) + 1) = ((y + 1 : Nat) : Int) := by rw [w8 (by omega) (by omega)]; omega
    have hr := cellsRow hW hW' (hg y · (by omega)) W 0 k acc (by omega) (by omega) (by omega)
    have hl2 := rowF_len (q y) y W 0
    rw [show ((0 : Nat) : Int) = 0 from rfl] at hr
    rw [q0n.l1, if_pos (by omega), hr, Option.bind_some, Option.bind_some, e, cellsGrid hW hW' hH hH' hg n (y + 1) k _ (by omega) (by omega) (by simp only [List.length_append]; omega)]
    simp [gridF]
  | _, _, 0, _, _, hk, _ => by omega
theorem cells_eq {p : Pasture} (hw : okW p = true) {g : Spot → Option Bool} {q : Nat → Nat → Bool} (hg : ∀ y x : Nat, y < p.High.toNat → x < p.Wide.toNat → g ⟨(x : Int), (y : Int)⟩ = some (q y x)) {k : Nat} (hk : 24 ≤ k) :
 q0n.f k p g = some (gridF q p.Wide.toNat 0 p.High.toNat) := by
 obtain ⟨a, b⟩ := okW_iff.1 hw
 unfold q0n.f
 have := cellsGrid (p := p) (W := p.Wide.toNat) (H := p.High.toNat) (by omega) (by omega) (by omega) (by omega) hg p.High.toNat 0 k [] (by omega) (by omega) (by simp; omega)
 rw [show ((0 : Nat) : Int) = 0 from rfl] at this
 rw [this]; simp
end
end Go.Proofs.YtegibnmfiogebaaGreatDoor
