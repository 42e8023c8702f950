
/-
  Plain law: how far cells lie: the two searches go the same way.
-/
import Derived.Test.YtegibnmfiogebaaGreatQP
namespace Go.Proofs.YtegibnmfiogebaaGreat
open G
set_option linter.unusedVariables false
set_option linter.unusedSimpArgs false
theorem chkT {p : Prop} [Decidable p] (h : p) : chk p = some () := if_pos h
/-! ### Tables -/
abbrev Tb := Arr 10 (Arr 10 Int)
def g2 (m : Tb) (y x : Nat) : Int := gA (gR m y) x
def put2 (m : Tb) (y x : Nat) (v : Int) : Tb := aset m y (aset (gR m y) x v)
theorem gR_set (m : Tb) {y : Nat} (hy : y < 10) (r : Arr 10 Int) (y' : Nat) : gR (aset m y r) y' = if y = y' then r else gR m y' := by
 unfold gR aset
 simp only [List.getElem?_set, m.len, hy, if_true]
 split <;> simp
theorem gA_set (a : Arr 10 Int) {x : Nat} (hx : x < 10) (v : Int) (x' : Nat) : gA (aset a x v) x' = if x = x' then v else gA a x' := by
 unfold gA aset
 simp only [List.getD_eq_getElem?_getD, List.getElem?_set, a.len, hx, if_true]
 split <;> simp
theorem g2_put (m : Tb) {y x : Nat} (hy : y < 10) (hx : x < 10) (v : Int) (y' x' : Nat) : g2 (put2 m y x v) y' x' = if y = y' ∧ x = x' then v else g2 m y' x' := by
 unfold g2 put2
 rw [gR_set m hy]
 by_cases h1 : y = y'
 ·subst h1
  rw [if_pos rfl, gA_set _ hx]
  by_cases h2 : x = x'
  ·rw [if_pos h2, if_pos ⟨rfl, h2⟩]
  rw [if_neg h2, if_neg (fun h => h2 h.2)]
 rw [if_neg h1, if_neg (fun h => h1 h.1)]
/-! ### Sides -/
def sp (x y : Nat) : Spot := ⟨(x : Int), (y : Int)⟩
def nx (s : Spot) (i : Int) : Spot := if i = 0 then ⟨s.X, IntKind.i8.wrap (s.Y - 1)⟩ else if i = 1 then ⟨IntKind.i8.wrap (s.X + 1), s.Y⟩ else if i = 2 then ⟨s.X, IntKind.i8.wrap (s.Y + 1)⟩ else ⟨IntKind.i8.wrap (s.X - 1), s.Y⟩
theorem next_eq (s : Spot) (i : Int) : spec_l01Next.f s i = some (nx s i) := by
 unfold spec_l01Next.f nx
 split
 ·rfl
 split
 ·rfl
 split <;> rfl
theorem ahead_eq (s : Spot) (i : Int) : impl_Spot_ahead.f s i = some (nx s i) := by
 unfold impl_Spot_ahead.f nx
 split
 ·rfl
 split
 ·rfl
 split <;> rfl
def btB (m : Int) (j : Nat) : Bool := decide (andI .u16 (shrI .u16 m (j : Int)) 1 = 1)
def hurB (p : Pasture) (x y : Nat) (i : Nat) : Bool := if i = 0 then btB (gA p.South (y - 1)) x else if i = 1 then btB (gA p.East y) x else if i = 2 then btB (gA p.South y) x else btB (gA p.East y) (x - 1)
def openB (p : Pasture) (x y : Nat) (i : Nat) : Bool := cellB p (nx (sp x y) i).X (nx (sp x y) i).Y && !hurB p x y i
theorem w8 {x : Int} (h : -128 ≤ x) (h' : x ≤ 127) : IntKind.i8.wrap x = x := by
 have : ∀ n : Fin 256, IntKind.i8.wrap ((n : Nat) - 128 : Int) = (n : Nat) - 128 := by decide +kernel
 have := this ⟨(x + 128).toNat, by omega⟩
 simp only at this
 rw [show (((x + 128).toNat : Nat) : Int) - 128 = x by omega] at this
 exact this
theorem nx_in {x y : Nat} (hx : x < 10) (hy : y < 10) (i : Int) : VSpot (nx (sp x y) i) := by
 have h1 : IntKind.i8.min = -128 := by decide
 have h2 : IntKind.i8.max = 127 := by decide
 have key : ∀ a b : Int, -1 ≤ a → a ≤ 10 → -1 ≤ b → b ≤ 10 → VSpot ⟨a, b⟩ := by
   intro a b g1 g2 g3 g4
   refine ⟨⟨?_, ?_⟩, ⟨?_, ?_⟩⟩ <;> simp only [h1, h2] <;> omega
 have e1 : IntKind.i8.wrap ((y : Int) - 1) = (y : Int) - 1 := w8 (by omega) (by omega)
 have e2 : IntKind.i8.wrap ((x : Int) + 1) = (x : Int) + 1 := w8 (by omega) (by omega)
 have e3 : IntKind.i8.wrap ((y : Int) + 1) = (y : Int) + 1 := w8 (by omega) (by omega)
 have e4 : IntKind.i8.wrap ((x : Int) - 1) = (x : Int) - 1 := w8 (by omega) (by omega)
 unfold nx sp
 simp only [e1, e2, e3, e4]
 split
 ·exact key _ _ (by omega) (by omega) (by omega) (by omega)
 split
 ·exact key _ _ (by omega) (by omega) (by omega) (by omega)
 split
 ·exact key _ _ (by omega) (by omega) (by omega) (by omega)
 exact key _ _ (by omega) (by omega) (by omega) (by omega)
/-- A cell. -/
theorem cellB_nat {p : Pasture} (hw : okW p = true) {s : Spot} (h : cellB p s.X s.Y = true) : ∃ x y : Nat, x < 10 ∧ y < 10 ∧ s = sp x y := by
 obtain ⟨w1, w2⟩ := okW_iff.1 hw
 unfold cellB at h
 rw [Bool.and_eq_true, decide_eq_true_eq, decide_eq_true_eq] at h
 refine ⟨s.X.toNat, s.Y.toNat, by omega, by omega, ?_⟩
 unfold sp
 cases s
 simp only at h ⊢
 congr 1 <;> omega
theorem side {i : Nat} (hi : i < 4) : i = 0 ∨ i = 1 ∨ i = 2 ∨ i = 3 := by omega
theorem u64n {x : Nat} (hx : x < 10) : IntKind.u64.wrap (x : Int) = (x : Int) := wu64 (by omega) (by omega)
theorem closed_eq {p : Pasture} (v : VPasture p) (hw : okW p = true) {x y : Nat} (hx : x < 10) (hy : y < 10) {i : Nat} (hi : i < 4) : spec_l01Closed.f p (sp x y) (i : Int) = some (!openB p x y i) := by
 unfold spec_l01Closed.f
 rw [next_eq, Option.bind_some, l01Is_eq v _ (nx_in hx hy _), Option.bind_some]
 unfold openB
 cases hc : cellB p (nx (sp x y) i).X (nx (sp x y) i).Y
 ·simp
 obtain ⟨x', y', hx', hy', e⟩ := cellB_nat hw hc
 rw [if_neg (by simp), Bool.true_and, Bool.not_not]
 have ux := u64n hx
 rcases side hi with rfl | rfl | rfl | rfl
 ·have ey : (y' : Int) = (y : Int) - 1 := by
    have := congrArg Spot.Y e
    simp only [nx, sp] at this
    rw [← this]; simp; rw [w8 (by omega) (by omega)]
  rw [if_pos (show ((0 : Nat) : Int) = 0 from rfl), e]
  show (getI p.South.l (y' : Int)).bind _ = _
  rw [getA _ hy', Option.bind_some]
  show (chk (0 ≤ IntKind.u64.wrap (x : Int))).bind _ = _
  rw [ux, chkT (by omega), Option.bind_some]
  unfold hurB btB
  rw [if_pos rfl, show y' = y - 1 by omega]
  show some (decide (andI .u16 (shrI .u16 _ (IntKind.u64.wrap (x : Int))) 1 = 1)) = _
  rw [ux]
 ·rw [if_neg (by decide), if_pos (show ((1 : Nat) : Int) = 1 from rfl)]
  show (getI p.East.l (y : Int)).bind _ = _
  rw [getA _ hy, Option.bind_some]
  show (chk (0 ≤ IntKind.u64.wrap (x : Int))).bind _ = _
  rw [ux, chkT (by omega), Option.bind_some]
  show some (decide (andI .u16 (shrI .u16 _ (IntKind.u64.wrap (x : Int))) 1 = 1)) = _
  rw [ux]; rfl
 ·rw [if_neg (by decide), if_neg (by decide), if_pos (show ((2 : Nat) : Int) = 2 from rfl)]
  show (getI p.South.l (y : Int)).bind _ = _
  rw [getA _ hy, Option.bind_some]
  show (chk (0 ≤ IntKind.u64.wrap (x : Int))).bind _ = _
  rw [ux, chkT (by omega), Option.bind_some]
  show some (decide (andI .u16 (shrI .u16 _ (IntKind.u64.wrap (x : Int))) 1 = 1)) = _
  rw [ux]; rfl
 have ex : (x' : Int) = (x : Int) - 1 := by
   have := congrArg Spot.X e
   simp only [nx, sp] at this
   rw [← this]; simp; rw [w8 (by omega) (by omega)]
 have ux' := u64n hx'
 rw [if_neg (by decide), if_neg (by decide), if_neg (by decide), e]
 show (getI p.East.l (y : Int)).bind _ = _
 rw [getA _ hy, Option.bind_some]
 show (chk (0 ≤ IntKind.u64.wrap (x' : Int))).bind _ = _
 rw [ux', chkT (by omega), Option.bind_some]
 show some (decide (andI .u16 (shrI .u16 _ (IntKind.u64.wrap (x' : Int))) 1 = 1)) = _
 rw [ux', show x' = x - 1 by omega]; rfl
theorem canGo_eq {p : Pasture} (v : VPasture p) (hw : okW p = true) {x y : Nat} (hx : x < 10) (hy : y < 10) {i : Nat} (hi : i < 4) : impl_Pasture_canGo.f p (sp x y) (i : Int) = some (openB p x y i) := by
 unfold impl_Pasture_canGo.f
 rw [ahead_eq, Option.bind_some, isCell_eq v hw _ (nx_in hx hy _), Option.bind_some]
 unfold openB
 cases hc : cellB p (nx (sp x y) i).X (nx (sp x y) i).Y
 ·simp
 obtain ⟨x', y', hx', hy', e⟩ := cellB_nat hw hc
 rw [if_pos rfl, Bool.true_and]
 have key : ∀ (hh : Hurdle) (a : Nat) (b : Nat), b < 10 → a < 10 → hh.At = sp a b → impl_Pasture_stands.f p hh = some (if hh.South = true then btB (gA p.South b) a else btB (gA p.East b) a) := by
   intro hh a b hb ha he
   unfold impl_Pasture_stands.f
   rw [he]
   cases hh.South
   · rw [if_neg (by simp), if_neg (by simp)]
     show (getI p.East.l (b : Int)).bind _ = _
     rw [getA _ hb, Option.bind_some]
     show (chk (0 ≤ (a : Int))).bind _ = _
     rw [chkT (by omega), Option.bind_some]; rfl
   · rw [if_pos rfl, if_pos rfl]
     show (getI p.South.l (b : Int)).bind _ = _
     rw [getA _ hb, Option.bind_some]
     show (chk (0 ≤ (a : Int))).bind _ = _
     rw [chkT (by omega), Option.bind_some]; rfl
 rcases side hi with rfl | rfl | rfl | rfl
 ·have ey : (y' : Int) = (y : Int) - 1 := by
    have := congrArg Spot.Y e
    simp only [nx, sp] at this
    rw [← this]; simp; rw [w8 (by omega) (by omega)]
  have ex : (x' : Int) = (x : Int) := by
    have := congrArg Spot.X e
    simp only [nx, sp] at this
    rw [← this]; simp
  have hh : impl_hurdleAt.f (sp x y) ((0 : Nat) : Int) = some ⟨nx (sp x y) ((0 : Nat) : Int), true⟩ := by
    unfold impl_hurdleAt.f; rw [ahead_eq]; rfl
  rw [hh, Option.bind_some, key _ x' y' hy' hx' e, Option.bind_some, if_pos rfl]
  unfold hurB
  rw [if_pos rfl, show y' = y - 1 by omega, show x' = x by omega]
 ·have hh : impl_hurdleAt.f (sp x y) ((1 : Nat) : Int) = some ⟨sp x y, false⟩ := rfl
  rw [hh, Option.bind_some, key _ x y hy hx rfl, Option.bind_some]; rfl
 ·have hh : impl_hurdleAt.f (sp x y) ((2 : Nat) : Int) = some ⟨sp x y, true⟩ := rfl
  rw [hh, Option.bind_some, key _ x y hy hx rfl, Option.bind_some]; rfl
 have ex : (x' : Int) = (x : Int) - 1 := by
   have := congrArg Spot.X e
   simp only [nx, sp] at this
   rw [← this]; simp; rw [w8 (by omega) (by omega)]
 have ey : (y' : Int) = (y : Int) := by
   have := congrArg Spot.Y e
   simp only [nx, sp] at this
   rw [← this]; simp
 have hh : impl_hurdleAt.f (sp x y) ((3 : Nat) : Int) = some ⟨nx (sp x y) ((3 : Nat) : Int), false⟩ := by
   unfold impl_hurdleAt.f; rw [ahead_eq]; rfl
 rw [hh, Option.bind_some, key _ x' y' hy' hx' e, Option.bind_some, if_neg (by simp)]
 unfold hurB
 rw [if_neg (by omega), if_neg (by omega), if_neg (by omega), show y' = y by omega, show x' = x - 1 by omega]
end Go.Proofs.YtegibnmfiogebaaGreat
