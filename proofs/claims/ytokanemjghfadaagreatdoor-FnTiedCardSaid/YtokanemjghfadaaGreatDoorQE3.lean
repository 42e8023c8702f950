import Derived.Test.YtokanemjghfadaaGreatDoorQD4
import Derived.Test.YtokanemjghfadaaGreatDoorQC

/-
  Plain laws: sides of cells: which there are, which stand.
-/
namespace Go.Proofs.YtokanemjghfadaaGreatDoor
open G
set_option linter.unusedVariables false
set_option linter.unusedSimpArgs false
def hu (x y : Nat) (s : Bool) : Hurdle := ⟨sp x y, s⟩
def sdI (s : Bool) : Nat := if s = true then 2 else 1
def isB (p : Pasture) (x y : Nat) (s : Bool) : Bool := cellB p (nx (sp x y) (sdI s)).X (nx (sp x y) (sdI s)).Y
def stB (p : Pasture) (x y : Nat) (s : Bool) : Bool := if s = true then btB (gA p.South y) x else btB (gA p.East y) x
/-! ### All sides, cell by cell -/
def cellH (p : Pasture) (x y : Nat) : List Hurdle := (if isB p x y false = true then [hu x y false] else []) ++ (if isB p x y true = true then [hu x y true] else [])
theorem cellB_grid {p : Pasture} (hw : okW p = true) {x y : Nat} (hx : x < p.Wide.toNat) (hy : y < p.High.toNat) : cellB p (x : Int) (y : Int) = true := by
 obtain ⟨a, b⟩ := okW_iff.1 hw
 unfold cellB
 rw [Bool.and_eq_true, decide_eq_true_eq, decide_eq_true_eq]
 omega
end Go.Proofs.YtokanemjghfadaaGreatDoor
/-
  Plain laws: the hurdles that stand; one hurdle taken away.
-/
namespace Go.Proofs.YtokanemjghfadaaGreatDoor
open G
set_option linter.unusedVariables false
set_option linter.unusedSimpArgs false
/-- A side that is told. -/
def told (p : Pasture) (h : Hurdle) : Prop := ∃ (x y : Nat) (s : Bool), x < p.Wide.toNat ∧ y < p.High.toNat ∧ isB p x y s = true ∧ h = hu x y s
def stH (p : Pasture) (h : Hurdle) : Bool := stB p h.At.X.toNat h.At.Y.toNat h.South
/-! ### The program's -/
end Go.Proofs.YtokanemjghfadaaGreatDoor
/-
  Plain laws: the program's standing hurdles; one hurdle taken away.
-/
namespace Go.Proofs.YtokanemjghfadaaGreatDoor
open G
set_option linter.unusedVariables false
set_option linter.unusedSimpArgs false
def fl (p : Pasture) (l : List Spot) : List Hurdle := l.flatMap fun s => (cellH p s.X.toNat s.Y.toNat).filter (stH p)
/-! ### One hurdle taken away -/
def putF (p : Pasture) (x y : Nat) (s : Bool) : Pasture := if s = true then ⟨p.Wide, p.High, p.Grass, p.East, aset p.South y (andNotI .u16 (gA p.South y) (shlI .u16 1 (x : Int)))⟩ else ⟨p.Wide, p.High, p.Grass, aset p.East y (andNotI .u16 (gA p.East y) (shlI .u16 1 (x : Int))), p.South⟩
end Go.Proofs.YtokanemjghfadaaGreatDoor
