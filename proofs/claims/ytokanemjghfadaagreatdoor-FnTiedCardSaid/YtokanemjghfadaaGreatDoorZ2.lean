import Derived.Test.YtokanemjghfadaaGreatDoorD2
import Derived.Test.YtokanemjghfadaaGreatDoorW4
import Derived.Test.YtokanemjghfadaaGreatDoorSD
/-
  Plain laws that are shared: steps told by cells, hurdles put or taken away, yards in order.
-/
namespace Go.Proofs.YtokanemjghfadaaGreatDoor
open G
set_option linter.unusedVariables false
set_option linter.unusedSimpArgs false
variable {W H : Nat} {p q : Pasture} {Gr : Nat → Nat → Int} {E S E' S' : Nat → Nat → Bool}
/-- A step, told by cells. -/
def stepT (W H : Nat) (E S : Nat → Nat → Bool) (y x y' x' : Nat) : Prop := (y' = y ∧ x' = x + 1 ∧ x + 1 < W ∧ E y x = false) ∨ (y' = y + 1 ∧ x' = x ∧ y + 1 < H ∧ S y x = false) ∨ (y' = y ∧ x' + 1 = x ∧ E y x' = false) ∨ (x' = x ∧ y' + 1 = y ∧ S y' x = false)
theorem nx3z (y : Nat) : nx (sp 0 y) 3 = ⟨-1, (y : Int)⟩ := by
 unfold nx sp; simp; rw [w8 (by omega) (by omega)]
theorem nx0z (x : Nat) : nx (sp x 0) 0 = ⟨(x : Int), -1⟩ := by
 unfold nx sp; simp; rw [w8 (by omega) (by omega)]
theorem open_cell {x y i : Nat} (h : openB p x y i = true) : cellB p (nx (sp x y) i).X (nx (sp x y) i).Y = true := by
 unfold openB at h
 rw [Bool.and_eq_true] at h
 exact h.1
theorem PD.step (h : PD W H Gr E S p) (hW : W ≤ 10) (hH : H ≤ 10) {y x y' x' : Nat} (hx : x < W) (hy : y < H) : stepP p y x y' x' ↔ stepT W H E S y x y' x' := by
 constructor
 ·rintro ⟨h1, h2, i, hi, ho, e⟩
  have hc := open_cell ho
  rcases (show i = 0 ∨ i = 1 ∨ i = 2 ∨ i = 3 by omega) with rfl | rfl | rfl | rfl
  ·rcases Nat.eq_zero_or_pos y with rfl | hp
   ·have e : nx (sp x 0) 0 = sp x' y' := e
    rw [nx0z] at e
    have := congrArg Spot.Y e
    have : (-1 : Int) = (y' : Int) := this
    omega
   have e : nx (sp x y) 0 = sp x' y' := e
   rw [nx0 hp (by omega)] at e
   obtain ⟨e1, e2⟩ := sp_inj' e
   have ho2 := open0 h.w h.h hW hH hp hx hy
   rw [ho, h.eS hW hH hx (by omega)] at ho2
   refine .inr (.inr (.inr ⟨e1.symm, by omega, ?_⟩))
   rw [show y' = y - 1 by omega, ← ho2]; rfl
  ·have e : nx (sp x y) 1 = sp x' y' := e
   have hc : cellB p (nx (sp x y) 1).X (nx (sp x y) 1).Y = true := hc
   rw [nx1 (by omega)] at e hc
   rw [h.cell, decide_eq_true_eq] at hc
   obtain ⟨e1, e2⟩ := sp_inj' e
   have ho2 := open1 h.w h.h hW hH hc.1 hy
   rw [ho, h.eE hW hH hc.1 hy] at ho2
   exact .inl ⟨e2.symm, e1.symm, hc.1, ho2.symm⟩
  ·have e : nx (sp x y) 2 = sp x' y' := e
   have hc : cellB p (nx (sp x y) 2).X (nx (sp x y) 2).Y = true := hc
   rw [nx2 (by omega)] at e hc
   rw [h.cell, decide_eq_true_eq] at hc
   obtain ⟨e1, e2⟩ := sp_inj' e
   have ho2 := open2 h.w h.h hW hH hx hc.2
   rw [ho, h.eS hW hH hx hc.2] at ho2
   exact .inr (.inl ⟨e2.symm, e1.symm, hc.2, ho2.symm⟩)
  rcases Nat.eq_zero_or_pos x with rfl | hp
  ·have e : nx (sp 0 y) 3 = sp x' y' := e
   rw [nx3z] at e
   have := congrArg Spot.X e
   have : (-1 : Int) = (x' : Int) := this
   omega
  have e : nx (sp x y) 3 = sp x' y' := e
  rw [nx3 hp (by omega)] at e
  obtain ⟨e1, e2⟩ := sp_inj' e
  have ho2 := open3 h.w h.h hW hH hp hx hy
  rw [ho, h.eE hW hH (by omega) hy] at ho2
  refine .inr (.inr (.inl ⟨e2.symm, by omega, ?_⟩))
  rw [show x' = x - 1 by omega, ← ho2]; rfl
 rintro (⟨rfl, rfl, c, o⟩ | ⟨rfl, rfl, c, o⟩ | ⟨rfl, rfl, o⟩ | ⟨rfl, rfl, o⟩)
 ·have ho := open1 h.w h.h hW hH c hy
  rw [h.eE hW hH c hy, o] at ho
  exact ⟨by omega, by omega, 1, by omega, by simpa using ho, nx1 (by omega)⟩
 ·have ho := open2 h.w h.h hW hH hx c
  rw [h.eS hW hH hx c, o] at ho
  exact ⟨by omega, by omega, 2, by omega, by simpa using ho, nx2 (by omega)⟩
 ·have ho := open3 h.w h.h hW hH (x := x' + 1) (by omega) hx hy
  rw [Nat.add_sub_cancel, h.eE hW hH hx hy, o] at ho
  exact ⟨by omega, by omega, 3, by omega, by simpa using ho, nx3 (x := x' + 1) (by omega) (by omega)⟩
 have ho := open0 h.w h.h hW hH (y := y' + 1) (by omega) hx hy
 rw [Nat.add_sub_cancel, h.eS hW hH hx hy, o] at ho
 exact ⟨by omega, by omega, 0, by omega, by simpa using ho, nx0 (y := y' + 1) (by omega) (by omega)⟩
end Go.Proofs.YtokanemjghfadaaGreatDoor
/-
  Plain law: what is connected; the search and the yards, told by it.
-/
namespace Go.Proofs.YtokanemjghfadaaGreatDoor
open G
set_option linter.unusedVariables false
set_option linter.unusedSimpArgs false
variable {W H : Nat} {p q : Pasture} {Gr : Nat → Nat → Int} {E S E' S' : Nat → Nat → Bool} {y x b a d c y' x' : Nat}
/-- A cell is reached from another one. -/
def Rt (W H : Nat) (E S : Nat → Nat → Bool) (y x b a : Nat) : Prop := ∀ T : Nat → Nat → Prop, (∀ y x y' x', x < W → y < H → T y x → stepT W H E S y x y' x' → T y' x') → T y x → T b a
theorem Rt.refl : Rt W H E S y x y x := fun T _ h => h
theorem Rt.trans (h : Rt W H E S y x b a) (k : Rt W H E S b a d c) : Rt W H E S y x d c := fun T hT h0 => k T hT (h T hT h0)
theorem Rt.step (hx : x < W) (hy : y < H) (s : stepT W H E S y x y' x') : Rt W H E S y x y' x' := fun T hT h0 => hT y x y' x' hx hy h0 s
theorem stepT.in_ (hx : x < W) (hy : y < H) (s : stepT W H E S y x y' x') : x' < W ∧ y' < H := by
 rcases s with ⟨rfl, rfl, c, o⟩ | ⟨rfl, rfl, c, o⟩ | ⟨rfl, rfl, o⟩ | ⟨rfl, rfl, o⟩ <;> omega
theorem stepT.symm (hx : x < W) (hy : y < H) (s : stepT W H E S y x y' x') : stepT W H E S y' x' y x := by
 rcases s with ⟨rfl, rfl, c, o⟩ | ⟨rfl, rfl, c, o⟩ | ⟨rfl, rfl, o⟩ | ⟨rfl, rfl, o⟩
 ·exact .inr (.inr (.inl ⟨rfl, rfl, o⟩))
 ·exact .inr (.inr (.inr ⟨rfl, rfl, o⟩))
 ·exact .inl ⟨rfl, rfl, hx, o⟩
 exact .inr (.inl ⟨rfl, rfl, hy, o⟩)
theorem Rt.in_ (hx : x < W) (hy : y < H) (h : Rt W H E S y x b a) : a < W ∧ b < H := h (fun b a => a < W ∧ b < H) (fun _ _ _ _ h1 h2 _ s => s.in_ h1 h2) ⟨hx, hy⟩
theorem Rt.symm (hx : x < W) (hy : y < H) (h : Rt W H E S y x b a) : Rt W H E S b a y x :=
  (h (fun b a => (a < W ∧ b < H) ∧ Rt W H E S b a y x) (fun y1 x1 y2 x2 h1 h2 h3 s => ⟨s.in_ h1 h2, (Rt.step (s.in_ h1 h2).1 (s.in_ h1 h2).2 (s.symm h1 h2)).trans h3.2⟩) ⟨⟨hx, hy⟩, Rt.refl⟩).2
/-- The search from a cell. -/
theorem far_rt (h : PD W H Gr E S p) (hG : ∀ y x, x < W → y < H → 0 ≤ Gr y x ∧ Gr y x ≤ 1000) (hW : 1 ≤ W ∧ W ≤ 10) (hH : 1 ≤ H ∧ H ≤ 10) (hx : x < W) (hy : y < H) : ∃ m n : Tb, Ev (fun k => impl_Pasture_far.f k p ([sp x y] : List Spot)) m ∧ Ev (fun k => spec_l01Steps.f k p (sp x y)) n ∧ (∀ b a, b < 10 → a < 10 → g2 n b a = g2 m b a + 1 ∧ -1 ≤ g2 m b a ∧ g2 m b a ≤ 101) ∧ ∀ b a, b < H → a < W → (0 ≤ g2 m b a ↔ Rt W H E S y x b a) := by
 have v := h.V hW.2 hH.2 hG
 have hw := vP_okW (h.ok hW hH hG)
 obtain ⟨m, n, e1, e2, d, hm⟩ := farD_ev v hw (x := x) (y := y) (by omega) (by omega)
 refine ⟨m, n, e1, e2, hm, fun b a hb ha => ⟨fun h0 => ?_, fun hr => ?_⟩⟩
 ·have key : ∀ (k b a : Nat), b < 10 → a < 10 → g2 m b a = (k : Int) → Rt W H E S y x b a ∧ a < W ∧ b < H := by
    intro k
    induction k with
    | zero =>
      intro b a hb ha e
      obtain ⟨rfl, rfl⟩ := d.one b a hb ha e
      exact ⟨Rt.refl, hx, hy⟩
    | succ k ih =>
      intro b a hb ha e
      obtain ⟨y1, x1, h1, h2, h3, h4, h5⟩ := d.pre b a hb ha (by omega)
      obtain ⟨i1, i2, i3⟩ := ih y1 x1 h1 h2 (by push_cast at e; omega)
      have s := (h.step hW.2 hH.2 i2 i3).1 h3
      exact ⟨i1.trans (Rt.step i2 i3 s), s.in_ i2 i3⟩
  obtain ⟨k, hk⟩ := Int.eq_ofNat_of_zero_le h0
  exact (key k b a (by omega) (by omega) hk).1
 exact hr (fun b a => 0 ≤ g2 m b a) (fun y1 x1 y2 x2 h1 h2 h3 s => (d.rel y1 x1 y2 x2 (by omega) (by omega) h3 ((h.step hW.2 hH.2 h1 h2).2 s)).1) (by show 0 ≤ g2 m y x; rw [d.zero]; omega)
/-- The yard of a cell. -/
theorem yard_rt (h : PD W H Gr E S p) (hG : ∀ y x, x < W → y < H → 0 ≤ Gr y x ∧ Gr y x ≤ 1000) (hW : 1 ≤ W ∧ W ≤ 10) (hH : 1 ≤ H ∧ H ≤ 10) (hx : x < W) (hy : y < H) : ∃ Y : List Spot, isYard p Y ∧ (∀ b a, b < H → a < W → (sp a b ∈ Y ↔ Rt W H E S y x b a)) ∧ Ev (fun k => spec_l01Yard.f k p (sp x y)) Y ∧ Ev (fun k => impl_Pasture_yard.f k p (sp x y)) Y := by
 have v := h.V hW.2 hH.2 hG
 have hw := vP_okW (h.ok hW hH hG)
 have eW : p.Wide.toNat = W := by rw [h.w]; omega
 have eH : p.High.toNat = H := by rw [h.h]; omega
 obtain ⟨Y, y1, y2, y3, y4, y5, y6⟩ := yard2_ev v hw (x := x) (y := y) (by omega) (by omega)
 refine ⟨Y, y1, fun b a hb ha => ⟨fun hm => ?_, fun hr => ?_⟩, y5, y6⟩
 ·refine (y4 (fun b a => (a < W ∧ b < H) ∧ Rt W H E S y x b a) (fun y1 x1 y2 x2 h1 h2 h3 s => ?_) ⟨⟨hx, hy⟩, Rt.refl⟩ b a (by omega) (by omega) hm).2
  have s := (h.step hW.2 hH.2 h3.1.1 h3.1.2).1 s
  exact ⟨s.in_ h3.1.1 h3.1.2, h3.2.trans (Rt.step h3.1.1 h3.1.2 s)⟩
 exact hr (fun b a => sp a b ∈ Y) (fun d1 c1 d2 c2 h1 h2 h3 s => y2 d1 c1 d2 c2 (by omega) (by omega) h3 ((h.step hW.2 hH.2 h1 h2).2 s)) y3
/-- A table that numbers what is connected, from 1 to n. -/
structure NT (W H : Nat) (E S : Nat → Nat → Bool) (tab : Tb) (n : Nat) : Prop where
  pos : ∀ y x, x < W → y < H → 1 ≤ g2 tab y x ∧ g2 tab y x ≤ n
  eq : ∀ y x b a, x < W → y < H → a < W → b < H → (Rt W H E S y x b a ↔ g2 tab y x = g2 tab b a)
  sur : ∀ i, i < n → ∃ y x, x < W ∧ y < H ∧ g2 tab y x = ((i + 1 : Nat) : Int)
structure N3 (W H : Nat) (E S : Nat → Nat → Bool) (tab : Tb) (n : Nat) : Prop where
  pos : ∀ y x, x < W → y < H → 0 ≤ g2 tab y x ∧ g2 tab y x ≤ n
  eq : ∀ y x b a, x < W → y < H → a < W → b < H → 0 < g2 tab y x → (Rt W H E S y x b a ↔ g2 tab y x = g2 tab b a)
  sur : ∀ i, i < n → ∃ y x, x < W ∧ y < H ∧ g2 tab y x = ((i + 1 : Nat) : Int)
end Go.Proofs.YtokanemjghfadaaGreatDoor
