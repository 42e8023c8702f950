import Derived.Test.YtegibnmfiogebaaGreatQV1
import Derived.Test.YtegibnmfiogebaaGreatQE3
import Derived.Test.YtegibnmfiogebaaGreatQYe
import Derived.Test.YtegibnmfiogebaaGreatQG
/-
  Plain law: pastures told by what is in their cells.
-/
namespace Go.Proofs.YtegibnmfiogebaaGreat
open G
set_option linter.unusedVariables false
set_option linter.unusedSimpArgs false
theorem arrX {α : Type} {n : Nat} {a b : Arr n α} (h : a.l = b.l) : a = b := by cases a; cases b; simp only at h; subst h; rfl
theorem bitsX {x y : Int} (hx : 0 ≤ x ∧ x ≤ 65535) (hy : 0 ≤ y ∧ y ≤ 65535) (h : ∀ j, j < 16 → btB x j = btB y j) : x = y := by
 have e : B16 x = B16 y := by
   apply BitVec.eq_of_getLsbD_eq
   intro j hj
   rw [bit_lsb hx.1 hx.2 hj, bit_lsb hy.1 hy.2 hj, h j hj]
 have h1 : (B16 x).toNat = (B16 y).toNat := by rw [e]
 rw [BitVec.toNat_ofInt, BitVec.toNat_ofInt] at h1
 omega
theorem arr10_ext {a b : Arr 10 Int} (h : ∀ i, i < 10 → gA a i = gA b i) : a = b := by
 apply arrX
 refine List.ext_getElem (a.len.trans b.len.symm) fun i h1 h2 => ?_
 have := h i (by rw [← a.len]; exact h1)
 unfold gA at this
 rw [List.getD_eq_getElem?_getD, List.getD_eq_getElem?_getD, List.getElem?_eq_getElem h1, List.getElem?_eq_getElem h2] at this
 exact this
theorem tb_ext {a b : Tb} (h : ∀ y x, y < 10 → x < 10 → g2 a y x = g2 b y x) : a = b := by
 apply arrX
 refine List.ext_getElem (a.len.trans b.len.symm) fun i h1 h2 => ?_
 have hi : i < 10 := by rw [← a.len]; exact h1
 have e : gR a i = gR b i := arr10_ext fun j hj => h i j hi hj
 unfold gR at e
 rw [List.getElem?_eq_getElem h1, List.getElem?_eq_getElem h2] at e
 exact e
theorem bt_ext {x y : Int} (hx : 0 ≤ x ∧ x ≤ 65535) (hy : 0 ≤ y ∧ y ≤ 65535) (h : ∀ j, j < 16 → btB x j = btB y j) : x = y := bitsX hx hy h
/-- A pasture, told by its cells. -/
structure PD (W H : Nat) (Gr : Nat → Nat → Int) (E S : Nat → Nat → Bool) (p : Pasture) : Prop where
  w : p.Wide = (W : Int)
  h : p.High = (H : Int)
  g : ∀ y x, y < 10 → x < 10 → gG p y x = if x < W ∧ y < H then Gr y x else 0
  e0 : ∀ y, y < 10 → 0 ≤ gA p.East y ∧ gA p.East y ≤ 65535
  s0 : ∀ y, y < 10 → 0 ≤ gA p.South y ∧ gA p.South y ≤ 65535
  e : ∀ y j, y < 10 → j < 16 → btB (gA p.East y) j = (decide (j + 1 < W ∧ y < H) && E y j)
  s : ∀ y j, y < 10 → j < 16 → btB (gA p.South y) j = (decide (j < W ∧ y + 1 < H) && S y j)
variable {W H : Nat} {Gr Gr' : Nat → Nat → Int} {E S E' S' : Nat → Nat → Bool} {p q : Pasture}
theorem dec_and {c : Prop} [Decidable c] {a b : Bool} (h : c → a = b) : (decide c && a) = (decide c && b) := by
 by_cases hc : c
 ·rw [h hc]
 simp [hc]
theorem PD.congr (h : PD W H Gr E S p) (hg : ∀ y x, x < W → y < H → Gr y x = Gr' y x) (he : ∀ y x, x + 1 < W → y < H → E y x = E' y x) (hs : ∀ y x, x < W → y + 1 < H → S y x = S' y x) : PD W H Gr' E' S' p := by
 refine ⟨h.w, h.h, fun y x hy hx => ?_, h.e0, h.s0, fun y j hy hj => ?_, fun y j hy hj => ?_⟩
 ·rw [h.g y x hy hx]
  by_cases c : x < W ∧ y < H
  ·rw [if_pos c, if_pos c, hg y x c.1 c.2]
  rw [if_neg c, if_neg c]
 ·rw [h.e y j hy hj]; exact dec_and fun c => he y j c.1 c.2
 rw [h.s y j hy hj]; exact dec_and fun c => hs y j c.1 c.2
theorem PD.ext (h : PD W H Gr E S p) (k : PD W H Gr' E' S' q) (hg : ∀ y x, x < W → y < H → Gr y x = Gr' y x) (he : ∀ y x, x + 1 < W → y < H → E y x = E' y x) (hs : ∀ y x, x < W → y + 1 < H → S y x = S' y x) : p = q := by
 have h := h.congr hg he hs
 have h1 : p.Wide = q.Wide := h.w.trans k.w.symm
 have h2 : p.High = q.High := h.h.trans k.h.symm
 have h3 : p.Grass = q.Grass := tb_ext fun y x hy hx => (h.g y x hy hx).trans (k.g y x hy hx).symm
 have h4 : p.East = q.East := arr10_ext fun y hy => bt_ext (h.e0 y hy) (k.e0 y hy) fun j hj => (h.e y j hy hj).trans (k.e y j hy hj).symm
 have h5 : p.South = q.South := arr10_ext fun y hy => bt_ext (h.s0 y hy) (k.s0 y hy) fun j hj => (h.s y j hy hj).trans (k.s y j hy hj).symm
 cases p; cases q
 simp only at h1 h2 h3 h4 h5
 subst h1 h2 h3 h4 h5; rfl
theorem PD.rows (h : PD W H Gr E S p) : Rows p := by
 refine ⟨fun y hy => ⟨h.e0 y hy, fun j hj hb => ?_⟩, fun y hy => ⟨h.s0 y hy, fun j hj hb => ?_⟩⟩
 ·rw [h.e y j hy hj, Bool.and_eq_true, decide_eq_true_eq] at hb
  rw [h.w, h.h]; omega
 rw [h.s y j hy hj, Bool.and_eq_true, decide_eq_true_eq] at hb
 rw [h.w, h.h]; omega
theorem PD.of (v : VPasture p) (hp : vP p = true) : PD p.Wide.toNat p.High.toNat (gG p) (fun y x => btB (gA p.East y) x) (fun y x => btB (gA p.South y) x) p := by
 obtain ⟨w1, w2⟩ := okW_iff.1 (vP_okW hp)
 have hr := vP_rows v hp
 refine ⟨by omega, by omega, fun y x hy hx => ?_, fun y hy => (hr.e y hy).1, fun y hy => (hr.s y hy).1, fun y j hy hj => ?_, fun y j hy hj => ?_⟩
 ·by_cases c : x < p.Wide.toNat ∧ y < p.High.toNat
  ·rw [if_pos c]
  rw [if_neg c]
  refine (vP_G hp hy hx).2 ?_
  unfold cellB
  rw [Bool.and_eq_false_iff, decide_eq_false_iff_not, decide_eq_false_iff_not]
  omega
 ·cases hb : btB (gA p.East y) j
  ·simp
  have := (hr.e y hy).2 j hj hb
  rw [decide_eq_true (by omega)]; rfl
 cases hb : btB (gA p.South y) j
 ·simp
 have := (hr.s y hy).2 j hj hb
 rw [decide_eq_true (by omega)]; rfl
theorem PD.V (h : PD W H Gr E S p) (hW : W ≤ 10) (hH : H ≤ 10) (hg : ∀ y x, x < W → y < H → 0 ≤ Gr y x ∧ Gr y x ≤ 1000) : VPasture p := by
 have i8 : IntKind.i8.min = -128 ∧ IntKind.i8.max = 127 := by decide
 have i16 : IntKind.i16.min = -32768 ∧ IntKind.i16.max = 32767 := by decide
 have u16' : IntKind.u16.min = 0 ∧ IntKind.u16.max = 65535 := by decide
 refine ⟨?_, ?_, fun r hr x hx => ?_, fun x hx => ?_, fun x hx => ?_⟩
 ·unfold inI; rw [i8.1, i8.2, h.w]; omega
 ·unfold inI; rw [i8.1, i8.2, h.h]; omega
 ·obtain ⟨y, hy, e⟩ := arr_at p.Grass hr
  obtain ⟨j, hj, e2⟩ := arr_at r hx
  have : gG p y j = x := by unfold gG gR gA; rw [e]; simp [List.getD_eq_getElem?_getD, e2]
  have hgg := h.g y j hy hj
  rw [this] at hgg
  unfold inI; rw [i16.1, i16.2]
  by_cases c : j < W ∧ y < H
  ·rw [if_pos c] at hgg; have := hg y j c.1 c.2; omega
  rw [if_neg c] at hgg; omega
 ·obtain ⟨y, hy, e⟩ := arr_at p.East hx
  have : gA p.East y = x := by unfold gA; simp [List.getD_eq_getElem?_getD, e]
  have := h.e0 y hy
  unfold inI; rw [u16'.1, u16'.2]; omega
 obtain ⟨y, hy, e⟩ := arr_at p.South hx
 have : gA p.South y = x := by unfold gA; simp [List.getD_eq_getElem?_getD, e]
 have := h.s0 y hy
 unfold inI; rw [u16'.1, u16'.2]; omega
theorem PD.okW (h : PD W H Gr E S p) (hW : 1 ≤ W ∧ W ≤ 10) (hH : 1 ≤ H ∧ H ≤ 10) : okW p = true := by
 rw [okW_iff, h.w, h.h]; omega
theorem PD.ok (h : PD W H Gr E S p) (hW : 1 ≤ W ∧ W ≤ 10) (hH : 1 ≤ H ∧ H ≤ 10) (hg : ∀ y x, x < W → y < H → 0 ≤ Gr y x ∧ Gr y x ≤ 1000) : vP p = true := by
 refine rows_ok (h.okW hW hH) (fun y x hy hx => ?_) h.rows
 have hgg := h.g y x hy hx
 unfold okG cellB
 simp only [Bool.and_eq_true, Bool.or_eq_true, decide_eq_true_eq, h.w, h.h]
 by_cases c : x < W ∧ y < H
 ·rw [if_pos c] at hgg
  have := hg y x c.1 c.2
  exact ⟨by omega, .inr (by omega)⟩
 rw [if_neg c] at hgg
 exact ⟨by omega, .inl (by omega)⟩
/-! ### Changes -/
def upd {α : Type} (F : Nat → Nat → α) (y x : Nat) (v : α) : Nat → Nat → α := fun b a => if b = y ∧ a = x then v else F b a
theorem PD.grass (h : PD W H Gr E S p) {x y : Nat} (hx : x < 10) (hy : y < 10) (hxW : x < W) (hyH : y < H) (v : Int) : PD W H (upd Gr y x v) E S ⟨p.Wide, p.High, put2 p.Grass y x v, p.East, p.South⟩ := by
 refine ⟨h.w, h.h, fun b a hb ha => ?_, h.e0, h.s0, h.e, h.s⟩
 have e : gG ⟨p.Wide, p.High, put2 p.Grass y x v, p.East, p.South⟩ b a = if y = b ∧ x = a then v else gG p b a := g2_put p.Grass hy hx v b a
 rw [e, h.g b a hb ha]
 unfold upd
 by_cases c : y = b ∧ x = a
 ·obtain ⟨rfl, rfl⟩ := c
  rw [if_pos ⟨rfl, rfl⟩, if_pos ⟨hxW, hyH⟩, if_pos ⟨rfl, rfl⟩]
 rw [if_neg c, if_neg (show ¬ (b = y ∧ a = x) by omega)]
def putB (p : Pasture) (x y : Nat) (s on : Bool) : Pasture := if on = true then putT p x y s else putF p x y s
theorem bit_put2 {m : Int} (h : 0 ≤ m) (h' : m ≤ 65535) {i j : Nat} (hi : i < 16) (hj : j < 16) (on : Bool) : btB (if on = true then orI .u16 (andNotI .u16 m (shlI .u16 1 (i : Int))) (shlI .u16 1 (i : Int)) else andNotI .u16 m (shlI .u16 1 (i : Int))) j = if j = i then on else btB m j := by
 cases on
 ·rw [if_neg (by simp), bit_clear h h' hi hj]
  by_cases e : j = i
  ·subst e; simp
  rw [decide_eq_false (fun z => e z.symm), if_neg e]; simp
 rw [if_pos rfl, bit_putT h h' hi hj]
 by_cases e : j = i
 ·subst e; simp
 rw [decide_eq_false (fun z => e z.symm), if_neg e]; simp
theorem PD.put (h : PD W H Gr E S p) {x y : Nat} (hx : x < 10) (hy : y < 10) (s on : Bool) (hin : on = true → if s = true then x < W ∧ y + 1 < H else x + 1 < W ∧ y < H) : PD W H Gr (if s = true then E else upd E y x on) (if s = true then upd S y x on else S) (putB p x y s on) := by
 have rng : ∀ m : Int, 0 ≤ (if on = true then orI .u16 (andNotI .u16 m (shlI .u16 1 (x : Int))) (shlI .u16 1 (x : Int)) else andNotI .u16 m (shlI .u16 1 (x : Int))) ∧ (if on = true then orI .u16 (andNotI .u16 m (shlI .u16 1 (x : Int))) (shlI .u16 1 (x : Int)) else andNotI .u16 m (shlI .u16 1 (x : Int))) ≤ 65535 := fun m => by
   split
   · exact or_in _ _
   · exact andNot_in _ _
 cases s
 ·simp only [Bool.false_eq_true, if_false] at hin ⊢
  have eE : ∀ b, gA (putB p x y false on).East b = if y = b then (if on = true then orI .u16 (andNotI .u16 (gA p.East y) (shlI .u16 1 (x : Int))) (shlI .u16 1 (x : Int)) else andNotI .u16 (gA p.East y) (shlI .u16 1 (x : Int))) else gA p.East b := fun b => by
    cases on
    · exact gA_set p.East hy _ b
    · exact gA_set p.East hy _ b
  have eS : (putB p x y false on).South = p.South := by cases on <;> rfl
  have eG : (putB p x y false on).Grass = p.Grass := by cases on <;> rfl
  have eW : (putB p x y false on).Wide = p.Wide := by cases on <;> rfl
  have eH : (putB p x y false on).High = p.High := by cases on <;> rfl
  refine ⟨eW.trans h.w, eH.trans h.h, fun b a hb ha => by unfold gG; rw [eG]; exact h.g b a hb ha, fun b hb => ?_, fun b hb => by rw [eS]; exact h.s0 b hb, fun b j hb hj => ?_, fun b j hb hj => by rw [eS]; exact h.s b j hb hj⟩
  ·rw [eE b]
   by_cases e1 : y = b
   ·rw [if_pos e1]; exact rng _
   rw [if_neg e1]; exact h.e0 b hb
  rw [eE b]
  unfold upd
  by_cases e1 : y = b
  ·subst e1
   rw [if_pos rfl, bit_put2 (h.e0 y hy).1 (h.e0 y hy).2 (by omega) hj]
   by_cases e2 : j = x
   ·subst e2
    rw [if_pos rfl, if_pos ⟨rfl, rfl⟩]
    cases on
    ·simp
    rw [decide_eq_true (hin rfl)]; rfl
   rw [if_neg e2, if_neg (fun z => e2 z.2)]; exact h.e y j hy hj
  rw [if_neg e1, if_neg (fun z => e1 z.1.symm)]; exact h.e b j hb hj
 simp only [if_true] at hin ⊢
 have eS : ∀ b, gA (putB p x y true on).South b = if y = b then (if on = true then orI .u16 (andNotI .u16 (gA p.South y) (shlI .u16 1 (x : Int))) (shlI .u16 1 (x : Int)) else andNotI .u16 (gA p.South y) (shlI .u16 1 (x : Int))) else gA p.South b := fun b => by
   cases on
   · exact gA_set p.South hy _ b
   · exact gA_set p.South hy _ b
 have eE : (putB p x y true on).East = p.East := by cases on <;> rfl
 have eG : (putB p x y true on).Grass = p.Grass := by cases on <;> rfl
 have eW : (putB p x y true on).Wide = p.Wide := by cases on <;> rfl
 have eH : (putB p x y true on).High = p.High := by cases on <;> rfl
 refine ⟨eW.trans h.w, eH.trans h.h, fun b a hb ha => by unfold gG; rw [eG]; exact h.g b a hb ha, fun b hb => by rw [eE]; exact h.e0 b hb, fun b hb => ?_, fun b j hb hj => by rw [eE]; exact h.e b j hb hj, fun b j hb hj => ?_⟩
 ·rw [eS b]
  by_cases e1 : y = b
  ·rw [if_pos e1]; exact rng _
  rw [if_neg e1]; exact h.s0 b hb
 rw [eS b]
 unfold upd
 by_cases e1 : y = b
 ·subst e1
  rw [if_pos rfl, bit_put2 (h.s0 y hy).1 (h.s0 y hy).2 (by omega) hj]
  by_cases e2 : j = x
  ·subst e2
   rw [if_pos rfl, if_pos ⟨rfl, rfl⟩]
   cases on
   ·simp
   rw [decide_eq_true (hin rfl)]; rfl
  rw [if_neg e2, if_neg (fun z => e2 z.2)]; exact h.s y j hy hj
 rw [if_neg e1, if_neg (fun z => e1 z.1.symm)]; exact h.s b j hb hj
theorem putI_eq (p : Pasture) {x y : Nat} (hx : x < 10) (hy : y < 10) (s on : Bool) : impl_Pasture_put.f p (hu x y s) on = some (putB p x y s on) := by
 cases on
 ·exact put_eq p hx hy s
 have g1 : ∀ a : Arr 10 Int, getI a.l (y : Int) = some (gA a y) := fun a => getA a hy
 have e1 : ∀ (a : Arr 10 Int) (v : Int), gA (aset a y v) y = v := fun a v => by rw [gA_set a hy, if_pos rfl]
 have c : chk (0 ≤ (x : Int)) = some () := chkT (by omega)
 cases s
 ·simp [impl_Pasture_put.f, hu, sp, chk, g1, e1, putB, putT, aset_aset]
 simp [impl_Pasture_put.f, hu, sp, chk, g1, e1, putB, putT, aset_aset]
theorem putS_eq (p : Pasture) {x y : Nat} (hx : x < 10) (hy : y < 10) (s on : Bool) : spec_l01Set.f p (sp x y) (if s = true then 2 else 1) on = some (putB p x y s on) := by
 cases on
 ·have := set_eq p hx hy s
  cases s
  ·exact this
  exact this
 exact setT_eq p hx hy s
/-! ### Cell by cell -/
variable {y x : Nat}
def Dn {α : Type} (d : α) (y0 x0 : Nat) (F : Nat → Nat → α) : Nat → Nat → α := fun y x => if y < y0 ∨ (y = y0 ∧ x < x0) then F y x else d
/-- All three of a cell. -/
abbrev PDn (W H : Nat) (Gr : Nat → Nat → Int) (E S : Nat → Nat → Bool) (y x : Nat) (p : Pasture) : Prop := PD W H (Dn 0 y x Gr) (Dn false y x E) (Dn false y x S) p
theorem PDn.row (h : PDn W H Gr E S y W p) : PDn W H Gr E S (y + 1) 0 p := by
 refine PD.congr h (fun b a h1 h2 => ?_) (fun b a h1 h2 => ?_) (fun b a h1 h2 => ?_)
 all_goals
   unfold Dn
   by_cases d : b < y ∨ b = y ∧ a < W
   · rw [if_pos d, if_pos (by omega)]
   · rw [if_neg d, if_neg (by omega)]
theorem PDn.all (h : PDn W H Gr E S H 0 p) : PD W H Gr E S p := by
 refine PD.congr h (fun b a h1 h2 => ?_) (fun b a h1 h2 => ?_) (fun b a h1 h2 => ?_)
 all_goals
   unfold Dn
   rw [if_pos (by omega)]
theorem PDn.start (W H : Nat) (Gr : Nat → Nat → Int) (E S : Nat → Nat → Bool) : PDn W H Gr E S 0 0 (⟨(W : Int), (H : Int), (Arr.mk' (Arr.mk' 0 : Arr 10 Int) : Arr 10 (Arr 10 Int)), (Arr.mk' 0 : Arr 10 Int), (Arr.mk' 0 : Arr 10 Int)⟩ : Pasture) := by
 have n0 : ∀ y x : Nat, ¬ (y < 0 ∨ y = 0 ∧ x < 0) := fun y x => by omega
 refine ⟨rfl, rfl, fun y x hy hx => ?_, fun y hy => ?_, fun y hy => ?_, fun y j hy hj => ?_, fun y j hy hj => ?_⟩
 ·unfold Dn
  rw [if_neg (n0 y x), ite_self]
  exact gG_zero hy hx
 ·show 0 ≤ gA (Arr.mk' 0 : Arr 10 Int) y ∧ gA (Arr.mk' 0 : Arr 10 Int) y ≤ 65535
  rw [gA_zero hy]; omega
 ·show 0 ≤ gA (Arr.mk' 0 : Arr 10 Int) y ∧ gA (Arr.mk' 0 : Arr 10 Int) y ≤ 65535
  rw [gA_zero hy]; omega
 ·show btB (gA (Arr.mk' 0 : Arr 10 Int) y) j = _
  unfold Dn
  rw [gA_zero hy, bt_zero, if_neg (n0 y j), Bool.and_false]
 show btB (gA (Arr.mk' 0 : Arr 10 Int) y) j = _
 unfold Dn
 rw [gA_zero hy, bt_zero, if_neg (n0 y j), Bool.and_false]
end Go.Proofs.YtegibnmfiogebaaGreat
/-
  Plain law: pastures that are mirrored or turned.
-/
namespace Go.Proofs.YtegibnmfiogebaaGreat
open G
set_option linter.unusedVariables false
set_option linter.unusedSimpArgs false
variable {W H : Nat} {Gr : Nat → Nat → Int} {E S : Nat → Nat → Bool} {p q : Pasture}
theorem nx_inj {a b : Nat} (ha : a < 10) (hb : b < 10) {i j : Nat} (hi : i < 4) (hj : j < 4) (h : nx (sp a b) (i : Int) = nx (sp a b) (j : Int)) : i = j := by
 have w1 : ∀ z : Nat, z < 10 → IntKind.i8.wrap ((z : Int) + 1) = (z : Int) + 1 := fun z hz => w8 (by omega) (by omega)
 have w2 : ∀ z : Nat, z < 10 → IntKind.i8.wrap ((z : Int) - 1) = (z : Int) - 1 := fun z hz => w8 (by omega) (by omega)
 rcases side hi with rfl | rfl | rfl | rfl <;> rcases side hj with rfl | rfl | rfl | rfl <;> simp [nx, sp, w1 a ha, w1 b hb, w2 a ha, w2 b hb] at h ⊢ <;> omega
/-- Where the cells of a pasture come from. -/
structure From (p : Pasture) (W H : Nat) (a3 : Spot → Option Spot) (fx fy : Nat → Nat → Nat) (kE kS : Nat) : Prop where
  at_ : ∀ y x, x < W → y < H → a3 (sp x y) = some (sp (fx y x) (fy y x)) ∧ fx y x < 10 ∧ fy y x < 10
  k4E : kE < 4
  k4S : kS < 4
  e : ∀ y x, x + 1 < W → y < H → sp (fx y (x + 1)) (fy y (x + 1)) = nx (sp (fx y x) (fy y x)) (kE : Int)
  s : ∀ y x, x < W → y + 1 < H → sp (fx (y + 1) x) (fy (y + 1) x) = nx (sp (fx y x) (fy y x)) (kS : Int)
theorem nx1 {x y : Nat} (hx : x < 10) : nx (sp x y) 1 = sp (x + 1) y := by
 unfold nx sp; simp; rw [w8 (by omega) (by omega)]
theorem nx2 {x y : Nat} (hy : y < 10) : nx (sp x y) 2 = sp x (y + 1) := by
 unfold nx sp; simp; rw [w8 (by omega) (by omega)]
theorem PD.cell (h : PD W H Gr E S p) (x y : Nat) : cellB p (sp x y).X (sp x y).Y = decide (x < W ∧ y < H) := by
 unfold cellB sp
 rw [h.w, h.h, Bool.eq_iff_iff]
 simp only [Bool.and_eq_true, decide_eq_true_eq]
 omega
end Go.Proofs.YtegibnmfiogebaaGreat
/-
  Plain law: pastures that are mirrored or turned, by the reference too.
-/
namespace Go.Proofs.YtegibnmfiogebaaGreat
open G
set_option linter.unusedVariables false
set_option linter.unusedSimpArgs false
variable {W H : Nat} {p q : Pasture}
theorem nx0 {x y : Nat} (h1 : 1 ≤ y) (hy : y < 10) : nx (sp x y) 0 = sp x (y - 1) := by
 unfold nx sp; simp; rw [w8 (by omega) (by omega)]; omega
theorem nx3 {x y : Nat} (h1 : 1 ≤ x) (hx : x < 10) : nx (sp x y) 3 = sp (x - 1) y := by
 unfold nx sp; simp; rw [w8 (by omega) (by omega)]; omega
/-! ### Mirrored -/
/-! ### Turned -/
/-! ### What stands in cells -/
theorem open1 (hW : p.Wide = (W : Int)) (hH : p.High = (H : Int)) (hW' : W ≤ 10) (hH' : H ≤ 10) {x y : Nat} (hx : x + 1 < W) (hy : y < H) : (!openB p x y 1) = btB (gA p.East y) x := by
 have hc : cellB p (nx (sp x y) (1 : Int)).X (nx (sp x y) (1 : Int)).Y = true := by
   rw [nx1 (by omega)]
   unfold cellB sp
   rw [hW, hH]
   simp only [Bool.and_eq_true, decide_eq_true_eq]
   omega
 show (!(cellB p (nx (sp x y) (1 : Int)).X (nx (sp x y) (1 : Int)).Y && !btB (gA p.East y) x)) = _
 rw [hc]; simp
theorem open2 (hW : p.Wide = (W : Int)) (hH : p.High = (H : Int)) (hW' : W ≤ 10) (hH' : H ≤ 10) {x y : Nat} (hx : x < W) (hy : y + 1 < H) : (!openB p x y 2) = btB (gA p.South y) x := by
 have hc : cellB p (nx (sp x y) (2 : Int)).X (nx (sp x y) (2 : Int)).Y = true := by
   rw [nx2 (by omega)]
   unfold cellB sp
   rw [hW, hH]
   simp only [Bool.and_eq_true, decide_eq_true_eq]
   omega
 show (!(cellB p (nx (sp x y) (2 : Int)).X (nx (sp x y) (2 : Int)).Y && !btB (gA p.South y) x)) = _
 rw [hc]; simp
theorem open3 (hW : p.Wide = (W : Int)) (hH : p.High = (H : Int)) (hW' : W ≤ 10) (hH' : H ≤ 10) {x y : Nat} (h1 : 1 ≤ x) (hx : x < W) (hy : y < H) : (!openB p x y 3) = btB (gA p.East y) (x - 1) := by
 have hc : cellB p (nx (sp x y) (3 : Int)).X (nx (sp x y) (3 : Int)).Y = true := by
   rw [nx3 h1 (by omega)]
   unfold cellB sp
   rw [hW, hH]
   simp only [Bool.and_eq_true, decide_eq_true_eq]
   omega
 show (!(cellB p (nx (sp x y) (3 : Int)).X (nx (sp x y) (3 : Int)).Y && !btB (gA p.East y) (x - 1))) = _
 rw [hc]; simp
theorem open0 (hW : p.Wide = (W : Int)) (hH : p.High = (H : Int)) (hW' : W ≤ 10) (hH' : H ≤ 10) {x y : Nat} (h1 : 1 ≤ y) (hx : x < W) (hy : y < H) : (!openB p x y 0) = btB (gA p.South (y - 1)) x := by
 have hc : cellB p (nx (sp x y) (0 : Int)).X (nx (sp x y) (0 : Int)).Y = true := by
   rw [nx0 h1 (by omega)]
   unfold cellB sp
   rw [hW, hH]
   simp only [Bool.and_eq_true, decide_eq_true_eq]
   omega
 show (!(cellB p (nx (sp x y) (0 : Int)).X (nx (sp x y) (0 : Int)).Y && !btB (gA p.South (y - 1)) x)) = _
 rw [hc]; simp
variable {Gr : Nat → Nat → Int} {E S : Nat → Nat → Bool}
theorem PD.eE (h : PD W H Gr E S p) (hW : W ≤ 10) (hH : H ≤ 10) {x y : Nat} (hx : x + 1 < W) (hy : y < H) : btB (gA p.East y) x = E y x := by
 rw [h.e y x (by omega) (by omega), decide_eq_true ⟨hx, hy⟩]; rfl
theorem PD.eS (h : PD W H Gr E S p) (hW : W ≤ 10) (hH : H ≤ 10) {x y : Nat} (hx : x < W) (hy : y + 1 < H) : btB (gA p.South y) x = S y x := by
 rw [h.s y x (by omega) (by omega), decide_eq_true ⟨hx, hy⟩]; rfl
end Go.Proofs.YtegibnmfiogebaaGreat
/-
  Plain law: how many hurdles and how much grass there is.
-/
namespace Go.Proofs.YtegibnmfiogebaaGreat
open G
set_option linter.unusedVariables false
set_option linter.unusedSimpArgs false
variable {W H : Nat} {p q : Pasture} {Gr : Nat → Nat → Int} {E S : Nat → Nat → Bool}
/-! ### Sums -/
/-! ### Grass -/
/-! ### Hurdles -/
def cS (W H : Nat) (S : Nat → Nat → Bool) : Nat → Nat → Int := fun y x => if y + 1 < H then (if S y x = true then 1 else 0) else 0
/-! ### Turned: as many -/
end Go.Proofs.YtegibnmfiogebaaGreat
