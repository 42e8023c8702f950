
/-
  Plain law: pastures that are drawn are in order.
-/
import Derived.Test.YtokanemjghfadaaGreatDoorQBt
import Derived.Test.YtokanemjghfadaaGreatDoorSD
namespace Go.Proofs.YtokanemjghfadaaGreatDoor
open G
set_option linter.unusedVariables false
set_option linter.unusedSimpArgs false
set_option maxRecDepth 100000
/-! ### When a pasture is in order -/
/-- The bits of the rows of hurdles lie within. -/
structure Rows (p : Pasture) : Prop where
  e : ∀ y, y < 10 → (0 ≤ gA p.East y ∧ gA p.East y ≤ 65535) ∧ ∀ j, j < 16 → btB (gA p.East y) j = true → (j : Int) + 1 < p.Wide ∧ (y : Int) < p.High
  s : ∀ y, y < 10 → (0 ≤ gA p.South y ∧ gA p.South y ≤ 65535) ∧ ∀ j, j < 16 → btB (gA p.South y) j = true → (j : Int) < p.Wide ∧ (y : Int) + 1 < p.High
theorem mask_in {k : Nat} (hk : k ≤ 15) : 0 ≤ (2 ^ k - 1 : Int) ∧ (2 ^ k - 1 : Int) ≤ 65535 := by
 have h1 : (2 : Nat) ^ k ≤ 2 ^ 15 := Nat.pow_le_pow_right (by omega) hk
 have h2 : 0 < 2 ^ k := Nat.two_pow_pos k
 have e : (2 ^ k - 1 : Int) = ((2 ^ k - 1 : Nat) : Int) := by rw [Int.natCast_sub (by omega)]; push_cast; rfl
 rw [e]; omega
theorem rows_ok {p : Pasture} (hw : okW p = true) (hg : ∀ y x, y < 10 → x < 10 → okG p y x = true) (h : Rows p) : vP p = true := by
 obtain ⟨a, b⟩ := okW_iff.1 hw
 unfold vP
 rw [hw, Bool.true_and, upA_iff]
 intro y _ hy
 have hy : y < 10 := by omega
 unfold okR
 rw [Bool.and_eq_true, Bool.and_eq_true, decide_eq_true_eq, decide_eq_true_eq, upA_iff]
 obtain ⟨⟨e0, e1⟩, e2⟩ := h.e y hy
 obtain ⟨⟨s0, s1⟩, s2⟩ := h.s y hy
 refine ⟨fun x _ hx => hg y x hy (by omega), ?_, ?_⟩
 ·unfold eMask
  by_cases hh : (y : Int) < p.High
  ·rw [if_pos hh]
   obtain ⟨m0, m1⟩ := mask_in (k := p.Wide.toNat - 1) (by omega)
   rw [sub_mask e0 e1 m0 m1]
   intro j hj hb
   rw [bt_mask (by omega) (by omega)]
   have := e2 j hj hb
   exact decide_eq_true (by omega)
  rw [if_neg hh, sub_mask e0 e1 (by omega) (by omega)]
  intro j hj hb
  exact absurd (e2 j hj hb).2 hh
 unfold sMask
 by_cases hh : (y : Int) + 1 < p.High
 ·rw [if_pos hh]
  obtain ⟨m0, m1⟩ := mask_in (k := p.Wide.toNat) (by omega)
  rw [sub_mask s0 s1 m0 m1]
  intro j hj hb
  rw [bt_mask (by omega) (by omega)]
  have := s2 j hj hb
  exact decide_eq_true (by omega)
 rw [if_neg hh, sub_mask s0 s1 (by omega) (by omega)]
 intro j hj hb
 exact absurd (s2 j hj hb).2 hh
theorem vP_rows {p : Pasture} (v : VPasture p) (h : vP p = true) : Rows p := by
 have hw := vP_okW h
 obtain ⟨a, b⟩ := okW_iff.1 hw
 unfold vP at h
 rw [hw, Bool.true_and, upA_iff] at h
 have hE : ∀ y, y < 10 → 0 ≤ gA p.East y ∧ gA p.East y ≤ 65535 := fun y hy => u16b (v.2.2.2.1 _ (gA_mem _ hy))
 have hS : ∀ y, y < 10 → 0 ≤ gA p.South y ∧ gA p.South y ≤ 65535 := fun y hy => u16b (v.2.2.2.2 _ (gA_mem _ hy))
 refine ⟨fun y hy => ⟨hE y hy, ?_⟩, fun y hy => ⟨hS y hy, ?_⟩⟩
 ·have := h y (Nat.zero_le _) (by omega)
  unfold okR at this
  rw [Bool.and_eq_true, Bool.and_eq_true, decide_eq_true_eq, decide_eq_true_eq] at this
  obtain ⟨_, he, _⟩ := this
  unfold eMask at he
  by_cases hh : (y : Int) < p.High
  ·rw [if_pos hh] at he
   obtain ⟨m0, m1⟩ := mask_in (k := p.Wide.toNat - 1) (by omega)
   rw [sub_mask (hE y hy).1 (hE y hy).2 m0 m1] at he
   intro j hj hb
   have := he j hj hb
   rw [bt_mask (by omega) (by omega), decide_eq_true_eq] at this
   omega
  rw [if_neg hh, sub_mask (hE y hy).1 (hE y hy).2 (by omega) (by omega)] at he
  intro j hj hb
  have := he j hj hb
  rw [bt_zero] at this; cases this
 have := h y (Nat.zero_le _) (by omega)
 unfold okR at this
 rw [Bool.and_eq_true, Bool.and_eq_true, decide_eq_true_eq, decide_eq_true_eq] at this
 obtain ⟨_, _, he⟩ := this
 unfold sMask at he
 by_cases hh : (y : Int) + 1 < p.High
 ·rw [if_pos hh] at he
  obtain ⟨m0, m1⟩ := mask_in (k := p.Wide.toNat) (by omega)
  rw [sub_mask (hS y hy).1 (hS y hy).2 m0 m1] at he
  intro j hj hb
  have := he j hj hb
  rw [bt_mask (by omega) (by omega), decide_eq_true_eq] at this
  omega
 rw [if_neg hh, sub_mask (hS y hy).1 (hS y hy).2 (by omega) (by omega)] at he
 intro j hj hb
 have := he j hj hb
 rw [bt_zero] at this; cases this
/-! ### A hurdle that is put -/
def putT (p : Pasture) (x y : Nat) (s : Bool) : Pasture := if s = true then ⟨p.Wide, p.High, p.Grass, p.East, aset p.South y (orI .u16 (andNotI .u16 (gA p.South y) (shlI .u16 1 (x : Int))) (shlI .u16 1 (x : Int)))⟩ else ⟨p.Wide, p.High, p.Grass, aset p.East y (orI .u16 (andNotI .u16 (gA p.East y) (shlI .u16 1 (x : Int))) (shlI .u16 1 (x : Int))), p.South⟩
theorem aset_aset (a : Arr 10 Int) (y : Nat) (u v : Int) : aset (aset a y u) y v = aset a y v := by
 unfold aset
 simp only [List.set_set]
theorem setT_eq (p : Pasture) {x y : Nat} (hx : x < 10) (hy : y < 10) (s : Bool) : spec_l01Set.f p (sp x y) (if s = true then 2 else 1) true = some (putT p x y s) := by
 have g1 : ∀ a : Arr 10 Int, getI a.l (y : Int) = some (gA a y) := fun a => getA a hy
 have u := u64n hx
 have e1 : ∀ (a : Arr 10 Int) (v : Int), gA (aset a y v) y = v := fun a v => by rw [gA_set a hy, if_pos rfl]
 cases s
 ·simp [spec_l01Set.f, sp, u, chk, g1, e1, putT, aset_aset]
 simp [spec_l01Set.f, sp, u, chk, g1, e1, putT, aset_aset]
theorem bit_putT {m : Int} (h : 0 ≤ m) (h' : m ≤ 65535) {i j : Nat} (hi : i < 16) (hj : j < 16) : btB (orI .u16 (andNotI .u16 m (shlI .u16 1 (i : Int))) (shlI .u16 1 (i : Int))) j = (btB m j || decide (i = j)) := by
 obtain ⟨a, b⟩ := andNot_in m (shlI .u16 1 (i : Int))
 rw [bit_put a b hi hj, bit_clear h h' hi hj]
 cases btB m j <;> by_cases e : i = j <;> simp [e]
theorem putT_rows {p : Pasture} (h : Rows p) {x y : Nat} (hx : x < 10) (hy : y < 10) {s : Bool} (hin : if s = true then (x : Int) < p.Wide ∧ (y : Int) + 1 < p.High else (x : Int) + 1 < p.Wide ∧ (y : Int) < p.High) : Rows (putT p x y s) := by
 cases s
 ·simp only [Bool.false_eq_true, if_false] at hin
  refine ⟨fun b hb => ?_, h.s⟩
  have e : gA (putT p x y false).East b = if y = b then orI .u16 (andNotI .u16 (gA p.East y) (shlI .u16 1 (x : Int))) (shlI .u16 1 (x : Int)) else gA p.East b := gA_set p.East hy _ b
  rw [e]
  by_cases e1 : y = b
  ·subst e1
   rw [if_pos rfl]
   obtain ⟨⟨e0, e1⟩, e2⟩ := h.e y hy
   refine ⟨or_in _ _, fun j hj hbit => ?_⟩
   rw [bit_putT e0 e1 (by omega) hj, Bool.or_eq_true, decide_eq_true_eq] at hbit
   rcases hbit with hbit | rfl
   ·exact e2 j hj hbit
   exact hin
  rw [if_neg e1]; exact h.e b hb
 simp only [if_true] at hin
 refine ⟨h.e, fun b hb => ?_⟩
 have e : gA (putT p x y true).South b = if y = b then orI .u16 (andNotI .u16 (gA p.South y) (shlI .u16 1 (x : Int))) (shlI .u16 1 (x : Int)) else gA p.South b := gA_set p.South hy _ b
 rw [e]
 by_cases e1 : y = b
 ·subst e1
  rw [if_pos rfl]
  obtain ⟨⟨e0, e1⟩, e2⟩ := h.s y hy
  refine ⟨or_in _ _, fun j hj hbit => ?_⟩
  rw [bit_putT e0 e1 (by omega) hj, Bool.or_eq_true, decide_eq_true_eq] at hbit
  rcases hbit with hbit | rfl
  ·exact e2 j hj hbit
  exact hin
 rw [if_neg e1]; exact h.s b hb
/-! ### Drawn -/
/-- A pasture as it is drawn. -/
structure Dr (W H : Nat) (p : Pasture) : Prop where
  w : p.Wide = (W : Int)
  h : p.High = (H : Int)
  g : ∀ y x, y < 10 → x < 10 → 0 ≤ gG p y x ∧ gG p y x ≤ 11 ∧ (¬ (x < W ∧ y < H) → gG p y x = 0)
  r : Rows p
theorem arr_at {α : Type} {n : Nat} (a : Arr n α) {x : α} (hx : x ∈ a.l) : ∃ i, i < n ∧ a.l[i]? = some x := by
 obtain ⟨i, hi, rfl⟩ := List.getElem_of_mem hx
 exact ⟨i, by rw [← a.len]; exact hi, List.getElem?_eq_getElem hi⟩
theorem Dr.V {W H : Nat} {p : Pasture} (h : Dr W H p) (hW : W ≤ 10) (hH : H ≤ 10) : VPasture p := by
 have i8 : IntKind.i8.min = -128 ∧ IntKind.i8.max = 127 := by decide
 have i16 : IntKind.i16.min = -32768 ∧ IntKind.i16.max = 32767 := by decide
 have u16' : IntKind.u16.min = 0 ∧ IntKind.u16.max = 65535 := by decide
 refine ⟨?_, ?_, fun r hr x hx => ?_, fun x hx => ?_, fun x hx => ?_⟩
 ·unfold inI; rw [i8.1, i8.2, h.w]; omega
 ·unfold inI; rw [i8.1, i8.2, h.h]; omega
 ·obtain ⟨y, hy, e⟩ := arr_at p.Grass hr
  obtain ⟨j, hj, e2⟩ := arr_at r hx
  have : gG p y j = x := by unfold gG gR gA; rw [e]; simp [List.getD_eq_getElem?_getD, e2]
  have hg := h.g y j hy hj
  unfold inI; rw [i16.1, i16.2]; omega
 ·obtain ⟨y, hy, e⟩ := arr_at p.East hx
  have : gA p.East y = x := by unfold gA; simp [List.getD_eq_getElem?_getD, e]
  have := (h.r.e y hy).1
  unfold inI; rw [u16'.1, u16'.2]; omega
 obtain ⟨y, hy, e⟩ := arr_at p.South hx
 have : gA p.South y = x := by unfold gA; simp [List.getD_eq_getElem?_getD, e]
 have := (h.r.s y hy).1
 unfold inI; rw [u16'.1, u16'.2]; omega
theorem Dr.okW {W H : Nat} {p : Pasture} (h : Dr W H p) (hW : 1 ≤ W ∧ W ≤ 10) (hH : 1 ≤ H ∧ H ≤ 10) : okW p = true := by
 rw [okW_iff, h.w, h.h]; omega
theorem Dr.ok {W H : Nat} {p : Pasture} (h : Dr W H p) (hW : 1 ≤ W ∧ W ≤ 10) (hH : 1 ≤ H ∧ H ≤ 10) : vP p = true := by
 refine rows_ok (h.okW hW hH) (fun y x hy hx => ?_) h.r
 obtain ⟨a, b, c⟩ := h.g y x hy hx
 unfold okG cellB
 simp only [Bool.and_eq_true, Bool.or_eq_true, decide_eq_true_eq, h.w, h.h]
 refine ⟨by omega, ?_⟩
 by_cases hin : x < W ∧ y < H
 ·right; omega
 left; rw [c hin]; omega
theorem Dr.put {W H : Nat} {p : Pasture} (h : Dr W H p) {x y : Nat} (hx : x < 10) (hy : y < 10) {s : Bool} (hin : if s = true then (x : Int) < p.Wide ∧ (y : Int) + 1 < p.High else (x : Int) + 1 < p.Wide ∧ (y : Int) < p.High) : Dr W H (putT p x y s) := by
 have hr := putT_rows h.r hx hy hin
 cases s
 ·exact ⟨h.w, h.h, h.g, hr⟩
 exact ⟨h.w, h.h, h.g, hr⟩
theorem Dr.grass {W H : Nat} {p : Pasture} (h : Dr W H p) {x y : Nat} (hx : x < 10) (hy : y < 10) (hxW : x < W) (hyH : y < H) {v : Int} (v0 : 0 ≤ v) (v1 : v ≤ 11) : Dr W H ⟨p.Wide, p.High, put2 p.Grass y x v, p.East, p.South⟩ := by
 refine ⟨h.w, h.h, fun b a hb ha => ?_, ⟨h.r.e, h.r.s⟩⟩
 have e : gG ⟨p.Wide, p.High, put2 p.Grass y x v, p.East, p.South⟩ b a = if y = b ∧ x = a then v else gG p b a := g2_put p.Grass hy hx v b a
 rw [e]
 by_cases c : y = b ∧ x = a
 ·rw [if_pos c]
  exact ⟨v0, v1, fun hn => absurd ⟨by omega, by omega⟩ hn⟩
 rw [if_neg c]; exact h.g b a hb ha
theorem one_ok {c : List Int} (hc : byteL c) {at_ seed : Int} (h0 : 0 ≤ at_) (h1 : at_ ≤ 1000000000000) (n : Int) :
 ∃ v at' seed', spec_l00Src_one.f ⟨c, at_, seed⟩ n = some (v, ⟨c, at', seed'⟩) ∧ at_ ≤ at' ∧ at' ≤ at_ + 2 := by
 obtain ⟨i, a, s, e, i0, i1, q1, q2⟩ := pick_ok hc (seed := seed) h0 h1 n
 refine ⟨decide (i = 0), a, s, ?_, q1, q2⟩
 unfold spec_l00Src_one.f
 rw [e]
 rfl
theorem side_in {W H : Nat} {p : Pasture} (h : Dr W H p) (hW : W ≤ 10) (hH : H ≤ 10) {x y : Nat} (hx : x < W) (hy : y < H) (s : Bool) (hc : cellB p (nx (sp x y) (if s = true then 2 else 1)).X (nx (sp x y) (if s = true then 2 else 1)).Y = true) : if s = true then (x : Int) < p.Wide ∧ (y : Int) + 1 < p.High else (x : Int) + 1 < p.Wide ∧ (y : Int) < p.High := by
 unfold cellB at hc
 cases s
 ·simp only [Bool.false_eq_true, if_false] at hc ⊢
  have e : nx (sp x y) 1 = ⟨((x : Int) + 1), (y : Int)⟩ := by
    unfold nx sp; simp; rw [w8 (by omega) (by omega)]
  rw [e] at hc
  simp only [Bool.and_eq_true, decide_eq_true_eq] at hc
  omega
 simp only [if_true] at hc ⊢
 have e : nx (sp x y) 2 = ⟨(x : Int), ((y : Int) + 1)⟩ := by
   unfold nx sp; simp; rw [w8 (by omega) (by omega)]
 rw [e] at hc
 simp only [Bool.and_eq_true, decide_eq_true_eq] at hc
 omega
theorem drawn3_ev {c : List Int} (hc : byteL c) (t5 : Int × l00Src) {W H : Nat} (hW : W ≤ 10) (hH : H ≤ 10) {x y : Nat} (hx : x < W) (hy : y < H) {p : Pasture} (h : Dr W H p) {at_ seed : Int} (h0 : 0 ≤ at_) (h1 : at_ ≤ 100000) :
 ∃ p' at' seed', Ev (fun k => spec_l01Drawn.l3 ⟨c, 0, 0⟩ t5 (y : Int) (x : Int) k p 1 at_ seed) (p', at', seed') ∧ Dr W H p' ∧ at_ ≤ at' ∧ at' ≤ at_ + 4 := by
 have last : ∀ (q : Pasture) (a s : Int), Ev (fun k => spec_l01Drawn.l3 ⟨c, 0, 0⟩ t5 (y : Int) (x : Int) k q 3 a s) (q, a, s) := fun q a s => Ev.step (fun k => spec_l01Drawn.l3.eq_2 _ _ _ _ _ _ _ _ _) (Ev.neg (by omega) (Ev.const rfl))
 have go : ∀ (s : Bool) (q : Pasture) (a sd : Int), Dr W H q → 0 ≤ a → a ≤ 100010 → ∃ q' a' s', Dr W H q' ∧ a ≤ a' ∧ a' ≤ a + 2 ∧ ∀ {r}, Ev (fun k => spec_l01Drawn.l3 ⟨c, 0, 0⟩ t5 (y : Int) (x : Int) k q' (IntKind.i64.wrap ((if s = true then 2 else 1) + 1)) a' s') r → Ev (fun k => spec_l01Drawn.l3 ⟨c, 0, 0⟩ t5 (y : Int) (x : Int) k q (if s = true then 2 else 1) a sd) r := by
   intro s q a sd hq a0 a1
   have hle : (if s = true then (2 : Int) else 1) ≤ 2 := by split <;> omega
   have hin := nx_in (x := x) (y := y) (by omega) (by omega) (if s = true then 2 else 1)
   have his := l01Is_eq (hq.V hW hH) _ hin
   cases hcb : cellB q (nx (sp x y) (if s = true then 2 else 1)).X (nx (sp x y) (if s = true then 2 else 1)).Y
   · rw [hcb] at his
     exact ⟨q, a, sd, hq, by omega, by omega, fun hr => Ev.step (fun k => spec_l01Drawn.l3.eq_2 _ _ _ _ _ _ _ _ _) (Ev.pos hle (Ev.bind (Ev.const (next_eq _ _)) (Ev.bind (Ev.const his) (Ev.neg (by simp) hr))))⟩
   · rw [hcb] at his
     obtain ⟨b, a', s', e1, q1, q2⟩ := one_ok hc (seed := sd) a0 (by omega) (IntKind.i64.wrap (2 + t5.1))
     cases b
     · exact ⟨q, a', s', hq, q1, q2, fun hr => Ev.step (fun k => spec_l01Drawn.l3.eq_2 _ _ _ _ _ _ _ _ _) (Ev.pos hle (Ev.bind (Ev.const (next_eq _ _)) (Ev.bind (Ev.const his) (Ev.pos rfl (Ev.bind (Ev.const e1) (Ev.neg (by simp) hr))))))⟩
     · exact ⟨putT q x y s, a', s', hq.put (by omega) (by omega) (side_in hq hW hH hx hy s hcb), q1, q2, fun hr => Ev.step (fun k => spec_l01Drawn.l3.eq_2 _ _ _ _ _ _ _ _ _) (Ev.pos hle (Ev.bind (Ev.const (next_eq _ _)) (Ev.bind (Ev.const his) (Ev.pos rfl (Ev.bind (Ev.const e1) (Ev.pos rfl (Ev.bind (Ev.const (setT_eq q (by omega) (by omega) s)) hr)))))))⟩
 obtain ⟨p1, a1, s1, b1, b2, b3, b4⟩ := go false p at_ seed h h0 (by omega)
 obtain ⟨p2, a2, s2, d1, d2, d3, d4⟩ := go true p1 a1 s1 b1 (by omega) (by omega)
 refine ⟨p2, a2, s2, ?_, d1, by omega, by omega⟩
 have w2 : IntKind.i64.wrap (1 + 1) = 2 := by decide
 have w3 : IntKind.i64.wrap (2 + 1) = 3 := by decide
 simp only [Bool.false_eq_true, if_false, w2] at b4
 simp only [if_true, w3] at d4
 exact b4 (d4 (last _ _ _))
theorem drawn2_loop {c : List Int} (hc : byteL c) (t5 : Int × l00Src) {W H : Nat} (hW : W ≤ 10) (hH : H ≤ 10) {y : Nat} (hy : y < H) : ∀ x, x ≤ W → ∀ (p : Pasture) (at_ seed : Int), Dr W H p → 0 ≤ at_ → at_ + 6 * ((W : Int) - x) ≤ 100000 →
 ∃ p' at' seed', Ev (fun k => spec_l01Drawn.l2 ⟨c, 0, 0⟩ t5 (y : Int) k p (x : Int) at_ seed) (p', at', seed') ∧ Dr W H p' ∧ at_ ≤ at' ∧ at' ≤ at_ + 6 * ((W : Int) - x) := by
 refine upL ?_ ?_
 ·intro p at_ seed h h0 h1
  exact ⟨p, at_, seed, Ev.step (fun k => spec_l01Drawn.l2.eq_2 _ _ _ _ _ _ _ _) (Ev.neg (by rw [h.w]; omega) (Ev.const rfl)), h, by omega, by omega⟩
 intro x hx ih p at_ seed h h0 h1
 obtain ⟨v, a1, s1, e1, v0, v1, q1, q2⟩ := pick_ok hc (seed := seed) h0 (by omega) 12
 have wv : IntKind.i16.wrap v = v := w16 (by omega) (by omega)
 have hG := h.grass (x := x) (y := y) (by omega) (by omega) hx hy v0 (show v ≤ 11 by omega)
 obtain ⟨p2, a2, s2, b1, b2, b3, b4⟩ := drawn3_ev hc t5 hW hH hx hy hG (seed := s1) (at_ := a1) (by omega) (by omega)
 obtain ⟨p3, a3, s3, d1, d2, d3, d4⟩ := ih p2 a2 s2 b2 (by omega) (by omega)
 have e : IntKind.i8.wrap ((x : Int) + 1) = ((x + 1 : Nat) : Int) := by rw [w8 (by omega) (by omega)]; omega
 rw [← e] at d1
 refine ⟨p3, a3, s3, Ev.step (fun k => spec_l01Drawn.l2.eq_2 _ _ _ _ _ _ _ _) (Ev.pos (by rw [h.w]; omega) (Ev.bind (a := (p2, a2, s2)) ?_ d1)), d2, by omega, by omega⟩
 refine Ev.bind (Ev.const (getR p.Grass (show y < 10 by omega))) (Ev.bind (Ev.const e1) (Ev.bind (Ev.const (getA _ (show x < 10 by omega))) ?_))
 simp only [wv, Int.toNat_natCast]
 exact b1.bind (Ev.const rfl)
theorem drawn1_loop {c : List Int} (hc : byteL c) (t5 : Int × l00Src) {W H : Nat} (hW : W ≤ 10) (hH : H ≤ 10) : ∀ y, y ≤ H → ∀ (p : Pasture) (at_ seed : Int), Dr W H p → 0 ≤ at_ → at_ + 60 * ((H : Int) - y) ≤ 100000 →
 ∃ p' at' seed', Ev (fun k => spec_l01Drawn.l1 ⟨c, 0, 0⟩ t5 k p (y : Int) at_ seed) (p', at', seed') ∧ Dr W H p' := by
 refine upL ?_ ?_
 ·intro p at_ seed h h0 h1
  exact ⟨p, at_, seed, Ev.step (fun k => spec_l01Drawn.l1.eq_2 _ _ _ _ _ _ _) (Ev.neg (by rw [h.h]; omega) (Ev.const rfl)), h⟩
 intro y hy ih p at_ seed h h0 h1
 obtain ⟨p2, a2, s2, b1, b2, b3, b4⟩ := drawn2_loop hc t5 hW hH hy 0 (Nat.zero_le _) p at_ seed h h0 (by omega)
 obtain ⟨p3, a3, s3, d1, d2⟩ := ih p2 a2 s2 b2 (by omega) (by omega)
 have e : IntKind.i8.wrap ((y : Int) + 1) = ((y + 1 : Nat) : Int) := by rw [w8 (by omega) (by omega)]; omega
 rw [← e] at d1
 exact ⟨p3, a3, s3, Ev.step (fun k => spec_l01Drawn.l1.eq_2 _ _ _ _ _ _ _) (Ev.pos (by rw [h.h]; omega) (Ev.bind (b1.bind (Ev.const rfl)) d1)), d2⟩
theorem gA_zero {y : Nat} (hy : y < 10) : gA (Arr.mk' 0 : Arr 10 Int) y = 0 := by
 show (List.replicate 10 (0 : Int)).getD y 0 = 0
 rw [List.getD_eq_getElem?_getD, List.getElem?_replicate, if_pos hy]; rfl
theorem gG_zero {y x : Nat} (hy : y < 10) (hx : x < 10) : gA (gR (Arr.mk' (Arr.mk' 0 : Arr 10 Int) : Arr 10 (Arr 10 Int)) y) x = 0 := by
 have : gR (Arr.mk' (Arr.mk' 0 : Arr 10 Int) : Arr 10 (Arr 10 Int)) y = Arr.mk' 0 := by
   show (List.replicate 10 (Arr.mk' 0 : Arr 10 Int)).getD y _ = _
   rw [List.getD_eq_getElem?_getD, List.getElem?_replicate, if_pos hy]; rfl
 rw [this, gA_zero hx]
end Go.Proofs.YtokanemjghfadaaGreatDoor
