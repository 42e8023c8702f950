import Derived.Test.YtbkkojdkiimdjaaGreatDoorQBt
import Derived.Test.YtbkkojdkiimdjaaGreatDoorSD
import Derived.Test.YtbkkojdkiimdjaaGreatDoorQE3
import Derived.Test.YtbkkojdkiimdjaaGreatDoorQXReadPasture
import Derived.Test.YtbkkojdkiimdjaaGreatDoorQYe
import Derived.Test.YtbkkojdkiimdjaaGreatDoorQG
/-
  Plain law: pastures that are drawn are in order.
-/
namespace Go.Proofs.YtbkkojdkiimdjaaGreatDoor
open G
set_option linter.unusedVariables false
set_option linter.unusedSimpArgs false
set_option maxRecDepth 100000
/-! ### When a pasture is in order -/
/-- The bits of the rows of hurdles lie within. -/
structure Rows (p : Pasture) : Prop where
  e : ∀ y, y < 10 → (0 ≤ gA p.East y ∧ gA p.East y ≤ 65535) ∧ ∀ j, j < 16 → btB (gA p.East y) j = true → (j : Int) + 1 < p.Wide ∧ (y : Int) < p.High
  s : ∀ y, y < 10 → (0 ≤ gA p.South y ∧ gA p.South y ≤ 65535) ∧ ∀ j, j < 16 → btB (gA p.South y) j = true → (j : Int) < p.Wide ∧ (y : Int) + 1 < p.High
theorem mask_in {k : Nat} (hk : k ≤ 15) : 0 ≤ (2 ^ k - 1 : Int) ∧ (2 ^ k - 1 : Int) ≤ 65535 := by
  have h1 : (2 : Nat) ^ k ≤ 2 ^ 15 := Nat.pow_le_pow_right (by omega) hk
  have h2 : 0 < 2 ^ k := Nat.two_pow_pos k
  have e : (2 ^ k - 1 : Int) = ((2 ^ k - 1 : Nat) : Int) := by rw [Int.natCast_sub (by omega)]; push_cast; rfl
  rw [e]; omega
theorem rows_ok {p : Pasture} (hw : okW p = true) (hg : ∀ y x, y < 10 → x < 10 → okG p y x = true) (h : Rows p) : vP p = true := by
  obtain ⟨a, b⟩ := okW_iff.1 hw
  unfold vP
  rw [hw, Bool.true_and, upA_iff]
  intro y _ hy
  have hy : y < 10 := by omega
  unfold okR
  rw [Bool.and_eq_true, Bool.and_eq_true, decide_eq_true_eq, decide_eq_true_eq, upA_iff]
  obtain ⟨⟨e0, e1⟩, e2⟩ := h.e y hy
  obtain ⟨⟨s0, s1⟩, s2⟩ := h.s y hy
  refine ⟨fun x _ hx => hg y x hy (by omega), ?_, ?_⟩
  · unfold eMask
    by_cases hh : (y : Int) < p.High
    · rw [if_pos hh]
      obtain ⟨m0, m1⟩ := mask_in (k := p.Wide.toNat - 1) (by omega)
      rw [sub_mask e0 e1 m0 m1]
      intro j hj hb
      rw [bt_mask (by omega) (by omega)]
      have := e2 j hj hb
      exact decide_eq_true (by omega)
    · rw [if_neg hh, sub_mask e0 e1 (by omega) (by omega)]
      intro j hj hb
      exact absurd (e2 j hj hb).2 hh
  · unfold sMask
    by_cases hh : (y : Int) + 1 < p.High
    · rw [if_pos hh]
      obtain ⟨m0, m1⟩ := mask_in (k := p.Wide.toNat) (by omega)
      rw [sub_mask s0 s1 m0 m1]
      intro j hj hb
      rw [bt_mask (by omega) (by omega)]
      have := s2 j hj hb
      exact decide_eq_true (by omega)
    · rw [if_neg hh, sub_mask s0 s1 (by omega) (by omega)]
      intro j hj hb
      exact absurd (s2 j hj hb).2 hh
theorem vP_rows {p : Pasture} (v : VPasture p) (h : vP p = true) : Rows p := by
  have hw := vP_okW h
  obtain ⟨a, b⟩ := okW_iff.1 hw
  unfold vP at h
  rw [hw, Bool.true_and, upA_iff] at h
  have hE : ∀ y, y < 10 → 0 ≤ gA p.East y ∧ gA p.East y ≤ 65535 := fun y hy => u16b (v.2.2.2.1 _ (gA_mem _ hy))
  have hS : ∀ y, y < 10 → 0 ≤ gA p.South y ∧ gA p.South y ≤ 65535 := fun y hy => u16b (v.2.2.2.2 _ (gA_mem _ hy))
  refine ⟨fun y hy => ⟨hE y hy, ?_⟩, fun y hy => ⟨hS y hy, ?_⟩⟩
  · have := h y (Nat.zero_le _) (by omega)
    unfold okR at this
    rw [Bool.and_eq_true, Bool.and_eq_true, decide_eq_true_eq, decide_eq_true_eq] at this
    obtain ⟨_, he, _⟩ := this
    unfold eMask at he
    by_cases hh : (y : Int) < p.High
    · rw [if_pos hh] at he
      obtain ⟨m0, m1⟩ := mask_in (k := p.Wide.toNat - 1) (by omega)
      rw [sub_mask (hE y hy).1 (hE y hy).2 m0 m1] at he
      intro j hj hb
      have := he j hj hb
      rw [bt_mask (by omega) (by omega), decide_eq_true_eq] at this
      omega
    · rw [if_neg hh, sub_mask (hE y hy).1 (hE y hy).2 (by omega) (by omega)] at he
      intro j hj hb
      have := he j hj hb
      rw [bt_zero] at this; cases this
  · have := h y (Nat.zero_le _) (by omega)
    unfold okR at this
    rw [Bool.and_eq_true, Bool.and_eq_true, decide_eq_true_eq, decide_eq_true_eq] at this
    obtain ⟨_, _, he⟩ := this
    unfold sMask at he
    by_cases hh : (y : Int) + 1 < p.High
    · rw [if_pos hh] at he
      obtain ⟨m0, m1⟩ := mask_in (k := p.Wide.toNat) (by omega)
      rw [sub_mask (hS y hy).1 (hS y hy).2 m0 m1] at he
      intro j hj hb
      have := he j hj hb
      rw [bt_mask (by omega) (by omega), decide_eq_true_eq] at this
      omega
    · rw [if_neg hh, sub_mask (hS y hy).1 (hS y hy).2 (by omega) (by omega)] at he
      intro j hj hb
      have := he j hj hb
      rw [bt_zero] at this; cases this
/-! ### A hurdle that is put -/
def putT (p : Pasture) (x y : Nat) (s : Bool) : Pasture := if s = true then ⟨p.Wide, p.High, p.Grass, p.East, aset p.South y (orI .u16 (andNotI .u16 (gA p.South y) (shlI .u16 1 (x : Int))) (shlI .u16 1 (x : Int)))⟩ else ⟨p.Wide, p.High, p.Grass, aset p.East y (orI .u16 (andNotI .u16 (gA p.East y) (shlI .u16 1 (x : Int))) (shlI .u16 1 (x : Int))), p.South⟩
theorem aset_aset (a : Arr 10 Int) (y : Nat) (u v : Int) : aset (aset a y u) y v = aset a y v := by
  unfold aset
  simp only [List.set_set]
theorem setT_eq (p : Pasture) {x y : Nat} (hx : x < 10) (hy : y < 10) (s : Bool) : spec_l01Set.f p (sp x y) (if s = true then 2 else 1) true = some (putT p x y s) := by
  have g1 : ∀ a : Arr 10 Int, getI a.l (y : Int) = some (gA a y) := fun a => getA a hy
  have u := u64n hx
  have e1 : ∀ (a : Arr 10 Int) (v : Int), gA (aset a y v) y = v := fun a v => by rw [gA_set a hy, if_pos rfl]
  cases s
  · simp [spec_l01Set.f, sp, u, chk, g1, e1, putT, aset_aset]
  · simp [spec_l01Set.f, sp, u, chk, g1, e1, putT, aset_aset]
theorem bit_putT {m : Int} (h : 0 ≤ m) (h' : m ≤ 65535) {i j : Nat} (hi : i < 16) (hj : j < 16) : btB (orI .u16 (andNotI .u16 m (shlI .u16 1 (i : Int))) (shlI .u16 1 (i : Int))) j = (btB m j || decide (i = j)) := by
  obtain ⟨a, b⟩ := andNot_in m (shlI .u16 1 (i : Int))
  rw [bit_put a b hi hj, bit_clear h h' hi hj]
  cases btB m j <;> by_cases e : i = j <;> simp [e]
theorem putT_rows {p : Pasture} (h : Rows p) {x y : Nat} (hx : x < 10) (hy : y < 10) {s : Bool} (hin : if s = true then (x : Int) < p.Wide ∧ (y : Int) + 1 < p.High else (x : Int) + 1 < p.Wide ∧ (y : Int) < p.High) : Rows (putT p x y s) := by
  cases s
  · simp only [Bool.false_eq_true, if_false] at hin
    refine ⟨fun b hb => ?_, h.s⟩
    have e : gA (putT p x y false).East b = if y = b then orI .u16 (andNotI .u16 (gA p.East y) (shlI .u16 1 (x : Int))) (shlI .u16 1 (x : Int)) else gA p.East b := gA_set p.East hy _ b
    rw [e]
    by_cases e1 : y = b
    · subst e1
      rw [if_pos rfl]
      obtain ⟨⟨e0, e1⟩, e2⟩ := h.e y hy
      refine ⟨or_in _ _, fun j hj hbit => ?_⟩
      rw [bit_putT e0 e1 (by omega) hj, Bool.or_eq_true, decide_eq_true_eq] at hbit
      rcases hbit with hbit | rfl
      · exact e2 j hj hbit
      · exact hin
    · rw [if_neg e1]; exact h.e b hb
  · simp only [if_true] at hin
    refine ⟨h.e, fun b hb => ?_⟩
    have e : gA (putT p x y true).South b = if y = b then orI .u16 (andNotI .u16 (gA p.South y) (shlI .u16 1 (x : Int))) (shlI .u16 1 (x : Int)) else gA p.South b := gA_set p.South hy _ b
    rw [e]
    by_cases e1 : y = b
    · subst e1
      rw [if_pos rfl]
      obtain ⟨⟨e0, e1⟩, e2⟩ := h.s y hy
      refine ⟨or_in _ _, fun j hj hbit => ?_⟩
      rw [bit_putT e0 e1 (by omega) hj, Bool.or_eq_true, decide_eq_true_eq] at hbit
      rcases hbit with hbit | rfl
      · exact e2 j hj hbit
      · exact hin
    · rw [if_neg e1]; exact h.s b hb
/-! ### Drawn -/
/-- A pasture as it is drawn. -/
structure Dr (W H : Nat) (p : Pasture) : Prop where
  w : p.Wide = (W : Int)
  h : p.High = (H : Int)
  g : ∀ y x, y < 10 → x < 10 → 0 ≤ gG p y x ∧ gG p y x ≤ 11 ∧ (¬ (x < W ∧ y < H) → gG p y x = 0)
  r : Rows p
theorem arr_at {α : Type} {n : Nat} (a : Arr n α) {x : α} (hx : x ∈ a.l) : ∃ i, i < n ∧ a.l[i]? = some x := by
  obtain ⟨i, hi, rfl⟩ := List.getElem_of_mem hx
  exact ⟨i, by rw [← a.len]; exact hi, List.getElem?_eq_getElem hi⟩
theorem Dr.V {W H : Nat} {p : Pasture} (h : Dr W H p) (hW : W ≤ 10) (hH : H ≤ 10) : VPasture p := by
  have i8 : IntKind.i8.min = -128 ∧ IntKind.i8.max = 127 := by decide
  have i16 : IntKind.i16.min = -32768 ∧ IntKind.i16.max = 32767 := by decide
  have u16' : IntKind.u16.min = 0 ∧ IntKind.u16.max = 65535 := by decide
  refine ⟨?_, ?_, fun r hr x hx => ?_, fun x hx => ?_, fun x hx => ?_⟩
  · unfold inI; rw [i8.1, i8.2, h.w]; omega
  · unfold inI; rw [i8.1, i8.2, h.h]; omega
  · obtain ⟨y, hy, e⟩ := arr_at p.Grass hr
    obtain ⟨j, hj, e2⟩ := arr_at r hx
    have : gG p y j = x := by unfold gG gR gA; rw [e]; simp [List.getD_eq_getElem?_getD, e2]
    have hg := h.g y j hy hj
    unfold inI; rw [i16.1, i16.2]; omega
  · obtain ⟨y, hy, e⟩ := arr_at p.East hx
    have : gA p.East y = x := by unfold gA; simp [List.getD_eq_getElem?_getD, e]
    have := (h.r.e y hy).1
    unfold inI; rw [u16'.1, u16'.2]; omega
  · obtain ⟨y, hy, e⟩ := arr_at p.South hx
    have : gA p.South y = x := by unfold gA; simp [List.getD_eq_getElem?_getD, e]
    have := (h.r.s y hy).1
    unfold inI; rw [u16'.1, u16'.2]; omega
theorem Dr.okW {W H : Nat} {p : Pasture} (h : Dr W H p) (hW : 1 ≤ W ∧ W ≤ 10) (hH : 1 ≤ H ∧ H ≤ 10) : okW p = true := by
  rw [okW_iff, h.w, h.h]; omega
theorem Dr.ok {W H : Nat} {p : Pasture} (h : Dr W H p) (hW : 1 ≤ W ∧ W ≤ 10) (hH : 1 ≤ H ∧ H ≤ 10) : vP p = true := by
  refine rows_ok (h.okW hW hH) (fun y x hy hx => ?_) h.r
  obtain ⟨a, b, c⟩ := h.g y x hy hx
  unfold okG cellB
  simp only [Bool.and_eq_true, Bool.or_eq_true, decide_eq_true_eq, h.w, h.h]
  refine ⟨by omega, ?_⟩
  by_cases hin : x < W ∧ y < H
  · right; omega
  · left; rw [c hin]; omega
theorem Dr.put {W H : Nat} {p : Pasture} (h : Dr W H p) {x y : Nat} (hx : x < 10) (hy : y < 10) {s : Bool} (hin : if s = true then (x : Int) < p.Wide ∧ (y : Int) + 1 < p.High else (x : Int) + 1 < p.Wide ∧ (y : Int) < p.High) : Dr W H (putT p x y s) := by
  have hr := putT_rows h.r hx hy hin
  cases s
  · exact ⟨h.w, h.h, h.g, hr⟩
  · exact ⟨h.w, h.h, h.g, hr⟩
theorem Dr.grass {W H : Nat} {p : Pasture} (h : Dr W H p) {x y : Nat} (hx : x < 10) (hy : y < 10) (hxW : x < W) (hyH : y < H) {v : Int} (v0 : 0 ≤ v) (v1 : v ≤ 11) : Dr W H ⟨p.Wide, p.High, put2 p.Grass y x v, p.East, p.South⟩ := by
  refine ⟨h.w, h.h, fun b a hb ha => ?_, ⟨h.r.e, h.r.s⟩⟩
  have e : gG ⟨p.Wide, p.High, put2 p.Grass y x v, p.East, p.South⟩ b a = if y = b ∧ x = a then v else gG p b a := g2_put p.Grass hy hx v b a
  rw [e]
  by_cases c : y = b ∧ x = a
  · rw [if_pos c]
    exact ⟨v0, v1, fun hn => absurd ⟨by omega, by omega⟩ hn⟩
  · rw [if_neg c]; exact h.g b a hb ha
theorem one_ok {c : List Int} (hc : byteL c) {at_ seed : Int} (h0 : 0 ≤ at_) (h1 : at_ ≤ 1000000000000) (n : Int) :
    ∃ v at' seed', spec_l00Src_one.f ⟨c, at_, seed⟩ n = some (v, ⟨c, at', seed'⟩) ∧ at_ ≤ at' ∧ at' ≤ at_ + 2 := by
  obtain ⟨i, a, s, e, i0, i1, q1, q2⟩ := pick_ok hc (seed := seed) h0 h1 n
  refine ⟨decide (i = 0), a, s, ?_, q1, q2⟩
  unfold spec_l00Src_one.f
  rw [e]
  rfl
theorem side_in {W H : Nat} {p : Pasture} (h : Dr W H p) (hW : W ≤ 10) (hH : H ≤ 10) {x y : Nat} (hx : x < W) (hy : y < H) (s : Bool) (hc : cellB p (nx (sp x y) (if s = true then 2 else 1)).X (nx (sp x y) (if s = true then 2 else 1)).Y = true) : if s = true then (x : Int) < p.Wide ∧ (y : Int) + 1 < p.High else (x : Int) + 1 < p.Wide ∧ (y : Int) < p.High := by
  unfold cellB at hc
  cases s
  · simp only [Bool.false_eq_true, if_false] at hc ⊢
    have e : nx (sp x y) 1 = ⟨((x : Int) + 1), (y : Int)⟩ := by
      unfold nx sp; simp; rw [w8 (by omega) (by omega)]
    rw [e] at hc
    simp only [Bool.and_eq_true, decide_eq_true_eq] at hc
    omega
  · simp only [if_true] at hc ⊢
    have e : nx (sp x y) 2 = ⟨(x : Int), ((y : Int) + 1)⟩ := by
      unfold nx sp; simp; rw [w8 (by omega) (by omega)]
    rw [e] at hc
    simp only [Bool.and_eq_true, decide_eq_true_eq] at hc
    omega
theorem drawn3_ev {c : List Int} (hc : byteL c) (t5 : Int × l00Src) {W H : Nat} (hW : W ≤ 10) (hH : H ≤ 10) {x y : Nat} (hx : x < W) (hy : y < H) {p : Pasture} (h : Dr W H p) {at_ seed : Int} (h0 : 0 ≤ at_) (h1 : at_ ≤ 100000) :
    ∃ p' at' seed', Ev (fun k => spec_l01Drawn.l3 ⟨c, 0, 0⟩ t5 (y : Int) (x : Int) k p 1 at_ seed) (p', at', seed') ∧ Dr W H p' ∧ at_ ≤ at' ∧ at' ≤ at_ + 4 := by
  have last : ∀ (q : Pasture) (a s : Int), Ev (fun k => spec_l01Drawn.l3 ⟨c, 0, 0⟩ t5 (y : Int) (x : Int) k q 3 a s) (q, a, s) := fun q a s => Ev.step (fun k => spec_l01Drawn.l3.eq_2 _ _ _ _ _ _ _ _ _) (Ev.neg (by omega) (Ev.const rfl))
  have go : ∀ (s : Bool) (q : Pasture) (a sd : Int), Dr W H q → 0 ≤ a → a ≤ 100010 → ∃ q' a' s', Dr W H q' ∧ a ≤ a' ∧ a' ≤ a + 2 ∧ ∀ {r}, Ev (fun k => spec_l01Drawn.l3 ⟨c, 0, 0⟩ t5 (y : Int) (x : Int) k q' (IntKind.i64.wrap ((if s = true then 2 else 1) + 1)) a' s') r → Ev (fun k => spec_l01Drawn.l3 ⟨c, 0, 0⟩ t5 (y : Int) (x : Int) k q (if s = true then 2 else 1) a sd) r := by
    intro s q a sd hq a0 a1
    have hle : (if s = true then (2 : Int) else 1) ≤ 2 := by split <;> omega
    have hin := nx_in (x := x) (y := y) (by omega) (by omega) (if s = true then 2 else 1)
    have his := l01Is_eq (hq.V hW hH) _ hin
    cases hcb : cellB q (nx (sp x y) (if s = true then 2 else 1)).X (nx (sp x y) (if s = true then 2 else 1)).Y
    · rw [hcb] at his
      exact ⟨q, a, sd, hq, by omega, by omega, fun hr => Ev.step (fun k => spec_l01Drawn.l3.eq_2 _ _ _ _ _ _ _ _ _) (Ev.pos hle (Ev.bind (Ev.const (next_eq _ _)) (Ev.bind (Ev.const his) (Ev.neg (by simp) hr))))⟩
    · rw [hcb] at his
      obtain ⟨b, a', s', e1, q1, q2⟩ := one_ok hc (seed := sd) a0 (by omega) (IntKind.i64.wrap (2 + t5.1))
      cases b
      · exact ⟨q, a', s', hq, q1, q2, fun hr => Ev.step (fun k => spec_l01Drawn.l3.eq_2 _ _ _ _ _ _ _ _ _) (Ev.pos hle (Ev.bind (Ev.const (next_eq _ _)) (Ev.bind (Ev.const his) (Ev.pos rfl (Ev.bind (Ev.const e1) (Ev.neg (by simp) hr))))))⟩
      · exact ⟨putT q x y s, a', s', hq.put (by omega) (by omega) (side_in hq hW hH hx hy s hcb), q1, q2, fun hr => Ev.step (fun k => spec_l01Drawn.l3.eq_2 _ _ _ _ _ _ _ _ _) (Ev.pos hle (Ev.bind (Ev.const (next_eq _ _)) (Ev.bind (Ev.const his) (Ev.pos rfl (Ev.bind (Ev.const e1) (Ev.pos rfl (Ev.bind (Ev.const (setT_eq q (by omega) (by omega) s)) hr)))))))⟩
  obtain ⟨p1, a1, s1, b1, b2, b3, b4⟩ := go false p at_ seed h h0 (by omega)
  obtain ⟨p2, a2, s2, d1, d2, d3, d4⟩ := go true p1 a1 s1 b1 (by omega) (by omega)
  refine ⟨p2, a2, s2, ?_, d1, by omega, by omega⟩
  have w2 : IntKind.i64.wrap (1 + 1) = 2 := by decide
  have w3 : IntKind.i64.wrap (2 + 1) = 3 := by decide
  simp only [Bool.false_eq_true, if_false, w2] at b4
  simp only [if_true, w3] at d4
  exact b4 (d4 (last _ _ _))
theorem drawn2_loop {c : List Int} (hc : byteL c) (t5 : Int × l00Src) {W H : Nat} (hW : W ≤ 10) (hH : H ≤ 10) {y : Nat} (hy : y < H) : ∀ x, x ≤ W → ∀ (p : Pasture) (at_ seed : Int), Dr W H p → 0 ≤ at_ → at_ + 6 * ((W : Int) - x) ≤ 100000 →
    ∃ p' at' seed', Ev (fun k => spec_l01Drawn.l2 ⟨c, 0, 0⟩ t5 (y : Int) k p (x : Int) at_ seed) (p', at', seed') ∧ Dr W H p' ∧ at_ ≤ at' ∧ at' ≤ at_ + 6 * ((W : Int) - x) := by
  refine upL ?_ ?_
  · intro p at_ seed h h0 h1
    exact ⟨p, at_, seed, Ev.step (fun k => spec_l01Drawn.l2.eq_2 _ _ _ _ _ _ _ _) (Ev.neg (by rw [h.w]; omega) (Ev.const rfl)), h, by omega, by omega⟩
  · intro x hx ih p at_ seed h h0 h1
    obtain ⟨v, a1, s1, e1, v0, v1, q1, q2⟩ := pick_ok hc (seed := seed) h0 (by omega) 12
    have wv : IntKind.i16.wrap v = v := w16 (by omega) (by omega)
    have hG := h.grass (x := x) (y := y) (by omega) (by omega) hx hy v0 (show v ≤ 11 by omega)
    obtain ⟨p2, a2, s2, b1, b2, b3, b4⟩ := drawn3_ev hc t5 hW hH hx hy hG (seed := s1) (at_ := a1) (by omega) (by omega)
    obtain ⟨p3, a3, s3, d1, d2, d3, d4⟩ := ih p2 a2 s2 b2 (by omega) (by omega)
    have e : IntKind.i8.wrap ((x : Int) + 1) = ((x + 1 : Nat) : Int) := by rw [w8 (by omega) (by omega)]; omega
    rw [← e] at d1
    refine ⟨p3, a3, s3, Ev.step (fun k => spec_l01Drawn.l2.eq_2 _ _ _ _ _ _ _ _) (Ev.pos (by rw [h.w]; omega) (Ev.bind (a := (p2, a2, s2)) ?_ d1)), d2, by omega, by omega⟩
    refine Ev.bind (Ev.const (getR p.Grass (show y < 10 by omega))) (Ev.bind (Ev.const e1) (Ev.bind (Ev.const (getA _ (show x < 10 by omega))) ?_))
    simp only [wv, Int.toNat_natCast]
    exact b1.bind (Ev.const rfl)
theorem drawn1_loop {c : List Int} (hc : byteL c) (t5 : Int × l00Src) {W H : Nat} (hW : W ≤ 10) (hH : H ≤ 10) : ∀ y, y ≤ H → ∀ (p : Pasture) (at_ seed : Int), Dr W H p → 0 ≤ at_ → at_ + 60 * ((H : Int) - y) ≤ 100000 →
    ∃ p' at' seed', Ev (fun k => spec_l01Drawn.l1 ⟨c, 0, 0⟩ t5 k p (y : Int) at_ seed) (p', at', seed') ∧ Dr W H p' := by
  refine upL ?_ ?_
  · intro p at_ seed h h0 h1
    exact ⟨p, at_, seed, Ev.step (fun k => spec_l01Drawn.l1.eq_2 _ _ _ _ _ _ _) (Ev.neg (by rw [h.h]; omega) (Ev.const rfl)), h⟩
  · intro y hy ih p at_ seed h h0 h1
    obtain ⟨p2, a2, s2, b1, b2, b3, b4⟩ := drawn2_loop hc t5 hW hH hy 0 (Nat.zero_le _) p at_ seed h h0 (by omega)
    obtain ⟨p3, a3, s3, d1, d2⟩ := ih p2 a2 s2 b2 (by omega) (by omega)
    have e : IntKind.i8.wrap ((y : Int) + 1) = ((y + 1 : Nat) : Int) := by rw [w8 (by omega) (by omega)]; omega
    rw [← e] at d1
    exact ⟨p3, a3, s3, Ev.step (fun k => spec_l01Drawn.l1.eq_2 _ _ _ _ _ _ _) (Ev.pos (by rw [h.h]; omega) (Ev.bind (b1.bind (Ev.const rfl)) d1)), d2⟩
theorem gA_zero {y : Nat} (hy : y < 10) : gA (Arr.mk' 0 : Arr 10 Int) y = 0 := by
  show (List.replicate 10 (0 : Int)).getD y 0 = 0
  rw [List.getD_eq_getElem?_getD, List.getElem?_replicate, if_pos hy]; rfl
theorem gG_zero {y x : Nat} (hy : y < 10) (hx : x < 10) : gA (gR (Arr.mk' (Arr.mk' 0 : Arr 10 Int) : Arr 10 (Arr 10 Int)) y) x = 0 := by
  have : gR (Arr.mk' (Arr.mk' 0 : Arr 10 Int) : Arr 10 (Arr 10 Int)) y = Arr.mk' 0 := by
    show (List.replicate 10 (Arr.mk' 0 : Arr 10 Int)).getD y _ = _
    rw [List.getD_eq_getElem?_getD, List.getElem?_replicate, if_pos hy]; rfl
  rw [this, gA_zero hx]
theorem pasture_ev {c : List Int} (hc : byteL c) : ∃ (W H : Nat) (p : Pasture), (1 ≤ W ∧ W ≤ 5) ∧ (1 ≤ H ∧ H ≤ 5) ∧ Dr W H p ∧ Ev (fun k => spec_P6Pasture.f k c) p := by
  obtain ⟨w, a1, s1, e1, w0, w1, q1, q1'⟩ := pick_ok hc (at_ := 0) (seed := 0) (by omega) (by omega) 5
  obtain ⟨h, a2, s2, e2, h0, h1, q2, q2'⟩ := pick_ok hc (at_ := a1) (seed := s1) (by omega) (by omega) 5
  obtain ⟨m, a3, s3, e3, m0, m1, q3, q3'⟩ := pick_ok hc (at_ := a2) (seed := s2) (by omega) (by omega) 5
  have ww : IntKind.i8.wrap (IntKind.i64.wrap (1 + w)) = (((1 + w).toNat : Nat) : Int) := by rw [w64 (by omega) (by omega), w8 (by omega) (by omega)]; omega
  have wh : IntKind.i8.wrap (IntKind.i64.wrap (1 + h)) = (((1 + h).toNat : Nat) : Int) := by rw [w64 (by omega) (by omega), w8 (by omega) (by omega)]; omega
  have h0' : Dr (1 + w).toNat (1 + h).toNat (⟨(((1 + w).toNat : Nat) : Int), (((1 + h).toNat : Nat) : Int), (Arr.mk' (Arr.mk' 0 : Arr 10 Int) : Arr 10 (Arr 10 Int)), (Arr.mk' 0 : Arr 10 Int), (Arr.mk' 0 : Arr 10 Int)⟩ : Pasture) := by
    refine ⟨rfl, rfl, fun y x hy hx => ?_, ⟨fun y hy => ?_, fun y hy => ?_⟩⟩
    · have : gG (⟨(((1 + w).toNat : Nat) : Int), (((1 + h).toNat : Nat) : Int), (Arr.mk' (Arr.mk' 0 : Arr 10 Int) : Arr 10 (Arr 10 Int)), (Arr.mk' 0 : Arr 10 Int), (Arr.mk' 0 : Arr 10 Int)⟩ : Pasture) y x = 0 := gG_zero hy hx
      rw [this]; omega
    · show (0 ≤ gA (Arr.mk' 0 : Arr 10 Int) y ∧ _) ∧ _
      rw [gA_zero hy]
      exact ⟨by omega, fun j _ hb => by rw [bt_zero] at hb; cases hb⟩
    · show (0 ≤ gA (Arr.mk' 0 : Arr 10 Int) y ∧ _) ∧ _
      rw [gA_zero hy]
      exact ⟨by omega, fun j _ hb => by rw [bt_zero] at hb; cases hb⟩
  obtain ⟨p, a4, s4, d1, d2⟩ := drawn1_loop hc (m, ⟨c, a3, s3⟩) (W := (1 + w).toNat) (H := (1 + h).toNat) (by omega) (by omega) 0 (Nat.zero_le _) _ a3 s3 h0' (by omega) (by omega)
  refine ⟨(1 + w).toNat, (1 + h).toNat, p, by omega, by omega, d2, ?_⟩
  unfold spec_P6Pasture.f spec_l00From.f
  simp only [Option.bind_some]
  refine Ev.bind (a := (p, ⟨c, a4, s4⟩)) ?_ (Ev.const rfl)
  unfold spec_l01Drawn.f
  refine Ev.bind (Ev.const e1) (Ev.bind (Ev.const e2) (Ev.bind (Ev.const e3) ?_))
  simp only [ww, wh]
  exact d1.bind (Ev.const rfl)
end Go.Proofs.YtbkkojdkiimdjaaGreatDoor
/-
  Plain law: pastures told by what is in their cells.
-/
namespace Go.Proofs.YtbkkojdkiimdjaaGreatDoor
open G
set_option linter.unusedVariables false
set_option linter.unusedSimpArgs false
theorem arr10_ext {a b : Arr 10 Int} (h : ∀ i, i < 10 → gA a i = gA b i) : a = b := by
  apply T.Arr.ext'
  refine List.ext_getElem (a.len.trans b.len.symm) fun i h1 h2 => ?_
  have := h i (by rw [← a.len]; exact h1)
  unfold gA at this
  rw [List.getD_eq_getElem?_getD, List.getD_eq_getElem?_getD, List.getElem?_eq_getElem h1, List.getElem?_eq_getElem h2] at this
  exact this
theorem tb_ext {a b : Tb} (h : ∀ y x, y < 10 → x < 10 → g2 a y x = g2 b y x) : a = b := by
  apply T.Arr.ext'
  refine List.ext_getElem (a.len.trans b.len.symm) fun i h1 h2 => ?_
  have hi : i < 10 := by rw [← a.len]; exact h1
  have e : gR a i = gR b i := arr10_ext fun j hj => h i j hi hj
  unfold gR at e
  rw [List.getElem?_eq_getElem h1, List.getElem?_eq_getElem h2] at e
  exact e
theorem bt_ext {x y : Int} (hx : 0 ≤ x ∧ x ≤ 65535) (hy : 0 ≤ y ∧ y ≤ 65535) (h : ∀ j, j < 16 → btB x j = btB y j) : x = y := T.bits_eq hx hy h
/-- A pasture, told by its cells. -/
structure PD (W H : Nat) (Gr : Nat → Nat → Int) (E S : Nat → Nat → Bool) (p : Pasture) : Prop where
  w : p.Wide = (W : Int)
  h : p.High = (H : Int)
  g : ∀ y x, y < 10 → x < 10 → gG p y x = if x < W ∧ y < H then Gr y x else 0
  e0 : ∀ y, y < 10 → 0 ≤ gA p.East y ∧ gA p.East y ≤ 65535
  s0 : ∀ y, y < 10 → 0 ≤ gA p.South y ∧ gA p.South y ≤ 65535
  e : ∀ y j, y < 10 → j < 16 → btB (gA p.East y) j = (decide (j + 1 < W ∧ y < H) && E y j)
  s : ∀ y j, y < 10 → j < 16 → btB (gA p.South y) j = (decide (j < W ∧ y + 1 < H) && S y j)
variable {W H : Nat} {Gr Gr' : Nat → Nat → Int} {E S E' S' : Nat → Nat → Bool} {p q : Pasture}
theorem dec_and {c : Prop} [Decidable c] {a b : Bool} (h : c → a = b) : (decide c && a) = (decide c && b) := by
  by_cases hc : c
  · rw [h hc]
  · simp [hc]
theorem PD.congr (h : PD W H Gr E S p) (hg : ∀ y x, x < W → y < H → Gr y x = Gr' y x) (he : ∀ y x, x + 1 < W → y < H → E y x = E' y x) (hs : ∀ y x, x < W → y + 1 < H → S y x = S' y x) : PD W H Gr' E' S' p := by
  refine ⟨h.w, h.h, fun y x hy hx => ?_, h.e0, h.s0, fun y j hy hj => ?_, fun y j hy hj => ?_⟩
  · rw [h.g y x hy hx]
    by_cases c : x < W ∧ y < H
    · rw [if_pos c, if_pos c, hg y x c.1 c.2]
    · rw [if_neg c, if_neg c]
  · rw [h.e y j hy hj]; exact dec_and fun c => he y j c.1 c.2
  · rw [h.s y j hy hj]; exact dec_and fun c => hs y j c.1 c.2
theorem PD.ext (h : PD W H Gr E S p) (k : PD W H Gr' E' S' q) (hg : ∀ y x, x < W → y < H → Gr y x = Gr' y x) (he : ∀ y x, x + 1 < W → y < H → E y x = E' y x) (hs : ∀ y x, x < W → y + 1 < H → S y x = S' y x) : p = q := by
  have h := h.congr hg he hs
  have h1 : p.Wide = q.Wide := h.w.trans k.w.symm
  have h2 : p.High = q.High := h.h.trans k.h.symm
  have h3 : p.Grass = q.Grass := tb_ext fun y x hy hx => (h.g y x hy hx).trans (k.g y x hy hx).symm
  have h4 : p.East = q.East := arr10_ext fun y hy => bt_ext (h.e0 y hy) (k.e0 y hy) fun j hj => (h.e y j hy hj).trans (k.e y j hy hj).symm
  have h5 : p.South = q.South := arr10_ext fun y hy => bt_ext (h.s0 y hy) (k.s0 y hy) fun j hj => (h.s y j hy hj).trans (k.s y j hy hj).symm
  cases p; cases q
  simp only at h1 h2 h3 h4 h5
  subst h1 h2 h3 h4 h5; rfl
theorem PD.rows (h : PD W H Gr E S p) : Rows p := by
  refine ⟨fun y hy => ⟨h.e0 y hy, fun j hj hb => ?_⟩, fun y hy => ⟨h.s0 y hy, fun j hj hb => ?_⟩⟩
  · rw [h.e y j hy hj, Bool.and_eq_true, decide_eq_true_eq] at hb
    rw [h.w, h.h]; omega
  · rw [h.s y j hy hj, Bool.and_eq_true, decide_eq_true_eq] at hb
    rw [h.w, h.h]; omega
theorem PD.of (v : VPasture p) (hp : vP p = true) : PD p.Wide.toNat p.High.toNat (gG p) (fun y x => btB (gA p.East y) x) (fun y x => btB (gA p.South y) x) p := by
  obtain ⟨w1, w2⟩ := okW_iff.1 (vP_okW hp)
  have hr := vP_rows v hp
  refine ⟨by omega, by omega, fun y x hy hx => ?_, fun y hy => (hr.e y hy).1, fun y hy => (hr.s y hy).1, fun y j hy hj => ?_, fun y j hy hj => ?_⟩
  · by_cases c : x < p.Wide.toNat ∧ y < p.High.toNat
    · rw [if_pos c]
    · rw [if_neg c]
      refine (vP_G hp hy hx).2 ?_
      unfold cellB
      rw [Bool.and_eq_false_iff, decide_eq_false_iff_not, decide_eq_false_iff_not]
      omega
  · cases hb : btB (gA p.East y) j
    · simp
    · have := (hr.e y hy).2 j hj hb
      rw [decide_eq_true (by omega)]; rfl
  · cases hb : btB (gA p.South y) j
    · simp
    · have := (hr.s y hy).2 j hj hb
      rw [decide_eq_true (by omega)]; rfl
theorem PD.V (h : PD W H Gr E S p) (hW : W ≤ 10) (hH : H ≤ 10) (hg : ∀ y x, x < W → y < H → 0 ≤ Gr y x ∧ Gr y x ≤ 1000) : VPasture p := by
  have i8 : IntKind.i8.min = -128 ∧ IntKind.i8.max = 127 := by decide
  have i16 : IntKind.i16.min = -32768 ∧ IntKind.i16.max = 32767 := by decide
  have u16' : IntKind.u16.min = 0 ∧ IntKind.u16.max = 65535 := by decide
  refine ⟨?_, ?_, fun r hr x hx => ?_, fun x hx => ?_, fun x hx => ?_⟩
  · unfold inI; rw [i8.1, i8.2, h.w]; omega
  · unfold inI; rw [i8.1, i8.2, h.h]; omega
  · obtain ⟨y, hy, e⟩ := arr_at p.Grass hr
    obtain ⟨j, hj, e2⟩ := arr_at r hx
    have : gG p y j = x := by unfold gG gR gA; rw [e]; simp [List.getD_eq_getElem?_getD, e2]
    have hgg := h.g y j hy hj
    rw [this] at hgg
    unfold inI; rw [i16.1, i16.2]
    by_cases c : j < W ∧ y < H
    · rw [if_pos c] at hgg; have := hg y j c.1 c.2; omega
    · rw [if_neg c] at hgg; omega
  · obtain ⟨y, hy, e⟩ := arr_at p.East hx
    have : gA p.East y = x := by unfold gA; simp [List.getD_eq_getElem?_getD, e]
    have := h.e0 y hy
    unfold inI; rw [u16'.1, u16'.2]; omega
  · obtain ⟨y, hy, e⟩ := arr_at p.South hx
    have : gA p.South y = x := by unfold gA; simp [List.getD_eq_getElem?_getD, e]
    have := h.s0 y hy
    unfold inI; rw [u16'.1, u16'.2]; omega
theorem PD.okW (h : PD W H Gr E S p) (hW : 1 ≤ W ∧ W ≤ 10) (hH : 1 ≤ H ∧ H ≤ 10) : okW p = true := by
  rw [okW_iff, h.w, h.h]; omega
theorem PD.ok (h : PD W H Gr E S p) (hW : 1 ≤ W ∧ W ≤ 10) (hH : 1 ≤ H ∧ H ≤ 10) (hg : ∀ y x, x < W → y < H → 0 ≤ Gr y x ∧ Gr y x ≤ 1000) : vP p = true := by
  refine rows_ok (h.okW hW hH) (fun y x hy hx => ?_) h.rows
  have hgg := h.g y x hy hx
  unfold okG cellB
  simp only [Bool.and_eq_true, Bool.or_eq_true, decide_eq_true_eq, h.w, h.h]
  by_cases c : x < W ∧ y < H
  · rw [if_pos c] at hgg
    have := hg y x c.1 c.2
    exact ⟨by omega, .inr (by omega)⟩
  · rw [if_neg c] at hgg
    exact ⟨by omega, .inl (by omega)⟩
/-! ### Changes -/
def upd {α : Type} (F : Nat → Nat → α) (y x : Nat) (v : α) : Nat → Nat → α := fun b a => if b = y ∧ a = x then v else F b a
theorem PD.grass (h : PD W H Gr E S p) {x y : Nat} (hx : x < 10) (hy : y < 10) (hxW : x < W) (hyH : y < H) (v : Int) : PD W H (upd Gr y x v) E S ⟨p.Wide, p.High, put2 p.Grass y x v, p.East, p.South⟩ := by
  refine ⟨h.w, h.h, fun b a hb ha => ?_, h.e0, h.s0, h.e, h.s⟩
  have e : gG ⟨p.Wide, p.High, put2 p.Grass y x v, p.East, p.South⟩ b a = if y = b ∧ x = a then v else gG p b a := g2_put p.Grass hy hx v b a
  rw [e, h.g b a hb ha]
  unfold upd
  by_cases c : y = b ∧ x = a
  · obtain ⟨rfl, rfl⟩ := c
    rw [if_pos ⟨rfl, rfl⟩, if_pos ⟨hxW, hyH⟩, if_pos ⟨rfl, rfl⟩]
  · rw [if_neg c, if_neg (show ¬ (b = y ∧ a = x) by omega)]
def putB (p : Pasture) (x y : Nat) (s on : Bool) : Pasture := if on = true then putT p x y s else putF p x y s
theorem bit_put2 {m : Int} (h : 0 ≤ m) (h' : m ≤ 65535) {i j : Nat} (hi : i < 16) (hj : j < 16) (on : Bool) : btB (if on = true then orI .u16 (andNotI .u16 m (shlI .u16 1 (i : Int))) (shlI .u16 1 (i : Int)) else andNotI .u16 m (shlI .u16 1 (i : Int))) j = if j = i then on else btB m j := by
  cases on
  · rw [if_neg (by simp), bit_clear h h' hi hj]
    by_cases e : j = i
    · subst e; simp
    · rw [decide_eq_false (fun z => e z.symm), if_neg e]; simp
  · rw [if_pos rfl, bit_putT h h' hi hj]
    by_cases e : j = i
    · subst e; simp
    · rw [decide_eq_false (fun z => e z.symm), if_neg e]; simp
theorem PD.put (h : PD W H Gr E S p) {x y : Nat} (hx : x < 10) (hy : y < 10) (s on : Bool) (hin : on = true → if s = true then x < W ∧ y + 1 < H else x + 1 < W ∧ y < H) : PD W H Gr (if s = true then E else upd E y x on) (if s = true then upd S y x on else S) (putB p x y s on) := by
  have rng : ∀ m : Int, 0 ≤ (if on = true then orI .u16 (andNotI .u16 m (shlI .u16 1 (x : Int))) (shlI .u16 1 (x : Int)) else andNotI .u16 m (shlI .u16 1 (x : Int))) ∧ (if on = true then orI .u16 (andNotI .u16 m (shlI .u16 1 (x : Int))) (shlI .u16 1 (x : Int)) else andNotI .u16 m (shlI .u16 1 (x : Int))) ≤ 65535 := fun m => by
    split
    · exact or_in _ _
    · exact andNot_in _ _
  cases s
  · simp only [Bool.false_eq_true, if_false] at hin ⊢
    have eE : ∀ b, gA (putB p x y false on).East b = if y = b then (if on = true then orI .u16 (andNotI .u16 (gA p.East y) (shlI .u16 1 (x : Int))) (shlI .u16 1 (x : Int)) else andNotI .u16 (gA p.East y) (shlI .u16 1 (x : Int))) else gA p.East b := fun b => by
      cases on
      · exact gA_set p.East hy _ b
      · exact gA_set p.East hy _ b
    have eS : (putB p x y false on).South = p.South := by cases on <;> rfl
    have eG : (putB p x y false on).Grass = p.Grass := by cases on <;> rfl
    have eW : (putB p x y false on).Wide = p.Wide := by cases on <;> rfl
    have eH : (putB p x y false on).High = p.High := by cases on <;> rfl
    refine ⟨eW.trans h.w, eH.trans h.h, fun b a hb ha => by unfold gG; rw [eG]; exact h.g b a hb ha, fun b hb => ?_, fun b hb => by rw [eS]; exact h.s0 b hb, fun b j hb hj => ?_, fun b j hb hj => by rw [eS]; exact h.s b j hb hj⟩
    · rw [eE b]
      by_cases e1 : y = b
      · rw [if_pos e1]; exact rng _
      · rw [if_neg e1]; exact h.e0 b hb
    · rw [eE b]
      unfold upd
      by_cases e1 : y = b
      · subst e1
        rw [if_pos rfl, bit_put2 (h.e0 y hy).1 (h.e0 y hy).2 (by omega) hj]
        by_cases e2 : j = x
        · subst e2
          rw [if_pos rfl, if_pos ⟨rfl, rfl⟩]
          cases on
          · simp
          · rw [decide_eq_true (hin rfl)]; rfl
        · rw [if_neg e2, if_neg (fun z => e2 z.2)]; exact h.e y j hy hj
      · rw [if_neg e1, if_neg (fun z => e1 z.1.symm)]; exact h.e b j hb hj
  · simp only [if_true] at hin ⊢
    have eS : ∀ b, gA (putB p x y true on).South b = if y = b then (if on = true then orI .u16 (andNotI .u16 (gA p.South y) (shlI .u16 1 (x : Int))) (shlI .u16 1 (x : Int)) else andNotI .u16 (gA p.South y) (shlI .u16 1 (x : Int))) else gA p.South b := fun b => by
      cases on
      · exact gA_set p.South hy _ b
      · exact gA_set p.South hy _ b
    have eE : (putB p x y true on).East = p.East := by cases on <;> rfl
    have eG : (putB p x y true on).Grass = p.Grass := by cases on <;> rfl
    have eW : (putB p x y true on).Wide = p.Wide := by cases on <;> rfl
    have eH : (putB p x y true on).High = p.High := by cases on <;> rfl
    refine ⟨eW.trans h.w, eH.trans h.h, fun b a hb ha => by unfold gG; rw [eG]; exact h.g b a hb ha, fun b hb => by rw [eE]; exact h.e0 b hb, fun b hb => ?_, fun b j hb hj => by rw [eE]; exact h.e b j hb hj, fun b j hb hj => ?_⟩
    · rw [eS b]
      by_cases e1 : y = b
      · rw [if_pos e1]; exact rng _
      · rw [if_neg e1]; exact h.s0 b hb
    · rw [eS b]
      unfold upd
      by_cases e1 : y = b
      · subst e1
        rw [if_pos rfl, bit_put2 (h.s0 y hy).1 (h.s0 y hy).2 (by omega) hj]
        by_cases e2 : j = x
        · subst e2
          rw [if_pos rfl, if_pos ⟨rfl, rfl⟩]
          cases on
          · simp
          · rw [decide_eq_true (hin rfl)]; rfl
        · rw [if_neg e2, if_neg (fun z => e2 z.2)]; exact h.s y j hy hj
      · rw [if_neg e1, if_neg (fun z => e1 z.1.symm)]; exact h.s b j hb hj
theorem putI_eq (p : Pasture) {x y : Nat} (hx : x < 10) (hy : y < 10) (s on : Bool) : impl_Pasture_put.f p (hu x y s) on = some (putB p x y s on) := by
  cases on
  · exact put_eq p hx hy s
  · have g1 : ∀ a : Arr 10 Int, getI a.l (y : Int) = some (gA a y) := fun a => getA a hy
    have e1 : ∀ (a : Arr 10 Int) (v : Int), gA (aset a y v) y = v := fun a v => by rw [gA_set a hy, if_pos rfl]
    have c : chk (0 ≤ (x : Int)) = some () := chkT (by omega)
    cases s
    · simp [impl_Pasture_put.f, hu, sp, chk, g1, e1, putB, putT, aset_aset]
    · simp [impl_Pasture_put.f, hu, sp, chk, g1, e1, putB, putT, aset_aset]
theorem putS_eq (p : Pasture) {x y : Nat} (hx : x < 10) (hy : y < 10) (s on : Bool) : spec_l01Set.f p (sp x y) (if s = true then 2 else 1) on = some (putB p x y s on) := by
  cases on
  · have := set_eq p hx hy s
    cases s
    · exact this
    · exact this
  · exact setT_eq p hx hy s
/-! ### Cell by cell -/
variable {y x : Nat}
def Dn {α : Type} (d : α) (y0 x0 : Nat) (F : Nat → Nat → α) : Nat → Nat → α := fun y x => if y < y0 ∨ (y = y0 ∧ x < x0) then F y x else d
theorem PD.step1 (h : PD W H (Dn 0 y x Gr) E S p) (hW : W ≤ 10) (hH : H ≤ 10) (hx : x < W) (hy : y < H) : PD W H (Dn 0 y (x + 1) Gr) E S ⟨p.Wide, p.High, put2 p.Grass y x (Gr y x), p.East, p.South⟩ := by
  refine (h.grass (by omega) (by omega) hx hy (Gr y x)).congr (fun b a _ _ => ?_) (fun _ _ _ _ => rfl) (fun _ _ _ _ => rfl)
  unfold upd Dn
  by_cases c : b = y ∧ a = x
  · obtain ⟨rfl, rfl⟩ := c
    rw [if_pos ⟨rfl, rfl⟩, if_pos (by omega)]
  · rw [if_neg c]
    by_cases d : b < y ∨ b = y ∧ a < x
    · rw [if_pos d, if_pos (by omega)]
    · rw [if_neg d, if_neg (by omega)]
theorem PD.step2 (h : PD W H Gr (Dn false y x E) S p) (hW : W ≤ 10) (hH : H ≤ 10) (hx : x < W) (hy : y < H) {e : Bool} (he : x + 1 < W → e = E y x) (he' : ¬ x + 1 < W → e = false) : PD W H Gr (Dn false y (x + 1) E) S (if e = true then putT p x y false else p) := by
  cases e
  · rw [if_neg (by simp)]
    refine h.congr (fun _ _ _ _ => rfl) (fun b a h1 h2 => ?_) (fun _ _ _ _ => rfl)
    unfold Dn
    by_cases c : b = y ∧ a = x
    · obtain ⟨rfl, rfl⟩ := c
      rw [if_neg (by omega), if_pos (by omega)]
      exact he h1
    · by_cases d : b < y ∨ b = y ∧ a < x
      · rw [if_pos d, if_pos (by omega)]
      · rw [if_neg d, if_neg (by omega)]
  · rw [if_pos rfl]
    have hx1 : x + 1 < W := Decidable.byContradiction fun c => by have := he' c; cases this
    refine (h.put (x := x) (y := y) (by omega) (by omega) false true (fun _ => by simp; omega)).congr (fun _ _ _ _ => rfl) (fun b a h1 h2 => ?_) (fun _ _ _ _ => rfl)
    simp only [Bool.false_eq_true, if_false]
    unfold upd Dn
    by_cases c : b = y ∧ a = x
    · obtain ⟨rfl, rfl⟩ := c
      rw [if_pos ⟨rfl, rfl⟩, if_pos (by omega)]
      exact he h1
    · rw [if_neg c]
      by_cases d : b < y ∨ b = y ∧ a < x
      · rw [if_pos d, if_pos (by omega)]
      · rw [if_neg d, if_neg (by omega)]
theorem PD.step3 (h : PD W H Gr E (Dn false y x S) p) (hW : W ≤ 10) (hH : H ≤ 10) (hx : x < W) (hy : y < H) {e : Bool} (he : y + 1 < H → e = S y x) (he' : ¬ y + 1 < H → e = false) : PD W H Gr E (Dn false y (x + 1) S) (if e = true then putT p x y true else p) := by
  cases e
  · rw [if_neg (by simp)]
    refine h.congr (fun _ _ _ _ => rfl) (fun _ _ _ _ => rfl) (fun b a h1 h2 => ?_)
    unfold Dn
    by_cases c : b = y ∧ a = x
    · obtain ⟨rfl, rfl⟩ := c
      rw [if_neg (by omega), if_pos (by omega)]
      exact he h2
    · by_cases d : b < y ∨ b = y ∧ a < x
      · rw [if_pos d, if_pos (by omega)]
      · rw [if_neg d, if_neg (by omega)]
  · rw [if_pos rfl]
    have hx1 : y + 1 < H := Decidable.byContradiction fun c => by have := he' c; cases this
    refine (h.put (x := x) (y := y) (by omega) (by omega) true true (fun _ => by simp; omega)).congr (fun _ _ _ _ => rfl) (fun _ _ _ _ => rfl) (fun b a h1 h2 => ?_)
    simp only [if_true]
    unfold upd Dn
    by_cases c : b = y ∧ a = x
    · obtain ⟨rfl, rfl⟩ := c
      rw [if_pos ⟨rfl, rfl⟩, if_pos (by omega)]
      exact he h2
    · rw [if_neg c]
      by_cases d : b < y ∨ b = y ∧ a < x
      · rw [if_pos d, if_pos (by omega)]
      · rw [if_neg d, if_neg (by omega)]
/-- All three of a cell. -/
abbrev PDn (W H : Nat) (Gr : Nat → Nat → Int) (E S : Nat → Nat → Bool) (y x : Nat) (p : Pasture) : Prop := PD W H (Dn 0 y x Gr) (Dn false y x E) (Dn false y x S) p
theorem PDn.row (h : PDn W H Gr E S y W p) : PDn W H Gr E S (y + 1) 0 p := by
  refine PD.congr h (fun b a h1 h2 => ?_) (fun b a h1 h2 => ?_) (fun b a h1 h2 => ?_)
  all_goals
    unfold Dn
    by_cases d : b < y ∨ b = y ∧ a < W
    · rw [if_pos d, if_pos (by omega)]
    · rw [if_neg d, if_neg (by omega)]
theorem PDn.all (h : PDn W H Gr E S H 0 p) : PD W H Gr E S p := by
  refine PD.congr h (fun b a h1 h2 => ?_) (fun b a h1 h2 => ?_) (fun b a h1 h2 => ?_)
  all_goals
    unfold Dn
    rw [if_pos (by omega)]
theorem PDn.start (W H : Nat) (Gr : Nat → Nat → Int) (E S : Nat → Nat → Bool) : PDn W H Gr E S 0 0 (⟨(W : Int), (H : Int), (Arr.mk' (Arr.mk' 0 : Arr 10 Int) : Arr 10 (Arr 10 Int)), (Arr.mk' 0 : Arr 10 Int), (Arr.mk' 0 : Arr 10 Int)⟩ : Pasture) := by
  have n0 : ∀ y x : Nat, ¬ (y < 0 ∨ y = 0 ∧ x < 0) := fun y x => by omega
  refine ⟨rfl, rfl, fun y x hy hx => ?_, fun y hy => ?_, fun y hy => ?_, fun y j hy hj => ?_, fun y j hy hj => ?_⟩
  · unfold Dn
    rw [if_neg (n0 y x), ite_self]
    exact gG_zero hy hx
  · show 0 ≤ gA (Arr.mk' 0 : Arr 10 Int) y ∧ gA (Arr.mk' 0 : Arr 10 Int) y ≤ 65535
    rw [gA_zero hy]; omega
  · show 0 ≤ gA (Arr.mk' 0 : Arr 10 Int) y ∧ gA (Arr.mk' 0 : Arr 10 Int) y ≤ 65535
    rw [gA_zero hy]; omega
  · show btB (gA (Arr.mk' 0 : Arr 10 Int) y) j = _
    unfold Dn
    rw [gA_zero hy, bt_zero, if_neg (n0 y j), Bool.and_false]
  · show btB (gA (Arr.mk' 0 : Arr 10 Int) y) j = _
    unfold Dn
    rw [gA_zero hy, bt_zero, if_neg (n0 y j), Bool.and_false]
end Go.Proofs.YtbkkojdkiimdjaaGreatDoor
/-
  Plain law: pastures that are mirrored or turned.
-/
namespace Go.Proofs.YtbkkojdkiimdjaaGreatDoor
open G
set_option linter.unusedVariables false
set_option linter.unusedSimpArgs false
variable {W H : Nat} {Gr : Nat → Nat → Int} {E S : Nat → Nat → Bool} {p q : Pasture}
theorem nx_inj {a b : Nat} (ha : a < 10) (hb : b < 10) {i j : Nat} (hi : i < 4) (hj : j < 4) (h : nx (sp a b) (i : Int) = nx (sp a b) (j : Int)) : i = j := by
  have w1 : ∀ z : Nat, z < 10 → IntKind.i8.wrap ((z : Int) + 1) = (z : Int) + 1 := fun z hz => w8 (by omega) (by omega)
  have w2 : ∀ z : Nat, z < 10 → IntKind.i8.wrap ((z : Int) - 1) = (z : Int) - 1 := fun z hz => w8 (by omega) (by omega)
  rcases side hi with rfl | rfl | rfl | rfl <;> rcases side hj with rfl | rfl | rfl | rfl <;> simp [nx, sp, w1 a ha, w1 b hb, w2 a ha, w2 b hb] at h ⊢ <;> omega
theorem hurdleAt_eq (x y : Nat) (s : Bool) : impl_hurdleAt.f (sp x y) (if s = true then 2 else 1) = some (hu x y s) := by
  cases s <;> simp [impl_hurdleAt.f, hu]
theorem moved3 {p : Pasture} (v : VPasture p) (hw : okW p = true) {a3 : Spot → Option Spot} {x y a b : Nat} (hx : x < 10) (hy : y < 10) (ha : a < 10) (hb : b < 10) {s : Bool} {K : Nat} (hK : K < 4) {t25 : Spot} (h3 : a3 t25 = some (nx (sp a b) (K : Int))) {sd : Int} (hh : impl_hurdleAt.f (sp x y) sd = some (hu x y s)) : ∀ i : Nat, i ≤ 4 → ∀ out : Pasture, Ev (fun k => impl_Pasture_moved.l3 p a3 (sp x y) (sp a b) sd t25 k out (i : Int)) (if i ≤ K ∧ openB p a b K = false then putT out x y s else out) := by
  refine upL ?_ ?_
  · intro out
    rw [if_neg (by omega)]
    exact Ev.step (fun k => impl_Pasture_moved.l3.eq_2 _ _ _ _ _ _ _ _ _) (Ev.neg (by omega) (Ev.const rfl))
  · intro i hi ih out
    rw [← wsucc hi (by omega)] at ih
    refine Ev.step (fun k => impl_Pasture_moved.l3.eq_2 _ _ _ _ _ _ _ _ _) (Ev.pos (by omega) (Ev.bind (Ev.const (ahead_eq _ _)) (Ev.bind (Ev.const h3) ?_)))
    by_cases e : i = K
    · subst e
      refine Ev.pos rfl (Ev.bind (Ev.const (canGo_eq v hw ha hb hi)) ?_)
      cases ho : openB p a b i
      · rw [ho] at ih
        have hp : impl_Pasture_put.f out (hu x y s) true = some (putT out x y s) := putI_eq out hx hy s true
        refine Ev.pos rfl (Ev.bind (Ev.const hh) (Ev.bind (Ev.const hp) ?_))
        have := ih (putT out x y s)
        rw [if_neg (by omega)] at this
        rw [if_pos ⟨Nat.le_refl _, rfl⟩]
        exact this
      · rw [ho] at ih
        have := ih out
        rw [if_neg (by simp)] at this
        rw [if_neg (by simp)]
        exact Ev.neg (by simp) this
    · refine Ev.neg (fun z => e (nx_inj ha hb hi hK z).symm.symm) ?_
      have := ih out
      by_cases c : i + 1 ≤ K ∧ openB p a b K = false
      · rw [if_pos c] at this
        rw [if_pos ⟨by omega, c.2⟩]; exact this
      · rw [if_neg c] at this
        rw [if_neg (fun z => c ⟨by omega, z.2⟩)]; exact this
/-- Where the cells of a pasture come from. -/
structure From (p : Pasture) (W H : Nat) (a3 : Spot → Option Spot) (fx fy : Nat → Nat → Nat) (kE kS : Nat) : Prop where
  at_ : ∀ y x, x < W → y < H → a3 (sp x y) = some (sp (fx y x) (fy y x)) ∧ fx y x < 10 ∧ fy y x < 10
  k4E : kE < 4
  k4S : kS < 4
  e : ∀ y x, x + 1 < W → y < H → sp (fx y (x + 1)) (fy y (x + 1)) = nx (sp (fx y x) (fy y x)) (kE : Int)
  s : ∀ y x, x < W → y + 1 < H → sp (fx (y + 1) x) (fy (y + 1) x) = nx (sp (fx y x) (fy y x)) (kS : Int)
theorem nx1 {x y : Nat} (hx : x < 10) : nx (sp x y) 1 = sp (x + 1) y := by
  unfold nx sp; simp; rw [w8 (by omega) (by omega)]
theorem nx2 {x y : Nat} (hy : y < 10) : nx (sp x y) 2 = sp x (y + 1) := by
  unfold nx sp; simp; rw [w8 (by omega) (by omega)]
theorem PD.cell (h : PD W H Gr E S p) (x y : Nat) : cellB p (sp x y).X (sp x y).Y = decide (x < W ∧ y < H) := by
  unfold cellB sp
  rw [h.w, h.h, Bool.eq_iff_iff]
  simp only [Bool.and_eq_true, decide_eq_true_eq]
  omega
theorem put_dims (p : Pasture) (x y : Nat) (s : Bool) : (putT p x y s).Wide = p.Wide ∧ (putT p x y s).High = p.High := by cases s <;> exact ⟨rfl, rfl⟩
theorem moved2 {p : Pasture} (v : VPasture p) (hw : okW p = true) {a3 : Spot → Option Spot} {fx fy : Nat → Nat → Nat} {kE kS : Nat} (F : From p W H a3 fx fy kE kS) (hW : W ≤ 10) (hH : H ≤ 10) (hW1 : 1 ≤ W) (hH1 : 1 ≤ H) (hG : ∀ y x, x < W → y < H → 0 ≤ Gr y x ∧ Gr y x ≤ 1000) {x y : Nat} (hx : x < W) (hy : y < H) {out : Pasture}
    (h : PD W H (Dn 0 y (x + 1) Gr) (Dn false y x fun y x => !openB p (fx y x) (fy y x) kE) (Dn false y x fun y x => !openB p (fx y x) (fy y x) kS) out) :
    ∃ out', Ev (fun k => impl_Pasture_moved.l2 p a3 (sp x y) (sp (fx y x) (fy y x)) k out 0) out' ∧ PDn W H Gr (fun y x => !openB p (fx y x) (fy y x) kE) (fun y x => !openB p (fx y x) (fy y x) kS) y (x + 1) out' := by
  have hD : ∀ y0 x0, ∀ y x, x < W → y < H → 0 ≤ Dn 0 y0 x0 Gr y x ∧ Dn 0 y0 x0 Gr y x ≤ 1000 := fun y0 x0 y x hx hy => by
    unfold Dn
    split
    · exact hG y x hx hy
    · omega
  obtain ⟨f1, f2, f3⟩ := F.at_ y x hx hy
  have g0 : getI ([1, 2] : List Int) 0 = some 1 := rfl
  have g1 : getI ([1, 2] : List Int) 1 = some 2 := rfl
  have w0 : IntKind.i64.wrap (0 + 1) = 1 := by decide
  have w1 : IntKind.i64.wrap (1 + 1) = 2 := by decide
  -- the side in the east
  have s1 : ∃ o1, PD W H (Dn 0 y (x + 1) Gr) (Dn false y (x + 1) fun y x => !openB p (fx y x) (fy y x) kE) (Dn false y x fun y x => !openB p (fx y x) (fy y x) kS) o1 ∧ ∀ {r}, Ev (fun k => impl_Pasture_moved.l2 p a3 (sp x y) (sp (fx y x) (fy y x)) k o1 1) r → Ev (fun k => impl_Pasture_moved.l2 p a3 (sp x y) (sp (fx y x) (fy y x)) k out 0) r := by
    have hc := isCell_eq (h.V hW hH (hD _ _)) (h.okW ⟨hW1, hW⟩ ⟨hH1, hH⟩) (nx (sp x y) 1) (nx_in (by omega) (by omega) 1)
    rw [nx1 (by omega), h.cell] at hc
    have hst := h.step2 (e := decide (x + 1 < W) && !openB p (fx y x) (fy y x) kE) hW hH hx hy (fun c => by rw [decide_eq_true c, Bool.true_and]) (fun c => by rw [decide_eq_false c, Bool.false_and])
    refine ⟨_, hst, fun {r} hr => Ev.step (fun k => impl_Pasture_moved.l2.eq_2 _ _ _ _ _ _ _) (Ev.pos (by simp) (Ev.bind (Ev.bind (Ev.const g0) (Ev.bind (Ev.const (ahead_eq _ _)) ?_)) (by rw [w0]; exact hr)))⟩
    rw [nx1 (by omega)]
    by_cases c : x + 1 < W
    · rw [decide_eq_true (show x + 1 < W ∧ y < H from ⟨c, hy⟩)] at hc
      have hfe : a3 (sp (x + 1) y) = some (nx (sp (fx y x) (fy y x)) (kE : Int)) := by rw [(F.at_ y (x + 1) c hy).1, F.e y x c hy]
      have h3 := moved3 v hw (x := x) (y := y) (s := false) (by omega) (by omega) f2 f3 F.k4E hfe (hurdleAt_eq x y false) 0 (Nat.zero_le _) out
      refine Ev.bind (Ev.const hc) (Ev.neg (by simp) (Ev.bind h3 (Ev.const ?_)))
      rw [decide_eq_true c, Bool.true_and]
      cases openB p (fx y x) (fy y x) kE <;> simp
    · rw [decide_eq_false (show ¬ (x + 1 < W ∧ y < H) by omega)] at hc
      refine Ev.bind (Ev.const hc) (Ev.pos rfl (Ev.const ?_))
      rw [decide_eq_false c, Bool.false_and]; simp
  obtain ⟨o1, p1, k1⟩ := s1
  have s2 : ∃ o2, PDn W H Gr (fun y x => !openB p (fx y x) (fy y x) kE) (fun y x => !openB p (fx y x) (fy y x) kS) y (x + 1) o2 ∧ ∀ {r}, Ev (fun k => impl_Pasture_moved.l2 p a3 (sp x y) (sp (fx y x) (fy y x)) k o2 2) r → Ev (fun k => impl_Pasture_moved.l2 p a3 (sp x y) (sp (fx y x) (fy y x)) k o1 1) r := by
    have hc := isCell_eq (p1.V hW hH (hD _ _)) (p1.okW ⟨hW1, hW⟩ ⟨hH1, hH⟩) (nx (sp x y) 2) (nx_in (by omega) (by omega) 2)
    rw [nx2 (by omega), p1.cell] at hc
    have hst := p1.step3 (e := decide (y + 1 < H) && !openB p (fx y x) (fy y x) kS) hW hH hx hy (fun c => by rw [decide_eq_true c, Bool.true_and]) (fun c => by rw [decide_eq_false c, Bool.false_and])
    refine ⟨_, hst, fun {r} hr => Ev.step (fun k => impl_Pasture_moved.l2.eq_2 _ _ _ _ _ _ _) (Ev.pos (by simp) (Ev.bind (Ev.bind (Ev.const g1) (Ev.bind (Ev.const (ahead_eq _ _)) ?_)) (by rw [w1]; exact hr)))⟩
    rw [nx2 (by omega)]
    by_cases c : y + 1 < H
    · rw [decide_eq_true (show x < W ∧ y + 1 < H from ⟨hx, c⟩)] at hc
      have hfe : a3 (sp x (y + 1)) = some (nx (sp (fx y x) (fy y x)) (kS : Int)) := by rw [(F.at_ (y + 1) x hx c).1, F.s y x hx c]
      have h3 := moved3 v hw (x := x) (y := y) (s := true) (by omega) (by omega) f2 f3 F.k4S hfe (hurdleAt_eq x y true) 0 (Nat.zero_le _) o1
      refine Ev.bind (Ev.const hc) (Ev.neg (by simp) (Ev.bind h3 (Ev.const ?_)))
      rw [decide_eq_true c, Bool.true_and]
      cases openB p (fx y x) (fy y x) kS <;> simp
    · rw [decide_eq_false (show ¬ (x < W ∧ y + 1 < H) by omega)] at hc
      refine Ev.bind (Ev.const hc) (Ev.pos rfl (Ev.const ?_))
      rw [decide_eq_false c, Bool.false_and]; simp
  obtain ⟨o2, p2, k2⟩ := s2
  exact ⟨o2, k1 (k2 (Ev.step (fun k => impl_Pasture_moved.l2.eq_2 _ _ _ _ _ _ _) (Ev.neg (by simp) (Ev.const rfl)))), p2⟩
theorem moved_ev {p : Pasture} (v : VPasture p) (hp : vP p = true) {a3 : Spot → Option Spot} {fx fy : Nat → Nat → Nat} {kE kS : Nat} (F : From p W H a3 fx fy kE kS) (hW : W ≤ 10) (hH : H ≤ 10) (hW1 : 1 ≤ W) (hH1 : 1 ≤ H) :
    ∃ out', Ev (fun k => impl_Pasture_moved.f k p (W : Int) (H : Int) a3) out' ∧ PD W H (fun y x => gG p (fy y x) (fx y x)) (fun y x => !openB p (fx y x) (fy y x) kE) (fun y x => !openB p (fx y x) (fy y x) kS) out' := by
  have hw := vP_okW hp
  have hG : ∀ y x, x < W → y < H → 0 ≤ gG p (fy y x) (fx y x) ∧ gG p (fy y x) (fx y x) ≤ 1000 := fun y x hx hy => (vP_G hp (F.at_ y x hx hy).2.2 (F.at_ y x hx hy).2.1).1
  have hlen := gridT_len W H 0
  have hHW : H * W ≤ 10 * 10 := Nat.mul_le_mul hH hW
  have row : ∀ y, y < H → ∀ x, x ≤ W → ∀ out, PDn W H (fun y x => gG p (fy y x) (fx y x)) (fun y x => !openB p (fx y x) (fy y x) kE) (fun y x => !openB p (fx y x) (fy y x) kS) y x out → ∃ out', PDn W H (fun y x => gG p (fy y x) (fx y x)) (fun y x => !openB p (fx y x) (fy y x) kE) (fun y x => !openB p (fx y x) (fy y x) kS) (y + 1) 0 out' ∧ ∀ {r}, Ev (fun k => impl_Pasture_moved.l1 p a3 (gridF (fun _ _ => true) W 0 H) k out' (((y + 1) * W : Nat) : Int)) r → Ev (fun k => impl_Pasture_moved.l1 p a3 (gridF (fun _ _ => true) W 0 H) k out ((y * W + x : Nat) : Int)) r := by
    intro y hy
    refine upL ?_ ?_
    · intro out h
      exact ⟨out, h.row, fun {r} hr => by rw [show y * W + W = (y + 1) * W by rw [Nat.add_mul, Nat.one_mul]]; exact hr⟩
    · intro x hx ih out h
      have hmul : (y + 1) * W ≤ H * W := Nat.mul_le_mul_right W hy
      rw [Nat.add_mul, Nat.one_mul] at hmul
      have hi : y * W + x < (gridF (fun _ _ => true) W 0 H).length := by rw [hlen]; omega
      have hg : getI (gridF (fun _ _ => true) W 0 H) ((y * W + x : Nat) : Int) = some (sp x y) := by
        rw [getI_nat hi]
        have := gridT_get W H 0 y x hy hx
        rw [List.getElem?_eq_getElem hi] at this
        rw [Nat.zero_add] at this
        exact this
      obtain ⟨f1, f2, f3⟩ := F.at_ y x hx hy
      have hs1 := PD.step1 (Gr := fun y x => gG p (fy y x) (fx y x)) h hW hH hx hy
      obtain ⟨o2, e2, p2⟩ := moved2 v hw F hW hH hW1 hH1 hG hx hy hs1
      obtain ⟨o3, p3, k3⟩ := ih o2 p2
      refine ⟨o3, p3, fun {r} hr => ?_⟩
      have := k3 hr
      rw [show ((y * W + (x + 1) : Nat) : Int) = ((y * W + x + 1 : Nat) : Int) from rfl, ← wsucc hi (by omega)] at this
      refine Ev.step (fun k => impl_Pasture_moved.l1.eq_2 _ _ _ _ _ _) (Ev.pos (by omega) (Ev.bind (Ev.bind (Ev.const hg) (Ev.bind (Ev.const f1) (Ev.bind (Ev.const (getR p.Grass f3)) (Ev.bind (Ev.const (getA _ f2)) (Ev.bind (Ev.const (getR out.Grass (show y < 10 by omega))) (Ev.bind (Ev.const (getA _ (show x < 10 by omega))) (e2.bind (Ev.const rfl)))))))) this))
  have grid : ∀ y, y ≤ H → ∀ out, PDn W H (fun y x => gG p (fy y x) (fx y x)) (fun y x => !openB p (fx y x) (fy y x) kE) (fun y x => !openB p (fx y x) (fy y x) kS) y 0 out → ∃ out', PDn W H (fun y x => gG p (fy y x) (fx y x)) (fun y x => !openB p (fx y x) (fy y x) kE) (fun y x => !openB p (fx y x) (fy y x) kS) H 0 out' ∧ Ev (fun k => impl_Pasture_moved.l1 p a3 (gridF (fun _ _ => true) W 0 H) k out ((y * W : Nat) : Int)) out' := by
    refine upL ?_ ?_
    · intro out h
      exact ⟨out, h, Ev.step (fun k => impl_Pasture_moved.l1.eq_2 _ _ _ _ _ _) (Ev.neg (by omega) (Ev.const rfl))⟩
    · intro y hy ih out h
      obtain ⟨o1, p1, k1⟩ := row y hy 0 (Nat.zero_le _) out h
      obtain ⟨o2, p2, k2⟩ := ih o1 p1
      exact ⟨o2, p2, k1 k2⟩
  obtain ⟨o, po, eo⟩ := grid 0 (Nat.zero_le _) _ (PDn.start W H _ _ _)
  rw [Nat.zero_mul] at eo
  have hall : ∃ K, ∀ k, K ≤ k → impl_Pasture_all.f k (⟨(W : Int), (H : Int), (Arr.mk' (Arr.mk' 0 : Arr 10 Int) : Arr 10 (Arr 10 Int)), (Arr.mk' 0 : Arr 10 Int), (Arr.mk' 0 : Arr 10 Int)⟩ : Pasture) = some (gridF (fun _ _ => true) W 0 H) := by
    refine ⟨24, fun k hk => ?_⟩
    have := all_eq (p := (⟨(W : Int), (H : Int), (Arr.mk' (Arr.mk' 0 : Arr 10 Int) : Arr 10 (Arr 10 Int)), (Arr.mk' 0 : Arr 10 Int), (Arr.mk' 0 : Arr 10 Int)⟩ : Pasture)) (okW_iff.2 ⟨⟨by show (1 : Int) ≤ (W : Int); omega, by show (W : Int) ≤ 10; omega⟩, by show (1 : Int) ≤ (H : Int); omega, by show (H : Int) ≤ 10; omega⟩) hk
    simpa using this
  exact ⟨o, Ev.bind hall (eo.bind (Ev.const rfl)), po.all⟩
end Go.Proofs.YtbkkojdkiimdjaaGreatDoor
/-
  Plain law: pastures that are mirrored or turned, by the reference too.
-/
namespace Go.Proofs.YtbkkojdkiimdjaaGreatDoor
open G
set_option linter.unusedVariables false
set_option linter.unusedSimpArgs false
variable {W H : Nat} {p q : Pasture}
theorem wback {W x : Nat} (hW : W ≤ 10) (hx : x < W) : IntKind.i8.wrap ((IntKind.i8.wrap ((W : Int) - 1)) - (x : Int)) = ((W - 1 - x : Nat) : Int) := by
  rw [w8 (x := (W : Int) - 1) (by omega) (by omega), w8 (by omega) (by omega)]; omega
theorem wnext {x : Nat} (hx : x ≤ 10) : IntKind.i8.wrap ((x : Int) + 1) = ((x + 1 : Nat) : Int) := by
  rw [w8 (by omega) (by omega)]; omega
theorem nx0 {x y : Nat} (h1 : 1 ≤ y) (hy : y < 10) : nx (sp x y) 0 = sp x (y - 1) := by
  unfold nx sp; simp; rw [w8 (by omega) (by omega)]; omega
theorem nx3 {x y : Nat} (h1 : 1 ≤ x) (hx : x < 10) : nx (sp x y) 3 = sp (x - 1) y := by
  unfold nx sp; simp; rw [w8 (by omega) (by omega)]; omega
/-! ### Mirrored -/
theorem mirFrom (hW : p.Wide = (W : Int)) (hW' : W ≤ 10) (hH' : H ≤ 10) : From p W H (impl_MirrorPasture_1.f p) (fun y x => W - 1 - x) (fun y x => y) 3 2 := by
  refine ⟨fun y x hx hy => ⟨?_, by show W - 1 - x < 10; omega, by show y < 10; omega⟩, by decide, by decide, fun y x hx hy => ?_, fun y x hx hy => ?_⟩
  · unfold impl_MirrorPasture_1.f
    show some (⟨IntKind.i8.wrap ((IntKind.i8.wrap (p.Wide - 1)) - (x : Int)), (y : Int)⟩ : Spot) = _
    rw [hW, wback hW' hx]; rfl
  · show sp (W - 1 - (x + 1)) y = nx (sp (W - 1 - x) y) 3
    rw [nx3 (by omega) (by omega), show W - 1 - (x + 1) = W - 1 - x - 1 by omega]
  · show sp (W - 1 - x) (y + 1) = nx (sp (W - 1 - x) y) 2
    rw [nx2 (by omega)]
theorem mirI_ev (v : VPasture p) (hp : vP p = true) (hW : p.Wide = (W : Int)) (hH : p.High = (H : Int)) (hW' : 1 ≤ W ∧ W ≤ 10) (hH' : 1 ≤ H ∧ H ≤ 10) :
    ∃ q, Ev (fun k => impl_MirrorPasture.f k p) (q, 0) ∧ PD W H (fun y x => gG p y (W - 1 - x)) (fun y x => !openB p (W - 1 - x) y 3) (fun y x => !openB p (W - 1 - x) y 2) q := by
  obtain ⟨q, e, h⟩ := moved_ev v hp (mirFrom (H := H) hW hW'.2 hH'.2) hW'.2 hH'.2 hW'.1 hH'.1
  refine ⟨q, (implOk_ev v).bind ?_, h⟩
  rw [hp, hW, hH]
  exact Ev.neg (by simp) (e.bind (Ev.const rfl))
/-- The first of two sides: in the east. -/
theorem sideE {c : Prop} [Decidable c] {b : Bool} {f : Option Bool} (hf : c → f = some b) : (if c then (f.bind fun t18 => some t18) else (some false) : Option Bool) = some (decide c && b) := by
  by_cases h : c
  · rw [if_pos h, hf h, decide_eq_true h]; rfl
  · rw [if_neg h, decide_eq_false h]; rfl
theorem mirS_row (v : VPasture p) (hp : vP p = true) (hW : p.Wide = (W : Int)) (hH : p.High = (H : Int)) (hW' : 1 ≤ W ∧ W ≤ 10) (hH' : 1 ≤ H ∧ H ≤ 10) {y : Nat} (hy : y < H) : ∀ x, x ≤ W → ∀ out, PDn W H (fun y x => gG p y (W - 1 - x)) (fun y x => !openB p (W - 1 - x) y 3) (fun y x => !openB p (W - 1 - x) y 2) y x out →
    ∃ out', Ev (fun k => spec_MirrorPasture.l2 p (y : Int) k out (x : Int)) out' ∧ PDn W H (fun y x => gG p y (W - 1 - x)) (fun y x => !openB p (W - 1 - x) y 3) (fun y x => !openB p (W - 1 - x) y 2) (y + 1) 0 out' := by
  have hw := vP_okW hp
  refine upL ?_ ?_
  · intro out h
    exact ⟨out, Ev.step (fun k => spec_MirrorPasture.l2.eq_2 _ _ _ _ _) (Ev.neg (by rw [hW]; omega) (Ev.const rfl)), h.row⟩
  · intro x hx ih out h
    have h1 := PD.step1 (Gr := fun y x => gG p y (W - 1 - x)) h hW'.2 hH'.2 hx hy
    have h2 := h1.step2 (e := decide (x + 1 < W) && !openB p (W - 1 - x) y 3) hW'.2 hH'.2 hx hy (fun c => by rw [decide_eq_true c, Bool.true_and]) (fun c => by rw [decide_eq_false c, Bool.false_and])
    have h3 := h2.step3 (e := decide (y + 1 < H) && !openB p (W - 1 - x) y 2) hW'.2 hH'.2 hx hy (fun c => by rw [decide_eq_true c, Bool.true_and]) (fun c => by rw [decide_eq_false c, Bool.false_and])
    obtain ⟨o, eo, po⟩ := ih _ h3
    refine ⟨o, ?_, po⟩
    rw [← wnext (by omega)] at eo
    have hb := wback hW'.2 hx
    have hc3 := closed_eq v hw (x := W - 1 - x) (y := y) (by omega) (by omega) (i := 3) (by omega)
    have hc2 := closed_eq v hw (x := W - 1 - x) (y := y) (by omega) (by omega) (i := 2) (by omega)
    have d1 : IntKind.i8.wrap ((x : Int) + 1) < (W : Int) ↔ x + 1 < W := by rw [wnext (by omega)]; omega
    have d2 : IntKind.i8.wrap ((y : Int) + 1) < (H : Int) ↔ y + 1 < H := by rw [wnext (by omega)]; omega
    have hS : ∀ (o : Pasture) (s : Bool), spec_l01Set.f o (⟨(x : Int), (y : Int)⟩ : Spot) (if s = true then 2 else 1) true = some (putT o x y s) := fun o s => putS_eq o (by omega) (by omega) s true
    have hS1 : ∀ (o : Pasture), spec_l01Set.f o (⟨(x : Int), (y : Int)⟩ : Spot) 1 true = some (putT o x y false) := fun o => hS o false
    have hS2 : ∀ (o : Pasture), spec_l01Set.f o (⟨(x : Int), (y : Int)⟩ : Spot) 2 true = some (putT o x y true) := fun o => hS o true
    refine Ev.step (fun k => spec_MirrorPasture.l2.eq_2 _ _ _ _ _) (Ev.pos (by rw [hW]; omega) (Ev.bind (Ev.const (getR p.Grass (show y < 10 by omega))) ?_))
    rw [hW, hH, hb]
    refine Ev.bind (Ev.const (getA _ (show W - 1 - x < 10 by omega))) (Ev.bind (Ev.const (getR out.Grass (show y < 10 by omega))) (Ev.bind (Ev.const (getA _ (show x < 10 by omega))) (Ev.bind (a := decide (x + 1 < W) && !openB p (W - 1 - x) y 3) (Ev.const ?_) ?_)))
    · refine (sideE (b := !openB p (W - 1 - x) y 3) (fun _ => hc3)).trans ?_
      rw [decide_eq_decide.2 d1]
    · simp only [Int.toNat_natCast]
      generalize hE : (decide (x + 1 < W) && !openB p (W - 1 - x) y 3) = e at eo ⊢
      cases e
      · refine Ev.neg (by simp) ?_
        simp only [Bool.false_eq_true, if_false] at eo
        by_cases c : y + 1 < H
        · refine Ev.pos (d2.2 c) (Ev.bind (Ev.const hc2) ?_)
          rw [decide_eq_true c, Bool.true_and] at eo
          cases ho : openB p (W - 1 - x) y 2
          · rw [ho] at eo
            exact Ev.pos rfl (Ev.bind (Ev.const (hS2 _)) eo)
          · rw [ho] at eo
            exact Ev.neg (by simp) eo
        · rw [decide_eq_false c, Bool.false_and] at eo
          exact Ev.neg (fun z => c (d2.1 z)) eo
      · refine Ev.pos rfl (Ev.bind (Ev.const (hS1 _)) ?_)
        simp only [if_true] at eo
        by_cases c : y + 1 < H
        · refine Ev.pos (d2.2 c) (Ev.bind (Ev.const hc2) ?_)
          rw [decide_eq_true c, Bool.true_and] at eo
          cases ho : openB p (W - 1 - x) y 2
          · rw [ho] at eo
            exact Ev.pos rfl (Ev.bind (Ev.const (hS2 _)) eo)
          · rw [ho] at eo
            exact Ev.neg (by simp) eo
        · rw [decide_eq_false c, Bool.false_and] at eo
          exact Ev.neg (fun z => c (d2.1 z)) eo
theorem mirS_ev (v : VPasture p) (hp : vP p = true) (hW : p.Wide = (W : Int)) (hH : p.High = (H : Int)) (hW' : 1 ≤ W ∧ W ≤ 10) (hH' : 1 ≤ H ∧ H ≤ 10) :
    ∃ q, Ev (fun k => spec_MirrorPasture.f k p) (q, 0) ∧ PD W H (fun y x => gG p y (W - 1 - x)) (fun y x => !openB p (W - 1 - x) y 3) (fun y x => !openB p (W - 1 - x) y 2) q := by
  have grid : ∀ y, y ≤ H → ∀ out, PDn W H (fun y x => gG p y (W - 1 - x)) (fun y x => !openB p (W - 1 - x) y 3) (fun y x => !openB p (W - 1 - x) y 2) y 0 out → ∃ out', Ev (fun k => spec_MirrorPasture.l1 p k out (y : Int)) out' ∧ PDn W H (fun y x => gG p y (W - 1 - x)) (fun y x => !openB p (W - 1 - x) y 3) (fun y x => !openB p (W - 1 - x) y 2) H 0 out' := by
    refine upL ?_ ?_
    · intro out h
      exact ⟨out, Ev.step (fun k => spec_MirrorPasture.l1.eq_2 _ _ _ _) (Ev.neg (by rw [hH]; omega) (Ev.const rfl)), h⟩
    · intro y hy ih out h
      obtain ⟨o1, e1, p1⟩ := mirS_row v hp hW hH hW' hH' hy 0 (Nat.zero_le _) out h
      obtain ⟨o2, e2, p2⟩ := ih o1 p1
      rw [← wnext (by omega)] at e2
      exact ⟨o2, Ev.step (fun k => spec_MirrorPasture.l1.eq_2 _ _ _ _) (Ev.pos (by rw [hH]; omega) (Ev.bind (e1.bind (Ev.const rfl)) e2)), p2⟩
  obtain ⟨q, e, h⟩ := grid 0 (Nat.zero_le _) _ (PDn.start W H _ _ _)
  refine ⟨q, (specOk_ev v).bind ?_, h.all⟩
  rw [hp, hW, hH]
  exact Ev.neg (by simp) (e.bind (Ev.const rfl))
/-! ### Turned -/
theorem turnFrom (hH : p.High = (H : Int)) (hW' : W ≤ 10) (hH' : H ≤ 10) : From p H W (impl_TurnPasture_1.f p) (fun y x => y) (fun y x => H - 1 - x) 0 1 := by
  refine ⟨fun y x hx hy => ⟨?_, by show y < 10; omega, by show H - 1 - x < 10; omega⟩, by decide, by decide, fun y x hx hy => ?_, fun y x hx hy => ?_⟩
  · unfold impl_TurnPasture_1.f
    show some (⟨(y : Int), IntKind.i8.wrap ((IntKind.i8.wrap (p.High - 1)) - (x : Int))⟩ : Spot) = _
    rw [hH, wback hH' hx]; rfl
  · show sp y (H - 1 - (x + 1)) = nx (sp y (H - 1 - x)) 0
    rw [nx0 (by omega) (by omega), show H - 1 - (x + 1) = H - 1 - x - 1 by omega]
  · show sp (y + 1) (H - 1 - x) = nx (sp y (H - 1 - x)) 1
    rw [nx1 (by omega)]
theorem turnI_ev (v : VPasture p) (hp : vP p = true) (hW : p.Wide = (W : Int)) (hH : p.High = (H : Int)) (hW' : 1 ≤ W ∧ W ≤ 10) (hH' : 1 ≤ H ∧ H ≤ 10) :
    ∃ q, Ev (fun k => impl_TurnPasture.f k p) (q, 0) ∧ PD H W (fun y x => gG p (H - 1 - x) y) (fun y x => !openB p y (H - 1 - x) 0) (fun y x => !openB p y (H - 1 - x) 1) q := by
  obtain ⟨q, e, h⟩ := moved_ev v hp (turnFrom (W := W) hH hW'.2 hH'.2) hH'.2 hW'.2 hH'.1 hW'.1
  refine ⟨q, (implOk_ev v).bind ?_, h⟩
  rw [hp, hW, hH]
  exact Ev.neg (by simp) (e.bind (Ev.const rfl))
theorem turnS_row (v : VPasture p) (hp : vP p = true) (hW : p.Wide = (W : Int)) (hH : p.High = (H : Int)) (hW' : 1 ≤ W ∧ W ≤ 10) (hH' : 1 ≤ H ∧ H ≤ 10) {y : Nat} (hy : y < W) : ∀ x, x ≤ H → ∀ out, PDn H W (fun y x => gG p (H - 1 - x) y) (fun y x => !openB p y (H - 1 - x) 0) (fun y x => !openB p y (H - 1 - x) 1) y x out →
    ∃ out', Ev (fun k => spec_TurnPasture.l2 p (y : Int) k out (x : Int)) out' ∧ PDn H W (fun y x => gG p (H - 1 - x) y) (fun y x => !openB p y (H - 1 - x) 0) (fun y x => !openB p y (H - 1 - x) 1) (y + 1) 0 out' := by
  have hw := vP_okW hp
  refine upL ?_ ?_
  · intro out h
    exact ⟨out, Ev.step (fun k => spec_TurnPasture.l2.eq_2 _ _ _ _ _) (Ev.neg (by rw [h.w]; omega) (Ev.const rfl)), h.row⟩
  · intro x hx ih out h
    have h1 := PD.step1 (Gr := fun y x => gG p (H - 1 - x) y) h hH'.2 hW'.2 hx hy
    have h2 := h1.step2 (e := decide (x + 1 < H) && !openB p y (H - 1 - x) 0) hH'.2 hW'.2 hx hy (fun c => by rw [decide_eq_true c, Bool.true_and]) (fun c => by rw [decide_eq_false c, Bool.false_and])
    have h3 := h2.step3 (e := decide (y + 1 < W) && !openB p y (H - 1 - x) 1) hH'.2 hW'.2 hx hy (fun c => by rw [decide_eq_true c, Bool.true_and]) (fun c => by rw [decide_eq_false c, Bool.false_and])
    obtain ⟨o, eo, po⟩ := ih _ h3
    refine ⟨o, ?_, po⟩
    rw [← wnext (by omega)] at eo
    have hb := wback hH'.2 hx
    have oW : out.Wide = (H : Int) := h.w
    have oH : out.High = (W : Int) := h.h
    have hc3 := closed_eq v hw (x := y) (y := H - 1 - x) (by omega) (by omega) (i := 0) (by omega)
    have hc2 := closed_eq v hw (x := y) (y := H - 1 - x) (by omega) (by omega) (i := 1) (by omega)
    have d1 : IntKind.i8.wrap ((x : Int) + 1) < (H : Int) ↔ x + 1 < H := by rw [wnext (by omega)]; omega
    have d2 : IntKind.i8.wrap ((y : Int) + 1) < (W : Int) ↔ y + 1 < W := by rw [wnext (by omega)]; omega
    have hS : ∀ (o : Pasture) (s : Bool), spec_l01Set.f o (⟨(x : Int), (y : Int)⟩ : Spot) (if s = true then 2 else 1) true = some (putT o x y s) := fun o s => putS_eq o (by omega) (by omega) s true
    have hS1 : ∀ (o : Pasture), spec_l01Set.f o (⟨(x : Int), (y : Int)⟩ : Spot) 1 true = some (putT o x y false) := fun o => hS o false
    have hS2 : ∀ (o : Pasture), spec_l01Set.f o (⟨(x : Int), (y : Int)⟩ : Spot) 2 true = some (putT o x y true) := fun o => hS o true
    refine Ev.step (fun k => spec_TurnPasture.l2.eq_2 _ _ _ _ _) (Ev.pos (by rw [oW]; omega) ?_)
    rw [hH, hb]
    refine Ev.bind (Ev.const (getR p.Grass (show H - 1 - x < 10 by omega))) (Ev.bind (Ev.const (getA _ (show y < 10 by omega))) (Ev.bind (Ev.const (getR out.Grass (show y < 10 by omega))) (Ev.bind (Ev.const (getA _ (show x < 10 by omega))) (Ev.bind (a := decide (x + 1 < H) && !openB p y (H - 1 - x) 0) (Ev.const ?_) ?_))))
    · rw [oW]
      refine (sideE (b := !openB p y (H - 1 - x) 0) (fun _ => hc3)).trans ?_
      rw [decide_eq_decide.2 d1]
    · simp only [Int.toNat_natCast]
      generalize hE : (decide (x + 1 < H) && !openB p y (H - 1 - x) 0) = e at eo ⊢
      cases e
      · refine Ev.neg (by simp) ?_
        simp only [Bool.false_eq_true, if_false] at eo
        by_cases c : y + 1 < W
        · refine Ev.pos (by rw [oH]; exact d2.2 c) (Ev.bind (Ev.const hc2) ?_)
          rw [decide_eq_true c, Bool.true_and] at eo
          cases ho : openB p y (H - 1 - x) 1
          · rw [ho] at eo
            exact Ev.pos rfl (Ev.bind (Ev.const (hS2 _)) eo)
          · rw [ho] at eo
            exact Ev.neg (by simp) eo
        · rw [decide_eq_false c, Bool.false_and] at eo
          exact Ev.neg (by rw [oH]; exact fun z => c (d2.1 z)) eo
      · refine Ev.pos rfl (Ev.bind (Ev.const (hS1 _)) ?_)
        simp only [if_true] at eo
        by_cases c : y + 1 < W
        · refine Ev.pos (by show _ < out.High; rw [oH]; exact d2.2 c) (Ev.bind (Ev.const hc2) ?_)
          rw [decide_eq_true c, Bool.true_and] at eo
          cases ho : openB p y (H - 1 - x) 1
          · rw [ho] at eo
            exact Ev.pos rfl (Ev.bind (Ev.const (hS2 _)) eo)
          · rw [ho] at eo
            exact Ev.neg (by simp) eo
        · rw [decide_eq_false c, Bool.false_and] at eo
          exact Ev.neg (by show ¬ _ < out.High; rw [oH]; exact fun z => c (d2.1 z)) eo
theorem turnS_ev (v : VPasture p) (hp : vP p = true) (hW : p.Wide = (W : Int)) (hH : p.High = (H : Int)) (hW' : 1 ≤ W ∧ W ≤ 10) (hH' : 1 ≤ H ∧ H ≤ 10) :
    ∃ q, Ev (fun k => spec_TurnPasture.f k p) (q, 0) ∧ PD H W (fun y x => gG p (H - 1 - x) y) (fun y x => !openB p y (H - 1 - x) 0) (fun y x => !openB p y (H - 1 - x) 1) q := by
  have grid : ∀ y, y ≤ W → ∀ out, PDn H W (fun y x => gG p (H - 1 - x) y) (fun y x => !openB p y (H - 1 - x) 0) (fun y x => !openB p y (H - 1 - x) 1) y 0 out → ∃ out', Ev (fun k => spec_TurnPasture.l1 p k out (y : Int)) out' ∧ PDn H W (fun y x => gG p (H - 1 - x) y) (fun y x => !openB p y (H - 1 - x) 0) (fun y x => !openB p y (H - 1 - x) 1) W 0 out' := by
    refine upL ?_ ?_
    · intro out h
      exact ⟨out, Ev.step (fun k => spec_TurnPasture.l1.eq_2 _ _ _ _) (Ev.neg (by rw [h.h]; omega) (Ev.const rfl)), h⟩
    · intro y hy ih out h
      obtain ⟨o1, e1, p1⟩ := turnS_row v hp hW hH hW' hH' hy 0 (Nat.zero_le _) out h
      obtain ⟨o2, e2, p2⟩ := ih o1 p1
      rw [← wnext (by omega)] at e2
      exact ⟨o2, Ev.step (fun k => spec_TurnPasture.l1.eq_2 _ _ _ _) (Ev.pos (by rw [h.h]; omega) (Ev.bind (e1.bind (Ev.const rfl)) e2)), p2⟩
  obtain ⟨q, e, h⟩ := grid 0 (Nat.zero_le _) _ (PDn.start H W _ _ _)
  refine ⟨q, (specOk_ev v).bind ?_, h.all⟩
  rw [hp, hW, hH]
  exact Ev.neg (by simp) (e.bind (Ev.const rfl))
/-! ### What stands in cells -/
theorem open1 (hW : p.Wide = (W : Int)) (hH : p.High = (H : Int)) (hW' : W ≤ 10) (hH' : H ≤ 10) {x y : Nat} (hx : x + 1 < W) (hy : y < H) : (!openB p x y 1) = btB (gA p.East y) x := by
  have hc : cellB p (nx (sp x y) (1 : Int)).X (nx (sp x y) (1 : Int)).Y = true := by
    rw [nx1 (by omega)]
    unfold cellB sp
    rw [hW, hH]
    simp only [Bool.and_eq_true, decide_eq_true_eq]
    omega
  show (!(cellB p (nx (sp x y) (1 : Int)).X (nx (sp x y) (1 : Int)).Y && !btB (gA p.East y) x)) = _
  rw [hc]; simp
theorem open2 (hW : p.Wide = (W : Int)) (hH : p.High = (H : Int)) (hW' : W ≤ 10) (hH' : H ≤ 10) {x y : Nat} (hx : x < W) (hy : y + 1 < H) : (!openB p x y 2) = btB (gA p.South y) x := by
  have hc : cellB p (nx (sp x y) (2 : Int)).X (nx (sp x y) (2 : Int)).Y = true := by
    rw [nx2 (by omega)]
    unfold cellB sp
    rw [hW, hH]
    simp only [Bool.and_eq_true, decide_eq_true_eq]
    omega
  show (!(cellB p (nx (sp x y) (2 : Int)).X (nx (sp x y) (2 : Int)).Y && !btB (gA p.South y) x)) = _
  rw [hc]; simp
theorem open3 (hW : p.Wide = (W : Int)) (hH : p.High = (H : Int)) (hW' : W ≤ 10) (hH' : H ≤ 10) {x y : Nat} (h1 : 1 ≤ x) (hx : x < W) (hy : y < H) : (!openB p x y 3) = btB (gA p.East y) (x - 1) := by
  have hc : cellB p (nx (sp x y) (3 : Int)).X (nx (sp x y) (3 : Int)).Y = true := by
    rw [nx3 h1 (by omega)]
    unfold cellB sp
    rw [hW, hH]
    simp only [Bool.and_eq_true, decide_eq_true_eq]
    omega
  show (!(cellB p (nx (sp x y) (3 : Int)).X (nx (sp x y) (3 : Int)).Y && !btB (gA p.East y) (x - 1))) = _
  rw [hc]; simp
theorem open0 (hW : p.Wide = (W : Int)) (hH : p.High = (H : Int)) (hW' : W ≤ 10) (hH' : H ≤ 10) {x y : Nat} (h1 : 1 ≤ y) (hx : x < W) (hy : y < H) : (!openB p x y 0) = btB (gA p.South (y - 1)) x := by
  have hc : cellB p (nx (sp x y) (0 : Int)).X (nx (sp x y) (0 : Int)).Y = true := by
    rw [nx0 h1 (by omega)]
    unfold cellB sp
    rw [hW, hH]
    simp only [Bool.and_eq_true, decide_eq_true_eq]
    omega
  show (!(cellB p (nx (sp x y) (0 : Int)).X (nx (sp x y) (0 : Int)).Y && !btB (gA p.South (y - 1)) x)) = _
  rw [hc]; simp
variable {Gr : Nat → Nat → Int} {E S : Nat → Nat → Bool}
theorem PD.eE (h : PD W H Gr E S p) (hW : W ≤ 10) (hH : H ≤ 10) {x y : Nat} (hx : x + 1 < W) (hy : y < H) : btB (gA p.East y) x = E y x := by
  rw [h.e y x (by omega) (by omega), decide_eq_true ⟨hx, hy⟩]; rfl
theorem PD.eS (h : PD W H Gr E S p) (hW : W ≤ 10) (hH : H ≤ 10) {x y : Nat} (hx : x < W) (hy : y + 1 < H) : btB (gA p.South y) x = S y x := by
  rw [h.s y x (by omega) (by omega), decide_eq_true ⟨hx, hy⟩]; rfl
theorem PD.eG (h : PD W H Gr E S p) (hW : W ≤ 10) (hH : H ≤ 10) {x y : Nat} (hx : x < W) (hy : y < H) : gG p y x = Gr y x := by
  rw [h.g y x (by omega) (by omega), if_pos ⟨hx, hy⟩]
theorem mir_ev (h : PD W H Gr E S p) (hG : ∀ y x, x < W → y < H → 0 ≤ Gr y x ∧ Gr y x ≤ 1000) (hW : 1 ≤ W ∧ W ≤ 10) (hH : 1 ≤ H ∧ H ≤ 10) :
    ∃ q, Ev (fun k => impl_MirrorPasture.f k p) (q, 0) ∧ Ev (fun k => spec_MirrorPasture.f k p) (q, 0) ∧ PD W H (fun y x => Gr y (W - 1 - x)) (fun y x => E y (W - 2 - x)) (fun y x => S y (W - 1 - x)) q := by
  have v := h.V hW.2 hH.2 hG
  have hp := h.ok hW hH hG
  obtain ⟨q, e1, h1⟩ := mirI_ev v hp h.w h.h hW hH
  obtain ⟨q', e2, h2⟩ := mirS_ev v hp h.w h.h hW hH
  have e : q' = q := h2.ext h1 (fun _ _ _ _ => rfl) (fun _ _ _ _ => rfl) (fun _ _ _ _ => rfl)
  subst e
  refine ⟨q', e1, e2, h1.congr (fun y x hx hy => h.eG hW.2 hH.2 (by omega) hy) (fun y x hx hy => ?_) (fun y x hx hy => ?_)⟩
  · rw [open3 h.w h.h hW.2 hH.2 (by omega) (by omega) hy, show W - 1 - x - 1 = W - 2 - x by omega]
    exact h.eE hW.2 hH.2 (by omega) hy
  · rw [open2 h.w h.h hW.2 hH.2 (by omega) hy]
    exact h.eS hW.2 hH.2 (by omega) hy
theorem turn_ev (h : PD W H Gr E S p) (hG : ∀ y x, x < W → y < H → 0 ≤ Gr y x ∧ Gr y x ≤ 1000) (hW : 1 ≤ W ∧ W ≤ 10) (hH : 1 ≤ H ∧ H ≤ 10) :
    ∃ q, Ev (fun k => impl_TurnPasture.f k p) (q, 0) ∧ Ev (fun k => spec_TurnPasture.f k p) (q, 0) ∧ PD H W (fun y x => Gr (H - 1 - x) y) (fun y x => S (H - 2 - x) y) (fun y x => E (H - 1 - x) y) q := by
  have v := h.V hW.2 hH.2 hG
  have hp := h.ok hW hH hG
  obtain ⟨q, e1, h1⟩ := turnI_ev v hp h.w h.h hW hH
  obtain ⟨q', e2, h2⟩ := turnS_ev v hp h.w h.h hW hH
  have e : q' = q := h2.ext h1 (fun _ _ _ _ => rfl) (fun _ _ _ _ => rfl) (fun _ _ _ _ => rfl)
  subst e
  refine ⟨q', e1, e2, h1.congr (fun y x hx hy => h.eG hW.2 hH.2 hy (by omega)) (fun y x hx hy => ?_) (fun y x hx hy => ?_)⟩
  · rw [open0 h.w h.h hW.2 hH.2 (by omega) hy (by omega), show H - 1 - x - 1 = H - 2 - x by omega]
    exact h.eS hW.2 hH.2 hy (by omega)
  · rw [open1 h.w h.h hW.2 hH.2 hy (by omega)]
    exact h.eE hW.2 hH.2 hy (by omega)
end Go.Proofs.YtbkkojdkiimdjaaGreatDoor
/-
  Plain law: how many hurdles and how much grass there is.
-/
namespace Go.Proofs.YtbkkojdkiimdjaaGreatDoor
open G
set_option linter.unusedVariables false
set_option linter.unusedSimpArgs false
variable {W H : Nat} {p q : Pasture} {Gr : Nat → Nat → Int} {E S : Nat → Nat → Bool}
/-! ### Sums -/
def tot (W H : Nat) (F : Nat → Nat → Int) : Int := sumTo (fun y => sumTo (fun x => F y x) W) H
theorem tot_congr {F F' : Nat → Nat → Int} (h : ∀ y x, x < W → y < H → F y x = F' y x) : tot W H F = tot W H F' :=
  sumTo_congr H fun y hy => sumTo_congr W fun x hx => h y x hx hy
theorem tot_add (F F' : Nat → Nat → Int) : tot W H (fun y x => F y x + F' y x) = tot W H F + tot W H F' := by
  unfold tot
  rw [← sumTo_add]
  exact sumTo_congr H fun y _ => sumTo_add _ _ _
theorem tot_swap (F : Nat → Nat → Int) (W : Nat) : ∀ H, tot W H F = tot H W (fun y x => F x y)
  | 0 => by
    unfold tot
    exact (sumTo_nil W fun _ _ => rfl).symm
  | H + 1 => by
    have ih := tot_swap F W H
    unfold tot at ih ⊢
    rw [sumTo, ih, ← sumTo_add]
    exact sumTo_congr W fun y _ => rfl
theorem sumTo_rev (f : Nat → Int) : ∀ n : Nat, sumTo (fun i => f (n - 1 - i)) n = sumTo f n
  | 0 => rfl
  | n + 1 => by
    rw [sumTo_succ', sumTo, ← sumTo_rev f n]
    have : (fun i => f (n + 1 - 1 - (i + 1))) = fun i => f (n - 1 - i) := by
      funext i; rw [show n + 1 - 1 - (i + 1) = n - 1 - i by omega]
    rw [this, show n + 1 - 1 - 0 = n by omega]; omega
theorem sumTo_rev2 (f : Nat → Int) : ∀ n : Nat, sumTo (fun i => if i + 1 < n then f (n - 2 - i) else 0) n = sumTo (fun i => if i + 1 < n then f i else 0) n
  | 0 => rfl
  | n + 1 => by
    rw [sumTo, sumTo, if_neg (Nat.lt_irrefl _), if_neg (Nat.lt_irrefl _)]
    have e1 : sumTo (fun i => if i + 1 < n + 1 then f (n + 1 - 2 - i) else 0) n = sumTo (fun i => f (n - 1 - i)) n := sumTo_congr n fun i hi => by
      rw [if_pos (by omega), show n + 1 - 2 - i = n - 1 - i by omega]
    have e2 : sumTo (fun i => if i + 1 < n + 1 then f i else 0) n = sumTo f n := sumTo_congr n fun i hi => by rw [if_pos (by omega)]
    rw [e1, e2, sumTo_rev]
theorem tot_rev (F : Nat → Nat → Int) : tot W H (fun y x => F y (W - 1 - x)) = tot W H F := sumTo_congr H fun y _ => sumTo_rev (F y) W
theorem sumTo_one (v : Int) : ∀ n : Nat, sumTo (fun _ => v) n = n * v
  | 0 => by simp [sumTo]
  | n + 1 => by rw [sumTo, sumTo_one v n, Int.natCast_succ, Int.add_mul, Int.one_mul]
theorem sumTo_upd (f : Nat → Int) (i0 : Nat) (v : Int) : ∀ n : Nat, i0 < n → sumTo (fun i => if i = i0 then v else f i) n = sumTo f n - f i0 + v
  | 0, h => by omega
  | n + 1, h => by
    rw [sumTo, sumTo]
    by_cases c : n = i0
    · subst c
      rw [if_pos rfl]
      have : sumTo (fun i => if i = n then v else f i) n = sumTo f n := sumTo_congr n fun i hi => by rw [if_neg (by omega)]
      rw [this]; omega
    · rw [if_neg c, sumTo_upd f i0 v n (by omega)]; omega
theorem tot_upd (F : Nat → Nat → Int) {y x : Nat} (hx : x < W) (hy : y < H) (v : Int) : tot W H (upd F y x v) = tot W H F - F y x + v := by
  have e : tot W H (upd F y x v) = sumTo (fun b => if b = y then sumTo (F y) W - F y x + v else sumTo (F b) W) H := sumTo_congr H fun b _ => by
    by_cases c : b = y
    · subst c
      rw [if_pos rfl, ← sumTo_upd (F b) x v W hx]
      exact sumTo_congr W fun a _ => by
        unfold upd
        by_cases d : a = x
        · rw [if_pos ⟨rfl, d⟩, if_pos d]
        · rw [if_neg (fun z => d z.2), if_neg d]
    · rw [if_neg c]
      exact sumTo_congr W fun a _ => by unfold upd; rw [if_neg (fun z => c z.1)]
  rw [e, sumTo_upd (fun b => sumTo (F b) W) y _ H hy]
  show sumTo (fun b => sumTo (F b) W) H - sumTo (F y) W + (sumTo (F y) W - F y x + v) = sumTo (fun b => sumTo (F b) W) H - F y x + v
  omega
theorem tot_le {F : Nat → Nat → Int} {B : Int} (h : ∀ y x, x < W → y < H → 0 ≤ F y x ∧ F y x ≤ B) : 0 ≤ tot W H F ∧ tot W H F ≤ H * (W * B) :=
  sumTo_le H fun y hy => sumTo_le W fun x hx => h y x hx hy
/-! ### Grass -/
theorem PD.gIn (h : PD W H Gr E S p) (hG : ∀ y x, x < W → y < H → 0 ≤ Gr y x ∧ Gr y x ≤ 1000) (hW : 1 ≤ W ∧ W ≤ 10) (hH : 1 ≤ H ∧ H ≤ 10) : Ev (fun k => impl_GrassIn.f k p) (tot W H Gr, 0) := by
  have v := h.V hW.2 hH.2 hG
  have hp := h.ok hW hH hG
  have hw := vP_okW hp
  have eW : p.Wide.toNat = W := by rw [h.w]; omega
  have eH : p.High.toNat = H := by rw [h.h]; omega
  have hlen := gridT_len W H 0
  have hHW : H * W ≤ 10 * 10 := Nat.mul_le_mul hH.2 hW.2
  have e : sumL p (gridF (fun _ _ => true) W 0 H) = tot W H Gr := by
    rw [sumL_grid]
    refine sumTo_congr H fun y hy => sumTo_congr W fun x hx => ?_
    rw [if_pos rfl, Nat.zero_add]
    exact h.eG hW.2 hH.2 hx hy
  refine (implOk_ev v).bind ?_
  rw [hp]
  have hall : Ev (fun k => impl_Pasture_all.f k p) (gridF (fun _ _ => true) W 0 H) := ⟨24, fun k hk => (all_eq hw hk).trans (by rw [eW, eH])⟩
  exact Ev.neg (by simp) (hall.bind (Ev.bind (a := tot W H Gr) ⟨200, fun k hk => (sumOf_eq hp _ (grid_cellIn hW.2 hH.2) (by omega) (by omega)).trans (by rw [e])⟩ (Ev.const rfl)))
/-! ### Hurdles -/
def cE (W H : Nat) (E : Nat → Nat → Bool) : Nat → Nat → Int := fun y x => if x + 1 < W then (if E y x = true then 1 else 0) else 0
def cS (W H : Nat) (S : Nat → Nat → Bool) : Nat → Nat → Int := fun y x => if y + 1 < H then (if S y x = true then 1 else 0) else 0
def cnt (W H : Nat) (E S : Nat → Nat → Bool) : Int := tot W H (cE W H E) + tot W H (cS W H S)
theorem rowH_cnt (p : Pasture) (y : Nat) : ∀ n x, (((rowH p y x n).filter (stH p)).length : Int) = sumTo (fun i => (((cellH p (x + i) y).filter (stH p)).length : Int)) n
  | 0, x => rfl
  | n + 1, x => by
    have e : sumTo (fun i => (((cellH p (x + (i + 1)) y).filter (stH p)).length : Int)) n = sumTo (fun i => (((cellH p (x + 1 + i) y).filter (stH p)).length : Int)) n := sumTo_congr n fun i _ => by rw [show x + (i + 1) = x + 1 + i by omega]
    rw [sumTo_succ', e, rowH, List.filter_append, List.length_append, Int.natCast_add, rowH_cnt p y n (x + 1)]
    simp only [Nat.add_zero]
theorem gridH_cnt (p : Pasture) (W : Nat) : ∀ n y, (((gridH p W y n).filter (stH p)).length : Int) = sumTo (fun i => sumTo (fun j => (((cellH p j (y + i)).filter (stH p)).length : Int)) W) n
  | 0, y => rfl
  | n + 1, y => by
    have e1 : sumTo (fun i => (((cellH p (0 + i) y).filter (stH p)).length : Int)) W = sumTo (fun i => (((cellH p i y).filter (stH p)).length : Int)) W := sumTo_congr W fun j _ => by rw [Nat.zero_add]
    have e2 : sumTo (fun i => sumTo (fun j => (((cellH p j (y + (i + 1))).filter (stH p)).length : Int)) W) n = sumTo (fun i => sumTo (fun j => (((cellH p j (y + 1 + i)).filter (stH p)).length : Int)) W) n := sumTo_congr n fun i _ => sumTo_congr W fun j _ => by rw [show y + (i + 1) = y + 1 + i by omega]
    rw [sumTo_succ', e2, gridH, List.filter_append, List.length_append, Int.natCast_add, gridH_cnt p W n (y + 1), rowH_cnt, e1]
    simp only [Nat.add_zero]
theorem PD.cellCnt (h : PD W H Gr E S p) (hW : W ≤ 10) (hH : H ≤ 10) {x y : Nat} (hx : x < W) (hy : y < H) : (((cellH p x y).filter (stH p)).length : Int) = cE W H E y x + cS W H S y x := by
  have i1 : isB p x y false = decide (x + 1 < W) := by
    show cellB p (nx (sp x y) (1 : Int)).X (nx (sp x y) (1 : Int)).Y = _
    rw [nx1 (by omega), h.cell]
    exact decide_eq_decide.2 ⟨fun z => z.1, fun z => ⟨z, hy⟩⟩
  have i2 : isB p x y true = decide (y + 1 < H) := by
    show cellB p (nx (sp x y) (2 : Int)).X (nx (sp x y) (2 : Int)).Y = _
    rw [nx2 (by omega), h.cell]
    exact decide_eq_decide.2 ⟨fun z => z.2, fun z => ⟨hx, z⟩⟩
  have s1 : x + 1 < W → stH p (hu x y false) = E y x := fun c => h.eE hW hH c hy
  have s2 : y + 1 < H → stH p (hu x y true) = S y x := fun c => h.eS hW hH hx c
  unfold cellH cE cS
  rw [i1, i2, List.filter_append, List.length_append]
  by_cases c1 : x + 1 < W
  · rw [decide_eq_true c1, if_pos rfl, if_pos c1, List.filter_cons, s1 c1, List.filter_nil]
    by_cases c2 : y + 1 < H
    · rw [decide_eq_true c2, if_pos rfl, if_pos c2, List.filter_cons, s2 c2, List.filter_nil]
      cases E y x <;> cases S y x <;> rfl
    · rw [decide_eq_false c2, if_neg (show ¬ false = true by simp), if_neg c2]
      cases E y x <;> rfl
  · rw [decide_eq_false c1, if_neg (show ¬ false = true by simp), if_neg c1]
    by_cases c2 : y + 1 < H
    · rw [decide_eq_true c2, if_pos rfl, if_pos c2, List.filter_cons, s2 c2, List.filter_nil]
      cases S y x <;> rfl
    · rw [decide_eq_false c2, if_neg (show ¬ false = true by simp), if_neg c2]; rfl
theorem PD.count (h : PD W H Gr E S p) (hG : ∀ y x, x < W → y < H → 0 ≤ Gr y x ∧ Gr y x ≤ 1000) (hW : 1 ≤ W ∧ W ≤ 10) (hH : 1 ≤ H ∧ H ≤ 10) : Ev (fun k => impl_CountHurdles.f k p) (cnt W H E S, 0) := by
  have v := h.V hW.2 hH.2 hG
  have hp := h.ok hW hH hG
  have hw := vP_okW hp
  have eW : p.Wide.toNat = W := by rw [h.w]; omega
  have eH : p.High.toNat = H := by rw [h.h]; omega
  have hh := hurdles_ev v hw
  have e : (((gridH p p.Wide.toNat 0 p.High.toNat).filter (stH p)).length : Int) = cnt W H E S := by
    rw [eW, eH, gridH_cnt]
    unfold cnt
    rw [← tot_add]
    refine sumTo_congr H fun y hy => sumTo_congr W fun x hx => ?_
    rw [Nat.zero_add]
    exact h.cellCnt hW.2 hH.2 hx hy
  have hof : Ev (fun k => impl_HurdlesOf.f k p) ((gridH p p.Wide.toNat 0 p.High.toNat).filter (stH p), 0) := by
    refine (implOk_ev v).bind ?_
    rw [hp]
    exact Ev.neg (by simp) (hh.bind (Ev.const rfl))
  refine hof.bind (Ev.bind (a := cnt W H E S) (Ev.const ?_) (Ev.const rfl))
  show some _ = _
  rw [e]
/-! ### Turned: as many -/
theorem tot_turn (Gr : Nat → Nat → Int) : tot H W (fun y x => Gr (H - 1 - x) y) = tot W H Gr := by
  rw [tot_rev (W := H) (H := W) (fun y x => Gr x y), ← tot_swap]
theorem cnt_turn (E S : Nat → Nat → Bool) : cnt H W (fun y x => S (H - 2 - x) y) (fun y x => E (H - 1 - x) y) = cnt W H E S := by
  have a : tot H W (cE H W fun y x => S (H - 2 - x) y) = tot W H (cS W H S) := by
    rw [tot_swap (cS W H S) W H]
    refine sumTo_congr W fun y _ => ?_
    exact sumTo_rev2 (fun x => if S x y = true then (1 : Int) else 0) H
  have b : tot H W (cS H W fun y x => E (H - 1 - x) y) = tot W H (cE W H E) := by
    rw [tot_swap (cE W H E) W H]
    exact tot_rev (W := H) (H := W) (fun y x => if y + 1 < W then (if E x y = true then (1 : Int) else 0) else 0)
  unfold cnt
  rw [a, b, Int.add_comm]
end Go.Proofs.YtbkkojdkiimdjaaGreatDoor
/-
  Plain law: a pasture is read from its text.
-/
namespace Go.Proofs.YtbkkojdkiimdjaaGreatDoor
open G
set_option linter.unusedVariables false
set_option linter.unusedSimpArgs false
variable {W H : Nat} {p q : Pasture} {Gr : Nat → Nat → Int} {E S : Nat → Nat → Bool}
theorem cut_hit' (c : UInt8) (l : List UInt8) : T.cutE c (l ++ [c]) = (l, true) := by
  unfold T.cutE
  rw [if_pos (by simp)]; simp
theorem cut_miss' {c : UInt8} {l : List UInt8} (h : c ∉ l) : T.cutE c l = (l, false) := by
  unfold T.cutE
  rw [if_neg fun e => h (List.mem_of_getLast? e)]
theorem dig_no {c : UInt8} (hc : digB c = false) (n : Nat) : c ∉ Go.Lib.decDigits n := fun h => by
  have := List.all_eq_true.1 (dec_all n) c h
  rw [hc] at this; cases this
theorem word_wordT {c : T.Cell} (h : c.n ≤ 1000) : T.word? (T.wordT c) = some c := by
  have h95 : digB 95 = false := by decide
  have h124 : digB 124 = false := by decide
  have n1 : (95 : UInt8) ∉ Go.Lib.decDigits c.n ++ (if c.e = true then [124] else []) := by
    rw [List.mem_append, not_or]
    refine ⟨dig_no h95 _, ?_⟩
    split <;> simp
  have e1 : T.cutE 95 (T.wordT c) = (Go.Lib.decDigits c.n ++ (if c.e = true then [124] else []), c.s) := by
    unfold T.wordT
    cases c.s
    · simp only [Bool.false_eq_true, if_false, List.append_nil]
      exact cut_miss' n1
    · simp only [if_true]
      exact cut_hit' _ _
  have e2 : T.cutE 124 (Go.Lib.decDigits c.n ++ (if c.e = true then [124] else [])) = (Go.Lib.decDigits c.n, c.e) := by
    cases c.e
    · simp only [Bool.false_eq_true, if_false, List.append_nil]
      exact cut_miss' (dig_no h124 _)
    · simp only [if_true]
      exact cut_hit' _ _
  unfold T.word?
  rw [e1]
  simp only
  rw [e2]
  simp only
  have ok : T.okA (Go.Lib.decDigits c.n) 1000 = true := by
    unfold T.okA
    rw [dec_okNum (by omega), dec_val, decide_eq_true h]; rfl
  rw [if_pos ok, dec_val]
theorem PD.goodT (h : PD W H Gr E S p) (hG : ∀ y x, x < W → y < H → 0 ≤ Gr y x ∧ Gr y x ≤ 1000) : T.goodP p := by
  refine ⟨fun y hy => ⟨h.e0 y hy, h.s0 y hy⟩, fun y x hy hx => ?_⟩
  have := h.g y x hy hx
  show 0 ≤ gG p y x ∧ gG p y x ≤ 1000
  rw [this]
  by_cases c : x < W ∧ y < H
  · rw [if_pos c]; exact hG y x c.1 c.2
  · rw [if_neg c]; omega
theorem PD.set2 {e : Bool} {x y : Nat} (h : PD W H Gr (Dn false y x E) S p) (hW : W ≤ 10) (hH : H ≤ 10) (hx : x < W) (hy : y < H) (he : x + 1 < W → e = E y x) (he' : ¬ x + 1 < W → e = false) : PD W H Gr (Dn false y (x + 1) E) S (putB p x y false e) := by
  refine (h.put (x := x) (y := y) (by omega) (by omega) false e (fun ht => ?_)).congr (fun _ _ _ _ => rfl) (fun b a h1 h2 => ?_) (fun _ _ _ _ => rfl)
  · rw [if_neg (by simp)]
    exact ⟨Decidable.byContradiction (fun c => by have := he' c; rw [this] at ht; cases ht), hy⟩
  · simp only [Bool.false_eq_true, if_false]
    unfold upd Dn
    by_cases c : b = y ∧ a = x
    · obtain ⟨rfl, rfl⟩ := c
      rw [if_pos ⟨rfl, rfl⟩, if_pos (by omega)]
      exact he h1
    · rw [if_neg c]
      by_cases d : b < y ∨ b = y ∧ a < x
      · rw [if_pos d, if_pos (by omega)]
      · rw [if_neg d, if_neg (by omega)]
theorem PD.set3 {e : Bool} {x y : Nat} (h : PD W H Gr E (Dn false y x S) p) (hW : W ≤ 10) (hH : H ≤ 10) (hx : x < W) (hy : y < H) (he : y + 1 < H → e = S y x) (he' : ¬ y + 1 < H → e = false) : PD W H Gr E (Dn false y (x + 1) S) (putB p x y true e) := by
  refine (h.put (x := x) (y := y) (by omega) (by omega) true e (fun ht => ?_)).congr (fun _ _ _ _ => rfl) (fun _ _ _ _ => rfl) (fun b a h1 h2 => ?_)
  · rw [if_pos rfl]
    exact ⟨hx, Decidable.byContradiction fun c => by have := he' c; rw [this] at ht; cases ht⟩
  · simp only [if_true]
    unfold upd Dn
    by_cases c : b = y ∧ a = x
    · obtain ⟨rfl, rfl⟩ := c
      rw [if_pos ⟨rfl, rfl⟩, if_pos (by omega)]
      exact he h2
    · rw [if_neg c]
      by_cases d : b < y ∨ b = y ∧ a < x
      · rw [if_pos d, if_pos (by omega)]
      · rw [if_neg d, if_neg (by omega)]
theorem cellI_eq (P : Pasture) (y x : Nat) (c : T.Cell) : T.cellI P y x c = putB (putB ⟨P.Wide, P.High, put2 P.Grass y x (c.n : Int), P.East, P.South⟩ x y false c.e) x y true c.s := by
  obtain ⟨n, e, s⟩ := c
  cases e <;> cases s <;> rfl
theorem read_row (h : PD W H Gr E S p) (hG : ∀ y x, x < W → y < H → 0 ≤ Gr y x ∧ Gr y x ≤ 1000) (hW : W ≤ 10) (hH : H ≤ 10) {y : Nat} (hy : y < H) : ∀ (n x : Nat) (P : Pasture), x + n = W → PDn W H Gr E S y x P → ∃ P', T.implRow W P y x ((List.range' x n).map fun j => T.wordT (T.celT p y j)) = some P' ∧ PDn W H Gr E S (y + 1) 0 P'
  | 0, x, P, hx, hP => ⟨P, rfl, by have : x = W := by omega
                                   subst this; exact hP.row⟩
  | n + 1, x, P, hx, hP => by
    have hxW : x < W := by omega
    have hg := h.eG hW hH hxW hy
    have hb := hG y x hxW hy
    have hn : (((T.celT p y x).n : Nat) : Int) = Gr y x := by
      show (((gG p y x).toNat : Nat) : Int) = _
      rw [hg]; omega
    have he : (T.celT p y x).e = (decide (x + 1 < W ∧ y < H) && E y x) := h.e y x (by omega) (by omega)
    have hs : (T.celT p y x).s = (decide (x < W ∧ y + 1 < H) && S y x) := h.s y x (by omega) (by omega)
    have h1 := PD.step1 (Gr := Gr) hP hW hH hxW hy
    have h2 := h1.set2 (e := (T.celT p y x).e) hW hH hxW hy (fun c => by rw [he, decide_eq_true ⟨c, hy⟩]; rfl) (fun c => by rw [he, decide_eq_false (fun z => c z.1)]; rfl)
    have h3 := h2.set3 (e := (T.celT p y x).s) hW hH hxW hy (fun c => by rw [hs, decide_eq_true ⟨hxW, c⟩]; rfl) (fun c => by rw [hs, decide_eq_false (fun z => c z.2)]; rfl)
    rw [← hn, ← cellI_eq] at h3
    obtain ⟨P', e1, e2⟩ := read_row h hG hW hH hy n (x + 1) _ (by omega) h3
    refine ⟨P', ?_, e2⟩
    rw [List.range'_succ, List.map_cons, T.implRow, word_wordT (by omega)]
    simp only
    rw [if_neg (by omega)]
    exact e1
theorem read_rows (h : PD W H Gr E S p) (hG : ∀ y x, x < W → y < H → 0 ≤ Gr y x ∧ Gr y x ≤ 1000) (hW1 : 1 ≤ W) (hW : W ≤ 10) (hH : H ≤ 10) : ∀ (n y : Nat) (P : Pasture), y + n = H → PDn W H Gr E S y 0 P → ∃ P', T.implRows W P y ((List.range' y n).map (T.lineT p W)) = some P' ∧ PDn W H Gr E S H 0 P'
  | 0, y, P, hy, hP => ⟨P, rfl, by have : y = H := by omega
                                   subst this; exact hP⟩
  | n + 1, y, P, hy, hP => by
    obtain ⟨P1, e1, p1⟩ := read_row h hG hW hH (show y < H by omega) W 0 P (by omega) hP
    obtain ⟨P', e2, p2⟩ := read_rows h hG hW1 hW hH n (y + 1) P1 (by omega) p1
    refine ⟨P', ?_, p2⟩
    rw [List.range'_succ, List.map_cons, T.implRows, (T.line_words hW1).1]
    unfold T.rowT
    rw [e1]
    exact e2
theorem readBack_ev (h : PD W H Gr E S p) (hG : ∀ y x, x < W → y < H → 0 ≤ Gr y x ∧ Gr y x ≤ 1000) (hW : 1 ≤ W ∧ W ≤ 10) (hH : 1 ≤ H ∧ H ≤ 10) : ∃ t, Ev (fun k => impl_PastureText.f k p) t ∧ Ev (fun k => impl_ReadPasture.f k t) (p, 0) := by
  have g := h.goodT hG
  have hp : T.vP p = true := h.ok hW hH hG
  have tx := T.text_ev g hW.2 h.w hH.2 h.h
  rw [if_pos hp] at tx
  refine ⟨_, tx, ?_⟩
  obtain ⟨Q, r1, r2⟩ := read_rows h hG hW.1 hW.2 hH.2 H 0 (T.startP W H) (by omega) (PDn.start W H Gr E S)
  have eQ : Q = p := r2.all.ext h (fun _ _ _ _ => rfl) (fun _ _ _ _ => rfl) (fun _ _ _ _ => rfl)
  subst eQ
  -- the lines
  have hlines : ∀ x ∈ ((List.range' 0 H).map (T.lineT Q W)) ++ [[]], (10 : UInt8) ∉ x := fun x hx => by
    rcases List.mem_append.1 hx with hx | hx
    · obtain ⟨y, _, rfl⟩ := List.mem_map.1 hx
      exact (T.line_words hW.1).2
    · rw [List.mem_singleton.1 hx]; simp
  have hlen : ∀ l ∈ ((List.range' 0 H).map (T.lineT Q W)) ++ [[]], l.length ≤ 1048576 := fun x hx => by
    rcases List.mem_append.1 hx with hx | hx
    · obtain ⟨y, hy, rfl⟩ := List.mem_map.1 hx
      have hy : y < H := by have := List.mem_range'_1.1 hy; omega
      have := T.lineT_len g (show y < 10 by omega) hW.2
      omega
    · rw [List.mem_singleton.1 hx]; simp
  have hT : T.rowsT Q W 0 H = Go.Lib.join (((List.range' 0 H).map (T.lineT Q W)) ++ [[]]) [10] := T.rowsT_join Q W H 0
  have hsp : spl 10 (T.rowsT Q W 0 H) = ((List.range' 0 H).map (T.lineT Q W)) ++ [[]] := by
    rw [hT]
    exact T.spl_join 10 (by simp) hlines
  have hbig : (T.rowsT Q W 0 H).length ≤ 1048576 := by
    have : ∀ n y, y + n = H → (T.rowsT Q W y n).length ≤ 71 * n := by
      intro n
      induction n with
      | zero => intro y _; simp [T.rowsT]
      | succ n ih =>
        intro y hy
        have h1 := ih (y + 1) (by omega)
        have h2 := T.lineT_len g (show y < 10 by omega) hW.2
        rw [T.rowsT, List.length_append, List.length_append, List.length_singleton]
        omega
    have := this H 0 (by omega)
    omega
  have i1 := T.split_eq (T.rowsT Q W 0 H) 10 hbig
  rw [hsp] at i1
  have hne : toB (T.rowsT Q W 0 H) ≠ ByteArray.empty := by
    intro e
    have : T.rowsT Q W 0 H = [] := T.toB_empty.1 e
    rw [this] at hsp
    have h1 := congrArg List.length hsp
    simp [spl] at h1
    omega
  generalize hL : ((List.range' 0 H).map (T.lineT Q W)) ++ [[]] = L at *
  have hn : L.length = H + 1 := by rw [← hL]; simp
  have hb : IntKind.i64.wrap (((L.map toB).length : Int) - 1) = (H : Int) := by rw [List.length_map, hn, w64 (by omega) (by omega)]; omega
  have hg0 : getI (L.map toB) 0 = some (toB (L[0]'(by omega))) := T.getM L (i := 0) (by omega)
  have h00 := hlen _ (List.getElem_mem (show 0 < L.length by omega))
  have i2 := T.split_eq (L[0]'(by omega)) 32 h00
  have e0 : L[0]'(by omega) = T.lineT Q W 0 := by
    have : L[0]? = some (T.lineT Q W 0) := by
      rw [← hL, List.getElem?_append_left (by simp; omega), List.getElem?_map, List.getElem?_range' (by omega)]; rfl
    rw [List.getElem?_eq_getElem (by omega)] at this
    exact Option.some.inj this
  have hWl : (spl 32 (L[0]'(by omega))).length = W := by
    rw [e0, (T.line_words hW.1).1]
    unfold T.rowT; simp
  have lz : (((spl 32 (L[0]'(by omega))).map toB).length : Int) = (W : Int) := by rw [List.length_map, hWl]
  have pl := T.plain_ev (W := W) (H := H) (by omega) (by omega)
  rw [if_pos ⟨hW, hH⟩] at pl
  obtain ⟨sg, sc⟩ := T.start_good W H
  have ir := T.implRows_ev L hH.2 (by omega) hW.2 hlen (T.startP W H, 0) rfl 0 (Nat.zero_le _) (T.startP W H) rfl sg
  have hlt : (L.take H).drop 0 = (List.range' 0 H).map (T.lineT Q W) := by
    rw [List.drop_zero, ← hL, List.take_append_of_le_length (by simp), List.take_of_length_le (by simp)]
  rw [hlt, r1] at ir
  have ck : chk ((0 : Int) ≤ 0 ∧ 0 ≤ (T.startP W H).High ∧ (T.startP W H).High ≤ ((L.map toB).length : Int)) = some () := chkX ⟨by omega, by show (0 : Int) ≤ (H : Int); omega, by rw [List.length_map, hn]; show (H : Int) ≤ _; omega⟩
  refine Ev.bind (Ev.const i1) (Ev.bind (Ev.const hg0) (Ev.bind (Ev.const i2) (Ev.bind (Ev.const (show impl_size_string.f _ = some (W : Int) from congrArg some lz)) (Ev.bind (Ev.const (show impl_size_string.f _ = some (((L.map toB).length : Nat) : Int) from rfl)) ?_))))
  rw [hb]
  exact pl.bind (Ev.neg (by simp) (Ev.bind (Ev.const ck) (Ev.bind ir (tx.bind (Ev.neg (by simp) (Ev.const rfl))))))
end Go.Proofs.YtbkkojdkiimdjaaGreatDoor
/-
  Plain law: hurdles that are put, grass that is changed.
-/
namespace Go.Proofs.YtbkkojdkiimdjaaGreatDoor
open G
set_option linter.unusedVariables false
set_option linter.unusedSimpArgs false
variable {W H : Nat} {p q : Pasture} {Gr : Nat → Nat → Int} {E S : Nat → Nat → Bool}
theorem firstTwo (a b : Int) : Ev (fun k => impl_firstOf.f k ([a, b] : List Int)) (if a ≠ 0 then a else b) := by
  have w0 : IntKind.i64.wrap (0 + 1) = 1 := by decide
  have w1 : IntKind.i64.wrap (1 + 1) = 2 := by decide
  have g0 : getI ([a, b] : List Int) 0 = some a := rfl
  have g1 : getI ([a, b] : List Int) 1 = some b := rfl
  have l2 : Ev (fun k => impl_firstOf.l1 ([a, b] : List Int) k 2) (.inr ()) := Ev.step (fun k => impl_firstOf.l1.eq_2 _ _ _) (Ev.neg (by simp) (Ev.const rfl))
  have l1 : Ev (fun k => impl_firstOf.l1 ([a, b] : List Int) k 1) (if b ≠ 0 then .inl b else .inr ()) := by
    refine Ev.step (fun k => impl_firstOf.l1.eq_2 _ _ _) (Ev.pos (by simp) (Ev.bind (Ev.const g1) ?_))
    rw [w1]
    by_cases hb : b ≠ 0
    · rw [if_pos hb]; exact Ev.pos hb (Ev.const rfl)
    · rw [if_neg hb]; exact Ev.neg hb l2
  have l0 : Ev (fun k => impl_firstOf.l1 ([a, b] : List Int) k 0) (if a ≠ 0 then .inl a else if b ≠ 0 then .inl b else .inr ()) := by
    refine Ev.step (fun k => impl_firstOf.l1.eq_2 _ _ _) (Ev.pos (by simp) (Ev.bind (Ev.const g0) ?_))
    rw [w0]
    by_cases ha : a ≠ 0
    · rw [if_pos ha]; exact Ev.pos ha (Ev.const rfl)
    · rw [if_neg ha]; exact Ev.neg ha l1
  refine Ev.bind l0 ?_
  by_cases ha : a ≠ 0
  · rw [if_pos ha, if_pos ha]; exact Ev.const rfl
  · rw [if_neg ha, if_neg ha]
    by_cases hb : b ≠ 0
    · rw [if_pos hb]; exact Ev.const rfl
    · have hb0 : b = 0 := by omega
      rw [if_neg hb, hb0]; exact Ev.const rfl

theorem PD.atCode (h : PD W H Gr E S p) (hG : ∀ y x, x < W → y < H → 0 ≤ Gr y x ∧ Gr y x ≤ 1000) (hW : 1 ≤ W ∧ W ≤ 10) (hH : 1 ≤ H ∧ H ≤ 10) {x y : Nat} (hx : x < W) (hy : y < H) : Ev (fun k => impl_cellCode.f k p ([sp x y] : List Spot)) 0 := by
  have hc := cellCode_ev (h.V hW.2 hH.2 hG) ([sp x y] : List Spot) (fun s hs => by rw [List.mem_singleton.1 hs]; exact VSpot_nat (by omega) (by omega)) (by simp)
  have e : cCode p ([sp x y] : List Spot) = 0 := by
    unfold cCode okC
    rw [h.ok hW hH hG]
    simp only [List.all_cons, List.all_nil, Bool.and_true]
    rw [h.cell, decide_eq_true ⟨hx, hy⟩]; rfl
  rw [e] at hc
  exact hc
theorem PD.sCode (h : PD W H Gr E S p) (hG : ∀ y x, x < W → y < H → 0 ≤ Gr y x ∧ Gr y x ≤ 1000) (hW : 1 ≤ W ∧ W ≤ 10) (hH : 1 ≤ H ∧ H ≤ 10) {x y : Nat} (hx : x < W) (hy : y < H) {i : Nat} (hi : i < 4) : Ev (fun k => impl_sideCode.f k p (sp x y) (i : Int)) 0 := by
  refine (h.atCode hG hW hH hx hy).bind (Ev.bind (Ev.const (within_eq _ _ _)) (Ev.bind (Ev.const (unless_eq _ _)) ?_))
  rw [decide_eq_true (show (0 : Int) ≤ (i : Int) ∧ (i : Int) ≤ 3 by omega)]
  exact (firstTwo 0 0).bind (Ev.const rfl)
theorem PD.has (h : PD W H Gr E S p) (hG : ∀ y x, x < W → y < H → 0 ≤ Gr y x ∧ Gr y x ≤ 1000) (hW : 1 ≤ W ∧ W ≤ 10) (hH : 1 ≤ H ∧ H ≤ 10) {x y : Nat} (hx : x < W) (hy : y < H) {i : Nat} (hi : i < 4) : Ev (fun k => impl_HasHurdle.f k p (sp x y) (i : Int)) (!openB p x y i, 0) :=
  (h.sCode hG hW hH hx hy hi).bind (Ev.neg (by simp) (Ev.bind (Ev.const (canGo_eq (h.V hW.2 hH.2 hG) (h.okW hW hH) (by omega) (by omega) hi)) (Ev.const rfl)))
/-! ### Sides -/
theorem PD.notCell (h : PD W H Gr E S p) {s : Spot} (hs : s.X < 0 ∨ (W : Int) ≤ s.X ∨ s.Y < 0 ∨ (H : Int) ≤ s.Y) : cellB p s.X s.Y = false := by
  unfold cellB
  rw [h.w, h.h, Bool.and_eq_false_iff, decide_eq_false_iff_not, decide_eq_false_iff_not]
  omega
theorem putS0 (p : Pasture) {x y : Nat} (hx : x < 10) (h1 : 1 ≤ y) (hy : y < 10) (on : Bool) : spec_l01Set.f p (sp x y) 0 on = some (putB p x (y - 1) true on) := by
  have hn : spec_l01Next.f (sp x y) 0 = some (sp x (y - 1)) := by rw [next_eq, nx0 h1 hy]
  rw [← show spec_l01Set.f p (sp x (y - 1)) 2 on = some (putB p x (y - 1) true on) from putS_eq p hx (by omega) true on]
  unfold spec_l01Set.f
  simp [hn]
theorem putS3 (p : Pasture) {x y : Nat} (h1 : 1 ≤ x) (hx : x < 10) (hy : y < 10) (on : Bool) : spec_l01Set.f p (sp x y) 3 on = some (putB p (x - 1) y false on) := by
  have hn : spec_l01Next.f (sp x y) 3 = some (sp (x - 1) y) := by rw [next_eq, nx3 h1 hx]
  rw [← show spec_l01Set.f p (sp (x - 1) y) 1 on = some (putB p (x - 1) y false on) from putS_eq p (by omega) hy false on]
  unfold spec_l01Set.f
  simp [hn]
theorem hurdle0 {x y : Nat} (h1 : 1 ≤ y) (hy : y < 10) : impl_hurdleAt.f (sp x y) 0 = some (hu x (y - 1) true) := by
  have hn : impl_Spot_ahead.f (sp x y) 0 = some (sp x (y - 1)) := by rw [ahead_eq, nx0 h1 hy]
  unfold impl_hurdleAt.f
  simp [hn, hu]
theorem hurdle3 {x y : Nat} (h1 : 1 ≤ x) (hx : x < 10) : impl_hurdleAt.f (sp x y) 3 = some (hu (x - 1) y false) := by
  have hn : impl_Spot_ahead.f (sp x y) 3 = some (sp (x - 1) y) := by rw [ahead_eq, nx3 h1 hx]
  unfold impl_hurdleAt.f
  simp [hn, hu]
/-- What is known of a side of a cell. -/
structure Sd (W H x y i x' y' : Nat) (s' : Bool) (x2 y2 i2 : Nat) : Prop where
  nxt : nx (sp x y) (i : Int) = sp x2 y2
  in2 : x2 < W ∧ y2 < H
  opp : Int.tmod (IntKind.i64.wrap ((i : Int) + 2)) 4 = (i2 : Int) ∧ i2 < 4
  dom : if s' = true then x' < W ∧ y' + 1 < H else x' + 1 < W ∧ y' < H
  ten : x' < 10 ∧ y' < 10
  at_ : impl_hurdleAt.f (sp x y) (i : Int) = some (hu x' y' s')
  set : ∀ (p : Pasture) (on : Bool), spec_l01Set.f p (sp x y) (i : Int) on = some (putB p x' y' s' on)
  op1 : ∀ {p : Pasture} {Gr : Nat → Nat → Int} {E S : Nat → Nat → Bool}, PD W H Gr E S p → (!openB p x y i) = if s' = true then S y' x' else E y' x'
  op2 : ∀ {p : Pasture} {Gr : Nat → Nat → Int} {E S : Nat → Nat → Bool}, PD W H Gr E S p → (!openB p x2 y2 i2) = if s' = true then S y' x' else E y' x'
theorem side_case (hW : W ≤ 10) (hH : H ≤ 10) {x y : Nat} (hx : x < W) (hy : y < H) {i : Nat} (hi : i < 4) : (∀ {p : Pasture} {Gr : Nat → Nat → Int} {E S : Nat → Nat → Bool}, PD W H Gr E S p → cellB p (nx (sp x y) (i : Int)).X (nx (sp x y) (i : Int)).Y = false) ∨ ∃ x' y' s' x2 y2 i2, Sd W H x y i x' y' s' x2 y2 i2 := by
  rcases side hi with rfl | rfl | rfl | rfl
  · by_cases c : 1 ≤ y
    · refine .inr ⟨x, y - 1, true, x, y - 1, 2, nx0 c (by omega), ⟨hx, by omega⟩, ⟨by decide, by decide⟩, by simp; omega, by omega, hurdle0 c (by omega), fun p on => putS0 p (by omega) c (by omega) on, fun {p Gr E S} h => ?_, fun {p Gr E S} h => ?_⟩
      · rw [open0 h.w h.h hW hH c hx hy, h.eS hW hH hx (by omega)]; rfl
      · rw [open2 h.w h.h hW hH hx (by omega), h.eS hW hH hx (by omega)]; rfl
    · refine .inl fun {p Gr E S} h => h.notCell ?_
      have : y = 0 := by omega
      subst this
      exact .inr (.inr (.inl (by show IntKind.i8.wrap (((0 : Nat) : Int) - 1) < 0; decide)))
  · by_cases c : x + 1 < W
    · refine .inr ⟨x, y, false, x + 1, y, 3, nx1 (by omega), ⟨c, hy⟩, ⟨by decide, by decide⟩, by simp; omega, by omega, hurdleAt_eq x y false, fun p on => putS_eq p (by omega) (by omega) false on, fun {p Gr E S} h => ?_, fun {p Gr E S} h => ?_⟩
      · rw [open1 h.w h.h hW hH c hy, h.eE hW hH c hy]; rfl
      · rw [open3 h.w h.h hW hH (by omega) c hy, Nat.add_sub_cancel, h.eE hW hH c hy]; rfl
    · refine .inl fun {p Gr E S} h => h.notCell (.inr (.inl ?_))
      show (W : Int) ≤ (nx (sp x y) (1 : Int)).X
      rw [nx1 (by omega)]
      show (W : Int) ≤ ((x + 1 : Nat) : Int)
      omega
  · by_cases c : y + 1 < H
    · refine .inr ⟨x, y, true, x, y + 1, 0, nx2 (by omega), ⟨hx, c⟩, ⟨by decide, by decide⟩, by simp; omega, by omega, hurdleAt_eq x y true, fun p on => putS_eq p (by omega) (by omega) true on, fun {p Gr E S} h => ?_, fun {p Gr E S} h => ?_⟩
      · rw [open2 h.w h.h hW hH hx c, h.eS hW hH hx c]; rfl
      · rw [open0 h.w h.h hW hH (by omega) hx c, Nat.add_sub_cancel, h.eS hW hH hx c]; rfl
    · refine .inl fun {p Gr E S} h => h.notCell (.inr (.inr (.inr ?_)))
      show (H : Int) ≤ (nx (sp x y) (2 : Int)).Y
      rw [nx2 (by omega)]
      show (H : Int) ≤ ((y + 1 : Nat) : Int)
      omega
  · by_cases c : 1 ≤ x
    · refine .inr ⟨x - 1, y, false, x - 1, y, 1, nx3 c (by omega), ⟨by omega, hy⟩, ⟨by decide, by decide⟩, by simp; omega, by omega, hurdle3 c (by omega), fun p on => putS3 p c (by omega) (by omega) on, fun {p Gr E S} h => ?_, fun {p Gr E S} h => ?_⟩
      · rw [open3 h.w h.h hW hH c hx hy, h.eE hW hH (by omega) hy]; rfl
      · rw [open1 h.w h.h hW hH (by omega) hy, h.eE hW hH (by omega) hy]; rfl
    · refine .inl fun {p Gr E S} h => h.notCell ?_
      have : x = 0 := by omega
      subst this
      exact .inl (by show IntKind.i8.wrap (((0 : Nat) : Int) - 1) < 0; decide)
theorem PD.setI (h : PD W H Gr E S p) (hG : ∀ y x, x < W → y < H → 0 ≤ Gr y x ∧ Gr y x ≤ 1000) (hW : 1 ≤ W ∧ W ≤ 10) (hH : 1 ≤ H ∧ H ≤ 10) {x y : Nat} (hx : x < W) (hy : y < H) {i : Nat} (hi : i < 4) {x' y' : Nat} {s' : Bool} {x2 y2 i2 : Nat} (d : Sd W H x y i x' y' s' x2 y2 i2) (on : Bool) : Ev (fun k => impl_SetHurdle.f k p (sp x y) (i : Int) on) (putB p x' y' s' on, 0) := by
  have hc := isCell_eq (h.V hW.2 hH.2 hG) (h.okW hW hH) (nx (sp x y) (i : Int)) (nx_in (by omega) (by omega) _)
  rw [d.nxt, h.cell, decide_eq_true d.in2] at hc
  refine (h.sCode hG hW hH hx hy hi).bind (Ev.bind (a := false) (Ev.pos rfl (Ev.bind (Ev.const (ahead_eq _ _)) (Ev.bind (Ev.const (by rw [d.nxt]; exact hc)) (Ev.const rfl)))) (Ev.neg (by simp) (Ev.neg (by simp) (Ev.bind (Ev.const d.at_) (Ev.bind (Ev.const (putI_eq p d.ten.1 d.ten.2 s' on)) (Ev.const rfl))))))
theorem PD.ask (h : PD W H Gr E S p) (hG : ∀ y x, x < W → y < H → 0 ≤ Gr y x ∧ Gr y x ≤ 1000) (hW : 1 ≤ W ∧ W ≤ 10) (hH : 1 ≤ H ∧ H ≤ 10) {x y : Nat} (hx : x < W) (hy : y < H) : Ev (fun k => spec_l01Asked.f k p (sp x y) true) 0 := by
  have v := h.V hW.2 hH.2 hG
  have hc := l01Is_eq v (sp x y) (VSpot_nat (by omega) (by omega))
  rw [h.cell, decide_eq_true ⟨hx, hy⟩] at hc
  refine (specOk_ev v).bind ?_
  rw [h.ok hW hH hG]
  exact Ev.neg (by simp) (Ev.bind (Ev.const hc) (Ev.neg (by simp) (Ev.neg (by simp) (Ev.const rfl))))
theorem side_ok {i : Nat} (hi : i < 4) : spec_l01Side.f (i : Int) = some true := by
  unfold spec_l01Side.f
  rw [l00In_eq, decide_eq_true (show (0 : Int) ≤ (i : Int) ∧ (i : Int) ≤ 3 by omega)]; rfl
theorem PD.setS (h : PD W H Gr E S p) (hG : ∀ y x, x < W → y < H → 0 ≤ Gr y x ∧ Gr y x ≤ 1000) (hW : 1 ≤ W ∧ W ≤ 10) (hH : 1 ≤ H ∧ H ≤ 10) {x y : Nat} (hx : x < W) (hy : y < H) {i : Nat} (hi : i < 4) {x' y' : Nat} {s' : Bool} {x2 y2 i2 : Nat} (d : Sd W H x y i x' y' s' x2 y2 i2) (on : Bool) : Ev (fun k => spec_SetHurdle.f k p (sp x y) (i : Int) on) (putB p x' y' s' on, 0) := by
  have hc := l01Is_eq (h.V hW.2 hH.2 hG) (nx (sp x y) (i : Int)) (nx_in (by omega) (by omega) _)
  rw [d.nxt, h.cell, decide_eq_true d.in2] at hc
  refine Ev.bind (Ev.const (side_ok hi)) ((h.ask hG hW hH hx hy).bind (Ev.neg (by simp) (Ev.bind (Ev.const (next_eq _ _)) (Ev.bind (Ev.const (by rw [d.nxt]; exact hc)) (Ev.neg (by simp) (Ev.bind (Ev.const (d.set p on)) (Ev.const rfl)))))))
abbrev noP : Pasture := (⟨0, 0, (Arr.mk' (Arr.mk' 0 : Arr 10 Int) : Arr 10 (Arr 10 Int)), (Arr.mk' 0 : Arr 10 Int), (Arr.mk' 0 : Arr 10 Int)⟩ : Pasture)
theorem PD.setNo (h : PD W H Gr E S p) (hG : ∀ y x, x < W → y < H → 0 ≤ Gr y x ∧ Gr y x ≤ 1000) (hW : 1 ≤ W ∧ W ≤ 10) (hH : 1 ≤ H ∧ H ≤ 10) {x y : Nat} (hx : x < W) (hy : y < H) {i : Nat} (hi : i < 4) (hn : cellB p (nx (sp x y) (i : Int)).X (nx (sp x y) (i : Int)).Y = false) (on : Bool) : Ev (fun k => impl_SetHurdle.f k p (sp x y) (i : Int) on) (noP, 4) ∧ Ev (fun k => spec_SetHurdle.f k p (sp x y) (i : Int) on) (noP, 4) := by
  have hc := isCell_eq (h.V hW.2 hH.2 hG) (h.okW hW hH) (nx (sp x y) (i : Int)) (nx_in (by omega) (by omega) _)
  have hs := l01Is_eq (h.V hW.2 hH.2 hG) (nx (sp x y) (i : Int)) (nx_in (by omega) (by omega) _)
  rw [hn] at hc hs
  exact ⟨(h.sCode hG hW hH hx hy hi).bind (Ev.bind (a := true) (Ev.pos rfl (Ev.bind (Ev.const (ahead_eq _ _)) (Ev.bind (Ev.const hc) (Ev.const rfl)))) (Ev.pos rfl (Ev.const rfl))),
    Ev.bind (Ev.const (side_ok hi)) ((h.ask hG hW hH hx hy).bind (Ev.neg (by simp) (Ev.bind (Ev.const (next_eq _ _)) (Ev.bind (Ev.const hs) (Ev.pos rfl (Ev.const rfl))))))⟩
/-! ### Grass -/
theorem PD.atG (h : PD W H Gr E S p) (hG : ∀ y x, x < W → y < H → 0 ≤ Gr y x ∧ Gr y x ≤ 1000) (hW : 1 ≤ W ∧ W ≤ 10) (hH : 1 ≤ H ∧ H ≤ 10) {x y : Nat} (hx : x < W) (hy : y < H) : Ev (fun k => impl_GrassAt.f k p (sp x y)) (Gr y x, 0) := by
  have := h.eG hW.2 hH.2 hx hy
  rw [← this]
  exact (h.atCode hG hW hH hx hy).bind (Ev.neg (by simp) (Ev.bind (Ev.const (grass_eq (h.ok hW hH hG) (by omega) (by omega))) (Ev.const rfl)))
theorem PD.withG (h : PD W H Gr E S p) (hG : ∀ y x, x < W → y < H → 0 ≤ Gr y x ∧ Gr y x ≤ 1000) (hW : 1 ≤ W ∧ W ≤ 10) (hH : 1 ≤ H ∧ H ≤ 10) {x y : Nat} (hx : x < W) (hy : y < H) {v : Int} (v0 : 0 ≤ v) (v1 : v ≤ 1000) : Ev (fun k => impl_WithGrass.f k p (sp x y) v) (⟨p.Wide, p.High, put2 p.Grass y x v, p.East, p.South⟩, 0) := by
  have hY : getI p.Grass.l (sp x y).Y = some (gR p.Grass y) := getR p.Grass (by omega)
  have hX : ∀ t : Arr 10 Int, getI t.l (sp x y).X = some (gA t x) := fun t => getA t (by omega)
  refine (h.atCode hG hW hH hx hy).bind (Ev.bind (Ev.const (within_eq _ _ _)) (Ev.bind (Ev.const (unless_eq _ _)) ?_))
  rw [decide_eq_true (show (0 : Int) ≤ v ∧ v ≤ 1000 from ⟨v0, v1⟩)]
  refine (firstTwo 0 0).bind (Ev.neg (by simp) (Ev.bind (Ev.const hY) (Ev.bind (Ev.const (hX _)) (Ev.const ?_))))
  rw [w16 (x := v) (by omega) (by omega)]; rfl
/-! ### A plain pasture -/
theorem plain2_ev (hW : 1 ≤ W ∧ W ≤ 10) (hH : 1 ≤ H ∧ H ≤ 10) {v : Int} (v0 : 0 ≤ v) (v1 : v ≤ 1000) : ∃ q, Ev (fun k => impl_PlainPasture.f k (W : Int) (H : Int) v) (q, 0) ∧ PD W H (fun _ _ => v) (fun _ _ => false) (fun _ _ => false) q := by
  have hlen := gridT_len W H 0
  have hHW : H * W ≤ 10 * 10 := Nat.mul_le_mul hH.2 hW.2
  have row : ∀ y, y < H → ∀ x, x ≤ W → ∀ out, PDn W H (fun _ _ => v) (fun _ _ => false) (fun _ _ => false) y x out → ∃ out', PDn W H (fun _ _ => v) (fun _ _ => false) (fun _ _ => false) (y + 1) 0 out' ∧ ∀ {r}, Ev (fun k => impl_PlainPasture.l1 v (gridF (fun _ _ => true) W 0 H) k out' (((y + 1) * W : Nat) : Int)) r → Ev (fun k => impl_PlainPasture.l1 v (gridF (fun _ _ => true) W 0 H) k out ((y * W + x : Nat) : Int)) r := by
    intro y hy
    refine upL ?_ ?_
    · intro out h
      exact ⟨out, h.row, fun {r} hr => by rw [show y * W + W = (y + 1) * W by rw [Nat.add_mul, Nat.one_mul]]; exact hr⟩
    · intro x hx ih out h
      have hmul : (y + 1) * W ≤ H * W := Nat.mul_le_mul_right W hy
      rw [Nat.add_mul, Nat.one_mul] at hmul
      have hi : y * W + x < (gridF (fun _ _ => true) W 0 H).length := by rw [hlen]; omega
      have hg : getI (gridF (fun _ _ => true) W 0 H) ((y * W + x : Nat) : Int) = some (sp x y) := by
        rw [getI_nat hi]
        have := gridT_get W H 0 y x hy hx
        rw [List.getElem?_eq_getElem hi] at this
        rw [Nat.zero_add] at this
        exact this
      have hs1 := PD.step1 (Gr := fun _ _ => v) h hW.2 hH.2 hx hy
      have hs2 : PDn W H (fun _ _ => v) (fun _ _ => false) (fun _ _ => false) y (x + 1) ⟨out.Wide, out.High, put2 out.Grass y x v, out.East, out.South⟩ := hs1.congr (fun _ _ _ _ => rfl) (fun b a _ _ => by unfold Dn; rw [ite_self, ite_self]) (fun b a _ _ => by unfold Dn; rw [ite_self, ite_self])
      obtain ⟨o3, p3, k3⟩ := ih _ hs2
      refine ⟨o3, p3, fun {r} hr => ?_⟩
      have := k3 hr
      rw [show ((y * W + (x + 1) : Nat) : Int) = ((y * W + x + 1 : Nat) : Int) from rfl, ← wsucc hi (by omega)] at this
      refine Ev.step (fun k => impl_PlainPasture.l1.eq_2 _ _ _ _ _) (Ev.pos (by omega) (Ev.bind (Ev.const hg) (Ev.bind (Ev.const (getR out.Grass (show y < 10 by omega))) (Ev.bind (Ev.const (getA _ (show x < 10 by omega))) ?_))))
      rw [w16 (x := v) (by omega) (by omega)]
      exact this
  have grid : ∀ y, y ≤ H → ∀ out, PDn W H (fun _ _ => v) (fun _ _ => false) (fun _ _ => false) y 0 out → ∃ out', PDn W H (fun _ _ => v) (fun _ _ => false) (fun _ _ => false) H 0 out' ∧ Ev (fun k => impl_PlainPasture.l1 v (gridF (fun _ _ => true) W 0 H) k out ((y * W : Nat) : Int)) out' := by
    refine upL ?_ ?_
    · intro out h
      exact ⟨out, h, Ev.step (fun k => impl_PlainPasture.l1.eq_2 _ _ _ _ _) (Ev.neg (by omega) (Ev.const rfl))⟩
    · intro y hy ih out h
      obtain ⟨o1, p1, k1⟩ := row y hy 0 (Nat.zero_le _) out h
      obtain ⟨o2, p2, k2⟩ := ih o1 p1
      exact ⟨o2, p2, k1 k2⟩
  obtain ⟨o, po, eo⟩ := grid 0 (Nat.zero_le _) _ (PDn.start W H _ _ _)
  rw [Nat.zero_mul] at eo
  have ww : IntKind.i8.wrap (W : Int) = (W : Int) := w8 (by omega) (by omega)
  have wh : IntKind.i8.wrap (H : Int) = (H : Int) := w8 (by omega) (by omega)
  have hall : Ev (fun k => impl_Pasture_all.f k (⟨(W : Int), (H : Int), (Arr.mk' (Arr.mk' 0 : Arr 10 Int) : Arr 10 (Arr 10 Int)), (Arr.mk' 0 : Arr 10 Int), (Arr.mk' 0 : Arr 10 Int)⟩ : Pasture)) (gridF (fun _ _ => true) W 0 H) := by
    refine ⟨24, fun k hk => ?_⟩
    have := all_eq (p := (⟨(W : Int), (H : Int), (Arr.mk' (Arr.mk' 0 : Arr 10 Int) : Arr 10 (Arr 10 Int)), (Arr.mk' 0 : Arr 10 Int), (Arr.mk' 0 : Arr 10 Int)⟩ : Pasture)) (okW_iff.2 ⟨⟨by show (1 : Int) ≤ (W : Int); omega, by show (W : Int) ≤ 10; omega⟩, by show (1 : Int) ≤ (H : Int); omega, by show (H : Int) ≤ 10; omega⟩) hk
    simpa using this
  refine ⟨o, Ev.bind (a := false) (Ev.bind (Ev.const (within_eq _ _ _)) (Ev.neg (by simp; omega) (Ev.bind (Ev.const (within_eq _ _ _)) (Ev.neg (by simp; omega) (Ev.bind (Ev.const (within_eq _ _ _)) (Ev.const ?_)))))) (Ev.neg (by simp) ?_), po.all⟩
  · rw [decide_eq_true ⟨v0, v1⟩]; rfl
  · rw [ww, wh]
    exact hall.bind (eo.bind (Ev.const rfl))
end Go.Proofs.YtbkkojdkiimdjaaGreatDoor
/-
  Plain law: FnPastures.
-/
namespace Go.Proofs.YtbkkojdkiimdjaaGreatDoor
open G
set_option linter.unusedVariables false
set_option linter.unusedSimpArgs false
variable {W H : Nat} {p q : Pasture} {Gr : Nat → Nat → Int} {E S : Nat → Nat → Bool}
theorem spot_ev {c : List Int} (hc : byteL c) (hw : p.Wide = (W : Int)) (hh : p.High = (H : Int)) (hW : 1 ≤ W ∧ W ≤ 10) (hH : 1 ≤ H ∧ H ≤ 10) : ∃ x y : Nat, x < W ∧ y < H ∧ spec_P6Spot.f c p = some (sp x y) := by
  obtain ⟨x, a1, s1, e1, x0, x1, q1, q1'⟩ := pick_ok hc (at_ := 0) (seed := 0) (by omega) (by omega) (W : Int)
  obtain ⟨y, a2, s2, e2, y0, y1, q2, q2'⟩ := pick_ok hc (at_ := a1) (seed := s1) (by omega) (by omega) (H : Int)
  obtain ⟨X, rfl⟩ := Int.eq_ofNat_of_zero_le x0
  obtain ⟨Y, rfl⟩ := Int.eq_ofNat_of_zero_le y0
  refine ⟨X, Y, by omega, by omega, ?_⟩
  unfold spec_P6Spot.f spec_l00From.f
  simp only [Option.bind_some]
  rw [hw, hh, w64 (x := (W : Int)) (by omega) (by omega), w64 (x := (H : Int)) (by omega) (by omega), e1, Option.bind_some, e2, Option.bind_some, w8 (x := (X : Int)) (by omega) (by omega), w8 (x := (Y : Int)) (by omega) (by omega)]
  rfl
theorem pick4_ev {c : List Int} (hc : byteL c) : ∃ i : Nat, spec_P6Pick.f c 4 = some (i : Int) ∧ i < 4 := by
  obtain ⟨d, a1, s1, e1, d0, d1, q1, q1'⟩ := pick_ok hc (at_ := 0) (seed := 0) (by omega) (by omega) 4
  obtain ⟨D, rfl⟩ := Int.eq_ofNat_of_zero_le d0
  refine ⟨D, ?_, by omega⟩
  unfold spec_P6Pick.f spec_l00From.f
  simp only [Option.bind_some]
  rw [e1]; rfl
/-- One turn in the law's loop. -/
theorem turn_step {t18 t19 : Int × Int} (h : PD W H Gr E S p) (hG : ∀ y x, x < W → y < H → 0 ≤ Gr y x ∧ Gr y x ≤ 1000) (hW : 1 ≤ W ∧ W ≤ 10) (hH : 1 ≤ H ∧ H ≤ 10) (h1 : t18.1 = cnt W H E S) (h2 : t19.1 = tot W H Gr) {i : Nat} (hi : i < 4) : ∃ q, PD H W (fun y x => Gr (H - 1 - x) y) (fun y x => S (H - 2 - x) y) (fun y x => E (H - 1 - x) y) q ∧ ∀ {r}, Ev (fun k => laws_FnPastures.l1 t18 t19 k q ((i + 1 : Nat) : Int)) r → Ev (fun k => laws_FnPastures.l1 t18 t19 k p (i : Int)) r := by
  obtain ⟨q, e1, e2, hq⟩ := turn_ev h hG hW hH
  have hG' : ∀ y x, x < H → y < W → 0 ≤ Gr (H - 1 - x) y ∧ Gr (H - 1 - x) y ≤ 1000 := fun y x hx hy => hG _ _ hy (by omega)
  have c := hq.count hG' hH hW
  have g := hq.gIn hG' hH hW
  rw [cnt_turn, ← h1] at c
  rw [tot_turn, ← h2] at g
  refine ⟨q, hq, fun {r} hr => ?_⟩
  rw [← wsucc (n := 4) hi (by omega)] at hr
  exact Ev.step (fun k => laws_FnPastures.l1.eq_2 _ _ _ _ _) (Ev.pos (by omega) (e1.bind (e2.bind (c.bind (g.bind (Ev.neg (by simp) (Ev.neg (by simp) (Ev.neg (by simp) (Ev.neg (by simp) (Ev.neg (by simp) (Ev.neg (by simp) (Ev.neg (by simp) hr))))))))))))
theorem turns_ev {t18 t19 : Int × Int} (h : PD W H Gr E S p) (hG : ∀ y x, x < W → y < H → 0 ≤ Gr y x ∧ Gr y x ≤ 1000) (hW : 1 ≤ W ∧ W ≤ 10) (hH : 1 ≤ H ∧ H ≤ 10) (h1 : t18.1 = cnt W H E S) (h2 : t19.1 = tot W H Gr) : Ev (fun k => laws_FnPastures.l1 t18 t19 k p 0) (.inr p) := by
  obtain ⟨q1, p1, k1⟩ := turn_step h hG hW hH h1 h2 (i := 0) (by omega)
  have hG1 : ∀ y x, x < H → y < W → 0 ≤ Gr (H - 1 - x) y ∧ Gr (H - 1 - x) y ≤ 1000 := fun y x hx hy => hG _ _ hy (by omega)
  obtain ⟨q2, p2, k2⟩ := turn_step p1 hG1 hH hW (h1.trans (cnt_turn E S).symm) (h2.trans (tot_turn Gr).symm) (i := 1) (by omega)
  have hG2 : ∀ y x, x < W → y < H → 0 ≤ Gr (H - 1 - y) (W - 1 - x) ∧ Gr (H - 1 - y) (W - 1 - x) ≤ 1000 := fun y x hx hy => hG _ _ (by omega) (by omega)
  obtain ⟨q3, p3, k3⟩ := turn_step p2 hG2 hW hH (h1.trans ((cnt_turn E S).symm.trans (cnt_turn (W := H) (H := W) _ _).symm)) (h2.trans ((tot_turn Gr).symm.trans (tot_turn (W := H) (H := W) _).symm)) (i := 2) (by omega)
  have hG3 : ∀ y x, x < H → y < W → 0 ≤ Gr (H - 1 - (H - 1 - x)) (W - 1 - y) ∧ Gr (H - 1 - (H - 1 - x)) (W - 1 - y) ≤ 1000 := fun y x hx hy => hG _ _ (by omega) (by omega)
  obtain ⟨q4, p4, k4⟩ := turn_step p3 hG3 hH hW (h1.trans ((cnt_turn E S).symm.trans ((cnt_turn (W := H) (H := W) _ _).symm.trans (cnt_turn (W := W) (H := H) _ _).symm))) (h2.trans ((tot_turn Gr).symm.trans ((tot_turn (W := H) (H := W) _).symm.trans (tot_turn (W := W) (H := H) _).symm))) (i := 3) (by omega)
  have e : q4 = p := by
    refine p4.ext h (fun y x hx hy => ?_) (fun y x hx hy => ?_) (fun y x hx hy => ?_)
    · show Gr (H - 1 - (H - 1 - y)) (W - 1 - (W - 1 - x)) = _
      rw [show H - 1 - (H - 1 - y) = y by omega, show W - 1 - (W - 1 - x) = x by omega]
    · show E (H - 1 - (H - 1 - y)) (W - 2 - (W - 2 - x)) = _
      rw [show H - 1 - (H - 1 - y) = y by omega, show W - 2 - (W - 2 - x) = x by omega]
    · show S (H - 2 - (H - 2 - y)) (W - 1 - (W - 1 - x)) = _
      rw [show H - 2 - (H - 2 - y) = y by omega, show W - 1 - (W - 1 - x) = x by omega]
  subst e
  exact k1 (k2 (k3 (k4 (Ev.step (fun k => laws_FnPastures.l1.eq_2 _ _ _ _ _) (Ev.neg (by omega) (Ev.const rfl))))))
theorem mirror_back (h : PD W H Gr E S p) (k : PD W H (fun y x => Gr y (W - 1 - (W - 1 - x))) (fun y x => E y (W - 2 - (W - 2 - x))) (fun y x => S y (W - 1 - (W - 1 - x))) q) : q = p := by
  refine k.ext h (fun y x hx hy => ?_) (fun y x hx hy => ?_) (fun y x hx hy => ?_)
  · rw [show W - 1 - (W - 1 - x) = x by omega]
  · rw [show W - 2 - (W - 2 - x) = x by omega]
  · rw [show W - 1 - (W - 1 - x) = x by omega]
theorem FnPastures.pure (x0 : List Int) (hv0 : ∀ x ∈ x0, (inI .u8) x) (hb0 : x0.length * 1 ≤ 140737488351232) (x1 : List Int) (hv1 : ∀ x ∈ x1, (inI .u8) x) (hb1 : x1.length * 1 ≤ 140737488351232) : ∃ k, laws_FnPastures.f k x0 x1 = some true := by
  refine Ev.get (r := true) ?_
  have b0 : laws_f6big.f x0 = some (decide (4096 < (x0.length : Int))) := rfl
  have b1 : laws_f6big.f x1 = some (decide (4096 < (x1.length : Int))) := rfl
  by_cases h0 : 4096 < (x0.length : Int)
  · exact Ev.bind (a := true) (Ev.bind (Ev.const b0) (Ev.pos (decide_eq_true h0) (Ev.const rfl))) (Ev.pos rfl (Ev.const rfl))
  by_cases h1 : 4096 < (x1.length : Int)
  · exact Ev.bind (a := true) (Ev.bind (Ev.const b0) (Ev.neg (by simpa using h0) (Ev.bind (Ev.const b1) (Ev.const (by rw [decide_eq_true h1]))))) (Ev.pos rfl (Ev.const rfl))
  refine Ev.bind (a := false) (Ev.bind (Ev.const b0) (Ev.neg (by simpa using h0) (Ev.bind (Ev.const b1) (Ev.const (by rw [decide_eq_false h1]))))) (Ev.neg (by simp) ?_)
  obtain ⟨W, H, p, hW5, hH5, dr, ep⟩ := pasture_ev (byteL_of hv0)
  have hW : 1 ≤ W ∧ W ≤ 10 := by omega
  have hH : 1 ≤ H ∧ H ≤ 10 := by omega
  obtain ⟨x, y, hx, hy, es⟩ := spot_ev (byteL_of hv1) dr.w dr.h hW hH
  obtain ⟨i, ei, hi⟩ := pick4_ev (byteL_of hv1)
  have v := dr.V hW.2 hH.2
  have hp := dr.ok hW hH
  have eW : p.Wide.toNat = W := by rw [dr.w]; omega
  have eH : p.High.toNat = H := by rw [dr.h]; omega
  have h := PD.of v hp
  rw [eW, eH] at h
  have hg11 : ∀ y x, x < W → y < H → 0 ≤ gG p y x ∧ gG p y x ≤ 11 := fun y x hx hy => by
    have := dr.g y x (by omega) (by omega)
    omega
  generalize hGr : gG p = Gr at h hg11
  generalize (fun y x => btB (gA p.East y) x) = E at h
  generalize (fun y x => btB (gA p.South y) x) = S at h
  have hG : ∀ y x, x < W → y < H → 0 ≤ Gr y x ∧ Gr y x ≤ 1000 := fun y x hx hy => by have := hg11 y x hx hy; omega
  obtain ⟨t, et, er⟩ := readBack_ev h hG hW hH
  obtain ⟨m, m1, m2, hm⟩ := mir_ev h hG hW hH
  obtain ⟨m', m3, _, hm'⟩ := mir_ev hm (fun y x hx hy => hG y _ (by omega) hy) hW hH
  have em' : m' = p := mirror_back h hm'
  subst em'
  have ec := h.count hG hW hH
  have eg := h.gIn hG hW hH
  have ok := implOk_ev v
  rw [hp] at ok
  refine ep.bind (Ev.bind (Ev.const es) (Ev.bind (Ev.const ei) (et.bind (er.bind (m1.bind (m2.bind (m3.bind (ec.bind (eg.bind (Ev.bind (a := false) ?_ (Ev.neg (by simp) ((turns_ev h hG hW hH rfl rfl).bind ?_))))))))))))
  · exact Ev.neg (by simp) (Ev.neg (by simp) (Ev.bind (Ev.const (show impl_SamePasture.f m' m' = some true by unfold impl_SamePasture.f; simp)) (Ev.neg (by simp) (ok.bind (Ev.neg (by simp) (Ev.neg (by simp) (Ev.neg (by simp) (Ev.neg (by simp) (Ev.neg (by simp) (Ev.neg (by simp) (Ev.neg (by simp) (Ev.const (by simp)))))))))))))
  have hh := h.has hG hW hH hx hy hi
  have hbe : spec_Beyond.f (sp x y) (i : Int) = some (nx (sp x y) (i : Int)) := by unfold spec_Beyond.f; rw [next_eq]; rfl
  have his : spec_IsSpot.f m' (nx (sp x y) (i : Int)) = some (cellB m' (nx (sp x y) (i : Int)).X (nx (sp x y) (i : Int)).Y) := by
    unfold spec_IsSpot.f
    rw [l01Is_eq v _ (nx_in (by omega) (by omega) _)]; rfl
  -- the end
  have tail : Ev (fun k => (impl_GrassAt.f k m' (sp x y)).bind fun t46 => (impl_WithGrass.f k m' (sp x y) (IntKind.i64.wrap (t46.1 + 3))).bind fun t47 => (impl_GrassIn.f k t47.1).bind fun t49 => (impl_PlainPasture.f k (IntKind.i64.wrap m'.Wide) (IntKind.i64.wrap m'.High) 2).bind fun t50 => (impl_GrassIn.f k t50.1).bind fun t52 => if t46.2 = 0 then (if t47.2 = 0 then (if t49.2 = 0 then (if t49.1 = (IntKind.i64.wrap (tot W H Gr + 3)) then (if t50.2 = 0 then (if t52.2 = 0 then (some (decide (t52.1 = (IntKind.i64.wrap ((IntKind.i64.wrap (2 * (IntKind.i64.wrap m'.Wide))) * (IntKind.i64.wrap m'.High)))))) else (some false)) else (some false)) else (some false)) else (some false)) else (some false)) else (some false)) true := by
    have hv := hg11 y x hx hy
    have wv : IntKind.i64.wrap (Gr y x + 3) = Gr y x + 3 := w64 (by omega) (by omega)
    have h3 := h.grass (by omega) (by omega) hx hy (Gr y x + 3)
    have hG3 : ∀ b a, a < W → b < H → 0 ≤ upd Gr y x (Gr y x + 3) b a ∧ upd Gr y x (Gr y x + 3) b a ≤ 1000 := fun b a ha hb => by
      unfold upd
      split
      · omega
      · exact hG b a ha hb
    have g3 := h3.gIn hG3 hW hH
    have w3 := h.withG hG hW hH hx hy (v := Gr y x + 3) (by omega) (by omega)
    obtain ⟨f, ef, hf⟩ := plain2_ev hW hH (v := 2) (by omega) (by omega)
    have gf := hf.gIn (fun _ _ _ _ => by omega) hW hH
    have et : tot W H (upd Gr y x (Gr y x + 3)) = tot W H Gr + 3 := by rw [tot_upd Gr hx hy]; omega
    have ef2 : tot W H (fun _ _ => 2) = 2 * (W : Int) * H := by
      unfold tot
      rw [sumTo_one, sumTo_one, Int.mul_comm (H : Int), Int.mul_comm (W : Int)]
    have hle := tot_le (F := Gr) (B := 11) hg11
    have hWH : W * H ≤ 5 * 5 := Nat.mul_le_mul hW5.2 hH5.2
    have hWH' : (W : Int) * H ≤ 25 := by exact_mod_cast hWH
    have hWH0 : (0 : Int) ≤ (W : Int) * H := by exact_mod_cast Nat.zero_le (W * H)
    have hle2 : (H : Int) * ((W : Int) * 11) = 11 * ((W : Int) * H) := by rw [← Int.mul_assoc, Int.mul_comm (H : Int), Int.mul_comm]
    have ww : IntKind.i64.wrap m'.Wide = (W : Int) := by rw [dr.w, w64 (by omega) (by omega)]
    have wh : IntKind.i64.wrap m'.High = (H : Int) := by rw [dr.h, w64 (by omega) (by omega)]
    have w2 : IntKind.i64.wrap (2 * (W : Int)) = 2 * (W : Int) := w64 (by omega) (by omega)
    have w4 : IntKind.i64.wrap (2 * (W : Int) * H) = 2 * (W : Int) * H := by rw [Int.mul_assoc]; exact w64 (by omega) (by omega)
    have wt : IntKind.i64.wrap (tot W H Gr + 3) = tot W H Gr + 3 := w64 (by omega) (by omega)
    rw [et] at g3
    rw [ef2] at gf
    rw [ww, wh, w2, w4, wt]
    refine (h.atG hG hW hH hx hy).bind ?_
    simp only
    rw [wv]
    exact w3.bind (g3.bind (ef.bind (gf.bind (Ev.pos (by simp) (Ev.pos (by simp) (Ev.pos (by simp) (Ev.pos (by simp) (Ev.pos (by simp) (Ev.pos (by simp) (Ev.const (by simp)))))))))))
  rcases side_case hW.2 hH.2 hx hy hi with ho | ⟨x', y', s', x2, y2, i2, d⟩
  · -- the side is at the pasture's end
    have hn := ho h
    obtain ⟨n1, n2⟩ := h.setNo hG hW hH hx hy hi hn true
    rw [hn] at his
    have hcl : openB m' x y i = false := by unfold openB; rw [hn]; rfl
    rw [hcl] at hh
    exact hh.bind (n1.bind (n2.bind (Ev.bind (Ev.const hbe) (Ev.bind (Ev.const his) (Ev.bind (a := false) (Ev.neg (by simp) (Ev.neg (by simp) (Ev.neg (by simp) (Ev.neg (by simp) (Ev.neg (by simp) (Ev.pos rfl (Ev.const rfl))))))) (Ev.neg (by simp) (Ev.bind (a := (.inr () : Bool ⊕ Unit)) (Ev.neg (by simp) (Ev.neg (by simp) (Ev.const rfl))) tail)))))))
  · have hin : cellB m' (nx (sp x y) (i : Int)).X (nx (sp x y) (i : Int)).Y = true := by
      rw [d.nxt, h.cell, decide_eq_true d.in2]
    rw [hin] at his
    have n1 := h.setI hG hW hH hx hy hi d true
    have n2 := h.setS hG hW hH hx hy hi d true
    have hm := h.put d.ten.1 d.ten.2 s' true (fun _ => d.dom)
    have k1 := hm.has hG hW hH hx hy hi
    have k2 := hm.has hG hW hH d.in2.1 d.in2.2 d.opp.2
    have bit : (if s' = true then (if s' = true then upd S y' x' true else S) y' x' else (if s' = true then E else upd E y' x' true) y' x') = true := by
      cases s' <;> simp [upd]
    rw [d.op1 hm, bit] at k1
    rw [d.op2 hm, bit] at k2
    have k3 := hm.setI hG hW hH hx hy hi d (!openB m' x y i)
    have hb := hm.put d.ten.1 d.ten.2 s' (!openB m' x y i) (fun _ => d.dom)
    have eb : putB (putB m' x' y' s' true) x' y' s' (!openB m' x y i) = m' := by
      refine hb.ext h (fun _ _ _ _ => rfl) (fun b a _ _ => ?_) (fun b a _ _ => ?_)
      · rw [d.op1 h]
        cases s'
        · simp only [Bool.false_eq_true, if_false]
          unfold upd
          by_cases c : b = y' ∧ a = x'
          · obtain ⟨rfl, rfl⟩ := c
            rw [if_pos ⟨rfl, rfl⟩]
          · rw [if_neg c, if_neg c]
        · simp only [if_true]
      · rw [d.op1 h]
        cases s'
        · simp only [Bool.false_eq_true, if_false]
        · simp only [if_true]
          unfold upd
          by_cases c : b = y' ∧ a = x'
          · obtain ⟨rfl, rfl⟩ := c
            rw [if_pos ⟨rfl, rfl⟩]
          · rw [if_neg c, if_neg c]
    rw [eb] at k3
    refine hh.bind (n1.bind (n2.bind (Ev.bind (Ev.const hbe) (Ev.bind (Ev.const his) (Ev.bind (a := false) (Ev.neg (by simp) (Ev.neg (by simp) (Ev.neg (by simp) (Ev.neg (by simp) (Ev.neg (by simp) (Ev.neg (by simp) (Ev.const rfl))))))) (Ev.neg (by simp) (Ev.bind (a := (.inr () : Bool ⊕ Unit)) (Ev.pos rfl ?_) tail)))))))
    refine k1.bind (Ev.bind (Ev.const hbe) ?_)
    rw [d.nxt, d.opp.1]
    exact k2.bind (k3.bind (Ev.neg (by simp) (Ev.neg (by simp) (Ev.neg (by simp) (Ev.neg (by simp) (Ev.neg (by simp) (Ev.neg (by simp) (Ev.const rfl))))))))
end Go.Proofs.YtbkkojdkiimdjaaGreatDoor
