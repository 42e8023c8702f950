import Derived.Test.YtdbppckimfhgeaaGreatDoorQBt
import Derived.Test.YtdbppckimfhgeaaGreatDoorSD
import Derived.Test.YtdbppckimfhgeaaGreatDoorQF
import Derived.Test.YtdbppckimfhgeaaGreatDoorQXReadSights
import Derived.Test.YtdbppckimfhgeaaGreatDoorQYw
import Derived.Test.YtdbppckimfhgeaaGreatDoorQG
import Derived.Test.YtdbppckimfhgeaaGreatDoorQXMeadowsOf
/-
  Plain law: pastures that are drawn are in order.
-/
namespace Go.Proofs.YtdbppckimfhgeaaGreatDoor
open G
set_option linter.unusedVariables false
set_option linter.unusedSimpArgs false
set_option maxRecDepth 100000
/-! ### When a pasture is in order -/
/-- The bits of the rows of hurdles lie within. -/
structure Rows (p : Pasture) : Prop where
  e : ∀ y, y < 10 → (0 ≤ gA p.East y ∧ gA p.East y ≤ 65535) ∧ ∀ j, j < 16 → btB (gA p.East y) j = true → (j : Int) + 1 < p.Wide ∧ (y : Int) < p.High
  s : ∀ y, y < 10 → (0 ≤ gA p.South y ∧ gA p.South y ≤ 65535) ∧ ∀ j, j < 16 → btB (gA p.South y) j = true → (j : Int) < p.Wide ∧ (y : Int) + 1 < p.High
theorem mask_in {k : Nat} (hk : k ≤ 15) : 0 ≤ (2 ^ k - 1 : Int) ∧ (2 ^ k - 1 : Int) ≤ 65535 := by
  have h1 : (2 : Nat) ^ k ≤ 2 ^ 15 := Nat.pow_le_pow_right (by omega) hk
  have h2 : 0 < 2 ^ k := Nat.two_pow_pos k
  have e : (2 ^ k - 1 : Int) = ((2 ^ k - 1 : Nat) : Int) := by rw [Int.natCast_sub (by omega)]; push_cast; rfl
  rw [e]; omega
theorem rows_ok {p : Pasture} (hw : okW p = true) (hg : ∀ y x, y < 10 → x < 10 → okG p y x = true) (h : Rows p) : vP p = true := by
  obtain ⟨a, b⟩ := okW_iff.1 hw
  unfold vP
  rw [hw, Bool.true_and, upA_iff]
  intro y _ hy
  have hy : y < 10 := by omega
  unfold okR
  rw [Bool.and_eq_true, Bool.and_eq_true, decide_eq_true_eq, decide_eq_true_eq, upA_iff]
  obtain ⟨⟨e0, e1⟩, e2⟩ := h.e y hy
  obtain ⟨⟨s0, s1⟩, s2⟩ := h.s y hy
  refine ⟨fun x _ hx => hg y x hy (by omega), ?_, ?_⟩
  · unfold eMask
    by_cases hh : (y : Int) < p.High
    · rw [if_pos hh]
      obtain ⟨m0, m1⟩ := mask_in (k := p.Wide.toNat - 1) (by omega)
      rw [sub_mask e0 e1 m0 m1]
      intro j hj hb
      rw [bt_mask (by omega) (by omega)]
      have := e2 j hj hb
      exact decide_eq_true (by omega)
    · rw [if_neg hh, sub_mask e0 e1 (by omega) (by omega)]
      intro j hj hb
      exact absurd (e2 j hj hb).2 hh
  · unfold sMask
    by_cases hh : (y : Int) + 1 < p.High
    · rw [if_pos hh]
      obtain ⟨m0, m1⟩ := mask_in (k := p.Wide.toNat) (by omega)
      rw [sub_mask s0 s1 m0 m1]
      intro j hj hb
      rw [bt_mask (by omega) (by omega)]
      have := s2 j hj hb
      exact decide_eq_true (by omega)
    · rw [if_neg hh, sub_mask s0 s1 (by omega) (by omega)]
      intro j hj hb
      exact absurd (s2 j hj hb).2 hh
theorem vP_rows {p : Pasture} (v : VPasture p) (h : vP p = true) : Rows p := by
  have hw := vP_okW h
  obtain ⟨a, b⟩ := okW_iff.1 hw
  unfold vP at h
  rw [hw, Bool.true_and, upA_iff] at h
  have hE : ∀ y, y < 10 → 0 ≤ gA p.East y ∧ gA p.East y ≤ 65535 := fun y hy => u16b (v.2.2.2.1 _ (gA_mem _ hy))
  have hS : ∀ y, y < 10 → 0 ≤ gA p.South y ∧ gA p.South y ≤ 65535 := fun y hy => u16b (v.2.2.2.2 _ (gA_mem _ hy))
  refine ⟨fun y hy => ⟨hE y hy, ?_⟩, fun y hy => ⟨hS y hy, ?_⟩⟩
  · have := h y (Nat.zero_le _) (by omega)
    unfold okR at this
    rw [Bool.and_eq_true, Bool.and_eq_true, decide_eq_true_eq, decide_eq_true_eq] at this
    obtain ⟨_, he, _⟩ := this
    unfold eMask at he
    by_cases hh : (y : Int) < p.High
    · rw [if_pos hh] at he
      obtain ⟨m0, m1⟩ := mask_in (k := p.Wide.toNat - 1) (by omega)
      rw [sub_mask (hE y hy).1 (hE y hy).2 m0 m1] at he
      intro j hj hb
      have := he j hj hb
      rw [bt_mask (by omega) (by omega), decide_eq_true_eq] at this
      omega
    · rw [if_neg hh, sub_mask (hE y hy).1 (hE y hy).2 (by omega) (by omega)] at he
      intro j hj hb
      have := he j hj hb
      rw [bt_zero] at this; cases this
  · have := h y (Nat.zero_le _) (by omega)
    unfold okR at this
    rw [Bool.and_eq_true, Bool.and_eq_true, decide_eq_true_eq, decide_eq_true_eq] at this
    obtain ⟨_, _, he⟩ := this
    unfold sMask at he
    by_cases hh : (y : Int) + 1 < p.High
    · rw [if_pos hh] at he
      obtain ⟨m0, m1⟩ := mask_in (k := p.Wide.toNat) (by omega)
      rw [sub_mask (hS y hy).1 (hS y hy).2 m0 m1] at he
      intro j hj hb
      have := he j hj hb
      rw [bt_mask (by omega) (by omega), decide_eq_true_eq] at this
      omega
    · rw [if_neg hh, sub_mask (hS y hy).1 (hS y hy).2 (by omega) (by omega)] at he
      intro j hj hb
      have := he j hj hb
      rw [bt_zero] at this; cases this
/-! ### A hurdle that is put -/
def putT (p : Pasture) (x y : Nat) (s : Bool) : Pasture := if s = true then ⟨p.Wide, p.High, p.Grass, p.East, aset p.South y (orI .u16 (andNotI .u16 (gA p.South y) (shlI .u16 1 (x : Int))) (shlI .u16 1 (x : Int)))⟩ else ⟨p.Wide, p.High, p.Grass, aset p.East y (orI .u16 (andNotI .u16 (gA p.East y) (shlI .u16 1 (x : Int))) (shlI .u16 1 (x : Int))), p.South⟩
theorem aset_aset (a : Arr 10 Int) (y : Nat) (u v : Int) : aset (aset a y u) y v = aset a y v := by
  unfold aset
  simp only [List.set_set]
theorem setT_eq (p : Pasture) {x y : Nat} (hx : x < 10) (hy : y < 10) (s : Bool) : spec_l01Set.f p (sp x y) (if s = true then 2 else 1) true = some (putT p x y s) := by
  have g1 : ∀ a : Arr 10 Int, getI a.l (y : Int) = some (gA a y) := fun a => getA a hy
  have u := u64n hx
  have e1 : ∀ (a : Arr 10 Int) (v : Int), gA (aset a y v) y = v := fun a v => by rw [gA_set a hy, if_pos rfl]
  cases s
  · simp [spec_l01Set.f, sp, u, chk, g1, e1, putT, aset_aset]
  · simp [spec_l01Set.f, sp, u, chk, g1, e1, putT, aset_aset]
theorem bit_putT {m : Int} (h : 0 ≤ m) (h' : m ≤ 65535) {i j : Nat} (hi : i < 16) (hj : j < 16) : btB (orI .u16 (andNotI .u16 m (shlI .u16 1 (i : Int))) (shlI .u16 1 (i : Int))) j = (btB m j || decide (i = j)) := by
  obtain ⟨a, b⟩ := andNot_in m (shlI .u16 1 (i : Int))
  rw [bit_put a b hi hj, bit_clear h h' hi hj]
  cases btB m j <;> by_cases e : i = j <;> simp [e]
theorem putT_rows {p : Pasture} (h : Rows p) {x y : Nat} (hx : x < 10) (hy : y < 10) {s : Bool} (hin : if s = true then (x : Int) < p.Wide ∧ (y : Int) + 1 < p.High else (x : Int) + 1 < p.Wide ∧ (y : Int) < p.High) : Rows (putT p x y s) := by
  cases s
  · simp only [Bool.false_eq_true, if_false] at hin
    refine ⟨fun b hb => ?_, h.s⟩
    have e : gA (putT p x y false).East b = if y = b then orI .u16 (andNotI .u16 (gA p.East y) (shlI .u16 1 (x : Int))) (shlI .u16 1 (x : Int)) else gA p.East b := gA_set p.East hy _ b
    rw [e]
    by_cases e1 : y = b
    · subst e1
      rw [if_pos rfl]
      obtain ⟨⟨e0, e1⟩, e2⟩ := h.e y hy
      refine ⟨or_in _ _, fun j hj hbit => ?_⟩
      rw [bit_putT e0 e1 (by omega) hj, Bool.or_eq_true, decide_eq_true_eq] at hbit
      rcases hbit with hbit | rfl
      · exact e2 j hj hbit
      · exact hin
    · rw [if_neg e1]; exact h.e b hb
  · simp only [if_true] at hin
    refine ⟨h.e, fun b hb => ?_⟩
    have e : gA (putT p x y true).South b = if y = b then orI .u16 (andNotI .u16 (gA p.South y) (shlI .u16 1 (x : Int))) (shlI .u16 1 (x : Int)) else gA p.South b := gA_set p.South hy _ b
    rw [e]
    by_cases e1 : y = b
    · subst e1
      rw [if_pos rfl]
      obtain ⟨⟨e0, e1⟩, e2⟩ := h.s y hy
      refine ⟨or_in _ _, fun j hj hbit => ?_⟩
      rw [bit_putT e0 e1 (by omega) hj, Bool.or_eq_true, decide_eq_true_eq] at hbit
      rcases hbit with hbit | rfl
      · exact e2 j hj hbit
      · exact hin
    · rw [if_neg e1]; exact h.s b hb
/-! ### Drawn -/
/-- A pasture as it is drawn. -/
structure Dr (W H : Nat) (p : Pasture) : Prop where
  w : p.Wide = (W : Int)
  h : p.High = (H : Int)
  g : ∀ y x, y < 10 → x < 10 → 0 ≤ gG p y x ∧ gG p y x ≤ 11 ∧ (¬ (x < W ∧ y < H) → gG p y x = 0)
  r : Rows p
theorem arr_at {α : Type} {n : Nat} (a : Arr n α) {x : α} (hx : x ∈ a.l) : ∃ i, i < n ∧ a.l[i]? = some x := by
  obtain ⟨i, hi, rfl⟩ := List.getElem_of_mem hx
  exact ⟨i, by rw [← a.len]; exact hi, List.getElem?_eq_getElem hi⟩
theorem Dr.V {W H : Nat} {p : Pasture} (h : Dr W H p) (hW : W ≤ 10) (hH : H ≤ 10) : VPasture p := by
  have i8 : IntKind.i8.min = -128 ∧ IntKind.i8.max = 127 := by decide
  have i16 : IntKind.i16.min = -32768 ∧ IntKind.i16.max = 32767 := by decide
  have u16' : IntKind.u16.min = 0 ∧ IntKind.u16.max = 65535 := by decide
  refine ⟨?_, ?_, fun r hr x hx => ?_, fun x hx => ?_, fun x hx => ?_⟩
  · unfold inI; rw [i8.1, i8.2, h.w]; omega
  · unfold inI; rw [i8.1, i8.2, h.h]; omega
  · obtain ⟨y, hy, e⟩ := arr_at p.Grass hr
    obtain ⟨j, hj, e2⟩ := arr_at r hx
    have : gG p y j = x := by unfold gG gR gA; rw [e]; simp [List.getD_eq_getElem?_getD, e2]
    have hg := h.g y j hy hj
    unfold inI; rw [i16.1, i16.2]; omega
  · obtain ⟨y, hy, e⟩ := arr_at p.East hx
    have : gA p.East y = x := by unfold gA; simp [List.getD_eq_getElem?_getD, e]
    have := (h.r.e y hy).1
    unfold inI; rw [u16'.1, u16'.2]; omega
  · obtain ⟨y, hy, e⟩ := arr_at p.South hx
    have : gA p.South y = x := by unfold gA; simp [List.getD_eq_getElem?_getD, e]
    have := (h.r.s y hy).1
    unfold inI; rw [u16'.1, u16'.2]; omega
theorem Dr.okW {W H : Nat} {p : Pasture} (h : Dr W H p) (hW : 1 ≤ W ∧ W ≤ 10) (hH : 1 ≤ H ∧ H ≤ 10) : okW p = true := by
  rw [okW_iff, h.w, h.h]; omega
theorem Dr.ok {W H : Nat} {p : Pasture} (h : Dr W H p) (hW : 1 ≤ W ∧ W ≤ 10) (hH : 1 ≤ H ∧ H ≤ 10) : vP p = true := by
  refine rows_ok (h.okW hW hH) (fun y x hy hx => ?_) h.r
  obtain ⟨a, b, c⟩ := h.g y x hy hx
  unfold okG cellB
  simp only [Bool.and_eq_true, Bool.or_eq_true, decide_eq_true_eq, h.w, h.h]
  refine ⟨by omega, ?_⟩
  by_cases hin : x < W ∧ y < H
  · right; omega
  · left; rw [c hin]; omega
theorem Dr.put {W H : Nat} {p : Pasture} (h : Dr W H p) {x y : Nat} (hx : x < 10) (hy : y < 10) {s : Bool} (hin : if s = true then (x : Int) < p.Wide ∧ (y : Int) + 1 < p.High else (x : Int) + 1 < p.Wide ∧ (y : Int) < p.High) : Dr W H (putT p x y s) := by
  have hr := putT_rows h.r hx hy hin
  cases s
  · exact ⟨h.w, h.h, h.g, hr⟩
  · exact ⟨h.w, h.h, h.g, hr⟩
theorem Dr.grass {W H : Nat} {p : Pasture} (h : Dr W H p) {x y : Nat} (hx : x < 10) (hy : y < 10) (hxW : x < W) (hyH : y < H) {v : Int} (v0 : 0 ≤ v) (v1 : v ≤ 11) : Dr W H ⟨p.Wide, p.High, put2 p.Grass y x v, p.East, p.South⟩ := by
  refine ⟨h.w, h.h, fun b a hb ha => ?_, ⟨h.r.e, h.r.s⟩⟩
  have e : gG ⟨p.Wide, p.High, put2 p.Grass y x v, p.East, p.South⟩ b a = if y = b ∧ x = a then v else gG p b a := g2_put p.Grass hy hx v b a
  rw [e]
  by_cases c : y = b ∧ x = a
  · rw [if_pos c]
    exact ⟨v0, v1, fun hn => absurd ⟨by omega, by omega⟩ hn⟩
  · rw [if_neg c]; exact h.g b a hb ha
theorem one_ok {c : List Int} (hc : byteL c) {at_ seed : Int} (h0 : 0 ≤ at_) (h1 : at_ ≤ 1000000000000) (n : Int) :
    ∃ v at' seed', spec_l00Src_one.f ⟨c, at_, seed⟩ n = some (v, ⟨c, at', seed'⟩) ∧ at_ ≤ at' ∧ at' ≤ at_ + 2 := by
  obtain ⟨i, a, s, e, i0, i1, q1, q2⟩ := pick_ok hc (seed := seed) h0 h1 n
  refine ⟨decide (i = 0), a, s, ?_, q1, q2⟩
  unfold spec_l00Src_one.f
  rw [e]
  rfl
theorem side_in {W H : Nat} {p : Pasture} (h : Dr W H p) (hW : W ≤ 10) (hH : H ≤ 10) {x y : Nat} (hx : x < W) (hy : y < H) (s : Bool) (hc : cellB p (nx (sp x y) (if s = true then 2 else 1)).X (nx (sp x y) (if s = true then 2 else 1)).Y = true) : if s = true then (x : Int) < p.Wide ∧ (y : Int) + 1 < p.High else (x : Int) + 1 < p.Wide ∧ (y : Int) < p.High := by
  unfold cellB at hc
  cases s
  · simp only [Bool.false_eq_true, if_false] at hc ⊢
    have e : nx (sp x y) 1 = ⟨((x : Int) + 1), (y : Int)⟩ := by
      unfold nx sp; simp; rw [w8 (by omega) (by omega)]
    rw [e] at hc
    simp only [Bool.and_eq_true, decide_eq_true_eq] at hc
    omega
  · simp only [if_true] at hc ⊢
    have e : nx (sp x y) 2 = ⟨(x : Int), ((y : Int) + 1)⟩ := by
      unfold nx sp; simp; rw [w8 (by omega) (by omega)]
    rw [e] at hc
    simp only [Bool.and_eq_true, decide_eq_true_eq] at hc
    omega
theorem drawn3_ev {c : List Int} (hc : byteL c) (t5 : Int × l00Src) {W H : Nat} (hW : W ≤ 10) (hH : H ≤ 10) {x y : Nat} (hx : x < W) (hy : y < H) {p : Pasture} (h : Dr W H p) {at_ seed : Int} (h0 : 0 ≤ at_) (h1 : at_ ≤ 100000) :
    ∃ p' at' seed', Ev (fun k => spec_l01Drawn.l3 ⟨c, 0, 0⟩ t5 (y : Int) (x : Int) k p 1 at_ seed) (p', at', seed') ∧ Dr W H p' ∧ at_ ≤ at' ∧ at' ≤ at_ + 4 := by
  have last : ∀ (q : Pasture) (a s : Int), Ev (fun k => spec_l01Drawn.l3 ⟨c, 0, 0⟩ t5 (y : Int) (x : Int) k q 3 a s) (q, a, s) := fun q a s => Ev.step (fun k => spec_l01Drawn.l3.eq_2 _ _ _ _ _ _ _ _ _) (Ev.neg (by omega) (Ev.const rfl))
  have go : ∀ (s : Bool) (q : Pasture) (a sd : Int), Dr W H q → 0 ≤ a → a ≤ 100010 → ∃ q' a' s', Dr W H q' ∧ a ≤ a' ∧ a' ≤ a + 2 ∧ ∀ {r}, Ev (fun k => spec_l01Drawn.l3 ⟨c, 0, 0⟩ t5 (y : Int) (x : Int) k q' (IntKind.i64.wrap ((if s = true then 2 else 1) + 1)) a' s') r → Ev (fun k => spec_l01Drawn.l3 ⟨c, 0, 0⟩ t5 (y : Int) (x : Int) k q (if s = true then 2 else 1) a sd) r := by
    intro s q a sd hq a0 a1
    have hle : (if s = true then (2 : Int) else 1) ≤ 2 := by split <;> omega
    have hin := nx_in (x := x) (y := y) (by omega) (by omega) (if s = true then 2 else 1)
    have his := l01Is_eq (hq.V hW hH) _ hin
    cases hcb : cellB q (nx (sp x y) (if s = true then 2 else 1)).X (nx (sp x y) (if s = true then 2 else 1)).Y
    · rw [hcb] at his
      exact ⟨q, a, sd, hq, by omega, by omega, fun hr => Ev.step (fun k => spec_l01Drawn.l3.eq_2 _ _ _ _ _ _ _ _ _) (Ev.pos hle (Ev.bind (Ev.const (next_eq _ _)) (Ev.bind (Ev.const his) (Ev.neg (by simp) hr))))⟩
    · rw [hcb] at his
      obtain ⟨b, a', s', e1, q1, q2⟩ := one_ok hc (seed := sd) a0 (by omega) (IntKind.i64.wrap (2 + t5.1))
      cases b
      · exact ⟨q, a', s', hq, q1, q2, fun hr => Ev.step (fun k => spec_l01Drawn.l3.eq_2 _ _ _ _ _ _ _ _ _) (Ev.pos hle (Ev.bind (Ev.const (next_eq _ _)) (Ev.bind (Ev.const his) (Ev.pos rfl (Ev.bind (Ev.const e1) (Ev.neg (by simp) hr))))))⟩
      · exact ⟨putT q x y s, a', s', hq.put (by omega) (by omega) (side_in hq hW hH hx hy s hcb), q1, q2, fun hr => Ev.step (fun k => spec_l01Drawn.l3.eq_2 _ _ _ _ _ _ _ _ _) (Ev.pos hle (Ev.bind (Ev.const (next_eq _ _)) (Ev.bind (Ev.const his) (Ev.pos rfl (Ev.bind (Ev.const e1) (Ev.pos rfl (Ev.bind (Ev.const (setT_eq q (by omega) (by omega) s)) hr)))))))⟩
  obtain ⟨p1, a1, s1, b1, b2, b3, b4⟩ := go false p at_ seed h h0 (by omega)
  obtain ⟨p2, a2, s2, d1, d2, d3, d4⟩ := go true p1 a1 s1 b1 (by omega) (by omega)
  refine ⟨p2, a2, s2, ?_, d1, by omega, by omega⟩
  have w2 : IntKind.i64.wrap (1 + 1) = 2 := by decide
  have w3 : IntKind.i64.wrap (2 + 1) = 3 := by decide
  simp only [Bool.false_eq_true, if_false, w2] at b4
  simp only [if_true, w3] at d4
  exact b4 (d4 (last _ _ _))
theorem drawn2_loop {c : List Int} (hc : byteL c) (t5 : Int × l00Src) {W H : Nat} (hW : W ≤ 10) (hH : H ≤ 10) {y : Nat} (hy : y < H) : ∀ x, x ≤ W → ∀ (p : Pasture) (at_ seed : Int), Dr W H p → 0 ≤ at_ → at_ + 6 * ((W : Int) - x) ≤ 100000 →
    ∃ p' at' seed', Ev (fun k => spec_l01Drawn.l2 ⟨c, 0, 0⟩ t5 (y : Int) k p (x : Int) at_ seed) (p', at', seed') ∧ Dr W H p' ∧ at_ ≤ at' ∧ at' ≤ at_ + 6 * ((W : Int) - x) := by
  refine upL ?_ ?_
  · intro p at_ seed h h0 h1
    exact ⟨p, at_, seed, Ev.step (fun k => spec_l01Drawn.l2.eq_2 _ _ _ _ _ _ _ _) (Ev.neg (by rw [h.w]; omega) (Ev.const rfl)), h, by omega, by omega⟩
  · intro x hx ih p at_ seed h h0 h1
    obtain ⟨v, a1, s1, e1, v0, v1, q1, q2⟩ := pick_ok hc (seed := seed) h0 (by omega) 12
    have wv : IntKind.i16.wrap v = v := w16 (by omega) (by omega)
    have hG := h.grass (x := x) (y := y) (by omega) (by omega) hx hy v0 (show v ≤ 11 by omega)
    obtain ⟨p2, a2, s2, b1, b2, b3, b4⟩ := drawn3_ev hc t5 hW hH hx hy hG (seed := s1) (at_ := a1) (by omega) (by omega)
    obtain ⟨p3, a3, s3, d1, d2, d3, d4⟩ := ih p2 a2 s2 b2 (by omega) (by omega)
    have e : IntKind.i8.wrap ((x : Int) + 1) = ((x + 1 : Nat) : Int) := by rw [w8 (by omega) (by omega)]; omega
    rw [← e] at d1
    refine ⟨p3, a3, s3, Ev.step (fun k => spec_l01Drawn.l2.eq_2 _ _ _ _ _ _ _ _) (Ev.pos (by rw [h.w]; omega) (Ev.bind (a := (p2, a2, s2)) ?_ d1)), d2, by omega, by omega⟩
    refine Ev.bind (Ev.const (getR p.Grass (show y < 10 by omega))) (Ev.bind (Ev.const e1) (Ev.bind (Ev.const (getA _ (show x < 10 by omega))) ?_))
    simp only [wv, Int.toNat_natCast]
    exact b1.bind (Ev.const rfl)
theorem drawn1_loop {c : List Int} (hc : byteL c) (t5 : Int × l00Src) {W H : Nat} (hW : W ≤ 10) (hH : H ≤ 10) : ∀ y, y ≤ H → ∀ (p : Pasture) (at_ seed : Int), Dr W H p → 0 ≤ at_ → at_ + 60 * ((H : Int) - y) ≤ 100000 →
    ∃ p' at' seed', Ev (fun k => spec_l01Drawn.l1 ⟨c, 0, 0⟩ t5 k p (y : Int) at_ seed) (p', at', seed') ∧ Dr W H p' := by
  refine upL ?_ ?_
  · intro p at_ seed h h0 h1
    exact ⟨p, at_, seed, Ev.step (fun k => spec_l01Drawn.l1.eq_2 _ _ _ _ _ _ _) (Ev.neg (by rw [h.h]; omega) (Ev.const rfl)), h⟩
  · intro y hy ih p at_ seed h h0 h1
    obtain ⟨p2, a2, s2, b1, b2, b3, b4⟩ := drawn2_loop hc t5 hW hH hy 0 (Nat.zero_le _) p at_ seed h h0 (by omega)
    obtain ⟨p3, a3, s3, d1, d2⟩ := ih p2 a2 s2 b2 (by omega) (by omega)
    have e : IntKind.i8.wrap ((y : Int) + 1) = ((y + 1 : Nat) : Int) := by rw [w8 (by omega) (by omega)]; omega
    rw [← e] at d1
    exact ⟨p3, a3, s3, Ev.step (fun k => spec_l01Drawn.l1.eq_2 _ _ _ _ _ _ _) (Ev.pos (by rw [h.h]; omega) (Ev.bind (b1.bind (Ev.const rfl)) d1)), d2⟩
theorem gA_zero {y : Nat} (hy : y < 10) : gA (Arr.mk' 0 : Arr 10 Int) y = 0 := by
  show (List.replicate 10 (0 : Int)).getD y 0 = 0
  rw [List.getD_eq_getElem?_getD, List.getElem?_replicate, if_pos hy]; rfl
theorem gG_zero {y x : Nat} (hy : y < 10) (hx : x < 10) : gA (gR (Arr.mk' (Arr.mk' 0 : Arr 10 Int) : Arr 10 (Arr 10 Int)) y) x = 0 := by
  have : gR (Arr.mk' (Arr.mk' 0 : Arr 10 Int) : Arr 10 (Arr 10 Int)) y = Arr.mk' 0 := by
    show (List.replicate 10 (Arr.mk' 0 : Arr 10 Int)).getD y _ = _
    rw [List.getD_eq_getElem?_getD, List.getElem?_replicate, if_pos hy]; rfl
  rw [this, gA_zero hx]
theorem pasture_ev {c : List Int} (hc : byteL c) : ∃ (W H : Nat) (p : Pasture), (1 ≤ W ∧ W ≤ 5) ∧ (1 ≤ H ∧ H ≤ 5) ∧ Dr W H p ∧ Ev (fun k => spec_P6Pasture.f k c) p := by
  obtain ⟨w, a1, s1, e1, w0, w1, q1, q1'⟩ := pick_ok hc (at_ := 0) (seed := 0) (by omega) (by omega) 5
  obtain ⟨h, a2, s2, e2, h0, h1, q2, q2'⟩ := pick_ok hc (at_ := a1) (seed := s1) (by omega) (by omega) 5
  obtain ⟨m, a3, s3, e3, m0, m1, q3, q3'⟩ := pick_ok hc (at_ := a2) (seed := s2) (by omega) (by omega) 5
  have ww : IntKind.i8.wrap (IntKind.i64.wrap (1 + w)) = (((1 + w).toNat : Nat) : Int) := by rw [w64 (by omega) (by omega), w8 (by omega) (by omega)]; omega
  have wh : IntKind.i8.wrap (IntKind.i64.wrap (1 + h)) = (((1 + h).toNat : Nat) : Int) := by rw [w64 (by omega) (by omega), w8 (by omega) (by omega)]; omega
  have h0' : Dr (1 + w).toNat (1 + h).toNat (⟨(((1 + w).toNat : Nat) : Int), (((1 + h).toNat : Nat) : Int), (Arr.mk' (Arr.mk' 0 : Arr 10 Int) : Arr 10 (Arr 10 Int)), (Arr.mk' 0 : Arr 10 Int), (Arr.mk' 0 : Arr 10 Int)⟩ : Pasture) := by
    refine ⟨rfl, rfl, fun y x hy hx => ?_, ⟨fun y hy => ?_, fun y hy => ?_⟩⟩
    · have : gG (⟨(((1 + w).toNat : Nat) : Int), (((1 + h).toNat : Nat) : Int), (Arr.mk' (Arr.mk' 0 : Arr 10 Int) : Arr 10 (Arr 10 Int)), (Arr.mk' 0 : Arr 10 Int), (Arr.mk' 0 : Arr 10 Int)⟩ : Pasture) y x = 0 := gG_zero hy hx
      rw [this]; omega
    · show (0 ≤ gA (Arr.mk' 0 : Arr 10 Int) y ∧ _) ∧ _
      rw [gA_zero hy]
      exact ⟨by omega, fun j _ hb => by rw [bt_zero] at hb; cases hb⟩
    · show (0 ≤ gA (Arr.mk' 0 : Arr 10 Int) y ∧ _) ∧ _
      rw [gA_zero hy]
      exact ⟨by omega, fun j _ hb => by rw [bt_zero] at hb; cases hb⟩
  obtain ⟨p, a4, s4, d1, d2⟩ := drawn1_loop hc (m, ⟨c, a3, s3⟩) (W := (1 + w).toNat) (H := (1 + h).toNat) (by omega) (by omega) 0 (Nat.zero_le _) _ a3 s3 h0' (by omega) (by omega)
  refine ⟨(1 + w).toNat, (1 + h).toNat, p, by omega, by omega, d2, ?_⟩
  unfold spec_P6Pasture.f spec_l00From.f
  simp only [Option.bind_some]
  refine Ev.bind (a := (p, ⟨c, a4, s4⟩)) ?_ (Ev.const rfl)
  unfold spec_l01Drawn.f
  refine Ev.bind (Ev.const e1) (Ev.bind (Ev.const e2) (Ev.bind (Ev.const e3) ?_))
  simp only [ww, wh]
  exact d1.bind (Ev.const rfl)
end Go.Proofs.YtdbppckimfhgeaaGreatDoor
/-
  Plain law: what the first strange sight is.
-/
namespace Go.Proofs.YtdbppckimfhgeaaGreatDoor
open G
set_option linter.unusedVariables false
set_option linter.unusedSimpArgs false
def sA (xs : List Sight) (i : Nat) : Sight := (xs[i]?).getD ⟨0, ⟨0, 0⟩⟩
theorem sA_eq {xs : List Sight} {i : Nat} (h : i < xs.length) : sA xs i = xs[i] := by unfold sA; rw [List.getElem?_eq_getElem h]; rfl
theorem sA_take {xs : List Sight} {n i : Nat} (h : i < n) : sA (xs.take n) i = sA xs i := by unfold sA; rw [List.getElem?_take_of_lt h]
/-- Sights that are in order. -/
structure GS (p : Pasture) (xs : List Sight) : Prop where
  v : VPasture p
  ok : vP p = true
  len : xs.length ≤ 40
  at_ : ∀ i, i < xs.length → (0 ≤ (sA xs i).Day ∧ (sA xs i).Day ≤ 1000) ∧ (1 ≤ i → (sA xs (i - 1)).Day ≤ (sA xs i).Day) ∧ cellB p (sA xs i).At.X (sA xs i).At.Y = true
theorem GS.hw {p : Pasture} {xs : List Sight} (h : GS p xs) : okW p = true := vP_okW h.ok
theorem GS.cell {p : Pasture} {xs : List Sight} (h : GS p xs) : ∀ i (hi : i < xs.length), cellB p xs[i].At.X xs[i].At.Y = true := fun i hi => by
  have := (h.at_ i hi).2.2
  rw [sA_eq hi] at this; exact this
theorem GS.V {p : Pasture} {xs : List Sight} (h : GS p xs) : ∀ s ∈ xs, VSight s := by
  intro s hs
  obtain ⟨i, hi, rfl⟩ := List.getElem_of_mem hs
  obtain ⟨a, _, c⟩ := h.at_ i hi
  rw [sA_eq hi] at a c
  obtain ⟨x, y, hx, hy, e⟩ := cellB_nat h.hw c
  have i16 : IntKind.i16.min = -32768 ∧ IntKind.i16.max = 32767 := by decide
  refine ⟨?_, by rw [e]; exact VSpot_nat (by omega) (by omega)⟩
  unfold inI; rw [i16.1, i16.2]; omega
theorem GS.ok' {p : Pasture} {xs : List Sight} (h : GS p xs) : sightsB p xs = true := by
  unfold sightsB seenB
  rw [h.ok, Bool.true_and, Bool.and_eq_true, Bool.and_eq_true, upA_iff, upA_iff]
  refine ⟨⟨fun j _ hj => ?_, decide_eq_true h.len⟩, fun j _ hj => ?_⟩
  · have hj : j < xs.length := by omega
    obtain ⟨a, b, c⟩ := h.at_ j hj
    rw [dayOk_eq hj]
    rw [sA_eq hj] at a b
    rw [decide_eq_true a, Bool.true_and, Bool.or_eq_true, decide_eq_true_eq, decide_eq_true_eq]
    by_cases z : j = 0
    · exact .inl z
    · right
      have := b (by omega)
      rw [sA_eq (show j - 1 < xs.length by omega)] at this
      exact this
  · have hj : j < xs.length := by omega
    rw [atOk_eq p hj]; exact h.cell j hj
theorem GS.code {p : Pasture} {xs : List Sight} (h : GS p xs) {c : Int} (c0 : 0 ≤ c) (c1 : c ≤ 100) : sCode p xs c = 0 := by
  unfold sCode
  rw [h.ok', if_neg (by simp), if_pos ⟨c0, c1⟩]
theorem GS.take {p : Pasture} {xs : List Sight} (h : GS p xs) (n : Nat) : GS p (xs.take n) := by
  refine ⟨h.v, h.ok, by rw [List.length_take]; have := h.len; omega, fun i hi => ?_⟩
  rw [List.length_take] at hi
  have := h.at_ i (by omega)
  rw [sA_take (by omega)]
  exact ⟨this.1, fun h1 => by rw [sA_take (by omega)]; exact this.2.1 h1, this.2.2⟩
/-! ### A hurdle taken away -/
theorem putF_rows {p : Pasture} (h : Rows p) {x y : Nat} (hx : x < 10) (hy : y < 10) (s : Bool) : Rows (putF p x y s) := by
  cases s
  · refine ⟨fun b hb => ?_, h.s⟩
    have e : gA (putF p x y false).East b = if y = b then andNotI .u16 (gA p.East y) (shlI .u16 1 (x : Int)) else gA p.East b := gA_set p.East hy _ b
    rw [e]
    by_cases e1 : y = b
    · subst e1
      rw [if_pos rfl]
      obtain ⟨⟨e0, e1⟩, e2⟩ := h.e y hy
      refine ⟨andNot_in _ _, fun j hj hbit => ?_⟩
      rw [bit_clear e0 e1 (by omega) hj, Bool.and_eq_true] at hbit
      exact e2 j hj hbit.1
    · rw [if_neg e1]; exact h.e b hb
  · refine ⟨h.e, fun b hb => ?_⟩
    have e : gA (putF p x y true).South b = if y = b then andNotI .u16 (gA p.South y) (shlI .u16 1 (x : Int)) else gA p.South b := gA_set p.South hy _ b
    rw [e]
    by_cases e1 : y = b
    · subst e1
      rw [if_pos rfl]
      obtain ⟨⟨e0, e1⟩, e2⟩ := h.s y hy
      refine ⟨andNot_in _ _, fun j hj hbit => ?_⟩
      rw [bit_clear e0 e1 (by omega) hj, Bool.and_eq_true] at hbit
      exact e2 j hj hbit.1
    · rw [if_neg e1]; exact h.s b hb
theorem vP_okG {p : Pasture} (h : vP p = true) : ∀ y x, y < 10 → x < 10 → okG p y x = true := by
  intro y x hy hx
  unfold vP at h
  rw [Bool.and_eq_true, upA_iff] at h
  have := h.2 y (Nat.zero_le _) (by omega)
  unfold okR at this
  rw [Bool.and_eq_true, upA_iff] at this
  exact this.1 x (Nat.zero_le _) (by omega)
theorem putF_ok {p : Pasture} (v : VPasture p) (h : vP p = true) {x y : Nat} (hx : x < 10) (hy : y < 10) (s : Bool) : vP (putF p x y s) = true := by
  refine rows_ok (by rw [putF_okW]; exact vP_okW h) (fun b a hb ha => ?_) (putF_rows (vP_rows v h) hx hy s)
  have := vP_okG h b a hb ha
  cases s <;> exact this
theorem GS.putF {p : Pasture} {xs : List Sight} (h : GS p xs) {x y : Nat} (hx : x < 10) (hy : y < 10) (s : Bool) : GS (putF p x y s) xs := by
  refine ⟨putF_V h.v x y s, putF_ok h.v h.ok hx hy s, h.len, fun i hi => ?_⟩
  rw [putF_cell]
  exact h.at_ i hi
/-! ### How far -/
open Classical in
noncomputable def dT (p : Pasture) (a : Spot) : Tb := if h : ∃ m, Ev (fun k => impl_Pasture_far.f k p ([a] : List Spot)) m then Classical.choose h else Arr.mk' (Arr.mk' 0)
theorem dT_eq {p : Pasture} {a : Spot} {m : Tb} (h : Ev (fun k => impl_Pasture_far.f k p ([a] : List Spot)) m) : dT p a = m := by
  unfold dT
  rw [dif_pos ⟨m, h⟩]
  exact (Classical.choose_spec (⟨m, h⟩ : ∃ m, Ev (fun k => impl_Pasture_far.f k p ([a] : List Spot)) m)).eq h
noncomputable def dd (p : Pasture) (xs : List Sight) (i : Nat) : Int := g2 (dT p (sA xs (i - 1)).At) (sA xs i).At.Y.toNat (sA xs i).At.X.toNat
def BadP (p : Pasture) (xs : List Sight) (c : Int) (i : Nat) : Prop := dd p xs i < 0 ∨ c * ((sA xs i).Day - (sA xs (i - 1)).Day) < dd p xs i
theorem BadP_mono {p : Pasture} {xs : List Sight} (h : GS p xs) {c c' : Int} (hc : c ≤ c') {i : Nat} (h1 : 1 ≤ i) (hi : i < xs.length) (hb : BadP p xs c' i) : BadP p xs c i := by
  rcases hb with hb | hb
  · exact .inl hb
  · right
    have := (h.at_ i hi).2.1 h1
    have := Int.mul_le_mul_of_nonneg_right hc (show (0 : Int) ≤ (sA xs i).Day - (sA xs (i - 1)).Day by omega)
    omega
theorem BadP_take {p : Pasture} {xs : List Sight} {c : Int} {n i : Nat} (h : i < n) : BadP p (xs.take n) c i ↔ BadP p xs c i := by
  unfold BadP dd
  rw [sA_take h, sA_take (show i - 1 < n by omega)]
/-- The answer of the search. -/
def St (p : Pasture) (xs : List Sight) (c : Int) (r : Int) : Prop := (r = -1 ∧ ∀ j, 1 ≤ j → j < xs.length → ¬ BadP p xs c j) ∨ ∃ j : Nat, r = (j : Int) ∧ 1 ≤ j ∧ j < xs.length ∧ BadP p xs c j ∧ ∀ l, 1 ≤ l → l < j → ¬ BadP p xs c l
theorem strange2_loop {p : Pasture} {xs : List Sight} (g : GS p xs) {c : Int} (c0 : 0 ≤ c) (c1 : c ≤ 1000) : ∀ i, i ≤ xs.length → 1 ≤ i → ∃ r : Int ⊕ Unit, Ev (fun k => spec_l07Strange.l1 p xs c k (i : Int)) r ∧ Ev (fun k => impl_Pasture_strange.l1 p xs c k (i : Int)) r ∧ ((r = .inr () ∧ ∀ j, i ≤ j → j < xs.length → ¬ BadP p xs c j) ∨ ∃ j : Nat, r = .inl (j : Int) ∧ i ≤ j ∧ j < xs.length ∧ BadP p xs c j ∧ ∀ l, i ≤ l → l < j → ¬ BadP p xs c l) := by
  have hx := g.len
  have hw := g.hw
  refine upL ?_ ?_
  · intro h1
    exact ⟨.inr (), Ev.step (fun k => spec_l07Strange.l1.eq_2 _ _ _ _ _) (Ev.neg (by omega) (Ev.const rfl)), Ev.step (fun k => impl_Pasture_strange.l1.eq_2 _ _ _ _ _) (Ev.neg (by omega) (Ev.const rfl)), .inl ⟨rfl, fun j h1 h2 => by omega⟩⟩
  · intro i hi ih h1
    obtain ⟨r, r1, r2, r3⟩ := ih (by omega)
    rw [← wsucc hi (by omega)] at r1 r2
    have hi1 : i - 1 < xs.length := by omega
    have hp1 : getI xs (IntKind.i64.wrap ((i : Int) - 1)) = some xs[i - 1] := by
      rw [w64 (by omega) (by omega), show (i : Int) - 1 = ((i - 1 : Nat) : Int) by omega]
      exact getI_nat hi1
    obtain ⟨x, y, hx', hy', e⟩ := cellB_nat hw (g.cell (i - 1) hi1)
    obtain ⟨a, b, ha, hb, e2⟩ := cellB_nat hw (g.cell i hi)
    obtain ⟨m, n, gg, g1, g2'⟩ := far_ev g.v hw hx' hy'
    rw [← e] at g1 g2'
    obtain ⟨q1, q2, q3⟩ := gg b a hb ha
    have hdd : dd p xs i = g2 m b a := by
      unfold dd
      rw [sA_eq hi, sA_eq hi1, dT_eq g1, e2]
      rfl
    obtain ⟨da, db, _⟩ := g.at_ i hi
    obtain ⟨da', _, _⟩ := g.at_ (i - 1) hi1
    have db := db h1
    have hmul : 0 ≤ c * ((sA xs i).Day - (sA xs (i - 1)).Day) ∧ c * ((sA xs i).Day - (sA xs (i - 1)).Day) ≤ 1000 * 1000 := ⟨Int.mul_nonneg c0 (by omega), Int.mul_le_mul c1 (by omega) (by omega) (by omega)⟩
    have hday : IntKind.i64.wrap (c * (IntKind.i64.wrap (IntKind.i16.wrap ((xs[i]).Day - (xs[i - 1]).Day)))) = c * ((sA xs i).Day - (sA xs (i - 1)).Day) := by
      rw [← sA_eq hi, ← sA_eq hi1, w16 (by omega) (by omega), w64 (x := (sA xs i).Day - (sA xs (i - 1)).Day) (by omega) (by omega), w64 (by omega) (by omega)]
    have hY : getI m.l (xs[i]).At.Y = some (gR m b) := by rw [e2]; exact getR m hb
    have hX : ∀ t : Arr 10 Int, getI t.l (xs[i]).At.X = some (gA t a) := fun t => by rw [e2]; exact getA t ha
    have hY' : getI n.l (xs[i]).At.Y = some (gR n b) := by rw [e2]; exact getR n hb
    have hw1 : IntKind.i64.wrap (gA (gR m b) a) = g2 m b a := w64 (show -9223372036854775808 ≤ g2 m b a by omega) (show g2 m b a ≤ 9223372036854775807 by omega)
    have hst : impl_steps_at.f m (xs[i]).At = some (g2 m b a) := by
      unfold impl_steps_at.f
      rw [hY, Option.bind_some, hX, Option.bind_some, hw1]
    have hn : gA (gR n b) a = g2 m b a + 1 := q1
    have hw2 : IntKind.i64.wrap (gA (gR n b) a - 1) = g2 m b a := by rw [hn, w64 (by omega) (by omega)]; omega
    by_cases z : g2 m b a < 0
    · exact ⟨.inl (i : Int), Ev.step (fun k => spec_l07Strange.l1.eq_2 _ _ _ _ _) (Ev.pos (by omega) (Ev.bind (Ev.const hp1) (g2'.bind (Ev.bind (Ev.const (getI_nat hi)) (Ev.bind (Ev.const (getI_nat hi)) (Ev.bind (Ev.const hY') (Ev.bind (Ev.const (hX _)) (Ev.pos (by omega) (Ev.const rfl))))))))),
        Ev.step (fun k => impl_Pasture_strange.l1.eq_2 _ _ _ _ _) (Ev.pos (by omega) (Ev.bind (Ev.const hp1) (Ev.bind (Ev.const (getI_nat hi)) (g1.bind (Ev.bind (Ev.const hst) (Ev.pos z (Ev.const rfl))))))), .inr ⟨i, rfl, by omega, hi, .inl (by rw [hdd]; exact z), fun l h1 h2 => by omega⟩⟩
    · by_cases z2 : IntKind.i64.wrap (c * (IntKind.i64.wrap (IntKind.i16.wrap ((xs[i]).Day - (xs[i - 1]).Day)))) < g2 m b a
      · exact ⟨.inl (i : Int), Ev.step (fun k => spec_l07Strange.l1.eq_2 _ _ _ _ _) (Ev.pos (by omega) (Ev.bind (Ev.const hp1) (g2'.bind (Ev.bind (Ev.const (getI_nat hi)) (Ev.bind (Ev.const (getI_nat hi)) (Ev.bind (Ev.const hY') (Ev.bind (Ev.const (hX _)) (Ev.neg (by omega) (Ev.bind (Ev.const (getI_nat hi)) (Ev.bind (Ev.const hp1) (Ev.pos (by rw [hw2]; exact z2) (Ev.const rfl)))))))))))),
          Ev.step (fun k => impl_Pasture_strange.l1.eq_2 _ _ _ _ _) (Ev.pos (by omega) (Ev.bind (Ev.const hp1) (Ev.bind (Ev.const (getI_nat hi)) (g1.bind (Ev.bind (Ev.const hst) (Ev.neg z (Ev.pos z2 (Ev.const rfl)))))))), .inr ⟨i, rfl, by omega, hi, .inr (by rw [hdd, ← hday]; exact z2), fun l h1 h2 => by omega⟩⟩
      · have hnb : ¬ BadP p xs c i := by
          rintro (hb | hb)
          · rw [hdd] at hb; exact z hb
          · rw [hdd, ← hday] at hb; exact z2 hb
        refine ⟨r, Ev.step (fun k => spec_l07Strange.l1.eq_2 _ _ _ _ _) (Ev.pos (by omega) (Ev.bind (Ev.const hp1) (g2'.bind (Ev.bind (Ev.const (getI_nat hi)) (Ev.bind (Ev.const (getI_nat hi)) (Ev.bind (Ev.const hY') (Ev.bind (Ev.const (hX _)) (Ev.neg (by omega) (Ev.bind (Ev.const (getI_nat hi)) (Ev.bind (Ev.const hp1) (Ev.neg (by rw [hw2]; exact z2) r1))))))))))),
          Ev.step (fun k => impl_Pasture_strange.l1.eq_2 _ _ _ _ _) (Ev.pos (by omega) (Ev.bind (Ev.const hp1) (Ev.bind (Ev.const (getI_nat hi)) (g1.bind (Ev.bind (Ev.const hst) (Ev.neg z (Ev.neg z2 r2))))))), ?_⟩
        rcases r3 with ⟨e3, h3⟩ | ⟨j, e3, j1, j2, j3, j4⟩
        · refine .inl ⟨e3, fun j h1 h2 => ?_⟩
          by_cases ej : j = i
          · rw [ej]; exact hnb
          · exact h3 j (by omega) h2
        · refine .inr ⟨j, e3, by omega, j2, j3, fun l h1 h2 => ?_⟩
          by_cases el : l = i
          · rw [el]; exact hnb
          · exact j4 l (by omega) h2
theorem strange2_ev {p : Pasture} {xs : List Sight} (g : GS p xs) {c : Int} (c0 : 0 ≤ c) (c1 : c ≤ 1000) : ∃ r : Int, Ev (fun k => spec_l07Strange.f k p xs c) r ∧ Ev (fun k => impl_Pasture_strange.f k p xs c) r ∧ St p xs c r := by
  rcases Nat.lt_or_ge 0 xs.length with h0 | h0
  · obtain ⟨r, r1, r2, r3⟩ := strange2_loop g c0 c1 1 h0 (Nat.le_refl _)
    cases r with
    | inl z =>
      refine ⟨z, r1.bind (Ev.const rfl), r2.bind (Ev.const rfl), ?_⟩
      rcases r3 with ⟨e3, h3⟩ | ⟨j, e3, j1, j2, j3, j4⟩
      · cases e3
      · exact .inr ⟨j, Sum.inl.inj e3, j1, j2, j3, j4⟩
    | inr z =>
      refine ⟨-1, r1.bind (Ev.const rfl), r2.bind (Ev.const rfl), ?_⟩
      rcases r3 with ⟨e3, h3⟩ | ⟨j, e3, j1, j2, j3, j4⟩
      · exact .inl ⟨rfl, h3⟩
      · cases e3
  · exact ⟨-1, Ev.bind (Ev.step (fun k => spec_l07Strange.l1.eq_2 _ _ _ _ _) (Ev.neg (by omega) (Ev.const rfl))) (Ev.const rfl), Ev.bind (Ev.step (fun k => impl_Pasture_strange.l1.eq_2 _ _ _ _ _) (Ev.neg (by omega) (Ev.const rfl))) (Ev.const rfl), .inl ⟨rfl, fun j h1 h2 => by omega⟩⟩
theorem St.neg {p : Pasture} {xs : List Sight} {c r : Int} (h : St p xs c r) (z : r < 0) : ∀ j, 1 ≤ j → j < xs.length → ¬ BadP p xs c j := by
  rcases h with ⟨_, h⟩ | ⟨j, e, _⟩
  · exact h
  · omega
theorem St.pos {p : Pasture} {xs : List Sight} {c r : Int} (h : St p xs c r) (z : ¬ r < 0) : ∃ j : Nat, r = (j : Int) ∧ 1 ≤ j ∧ j < xs.length ∧ BadP p xs c j ∧ ∀ l, 1 ≤ l → l < j → ¬ BadP p xs c l := by
  rcases h with ⟨e, h⟩ | h
  · omega
  · exact h
/-- The answer of FirstStrange. -/
def Ft (p : Pasture) (xs : List Sight) (c : Int) (r : Int × Int) : Prop := (r = (0, 6) ∧ ∀ j, 1 ≤ j → j < xs.length → ¬ BadP p xs c j) ∨ ∃ j : Nat, r = ((j : Int), 0) ∧ 1 ≤ j ∧ j < xs.length ∧ BadP p xs c j ∧ ∀ l, 1 ≤ l → l < j → ¬ BadP p xs c l
theorem first2_ev {p : Pasture} {xs : List Sight} (g : GS p xs) {c : Int} (c0 : 0 ≤ c) (c1 : c ≤ 100) : ∃ r : Int × Int, Ev (fun k => spec_FirstStrange.f k p xs c) r ∧ Ev (fun k => impl_FirstStrange.f k p xs c) r ∧ Ft p xs c r := by
  have h := g.code c0 c1
  have hx := g.len
  have h1 := goat_ev g.v xs g.V (by omega) c
  have h2 := sightCode_ev g.v xs g.V (by omega) c
  obtain ⟨r, r1, r2, r3⟩ := strange2_ev g c0 (show c ≤ 1000 by omega)
  by_cases z : r < 0
  · exact ⟨(0, 6), h1.bind (Ev.neg (by rw [h]; simp) (r1.bind (Ev.pos z (Ev.const rfl)))), h2.bind (Ev.neg (by rw [h]; simp) (r2.bind (Ev.pos z (Ev.const rfl)))), .inl ⟨rfl, r3.neg z⟩⟩
  · obtain ⟨j, e, j1, j2, j3, j4⟩ := r3.pos z
    exact ⟨(r, 0), h1.bind (Ev.neg (by rw [h]; simp) (r1.bind (Ev.neg z (Ev.const rfl)))), h2.bind (Ev.neg (by rw [h]; simp) (r2.bind (Ev.neg z (Ev.const rfl)))), .inr ⟨j, by rw [e], j1, j2, j3, j4⟩⟩
theorem first2_none {p : Pasture} {xs : List Sight} (g : GS p xs) {c : Int} (c0 : 0 ≤ c) (c1 : c ≤ 100) (h : ∀ j, 1 ≤ j → j < xs.length → ¬ BadP p xs c j) : Ev (fun k => impl_FirstStrange.f k p xs c) (0, 6) := by
  obtain ⟨r, _, r2, r3⟩ := first2_ev g c0 c1
  rcases r3 with ⟨rfl, _⟩ | ⟨j, rfl, j1, j2, j3, j4⟩
  · exact r2
  · exact absurd j3 (h j j1 j2)
theorem first2_some {p : Pasture} {xs : List Sight} (g : GS p xs) {c : Int} (c0 : 0 ≤ c) (c1 : c ≤ 100) {i : Nat} (h1 : 1 ≤ i) (hi : i < xs.length) (h : BadP p xs c i) : ∃ r, Ev (fun k => impl_FirstStrange.f k p xs c) r ∧ r.2 = 0 := by
  obtain ⟨r, _, r2, r3⟩ := first2_ev g c0 c1
  rcases r3 with ⟨rfl, q⟩ | ⟨j, rfl, j1, j2, j3, j4⟩
  · exact absurd h (q i h1 hi)
  · exact ⟨_, r2, rfl⟩
end Go.Proofs.YtdbppckimfhgeaaGreatDoor
/-
  Plain law: the hurdles that explain.
-/
namespace Go.Proofs.YtdbppckimfhgeaaGreatDoor
open G
set_option linter.unusedVariables false
set_option linter.unusedSimpArgs false
/-- What is seen with one hurdle less. -/
def Sg (p : Pasture) (xs : List Sight) (c : Int) (h : Hurdle) (r : Int) : Prop := ∃ p', Ev (fun k => spec_l03Put.f k p [h] false) p' ∧ Ev (fun k => impl_Pasture_with.f k p [h] false) p' ∧ Ev (fun k => spec_l07Strange.f k p' xs c) r ∧ Ev (fun k => impl_Pasture_strange.f k p' xs c) r ∧ St p' xs c r
theorem less_loop {p : Pasture} {xs : List Sight} {c : Int} {T : List Hurdle} (hT : T.length ≤ 200) {dl : Hurdle → Bool} (hd : ∀ h ∈ T, ∃ r, Sg p xs c h r ∧ dl h = decide (0 ≤ r)) : ∀ i, i ≤ T.length → ∀ acc : List Hurdle, acc.length ≤ i → Ev (fun k => spec_ExplainedBy.l1 p xs c T k acc (i : Int)) (acc ++ (T.drop i).filter (fun h => !dl h)) := by
  refine upL ?_ ?_
  · intro acc ha
    refine Ev.step (fun k => spec_ExplainedBy.l1.eq_2 _ _ _ _ _ _ _) (Ev.neg (by omega) (Ev.const ?_))
    rw [List.drop_length]; simp
  · intro i hi ih acc ha
    obtain ⟨r, ⟨p', s1, _, s3, _⟩, hr⟩ := hd _ (List.getElem_mem hi)
    have hw := wsucc hi (by omega)
    have hcut : (T.drop ((i : Int).toNat)).take ((IntKind.i64.wrap ((i : Int) + 1)).toNat - (i : Int).toNat) = [T[i]] := by
      rw [hw, Int.toNat_natCast, Int.toNat_natCast, show i + 1 - i = 1 by omega, List.drop_eq_getElem_cons hi]; rfl
    refine Ev.step (fun k => spec_ExplainedBy.l1.eq_2 _ _ _ _ _ _ _) (Ev.pos (by omega) (Ev.bind (Ev.const (chkT (by rw [hw]; omega))) ?_))
    rw [hcut, hw, List.drop_eq_getElem_cons hi, List.filter_cons]
    refine s1.bind (s3.bind ?_)
    rw [hr]
    by_cases z : r < 0
    · refine Ev.pos z (Ev.bind (Ev.const (getI_nat hi)) (Ev.bind (Ev.const (chkT (by simp; omega))) ?_))
      rw [decide_eq_false (by omega)]
      have := ih (acc ++ [T[i]]) (by simp; omega)
      rw [List.append_assoc] at this
      exact this
    · refine Ev.neg z ?_
      rw [decide_eq_true (by omega)]
      simpa using ih acc (by omega)
/-- A hurdle that explains. -/
def Ex (p : Pasture) (xs : List Sight) (c : Int) (h : Hurdle) : Prop := ∃ (x y : Nat) (s : Bool), x < p.Wide.toNat ∧ y < p.High.toNat ∧ isB p x y s = true ∧ h = hu x y s ∧ ∀ j, 1 ≤ j → j < xs.length → ¬ BadP (putF p x y s) xs c j
theorem explained2_ev {p : Pasture} {xs : List Sight} (g : GS p xs) {c : Int} (c0 : 0 ≤ c) (c1 : c ≤ 100) : ∃ r : List Hurdle × Int, r.1.length ≤ 200 ∧ Ev (fun k => spec_ExplainedBy.f k p xs c) r ∧ Ev (fun k => impl_ExplainedBy.f k p xs c) r ∧ ((∀ j, 1 ≤ j → j < xs.length → ¬ BadP p xs c j) → r = ([], 6)) ∧ ((∃ j, 1 ≤ j ∧ j < xs.length ∧ BadP p xs c j) → r.2 = 0) ∧ ∀ h ∈ r.1, Ex p xs c h := by
  have v := g.v
  have hw := g.hw
  have h := g.code c0 c1
  have hx := g.len
  have h1 := goat_ev g.v xs g.V (by omega) c
  have h2 := sightCode_ev g.v xs g.V (by omega) c
  obtain ⟨r, r1, r2, r3⟩ := strange2_ev g c0 (show c ≤ 1000 by omega)
  by_cases z : r < 0
  · refine ⟨([], 6), by simp, h1.bind (Ev.neg (by rw [h]; simp) (r1.bind (Ev.pos z (Ev.const rfl)))), h2.bind (Ev.neg (by rw [h]; simp) (r2.bind (Ev.pos z (Ev.const rfl)))), fun _ => rfl, ?_, by simp⟩
    rintro ⟨j, j1, j2, j3⟩
    exact absurd j3 (r3.neg z j j1 j2)
  · obtain ⟨j, ej, j1, j2, j3, j4⟩ := r3.pos z
    obtain ⟨w1, w2⟩ := okW_iff.1 hw
    have hlen : ((gridH p p.Wide.toNat 0 p.High.toNat).filter (stH p)).length ≤ 200 := by
      have := gridH_len p p.Wide.toNat p.High.toNat 0
      have h2 : 2 * p.Wide.toNat * p.High.toNat ≤ 20 * 10 := Nat.mul_le_mul (by omega) (by omega)
      have := List.length_filter_le (stH p) (gridH p p.Wide.toNat 0 p.High.toNat)
      omega
    have hS : ∀ h ∈ (gridH p p.Wide.toNat 0 p.High.toNat).filter (stH p), ∃ r, Sg p xs c h r := by
      intro h hh
      obtain ⟨x, y, s, hx', hy', _, rfl⟩ := gridH_told (p := p) p.High.toNat 0 (by omega) h (List.mem_filter.1 hh).1
      obtain ⟨q, q1, q2, q3⟩ := strange2_ev (g.putF (x := x) (y := y) (by omega) (by omega) s) c0 (show c ≤ 1000 by omega)
      exact ⟨q, putF p x y s, specPut_ev p (by omega) (by omega) s, implWith_ev p (by omega) (by omega) s, q1, q2, q3⟩
    obtain ⟨dl, hdl⟩ : ∃ dl : Hurdle → Bool, ∀ h ∈ (gridH p p.Wide.toNat 0 p.High.toNat).filter (stH p), ∃ r, Sg p xs c h r ∧ dl h = decide (0 ≤ r) := by
      classical
      exact ⟨fun h => if hh : h ∈ (gridH p p.Wide.toNat 0 p.High.toNat).filter (stH p) then decide (0 ≤ Classical.choose (hS h hh)) else false, fun h hh => ⟨Classical.choose (hS h hh), Classical.choose_spec (hS h hh), dif_pos hh⟩⟩
    have l1 := less_loop hlen hdl 0 (Nat.zero_le _) [] (by simp)
    rw [List.nil_append, List.drop_zero] at l1
    have l2 := delete_ev ((gridH p p.Wide.toNat 0 p.High.toNat).filter (stH p)) (g := fun k => impl_ExplainedBy_1.f k p xs c) (dl := dl) (fun h hh => by
      obtain ⟨q, ⟨p', _, s2, _, s4, _⟩, hq⟩ := hdl h hh
      rw [hq]
      exact s2.bind (s4.bind (Ev.const rfl))) (by omega)
    refine ⟨(((gridH p p.Wide.toNat 0 p.High.toNat).filter (stH p)).filter (fun h => !dl h), 0), Nat.le_trans (List.length_filter_le _ _) hlen, h1.bind (Ev.neg (by rw [h]; simp) (r1.bind (Ev.neg z ((standing_ev v hw).bind (l1.bind (Ev.const rfl)))))), h2.bind (Ev.neg (by rw [h]; simp) (r2.bind (Ev.neg z ((hurdles_ev v hw).bind (l2.bind (Ev.const rfl)))))), fun hn => absurd j3 (hn j j1 j2), fun _ => rfl, ?_⟩
    intro h hh
    obtain ⟨hh1, hh2⟩ := List.mem_filter.1 hh
    obtain ⟨q, ⟨p', s1, _, _, _, s5⟩, hq⟩ := hdl h hh1
    obtain ⟨x, y, s, hx', hy', hi, rfl⟩ := gridH_told (p := p) p.High.toNat 0 (by omega) h (List.mem_filter.1 hh1).1
    have e : p' = putF p x y s := s1.eq (specPut_ev p (by omega) (by omega) s)
    rw [e] at s5
    refine ⟨x, y, s, hx', hy', hi, rfl, s5.neg ?_⟩
    rw [hq] at hh2
    simpa using hh2
/-! ### Hurdles that are taken -/
theorem take_ev {p : Pasture} (v : VPasture p) (hp : vP p = true) {x y : Nat} (hx : x < p.Wide.toNat) (hy : y < p.High.toNat) {s : Bool} (hi : isB p x y s = true) : Ev (fun k => impl_TakeHurdles.f k p [hu x y s]) (putF p x y s, 0) := by
  have hw := vP_okW hp
  obtain ⟨w1, w2⟩ := okW_iff.1 hw
  have hc := cellB_grid hw hx hy
  have h1 : impl_hurdleCode_1.f p (hu x y s) = some false := by
    unfold impl_hurdleCode_1.f
    rw [implIs_eq v hw (by omega) (by omega) hc s, hi]; rfl
  have hI : Ev (fun k => slices_IndexFunc_impl_Hurdle_impl_Hurdle.f k [hu x y s] (impl_hurdleCode_1.f p)) (-1) := by
    refine Ev.bind (a := .inr ()) (Ev.step (fun k => slices_IndexFunc_impl_Hurdle_impl_Hurdle.l1.eq_2 _ _ _ _) (Ev.pos (by simp) (Ev.bind (Ev.const (show _ = some (hu x y s) from rfl)) (Ev.bind (Ev.const h1) (Ev.neg (by simp) ?_))))) (Ev.const rfl)
    exact Ev.step (fun k => slices_IndexFunc_impl_Hurdle_impl_Hurdle.l1.eq_2 _ _ _ _) (Ev.neg (by rw [show IntKind.i64.wrap (0 + 1) = 1 from by decide]; simp) (Ev.const rfl))
  have hC : Ev (fun k => impl_hurdleCode.f k p [hu x y s]) 0 := by
    refine (implOk_ev v).bind ?_
    rw [hp]
    exact Ev.neg (by simp) (Ev.bind (hI.bind (Ev.const rfl)) (Ev.bind (Ev.const (unless_eq _ _)) (Ev.const rfl)))
  exact hC.bind (Ev.neg (by simp) ((implWith_ev p (by omega) (by omega) s).bind (Ev.const rfl)))
/-- The law's loop over the hurdles. -/
theorem law1_loop {p : Pasture} {xs : List Sight} (g : GS p xs) {c : Int} (c0 : 0 ≤ c) (c1 : c ≤ 100) {T : List Hurdle × Int} (hT : T.1.length ≤ 200) (hd : ∀ h ∈ T.1, Ex p xs c h) : ∀ i, i ≤ T.1.length → Ev (fun k => laws_FnSights.l1 p xs c T k (i : Int)) (.inr ()) := by
  obtain ⟨w1, w2⟩ := okW_iff.1 g.hw
  refine upL ?_ ?_
  · exact Ev.step (fun k => laws_FnSights.l1.eq_2 _ _ _ _ _ _) (Ev.neg (by omega) (Ev.const rfl))
  · intro i hi ih
    obtain ⟨x, y, s, hx, hy, hI, e, hb⟩ := hd _ (List.getElem_mem hi)
    have hw := wsucc hi (by omega)
    have hcut : (T.1.drop ((i : Int).toNat)).take ((IntKind.i64.wrap ((i : Int) + 1)).toNat - (i : Int).toNat) = [hu x y s] := by
      rw [hw, Int.toNat_natCast, Int.toNat_natCast, show i + 1 - i = 1 by omega, List.drop_eq_getElem_cons hi, e]; rfl
    refine Ev.step (fun k => laws_FnSights.l1.eq_2 _ _ _ _ _ _) (Ev.pos (by omega) (Ev.bind (Ev.const (chkT (by rw [hw]; omega))) ?_))
    rw [hcut, hw]
    exact (take_ev g.v g.ok hx hy hI).bind ((first2_none (g.putF (by omega) (by omega) s) c0 c1 hb).bind (Ev.neg (by simp) (Ev.neg (by simp) ih)))
end Go.Proofs.YtdbppckimfhgeaaGreatDoor
/-
  Plain law: the text of sights is read back.
-/
namespace Go.Proofs.YtdbppckimfhgeaaGreatDoor
open G
set_option linter.unusedVariables false
set_option linter.unusedSimpArgs false
abbrev dD (n : Int) : List UInt8 := Go.Lib.decDigits n.toNat
theorem dD_no {c : UInt8} (hc : digB c = false) (n : Int) : c ∉ dD n := fun h => by
  have := List.all_eq_true.1 (dec_all n.toNat) c h
  rw [hc] at this; cases this
theorem dD_B {n : Int} (h : 0 ≤ n) : (itoaB n).data.toList = dD n := by
  obtain ⟨m, rfl⟩ := Int.eq_ofNat_of_zero_le h
  rw [itoa_nat]
  rfl
theorem dD_v {n : Int} (h : 0 ≤ n) : ((valF 0 (dD n) : Nat) : Int) = n := by
  rw [dec_val]; omega
def wordL (s : Sight) : List UInt8 := dD s.Day ++ 58 :: (dD s.At.X ++ 44 :: dD s.At.Y)
theorem word_bytes {s : Sight} (h : T.goodS s) : (T.wordB s).data.toList = wordL s := by
  obtain ⟨⟨a, b⟩, ⟨c, d⟩, e, f⟩ := h
  unfold T.wordB wordL
  simp only [ByteArray.data_append, Array.toList_append, dD_B a, dD_B c, dD_B e]
  simp [T.dot, T.com]
theorem word_no {s : Sight} (c : UInt8) (hc : digB c = false) (h1 : c ≠ 58) (h2 : c ≠ 44) : c ∉ wordL s := by
  unfold wordL
  simp only [List.mem_append, List.mem_cons, not_or]
  exact ⟨dD_no hc _, h1, dD_no hc _, h2, dD_no hc _⟩
theorem word_read {s : Sight} (h : T.goodS s) : T.word? (wordL s) = some s := by
  obtain ⟨⟨a, b⟩, ⟨c, d⟩, e, f⟩ := h
  have n58 : digB 58 = false := by decide
  have n44 : digB 44 = false := by decide
  have e1 : spl 58 (wordL s) = [dD s.Day, dD s.At.X ++ 44 :: dD s.At.Y] := by
    unfold wordL
    rw [spl_hit (dD_no n58 _), spl_miss]
    simp only [List.mem_append, List.mem_cons, not_or]
    exact ⟨dD_no n58 _, by decide, dD_no n58 _⟩
  have e2 : spl 44 (dD s.At.X ++ 44 :: dD s.At.Y) = [dD s.At.X, dD s.At.Y] := by
    rw [spl_hit (dD_no n44 _), spl_miss (dD_no n44 _)]
  have v1 := dD_v a
  have v2 := dD_v c
  have v3 := dD_v e
  unfold T.word?
  rw [e1]
  simp only
  rw [e2]
  simp only
  rw [if_pos]
  · rw [v1, v2, v3]
  · rw [dec_okNum (by omega), dec_okNum (by omega), dec_okNum (by omega)]
    simp only [Bool.true_and, Bool.and_eq_true, decide_eq_true_eq]
    refine ⟨⟨by omega, by omega⟩, by omega⟩
theorem spl_tail {c : UInt8} : ∀ (ws : List (List UInt8)) (a : List UInt8), c ∉ a → (∀ w ∈ ws, c ∉ w) → spl c (a ++ Go.Lib.joinTail [c] ws) = a :: ws
  | [], a, h, _ => by simp [Go.Lib.joinTail, spl_miss h]
  | y :: ys, a, h, hw => by
    have ih := spl_tail ys y (hw y (by simp)) (fun w hy => hw w (List.mem_cons_of_mem _ hy))
    have : a ++ Go.Lib.joinTail [c] (y :: ys) = a ++ c :: (y ++ Go.Lib.joinTail [c] ys) := by simp [Go.Lib.joinTail]
    rw [this, spl_hit h, ih]
theorem seq_back : ∀ xs : List Sight, (∀ s ∈ xs, T.goodS s) → T.seqW (xs.map wordL) = some xs
  | [], _ => rfl
  | x :: xs, h => by
    rw [List.map_cons, T.seqW, word_read (h x (by simp)), seq_back xs (fun s hs => h s (List.mem_cons_of_mem _ hs))]; rfl
theorem GS.good {p : Pasture} {xs : List Sight} (g : GS p xs) : ∀ s ∈ xs, T.goodS s := by
  intro s hs
  obtain ⟨i, hi, rfl⟩ := List.getElem_of_mem hs
  obtain ⟨a, _, _⟩ := g.at_ i hi
  rw [sA_eq hi] at a
  obtain ⟨x, y, hx, hy, e⟩ := cellB_nat g.hw (g.cell i hi)
  rw [show xs[i] = xs[i] from rfl] at e
  refine ⟨a, ?_, ?_⟩
  · rw [e]; show (0 : Int) ≤ (x : Int) ∧ (x : Int) ≤ 9; omega
  · rw [e]; show (0 : Int) ≤ (y : Int) ∧ (y : Int) ≤ 9; omega
theorem GS.seenT {p : Pasture} {xs : List Sight} (h : GS p xs) : T.seenB xs = true := by
  unfold T.seenB
  rw [Bool.and_eq_true, upA_iff]
  refine ⟨fun j _ hj => ?_, decide_eq_true h.len⟩
  have hj : j < xs.length := by omega
  obtain ⟨a, b, c⟩ := h.at_ j hj
  rw [T.dayOk_eq hj]
  rw [sA_eq hj] at a b
  rw [decide_eq_true a, Bool.true_and, Bool.or_eq_true, decide_eq_true_eq, decide_eq_true_eq]
  by_cases z : j = 0
  · exact .inl z
  · right
    have := b (by omega)
    rw [sA_eq (show j - 1 < xs.length by omega)] at this
    exact this
theorem text_back {p : Pasture} {xs : List Sight} (g : GS p xs) : ∃ t, Ev (fun k => impl_SightsText.f k xs) t ∧ Ev (fun k => impl_ReadSights.f k t) (xs, 0) := by
  have hx := g.len
  have hg := g.good
  obtain ⟨g1, g2⟩ := T.good_v hg
  have tx := T.implText_ev xs g1 (by omega) g2
  rw [if_pos g.seenT] at tx
  refine ⟨_, tx, ?_⟩
  cases hxs : xs with
  | nil => exact Ev.pos rfl (Ev.const rfl)
  | cons x ys =>
    rw [← hxs]
    have hb : (xs.map T.wordB).map (·.data.toList) = xs.map wordL := by
      rw [List.map_map]
      exact List.map_congr_left fun s hs => word_bytes (hg s hs)
    have n32 : digB 32 = false := by decide
    have hj : (joinB (xs.map T.wordB) T.spc).data.toList = Go.Lib.join (xs.map wordL) [32] := by
      unfold joinB
      rw [hb]; rfl
    have hsp : spl 32 (joinB (xs.map T.wordB) T.spc).data.toList = xs.map wordL := by
      rw [hj, hxs, List.map_cons, Go.Lib.join_cons]
      refine spl_tail _ _ (word_no 32 n32 (by decide) (by decide)) (fun w hw => ?_)
      obtain ⟨s, _, rfl⟩ := List.mem_map.1 hw
      exact word_no 32 n32 (by decide) (by decide)
    have hsz : (joinB (xs.map T.wordB) T.spc).size ≤ 1000 := by
      have hsz := catB_size T.spc 8 (ys.map T.wordB) (T.wordB x) (fun z hz => by
        obtain ⟨q, hq, rfl⟩ := List.mem_map.1 hz
        exact (T.word_size (hg q (by rw [hxs]; exact List.mem_cons_of_mem _ hq))).2.2.2)
      have hx8 := (T.word_size (hg x (by rw [hxs]; simp))).2.2.2
      have hlx : ys.length ≤ 39 := by rw [hxs] at hx; simp at hx; omega
      have hs1 : T.spc.size = 1 := rfl
      rw [List.length_map, hs1] at hsz
      rw [hxs, List.map_cons, joinB_cons]
      omega
    generalize ht : joinB (xs.map T.wordB) T.spc = t at hsp hsz
    have hne : ¬ t = ByteArray.empty := by
      intro e
      rw [e] at hsp
      rw [hxs] at hsp
      have h58 : (58 : UInt8) ∈ wordL x := by unfold wordL; simp
      have : spl 32 ByteArray.empty.data.toList = [[]] := rfl
      rw [this, List.map_cons] at hsp
      have := (List.cons.inj hsp).1
      rw [← this] at h58
      cases h58
    have s2 : strings_Split.f t (⟨#[32]⟩ : ByteArray) = some ((xs.map wordL).map toB) := by
      unfold strings_Split.f
      rw [chkX ⟨by omega, Nat.le_refl _⟩, Option.bind_some, split_spl, hsp]
    have hlen := T.spl_len 32 t.data.toList
    rw [hsp] at hlen
    have hz : t.data.toList.length = t.size := (size_toList t).symm
    have w2 := T.implWords_loop (xs.map wordL) (by simp; omega) (fun l hl => by have := hlen l hl; omega) 0 (Nat.zero_le _) [] (by simp)
    rw [List.drop_zero] at w2
    unfold T.outW at w2
    rw [seq_back xs hg] at w2
    simp only [List.nil_append] at w2
    have tx2 : Ev (fun k => impl_SightsText.f k xs) t := by rw [← ht]; exact tx
    refine Ev.neg hne (Ev.bind (Ev.const s2) (Ev.bind w2 (tx2.bind ?_)))
    exact Ev.neg (by simp) (Ev.const rfl)
end Go.Proofs.YtdbppckimfhgeaaGreatDoor
/-
  Plain law: the yards part the pasture.
-/
namespace Go.Proofs.YtdbppckimfhgeaaGreatDoor
open G
set_option linter.unusedVariables false
set_option linter.unusedSimpArgs false
theorem rowF_nodup (q : Nat → Bool) (y : Nat) : ∀ n x : Nat, (rowF q y x n).Nodup
  | 0, x => by simp [rowF]
  | n + 1, x => by
    have ih := rowF_nodup q y n (x + 1)
    rw [rowF]
    split
    · refine List.nodup_cons.2 ⟨fun h => ?_, ih⟩
      obtain ⟨j, h1, _, _, e⟩ := rowF_mem.1 h
      have := (Spot.mk.inj e).1
      omega
    · exact ih
theorem gridF_nodup (q : Nat → Nat → Bool) (W : Nat) : ∀ n y : Nat, (gridF q W y n).Nodup
  | 0, y => by simp [gridF]
  | n + 1, y => by
    rw [gridF]
    refine List.nodup_append.2 ⟨rowF_nodup _ _ _ _, gridF_nodup q W n (y + 1), fun a ha b hb e => ?_⟩
    obtain ⟨j, _, _, _, rfl⟩ := rowF_mem.1 ha
    obtain ⟨i, j', h1, _, _, _, rfl⟩ := gridF_mem.1 hb
    have := (Spot.mk.inj e).2
    omega
theorem sumL_perm (p : Pasture) {a b : List Spot} (h : a.Perm b) : sumL p a = sumL p b := by
  induction h with
  | nil => rfl
  | cons x _ ih => simp only [sumL, ih]
  | swap x y l => simp only [sumL]; omega
  | trans _ _ h1 h2 => rw [h1, h2]
theorem Tell2.flat {p : Pasture} {tab : Tb} {met : List Spot} {ys : List (List Spot)} (hw : okW p = true) (t : Tell2 p tab met ys) (hall : ∀ y x, y < p.High.toNat → x < p.Wide.toNat → sp x y ∈ met) : ys.flatten.Perm (gridF (fun _ _ => true) p.Wide.toNat 0 p.High.toNat) := by
  obtain ⟨w1, w2⟩ := okW_iff.1 hw
  have hnd : ys.flatten.Nodup := by
    refine List.pairwise_flatten.2 ⟨fun Y hY => ?_, ?_⟩
    · obtain ⟨q, rfl⟩ := (t.yard Y hY).1
      exact gridF_nodup _ _ _ _
    · refine List.pairwise_iff_getElem.2 fun i j hi hj hij a ha b hb e => ?_
      subst e
      obtain ⟨x, y, hx, hy, rfl⟩ := isYard_mem (t.yard _ (List.getElem_mem hi)).1 ha
      have e1 := t.num i _ (List.getElem?_eq_getElem hi) y x (by omega) (by omega) ha
      have e2 := t.num j _ (List.getElem?_eq_getElem hj) y x (by omega) (by omega) hb
      omega
  refine (List.perm_ext_iff_of_nodup hnd (gridF_nodup _ _ _ _)).2 fun s => ⟨fun h => ?_, fun h => ?_⟩
  · obtain ⟨Y, hY, hs⟩ := List.mem_flatten.1 h
    obtain ⟨x, y, hx, hy, rfl⟩ := isYard_mem (t.yard Y hY).1 hs
    exact gridF_mem.2 ⟨y, x, by omega, by omega, hx, rfl, rfl⟩
  · obtain ⟨i, j, h1, h2, h3, _, rfl⟩ := gridF_mem.1 h
    obtain ⟨n, Y, e, hs⟩ := t.met_in _ (hall i j (by omega) h3)
    exact List.mem_flatten.2 ⟨Y, List.mem_of_getElem? e, hs⟩
theorem gridT_length (W : Nat) : ∀ n y : Nat, (gridF (fun _ _ => true) W y n).length = n * W := fun n y => gridT_len W n y
end Go.Proofs.YtdbppckimfhgeaaGreatDoor
/-
  Plain law: the meadows of a pasture that is drawn.
-/
namespace Go.Proofs.YtdbppckimfhgeaaGreatDoor
open G
set_option linter.unusedVariables false
set_option linter.unusedSimpArgs false
theorem sumW_eq (p : Pasture) : ∀ (Y : List Spot) (a : Int), (∀ s ∈ Y, 0 ≤ gG p s.Y.toNat s.X.toNat ∧ gG p s.Y.toNat s.X.toNat ≤ 1000) → 0 ≤ a → a + 1000 * Y.length ≤ 1000000000 → sumW p a Y = a + sumL p Y
  | [], a, _, _, _ => by simp [sumW, sumL]
  | s :: Y, a, h, h0, h1 => by
    have hs := h s (by simp)
    rw [List.length_cons] at h1
    rw [sumW, w64 (x := gG p s.Y.toNat s.X.toNat) (by omega) (by omega), w64 (by omega) (by omega), sumW_eq p Y _ (fun t ht => h t (List.mem_cons_of_mem _ ht)) (by omega) (by omega), sumL]
    omega
theorem sumL_11 (p : Pasture) : ∀ (Y : List Spot), (∀ s ∈ Y, 0 ≤ gG p s.Y.toNat s.X.toNat ∧ gG p s.Y.toNat s.X.toNat ≤ 11) → 0 ≤ sumL p Y ∧ sumL p Y ≤ 11 * Y.length
  | [], _ => by simp [sumL]
  | s :: Y, h => by
    have hs := h s (by simp)
    have := sumL_11 p Y (fun t ht => h t (List.mem_cons_of_mem _ ht))
    rw [sumL, List.length_cons]; omega
theorem specGr_loop {p : Pasture} (Y : List Spot) (hl : Y.length ≤ 100) (hm : ∀ s ∈ Y, ∃ x y : Nat, x < 10 ∧ y < 10 ∧ s = sp x y) : ∀ i, i ≤ Y.length → ∀ a : Int, Ev (fun k => spec_GrassOf.l1 p Y k a (i : Int)) (sumW p a (Y.drop i)) := by
  refine upL ?_ ?_
  · intro a
    rw [List.drop_length]
    exact Ev.step (fun k => spec_GrassOf.l1.eq_2 _ _ _ _ _) (Ev.neg (by omega) (Ev.const rfl))
  · intro i hi ih a
    obtain ⟨x, y, hx, hy, e⟩ := hm _ (List.getElem_mem hi)
    have ih := ih (IntKind.i64.wrap (a + IntKind.i64.wrap (gG p y x)))
    rw [← wsucc hi (by omega)] at ih
    have hg : getI Y (i : Int) = some (sp x y) := by rw [getI_nat hi, e]
    refine Ev.step (fun k => spec_GrassOf.l1.eq_2 _ _ _ _ _) (Ev.pos (by omega) (Ev.bind (Ev.const hg) (Ev.bind (Ev.const hg) (Ev.bind (Ev.const (getR p.Grass hy)) (Ev.bind (Ev.const (getA _ hx)) ?_)))))
    rw [List.drop_eq_getElem_cons hi, e]
    exact ih
theorem specMd_loop {p : Pasture} (v : VPasture p) (hp : vP p = true) (g : Int) (tab : Tb) (ys : List (List Spot)) (hy : ∀ Y ∈ ys, isYard p Y) (hl : ys.length ≤ 100) : ∀ i, i ≤ ys.length → ∀ out : List Meadow, out.length ≤ i → Ev (fun k => spec_MeadowsOf.l1 p g (tab, ys) k out (i : Int)) (out ++ (ys.drop i).map (mOf p g)) := by
  refine upL ?_ ?_
  · intro out ho
    rw [List.drop_length]
    exact Ev.step (fun k => spec_MeadowsOf.l1.eq_2 _ _ _ _ _ _) (Ev.neg (by show ¬ (ys.length : Int) < (ys.length : Int); omega) (Ev.const (by simp)))
  · intro i hi ih out ho
    have hY := hy _ (List.getElem_mem hi)
    obtain ⟨c1, c2, c3⟩ := yard_cells (vP_okW hp) hY
    have yl := isYard_len (vP_okW hp) hY
    have ha := specAll_ev v ys[i] c2 (by omega)
    have e0 : cCode p ys[i] = 0 := by unfold cCode; rw [hp, c3]; rfl
    rw [e0] at ha
    have hs := specGr_loop (p := p) ys[i] yl c1 0 (Nat.zero_le _) 0
    rw [List.drop_zero] at hs
    have hgr : Ev (fun k => spec_GrassOf.f k p ys[i]) (sumW p 0 ys[i], 0) := ha.bind (Ev.neg (by simp) (Ev.bind hs (Ev.const rfl)))
    have hg : getI ys (i : Int) = some ys[i] := getI_nat hi
    have ih := ih (out ++ [mOf p g ys[i]]) (by simp; omega)
    rw [← wsucc hi (by omega), List.append_assoc] at ih
    refine Ev.step (fun k => spec_MeadowsOf.l1.eq_2 _ _ _ _ _ _) (Ev.pos (by show (i : Int) < (ys.length : Int); omega) (Ev.bind (Ev.const hg) (hgr.bind (Ev.bind (Ev.const (min_eq _)) (Ev.bind (Ev.const hg) (Ev.bind (Ev.const (min_eq _)) (Ev.bind (Ev.const (chk_t (by simp; omega))) ?_)))))))
    rw [List.drop_eq_getElem_cons hi, List.map_cons]
    exact ih
/-- A meadow of a yard, without cuts. -/
def mD (p : Pasture) (Y : List Spot) : Meadow := ⟨sumL p Y, 2 * (Y.length : Int), 1000⟩
theorem l2_loop (t : List Meadow × Int) (hl : t.1.length ≤ 100) (hv : ∀ m ∈ t.1, (0 ≤ m.Grass ∧ m.Grass ≤ 1000) ∧ (0 ≤ m.Grows ∧ m.Grows ≤ 1000)) : ∀ i, i ≤ t.1.length → ∀ a b : Int, 0 ≤ a → a ≤ 1000 * i → 0 ≤ b → b ≤ 1000 * i → Ev (fun k => laws_FnSights.l2 t k a b (i : Int)) (a + ((t.1.drop i).map Meadow.Grass).sum, b + ((t.1.drop i).map Meadow.Grows).sum) := by
  refine upL ?_ ?_
  · intro a b _ _ _ _
    rw [List.drop_length]
    exact Ev.step (fun k => laws_FnSights.l2.eq_2 _ _ _ _ _) (Ev.neg (by omega) (Ev.const (by simp)))
  · intro i hi ih a b a0 a1 b0 b1
    obtain ⟨g, r⟩ := hv _ (List.getElem_mem hi)
    have h := ih (a + (t.1[i]).Grass) (b + (t.1[i]).Grows) (by omega) (by push_cast; omega) (by omega) (by push_cast; omega)
    rw [← wsucc hi (by omega)] at h
    refine Ev.step (fun k => laws_FnSights.l2.eq_2 _ _ _ _ _) (Ev.pos (by omega) (Ev.bind (Ev.const (getI_nat hi)) (Ev.bind (Ev.const (getI_nat hi)) ?_)))
    rw [w64 (x := (t.1[i]).Grass) (by omega) (by omega), w64 (x := (t.1[i]).Grows) (by omega) (by omega), w64 (x := a + (t.1[i]).Grass) (by omega) (by omega), w64 (x := b + (t.1[i]).Grows) (by omega) (by omega), List.drop_eq_getElem_cons hi]
    simp only [List.map_cons, List.sum_cons]
    rw [← Int.add_assoc, ← Int.add_assoc]
    exact h
theorem sum_grass (p : Pasture) : ∀ ys : List (List Spot), ((ys.map (mD p)).map Meadow.Grass).sum = sumL p ys.flatten
  | [] => rfl
  | Y :: ys => by
    rw [List.map_cons, List.map_cons, List.sum_cons, sum_grass p ys, List.flatten_cons, sumL_app]; rfl
theorem sum_grows (p : Pasture) : ∀ ys : List (List Spot), ((ys.map (mD p)).map Meadow.Grows).sum = 2 * (ys.flatten.length : Int)
  | [] => rfl
  | Y :: ys => by
    rw [List.map_cons, List.map_cons, List.sum_cons, sum_grows p ys, List.flatten_cons, List.length_append]
    show 2 * (Y.length : Int) + _ = _
    push_cast; omega
theorem md_idx (xs : List Meadow) (hx : xs.length ≤ 100) (hv : ∀ m ∈ xs, m.Most = 1000 ∧ (0 ≤ m.Grass ∧ m.Grass ≤ 1000) ∧ (0 ≤ m.Grows ∧ m.Grows ≤ 1000)) : ∀ i, i ≤ xs.length → Ev (fun k => slices_IndexFunc_impl_Meadow_impl_Meadow.l1 xs impl_ValidMeadows_1.f k (i : Int)) (.inr ()) := by
  refine upL ?_ ?_
  · exact Ev.step (fun k => slices_IndexFunc_impl_Meadow_impl_Meadow.l1.eq_2 _ _ _ _) (Ev.neg (by omega) (Ev.const rfl))
  · intro i hi ih
    rw [← wsucc hi (by omega)] at ih
    obtain ⟨e, g, r⟩ := hv _ (List.getElem_mem hi)
    have h1 : impl_ValidMeadows_1.f xs[i] = some false := by
      unfold impl_ValidMeadows_1.f
      rw [e, w64 (x := 1000) (by omega) (by omega), w64 (by omega) (by omega), w64 (by omega) (by omega), within_eq, within_eq, within_eq, decide_eq_true g, decide_eq_true r]
      rfl
    exact Ev.step (fun k => slices_IndexFunc_impl_Meadow_impl_Meadow.l1.eq_2 _ _ _ _) (Ev.pos (by omega) (Ev.bind (Ev.const (getI_nat hi)) (Ev.bind (Ev.const h1) (Ev.neg (by simp) ih))))
theorem validMd_ev (xs : List Meadow) (h1 : 1 ≤ xs.length) (h6 : xs.length ≤ 6) (hv : ∀ m ∈ xs, m.Most = 1000 ∧ (0 ≤ m.Grass ∧ m.Grass ≤ 1000) ∧ (0 ≤ m.Grows ∧ m.Grows ≤ 1000)) : Ev (fun k => impl_ValidMeadows.f k xs) true := by
  have hi := md_idx xs (by omega) hv 0 (Nat.zero_le _)
  refine Ev.bind (Ev.const (show impl_size_impl_Meadow.f xs = some (xs.length : Int) from rfl)) (Ev.bind (Ev.const (within_eq _ _ _)) (Ev.pos (decide_eq_true (by omega)) ?_))
  exact Ev.bind (Ev.bind (Ev.bind hi (Ev.const rfl)) (Ev.const (show _ = some false from rfl))) (Ev.const rfl)
/-- All about the yards and the meadows of a pasture that is drawn. -/
theorem drawn_md {W H : Nat} {p : Pasture} (d : Dr W H p) (hW : 1 ≤ W ∧ W ≤ 5) (hH : 1 ≤ H ∧ H ≤ 5) : ∃ (ys : List (List Spot)), 1 ≤ ys.length ∧ ys.length ≤ 100 ∧
    Ev (fun k => spec_YardsOf.f k p) (ys, 0) ∧ Ev (fun k => impl_MeadowsOf.f k p 2) (if 6 < ys.length then ([], 3) else (ys.map (mD p), 0)) ∧ Ev (fun k => spec_MeadowsOf.f k p 2) (if 6 < ys.length then ([], 3) else (ys.map (mD p), 0)) ∧
    (∀ m ∈ ys.map (mD p), m.Most = 1000 ∧ (0 ≤ m.Grass ∧ m.Grass ≤ 1000) ∧ (0 ≤ m.Grows ∧ m.Grows ≤ 1000)) ∧
    Ev (fun k => impl_GrassIn.f k p) (((ys.map (mD p)).map Meadow.Grass).sum, 0) ∧ ((ys.map (mD p)).map Meadow.Grows).sum = 2 * (W : Int) * H := by
  have v := d.V (by omega) (by omega)
  have hp := d.ok (by omega) (by omega)
  have hw := vP_okW hp
  obtain ⟨tab, met, ys, t, hl, hall, y1, y2⟩ := yards2_ev v hw
  have hfl := t.flat hw hall
  have eW : p.Wide.toNat = W := by rw [d.w]; omega
  have eH : p.High.toNat = H := by rw [d.h]; omega
  have hWH : H * W ≤ 5 * 5 := Nat.mul_le_mul hH.2 hW.2
  have hlen := hfl.length_eq
  rw [gridT_length, eW, eH] at hlen
  have hYl : ∀ Y ∈ ys, Y.length ≤ 25 := fun Y hY => by
    have := (List.sublist_flatten_of_mem hY).length_le
    omega
  have hcell : ∀ Y ∈ ys, ∀ s ∈ Y, 0 ≤ gG p s.Y.toNat s.X.toNat ∧ gG p s.Y.toNat s.X.toNat ≤ 11 := fun Y hY s hs => by
    obtain ⟨x, y, hx, hy, rfl⟩ := isYard_mem (t.yard Y hY).1 hs
    have := d.g y x (by omega) (by omega)
    exact ⟨this.1, this.2.1⟩
  have hsum : ∀ Y ∈ ys, 0 ≤ sumL p Y ∧ sumL p Y ≤ 275 := fun Y hY => by
    have h1 := sumL_11 p Y (hcell Y hY)
    have h2 := hYl Y hY
    omega
  have hmD : ∀ Y ∈ ys, mOf p 2 Y = mD p Y := fun Y hY => by
    have h1 := hsum Y hY
    have h2 := hYl Y hY
    have h3 : sumW p 0 Y = sumL p Y := by
      rw [sumW_eq p Y 0 (fun s hs => by have := hcell Y hY s hs; omega) (by omega) (by omega)]; omega
    unfold mOf mD mn
    rw [h3, w64 (by omega) (by omega), if_neg (by omega), if_neg (by omega), w16 (by omega) (by omega), w16 (by omega) (by omega)]
  have hmap : ys.map (mOf p 2) = ys.map (mD p) := List.map_congr_left hmD
  have m1 := specMd_loop v hp 2 tab ys (fun Y hY => (t.yard Y hY).1) hl 0 (Nat.zero_le _) [] (by simp)
  have m2 := implMeadows_loop hw 2 ys (fun Y hY => (t.yard Y hY).1) hl 0 (Nat.zero_le _) [] (by simp)
  rw [List.drop_zero, List.nil_append, hmap] at m1 m2
  have s1 := specOk_ev v
  have i1 := cellCode_ev v [] (by simp) (by simp)
  rw [cCode_nil, hp] at i1
  rw [hp] at s1
  have hgs : spec_l01Grass.f 2 = some true := by unfold spec_l01Grass.f; rw [l00In_eq]; rfl
  have f2 := first2 0 0
  have hg1 : 1 ≤ ys.length := by
    obtain ⟨n, Y, e, _⟩ := t.met_in _ (hall 0 0 (by omega) (by omega))
    obtain ⟨hn, _⟩ := List.getElem?_eq_some_iff.1 e
    omega
  have hgrid : ∀ s ∈ gridF (fun _ _ => true) p.Wide.toNat 0 p.High.toNat, cellIn s := grid_cellIn (by omega) (by omega)
  have hglen := gridT_length p.Wide.toNat p.High.toNat 0
  rw [eW, eH] at hglen
  refine ⟨ys, hg1, hl, s1.bind (Ev.neg (by simp) (y1.bind (Ev.const rfl))), ?_, ?_, ?_, ?_, ?_⟩
  · refine i1.bind (Ev.bind (Ev.const (within_eq _ _ _)) (Ev.bind (Ev.const (unless_eq _ _)) (Ev.bind f2 (Ev.neg (by simp) (y2.bind (m2.bind ?_))))))
    by_cases h6 : 6 < ys.length
    · rw [if_pos h6]; exact Ev.pos (by rw [List.length_map]; omega) (Ev.const rfl)
    · rw [if_neg h6]; exact Ev.neg (by rw [List.length_map]; omega) (Ev.const rfl)
  · refine s1.bind (Ev.neg (by simp) (Ev.bind (Ev.const hgs) (Ev.neg (by simp) (y1.bind ?_))))
    by_cases h6 : 6 < ys.length
    · rw [if_pos h6]; exact Ev.pos (by show (6 : Int) < (ys.length : Int); omega) (Ev.const rfl)
    · rw [if_neg h6]; exact Ev.neg (by show ¬ (6 : Int) < (ys.length : Int); omega) (m1.bind (Ev.const rfl))
  · intro m hm
    obtain ⟨Y, hY, rfl⟩ := List.mem_map.1 hm
    have h1 := hsum Y hY
    have h2 := hYl Y hY
    refine ⟨rfl, ⟨h1.1, ?_⟩, ?_⟩
    · show sumL p Y ≤ 1000; omega
    · show (0 : Int) ≤ 2 * (Y.length : Int) ∧ 2 * (Y.length : Int) ≤ 1000; omega
  · rw [sum_grass, sumL_perm p hfl]
    refine (implOk_ev v).bind ?_
    rw [hp]
    refine Ev.neg (by simp) (Ev.bind ⟨24, fun k hk => all_eq hw hk⟩ (Ev.bind (a := sumL p (gridF (fun _ _ => true) p.Wide.toNat 0 p.High.toNat)) ⟨200, fun k hk => sumOf_eq hp _ hgrid ?_ ?_⟩ (Ev.const rfl)))
    · rw [eW, eH, hglen]; omega
    · rw [eW, eH, hglen]; omega
  · rw [sum_grows, hlen]
    push_cast
    rw [Int.mul_assoc, Int.mul_comm (H : Int)]
end Go.Proofs.YtdbppckimfhgeaaGreatDoor
/-
  Plain law: FnSights.
-/
namespace Go.Proofs.YtdbppckimfhgeaaGreatDoor
open G
set_option linter.unusedVariables false
set_option linter.unusedSimpArgs false
/-! ### Lists that are the same -/
theorem sameSg_ev (xs : List Sight) (hl : xs.length ≤ 1000000) : Ev (fun k => spec_SameSights.f k xs xs) true := by
  have h : ∀ i, i ≤ xs.length → Ev (fun k => spec_SameSights.l1 xs xs k (i : Int)) (.inr ()) := by
    refine upL ?_ ?_
    · exact Ev.step (fun k => spec_SameSights.l1.eq_2 _ _ _ _) (Ev.neg (by omega) (Ev.const rfl))
    · intro i hi ih
      rw [← wsucc hi (by omega)] at ih
      exact Ev.step (fun k => spec_SameSights.l1.eq_2 _ _ _ _) (Ev.pos (by omega) (Ev.bind (Ev.const (getI_nat hi)) (Ev.bind (Ev.const (getI_nat hi)) (Ev.neg (by simp) ih))))
  exact Ev.neg (by simp) ((h 0 (Nat.zero_le _)).bind (Ev.const rfl))
theorem sameFn_ev (xs : List Hurdle) (hl : xs.length ≤ 1000000) : Ev (fun k => spec_SameFence.f k xs xs) true := by
  have h : ∀ i, i ≤ xs.length → Ev (fun k => spec_SameFence.l1 xs xs k (i : Int)) (.inr ()) := by
    refine upL ?_ ?_
    · exact Ev.step (fun k => spec_SameFence.l1.eq_2 _ _ _ _) (Ev.neg (by omega) (Ev.const rfl))
    · intro i hi ih
      rw [← wsucc hi (by omega)] at ih
      exact Ev.step (fun k => spec_SameFence.l1.eq_2 _ _ _ _) (Ev.pos (by omega) (Ev.bind (Ev.const (getI_nat hi)) (Ev.bind (Ev.const (getI_nat hi)) (Ev.neg (by simp) ih))))
  exact Ev.neg (by simp) ((h 0 (Nat.zero_le _)).bind (Ev.const rfl))
theorem sameMd_ev (xs : List Meadow) (hl : xs.length ≤ 1000000) : Ev (fun k => spec_SameMeadows.f k xs xs) true := by
  have h : ∀ i, i ≤ xs.length → Ev (fun k => spec_SameMeadows.l1 xs xs k (i : Int)) (.inr ()) := by
    refine upL ?_ ?_
    · exact Ev.step (fun k => spec_SameMeadows.l1.eq_2 _ _ _ _) (Ev.neg (by omega) (Ev.const rfl))
    · intro i hi ih
      rw [← wsucc hi (by omega)] at ih
      exact Ev.step (fun k => spec_SameMeadows.l1.eq_2 _ _ _ _) (Ev.pos (by omega) (Ev.bind (Ev.const (getI_nat hi)) (Ev.bind (Ev.const (getI_nat hi)) (Ev.neg (by simp) ih))))
  exact Ev.neg (by simp) ((h 0 (Nat.zero_le _)).bind (Ev.const rfl))
/-! ### Sights that are drawn -/
theorem sA_app1 {xs : List Sight} {s : Sight} {i : Nat} (h : i < xs.length) : sA (xs ++ [s]) i = sA xs i := by
  unfold sA; rw [List.getElem?_append_left h]
theorem sA_app2 {xs : List Sight} {s : Sight} : sA (xs ++ [s]) xs.length = s := by
  unfold sA; simp
theorem GS.snoc {p : Pasture} {xs : List Sight} (g : GS p xs) {d : Int} (hl : xs.length < 40) (d0 : 0 ≤ d) (d1 : d ≤ 1000) (hd : ∀ i, i < xs.length → (sA xs i).Day ≤ d) {s : Spot} (hc : cellB p s.X s.Y = true) : GS p (xs ++ [⟨d, s⟩]) := by
  refine ⟨g.v, g.ok, by simp; omega, fun i hi => ?_⟩
  rw [List.length_append, List.length_singleton] at hi
  by_cases e : i < xs.length
  · have := g.at_ i e
    rw [sA_app1 e]
    exact ⟨this.1, fun h1 => by rw [sA_app1 (by omega)]; exact this.2.1 h1, this.2.2⟩
  · have e : i = xs.length := by omega
    subst e
    rw [sA_app2]
    exact ⟨⟨d0, d1⟩, fun h1 => by rw [sA_app1 (by omega)]; exact hd _ (by omega), hc⟩
theorem draw_loop {c : List Int} (hc : byteL c) {W H : Nat} {p : Pasture} (dr : Dr W H p) (hW : 1 ≤ W ∧ W ≤ 5) (hH : 1 ≤ H ∧ H ≤ 5) : ∀ (n : Nat) (xs : List Sight) (d at_ seed : Int), GS p xs → xs.length + n ≤ 4 → 0 ≤ d → d ≤ 2 + 3 * xs.length → (∀ i, i < xs.length → (sA xs i).Day ≤ d) → 0 ≤ at_ → at_ ≤ 100 + 6 * xs.length →
    ∃ ys, Ev (fun k => spec_P6Sights.l1 c p k xs d (n : Int) at_ seed) ys ∧ GS p ys ∧ ys.length ≤ 4
  | 0, xs, d, at_, seed, g, hl, d0, d1, hd, a0, a1 => ⟨xs, Ev.step (fun k => spec_P6Sights.l1.eq_2 _ _ _ _ _ _ _ _) (Ev.neg (by simp) (Ev.const rfl)), g, by omega⟩
  | n + 1, xs, d, at_, seed, g, hl, d0, d1, hd, a0, a1 => by
    have eW : IntKind.i64.wrap p.Wide = (W : Int) := by rw [dr.w, w64 (by omega) (by omega)]
    have eH : IntKind.i64.wrap p.High = (H : Int) := by rw [dr.h, w64 (by omega) (by omega)]
    obtain ⟨x, at1, s1, e1, x0, x1, q1, q1'⟩ := pick_ok hc (seed := seed) a0 (by omega) (W : Int)
    obtain ⟨y, at2, s2, e2, y0, y1, q2, q2'⟩ := pick_ok hc (seed := s1) (show 0 ≤ at1 by omega) (by omega) (H : Int)
    obtain ⟨z, at3, s3, e3, z0, z1, q3, q3'⟩ := pick_ok hc (seed := s2) (show 0 ≤ at2 by omega) (by omega) 4
    obtain ⟨X, rfl⟩ := Int.eq_ofNat_of_zero_le x0
    obtain ⟨Y, rfl⟩ := Int.eq_ofNat_of_zero_le y0
    have hX : X < W := by omega
    have hY : Y < H := by omega
    have wx : IntKind.i8.wrap (X : Int) = (X : Int) := w8 (by omega) (by omega)
    have wy : IntKind.i8.wrap (Y : Int) = (Y : Int) := w8 (by omega) (by omega)
    have wd : IntKind.i16.wrap d = d := w16 (by omega) (by omega)
    have wz : IntKind.i64.wrap (d + z) = d + z := w64 (by omega) (by omega)
    have wn : IntKind.i64.wrap (((n + 1 : Nat) : Int) - 1) = (n : Int) := by rw [w64 (by omega) (by omega)]; omega
    have hcell : cellB p (sp X Y).X (sp X Y).Y = true := (cellB_sp g.hw).2 ⟨by rw [dr.w]; omega, by rw [dr.h]; omega⟩
    have g' := g.snoc (d := d) (by omega) d0 (by omega) hd hcell
    have hl' : (xs ++ [(⟨d, sp X Y⟩ : Sight)]).length = xs.length + 1 := by simp
    obtain ⟨ys, h1, h2, h3⟩ := draw_loop hc dr hW hH n (xs ++ [⟨d, sp X Y⟩]) (d + z) at3 s3 g' (by rw [hl']; omega) (by omega) (by rw [hl']; push_cast; omega) (fun i hi => by
      rw [hl'] at hi
      by_cases e : i < xs.length
      · rw [sA_app1 e]; have := hd i e; omega
      · rw [show i = xs.length by omega, sA_app2]; show d ≤ d + z; omega) (by omega) (by rw [hl']; push_cast; omega)
    refine ⟨ys, Ev.step (fun k => spec_P6Sights.l1.eq_2 _ _ _ _ _ _ _ _) (Ev.pos (by omega) (Ev.bind (Ev.const (by rw [eW]; exact e1)) (Ev.bind (Ev.const (by rw [eH]; exact e2)) (Ev.bind (Ev.const (chkT (by simp; omega))) (Ev.bind (Ev.const e3) ?_))))), h2, h3⟩
    simp only [wx, wy, wd, wz, wn]
    exact h1
theorem sights_ev {c : List Int} (hc : byteL c) {W H : Nat} {p : Pasture} (dr : Dr W H p) (hW : 1 ≤ W ∧ W ≤ 5) (hH : 1 ≤ H ∧ H ≤ 5) : ∃ xs, Ev (fun k => spec_P6Sights.f k c p) xs ∧ GS p xs ∧ xs.length ≤ 4 := by
  obtain ⟨d, a1, s1, e1, d0, d1, q1, q1'⟩ := pick_ok hc (at_ := 0) (seed := 0) (by omega) (by omega) 3
  obtain ⟨n, a2, s2, e2, n0, n1, q2, q2'⟩ := pick_ok hc (at_ := a1) (seed := s1) (by omega) (by omega) 5
  obtain ⟨N, rfl⟩ := Int.eq_ofNat_of_zero_le n0
  have g0 : GS p [] := ⟨dr.V (by omega) (by omega), dr.ok (by omega) (by omega), by simp, fun i hi => by simp at hi⟩
  obtain ⟨xs, h1, h2, h3⟩ := draw_loop hc dr hW hH N [] d a2 s2 g0 (by simp; omega) d0 (by simp; omega) (fun i hi => by simp at hi) (by omega) (by simp; omega)
  refine ⟨xs, ?_, h2, h3⟩
  unfold spec_P6Sights.f spec_l00From.f
  simp only [Option.bind_some]
  exact Ev.bind (Ev.const e1) (Ev.bind (Ev.const e2) (h1.bind (Ev.const rfl)))
theorem pickC_ev {c : List Int} (hc : byteL c) : ∃ v, spec_P6Pick.f c 5 = some v ∧ 0 ≤ v ∧ v ≤ 4 := by
  obtain ⟨d, a1, s1, e1, d0, d1, q1, q1'⟩ := pick_ok hc (at_ := 0) (seed := 0) (by omega) (by omega) 5
  refine ⟨d, ?_, d0, by omega⟩
  unfold spec_P6Pick.f spec_l00From.f
  simp only [Option.bind_some]
  rw [e1]; rfl
/-! ### The law -/
theorem FnSights.pure (x0 : List Int) (hv0 : ∀ x ∈ x0, (inI .u8) x) (hb0 : x0.length * 1 ≤ 140737488351232) (x1 : List Int) (hv1 : ∀ x ∈ x1, (inI .u8) x) (hb1 : x1.length * 1 ≤ 140737488351232) : ∃ k, laws_FnSights.f k x0 x1 = some true := by
  refine Ev.get (r := true) ?_
  have b0 : laws_f6big.f x0 = some (decide (4096 < (x0.length : Int))) := rfl
  have b1 : laws_f6big.f x1 = some (decide (4096 < (x1.length : Int))) := rfl
  by_cases h0 : 4096 < (x0.length : Int)
  · exact Ev.bind (a := true) (Ev.bind (Ev.const b0) (Ev.pos (decide_eq_true h0) (Ev.const rfl))) (Ev.pos rfl (Ev.const rfl))
  by_cases h1 : 4096 < (x1.length : Int)
  · exact Ev.bind (a := true) (Ev.bind (Ev.const b0) (Ev.neg (by simpa using h0) (Ev.bind (Ev.const b1) (Ev.const (by rw [decide_eq_true h1]))))) (Ev.pos rfl (Ev.const rfl))
  refine Ev.bind (a := false) (Ev.bind (Ev.const b0) (Ev.neg (by simpa using h0) (Ev.bind (Ev.const b1) (Ev.const (by rw [decide_eq_false h1]))))) (Ev.neg (by simp) ?_)
  obtain ⟨W, H, p, hW, hH, dr, ep⟩ := pasture_ev (byteL_of hv0)
  obtain ⟨xs, ex, g, hl⟩ := sights_ev (byteL_of hv1) dr hW hH
  obtain ⟨c, ec, c0, c1⟩ := pickC_ev (byteL_of hv0)
  obtain ⟨t, et, er⟩ := text_back g
  have wc : IntKind.i64.wrap (c + 1) = c + 1 := w64 (by omega) (by omega)
  obtain ⟨r14, f1, f2, ft⟩ := first2_ev g c0 (show c ≤ 100 by omega)
  obtain ⟨r16, _, f4, ft'⟩ := first2_ev g (c := c + 1) (by omega) (by omega)
  obtain ⟨r17, xl, x1, x2, xn, xy, xa⟩ := explained2_ev g c0 (show c ≤ 100 by omega)
  have wv := g.ok'
  have hval := implSights_ev g.v xs g.V (by omega)
  rw [wv] at hval
  have ss := sameSg_ev xs (by omega)
  have sf := sameFn_ev r17.1 (by omega)
  have hloop := law1_loop g c0 (show c ≤ 100 by omega) xl xa 0 (Nat.zero_le _)
  obtain ⟨ys, y1, y2, ey, em1, em2, hm, eg, hgr⟩ := drawn_md dr hW hH
  refine ep.bind (ex.bind (Ev.bind (Ev.const ec) (et.bind (er.bind (f2.bind (f1.bind (Ev.bind (by rw [wc]; exact f4) (x2.bind (x1.bind ?_)))))))))
  -- the meadows
  have tail : Ev (fun k => (impl_MeadowsOf.f k p 2).bind fun t38 => (spec_MeadowsOf.f k p 2).bind fun t41 => (spec_YardsOf.f k p).bind fun t44 => (if t38.2 ≠ t41.2 then (some true) else ((spec_SameMeadows.f k t38.1 t41.1).bind fun t49 => if (!t49) = true then (some true) else (if t44.2 ≠ 0 then (some true) else (some (decide ((decide (t38.2 = 0)) ≠ (decide ((t44.1.length : Int) ≤ 6)))))))).bind fun y48 => if y48 = true then (some false) else (if t38.2 ≠ 0 then (some (decide (t38.2 = 3))) else ((laws_FnSights.l2 t41 k 0 0 0).bind fun (y50, y51) => (impl_GrassIn.f k p).bind fun t57 => if t57.2 = 0 then (if y50 = t57.1 then (if y51 = (IntKind.i64.wrap ((IntKind.i64.wrap (2 * (IntKind.i64.wrap p.Wide))) * (IntKind.i64.wrap p.High))) then ((impl_ValidMeadows.f k t41.1).bind fun t58 => some t58) else (some false)) else (some false)) else (some false)))) true := by
    by_cases h6 : 6 < ys.length
    · rw [if_pos h6] at em1 em2
      refine em1.bind (em2.bind (ey.bind (Ev.bind (a := false) (Ev.neg (by simp) ((sameMd_ev [] (by simp)).bind (Ev.neg (by simp) (Ev.neg (by simp) (Ev.const ?_))))) (Ev.neg (by simp) (Ev.pos (by simp) (Ev.const (by simp)))))))
      have : ¬ (ys.length : Int) ≤ 6 := by omega
      simp [this]
    · rw [if_neg h6] at em1 em2
      have e51 : IntKind.i64.wrap ((IntKind.i64.wrap (2 * (IntKind.i64.wrap p.Wide))) * (IntKind.i64.wrap p.High)) = 2 * (W : Int) * H := by
        have hWH : W * H ≤ 5 * 5 := Nat.mul_le_mul hW.2 hH.2
        have hWH' : (W : Int) * H ≤ 25 := by exact_mod_cast hWH
        have h0 : (0 : Int) ≤ (W : Int) * H := by exact_mod_cast Nat.zero_le (W * H)
        rw [dr.w, dr.h, w64 (x := (W : Int)) (by omega) (by omega), w64 (x := (H : Int)) (by omega) (by omega), w64 (x := 2 * (W : Int)) (by omega) (by omega), Int.mul_assoc, w64 (by omega) (by omega)]
      have hl2 := l2_loop (ys.map (mD p), 0) (by simp; omega) (fun m hm' => (hm m hm').2) 0 (Nat.zero_le _) 0 0 (by omega) (by omega) (by omega) (by omega)
      rw [List.drop_zero, Int.zero_add, Int.zero_add, hgr] at hl2
      have hvm := validMd_ev (ys.map (mD p)) (by simpa using y1) (by simp; omega) hm
      refine em1.bind (em2.bind (ey.bind (Ev.bind (a := false) (Ev.neg (by simp) ((sameMd_ev (ys.map (mD p)) (by simp; omega)).bind (Ev.neg (by simp) (Ev.neg (by simp) (Ev.const ?_))))) (Ev.neg (by simp) (Ev.neg (by simp) (hl2.bind (eg.bind (Ev.pos rfl (Ev.pos rfl (Ev.pos e51.symm (hvm.bind (Ev.const rfl))))))))))))
      have : (ys.length : Int) ≤ 6 := by omega
      simp [this]
  rcases ft with ⟨rfl, hn⟩ | ⟨j, rfl, j1, j2, j3, j4⟩
  · have e17 := xn hn
    subst e17
    have e16 : r16 = (0, 6) := by
      rcases ft' with ⟨e, _⟩ | ⟨j, _, j1, j2, j3, _⟩
      · exact e
      · exact absurd (BadP_mono g (by omega) j1 j2 j3) (hn j j1 j2)
    subst e16
    refine Ev.bind (a := false) ?_ (Ev.neg (by simp) (hloop.bind (Ev.bind (a := (.inr () : Bool ⊕ Unit)) (Ev.neg (by simp) (Ev.neg (by simp) (Ev.const rfl))) tail)))
    exact Ev.neg (by simp) (ss.bind (Ev.neg (by simp) (hval.bind (Ev.neg (by simp) (Ev.neg (by simp) (Ev.neg (by simp) (Ev.neg (by simp) (sf.bind (Ev.neg (by simp) (Ev.neg (by simp) (Ev.pos rfl (Ev.neg (by simp) (Ev.neg (by simp) (Ev.const rfl))))))))))))))
  · have e17 := xy ⟨j, j1, j2, j3⟩
    have wj : IntKind.i64.wrap ((j : Int) + 1) = ((j + 1 : Nat) : Int) := by rw [w64 (by omega) (by omega)]; omega
    refine Ev.bind (a := false) ?_ (Ev.neg (by simp) (hloop.bind (Ev.bind (a := (.inr () : Bool ⊕ Unit)) (Ev.pos rfl ?_) tail)))
    · refine Ev.neg (by simp) (ss.bind (Ev.neg (by simp) (hval.bind (Ev.neg (by simp) (Ev.neg (by simp) (Ev.neg (by simp) (Ev.neg (by simp) (sf.bind (Ev.neg (by simp) (Ev.neg (by rw [e17]; simp) (Ev.neg (by simp) (Ev.pos rfl ?_))))))))))))
      rcases ft' with ⟨rfl, _⟩ | ⟨i, rfl, i1, i2, i3, _⟩
      · exact Ev.neg (by simp) (Ev.const rfl)
      · refine Ev.pos rfl (Ev.const ?_)
        have : ¬ (i : Int) < (j : Int) := fun hlt => j4 i i1 (by omega) (BadP_mono g (by omega) i1 i2 i3)
        rw [decide_eq_false this]
    · have p1 := first2_none (g.take j) c0 (show c ≤ 100 by omega) (fun l l1 l2 => by
        rw [List.length_take] at l2
        rw [BadP_take (by omega)]
        exact j4 l l1 (by omega))
      obtain ⟨q, p2, q2⟩ := first2_some (g.take (j + 1)) c0 (show c ≤ 100 by omega) (i := j) j1 (by rw [List.length_take]; omega) ((BadP_take (by omega)).2 j3)
      refine Ev.bind (Ev.const (chkT (by show (0 : Int) ≤ 0 ∧ 0 ≤ (j : Int) ∧ (j : Int) ≤ (xs.length : Int); omega))) (Ev.bind (a := (0, 6)) ?_ (Ev.bind (Ev.const (chkT (by show (0 : Int) ≤ 0 ∧ 0 ≤ IntKind.i64.wrap ((j : Int) + 1) ∧ IntKind.i64.wrap ((j : Int) + 1) ≤ (xs.length : Int); rw [wj]; omega))) (Ev.bind (a := q) ?_ (Ev.neg (by simp) (Ev.neg (by rw [q2]; simp) (Ev.const rfl))))))
      · have e : (xs.drop 0).take ((j : Int).toNat - 0) = xs.take j := by rw [List.drop_zero, Int.toNat_natCast, Nat.sub_zero]
        rw [e]; exact p1
      · have e : (xs.drop 0).take ((IntKind.i64.wrap ((j : Int) + 1)).toNat - 0) = xs.take (j + 1) := by rw [wj, List.drop_zero, Int.toNat_natCast, Nat.sub_zero]
        rw [e]; exact p2
end Go.Proofs.YtdbppckimfhgeaaGreatDoor
