/-
  Plain law: CutColumn of the program and of the reference answer alike.
-/
import Derived.Test.YtpaciifeklccfaaQG
namespace Go.Proofs.Ytpaciifeklccfaa
open G
set_option linter.unusedVariables false
set_option linter.unusedSimpArgs false

/-- How far the shares are from what is told. -/
def cutN (p : Pasture) (a b : Int) (c : Nat) : Int :=
  let n := westS p c * b - (westS p p.Wide.toNat - westS p c) * a
  if n < 0 - n then 0 - n else n
theorem mul_le_b {x y : Int} (hx : 0 ≤ x ∧ x ≤ 100000) (hy : 0 ≤ y ∧ y ≤ 1000000) : 0 ≤ x * y ∧ x * y ≤ 100000000000 :=
  ⟨Int.mul_nonneg hx.1 hy.1, Int.le_trans (Int.mul_le_mul hx.2 hy.2 hy.1 (by omega)) (by omega)⟩
theorem westS_mono {p : Pasture} (h : vP p = true) : ∀ (d c : Nat), c + d ≤ 10 → westS p c ≤ westS p (c + d)
  | 0, c, _ => Int.le_refl _
  | d + 1, c, hc => by
    have h1 := westS_mono h d c (by omega)
    obtain ⟨a, b⟩ := okW_iff.1 (vP_okW h)
    have h2 := (sumTo_le (f := fun y => gG p y (c + d)) (B := 1000) p.High.toNat fun i hi => (vP_G h (by omega) (by omega)).1).1
    rw [← Nat.add_assoc, westS_succ]; omega
theorem cut_wraps {p : Pasture} (h : vP p = true) {a b : Int} (ha : 0 ≤ a ∧ a ≤ 1000000) (hb : 0 ≤ b ∧ b ≤ 1000000) {c : Nat} (hc : c ≤ p.Wide.toNat) :
    IntKind.i64.wrap ((IntKind.i64.wrap (westS p c * b)) - (IntKind.i64.wrap ((IntKind.i64.wrap (westS p p.Wide.toNat - westS p c)) * a))) = westS p c * b - (westS p p.Wide.toNat - westS p c) * a ∧
    IntKind.i64.wrap (0 - (westS p c * b - (westS p p.Wide.toNat - westS p c) * a)) = 0 - (westS p c * b - (westS p p.Wide.toNat - westS p c) * a) := by
  obtain ⟨w1, w2⟩ := okW_iff.1 (vP_okW h)
  have h1 := westS_le h (c := c) (by omega)
  have h2 := westS_le h (c := p.Wide.toNat) (by omega)
  have h3 := westS_mono h (p.Wide.toNat - c) c (by omega)
  rw [show c + (p.Wide.toNat - c) = p.Wide.toNat by omega] at h3
  have g1 := mul_le_b h1 hb
  have g2 := mul_le_b (x := westS p p.Wide.toNat - westS p c) ⟨by omega, by omega⟩ ha
  rw [w64 (show -9223372036854775808 ≤ westS p p.Wide.toNat - westS p c by omega) (by omega), w64 (show -9223372036854775808 ≤ westS p c * b by omega) (by omega), w64 (show -9223372036854775808 ≤ (westS p p.Wide.toNat - westS p c) * a by omega) (by omega)]
  exact ⟨w64 (by omega) (by omega), w64 (by omega) (by omega)⟩
theorem cutN_nonneg (p : Pasture) (a b : Int) (c : Nat) : 0 ≤ cutN p a b c := by
  unfold cutN
  simp only
  split <;> omega
/-- The column is looked for: what both loops do. -/
def cutF (p : Pasture) (a b : Int) : Nat → Nat → Int × Int → Int × Int
  | _, 0, r => r
  | c, n + 1, r => cutF p a b (c + 1) n (if r.2 < 0 ∨ cutN p a b c < r.2 then ((c : Int), cutN p a b c) else r)
theorem cut_impl {p : Pasture} (h : vP p = true) {a b : Int} (ha : 0 ≤ a ∧ a ≤ 1000000) (hb : 0 ≤ b ∧ b ≤ 1000000) : ∀ (n c k : Nat) (x y : Int), c + n = p.Wide.toNat + 1 → n + 200 < k → impl_CutColumn.l1 p a b (westS p p.Wide.toNat) k x y (c : Int) = some (cutF p a b c n (x, y)).1
  | 0, c, k + 1, x, y, hc, hk => by
    obtain ⟨w1, w2⟩ := okW_iff.1 (vP_okW h)
    rw [impl_CutColumn.l1, if_neg (by rw [w8 (by omega) (by omega)]; omega)]; rfl
  | n + 1, c, k + 1, x, y, hc, hk => by
    obtain ⟨w1, w2⟩ := okW_iff.1 (vP_okW h)
    have hcl := cells_eq (vP_okW h) (g := impl_CutColumn_1.f (c : Int)) (q := fun _ x => decide (x < c)) (fun y x _ _ => by simp [impl_CutColumn_1.f]) (k := k) (by omega)
    have hlen := gridF_len (fun _ x => decide (x < c)) p.Wide.toNat p.High.toNat 0
    have hlen2 : p.High.toNat * p.Wide.toNat ≤ 10 * 10 := Nat.mul_le_mul (by omega) (by omega)
    have hs := sumOf_eq h (gridF (fun _ x => decide (x < c)) p.Wide.toNat 0 p.High.toNat) (grid_cellIn (by omega) (by omega)) (by omega) (k := k) (by omega)
    rw [westS_grid h (by omega)] at hs
    obtain ⟨e1, e2⟩ := cut_wraps h ha hb (c := c) (by omega)
    have e3 : (if westS p c * b - (westS p p.Wide.toNat - westS p c) * a < 0 - (westS p c * b - (westS p p.Wide.toNat - westS p c) * a) then 0 - (westS p c * b - (westS p p.Wide.toNat - westS p c) * a) else westS p c * b - (westS p p.Wide.toNat - westS p c) * a) = cutN p a b c := rfl
    have e4 : IntKind.i8.wrap ((c : Int) + 1) = ((c + 1 : Nat) : Int) := by rw [w8 (by omega) (by omega)]; omega
    rw [impl_CutColumn.l1, if_pos (by rw [w8 (by omega) (by omega)]; omega), hcl, Option.bind_some, hs, Option.bind_some]
    simp only [e1, e2, e3, e4, w64 (show -9223372036854775808 ≤ (c : Int) by omega) (by omega), cut_impl h ha hb n (c + 1) k _ _ (by omega) (by omega), cutF]
    by_cases h1 : y < 0
    · rw [if_pos h1, if_pos (.inl h1)]
    · rw [if_neg h1]
      by_cases h2 : cutN p a b c < y
      · rw [if_pos h2, if_pos (.inr h2)]
      · rw [if_neg h2, if_neg (by omega)]
  | _, _, 0, _, _, _, hk => by omega
theorem cut_col {p : Pasture} (h : vP p = true) {c : Nat} (hc : c < p.Wide.toNat) : ∀ (n y k : Nat) (acc : Int), y + n = p.High.toNat → n < k → 0 ≤ acc → acc ≤ 200000 + 1000 * y → spec_CutColumn.l2 p ((c + 1 : Nat) : Int) k acc (y : Int) = some (acc + sumTo (fun i => gG p (y + i) c) n)
  | 0, y, k + 1, acc, hy, hk, h0, h1 => by
    obtain ⟨w1, w2⟩ := okW_iff.1 (vP_okW h)
    rw [spec_CutColumn.l2, if_neg (by omega)]; simp [sumTo]
  | n + 1, y, k + 1, acc, hy, hk, h0, h1 => by
    obtain ⟨w1, w2⟩ := okW_iff.1 (vP_okW h)
    have hg := (vP_G h (show y < 10 by omega) (show c < 10 by omega)).1
    have e0 : gA (gR p.Grass y) c = gG p y c := rfl
    have e1 : IntKind.i64.wrap (((c + 1 : Nat) : Int) - 1) = (c : Int) := by rw [w64 (by omega) (by omega)]; omega
    rw [spec_CutColumn.l2, if_pos (by omega), getR p.Grass (show y < 10 by omega), Option.bind_some, e1, getA (gR p.Grass y) (show c < 10 by omega), Option.bind_some, e0, w64 (show -9223372036854775808 ≤ gG p y c by omega) (by omega), w64 (show -9223372036854775808 ≤ acc + gG p y c by omega) (by omega),
      w8 (show -128 ≤ (y : Int) + 1 by omega) (by omega), show (y : Int) + 1 = ((y + 1 : Nat) : Int) by omega, cut_col h hc n (y + 1) k _ (by omega) (by omega) (by omega) (by omega), sumTo_succ' (fun i => gG p (y + i) c) n]
    have : (fun i => gG p (y + (i + 1)) c) = fun i => gG p (y + 1 + i) c := by funext i; rw [show y + (i + 1) = y + 1 + i by omega]
    rw [this]
    simp only [Nat.add_zero]
    congr 1; omega
  | _, _, 0, _, _, hk, _, _ => by omega
theorem max_eq (x y : Int) : spec_l00Max.f x y = some (if x < y then y else x) := by
  unfold spec_l00Max.f
  by_cases h : y < x
  · rw [if_pos h, if_neg (by omega)]
  · rw [if_neg h]
    by_cases h2 : x < y
    · rw [if_pos h2]
    · rw [if_neg h2]; congr 1; omega
theorem westS_zero (p : Pasture) : westS p 0 = 0 := by unfold westS; exact sumTo_nil _ fun i hi => rfl
theorem cut_spec {p : Pasture} (h : vP p = true) {a b : Int} (ha : 0 ≤ a ∧ a ≤ 1000000) (hb : 0 ≤ b ∧ b ≤ 1000000) : ∀ (n c k : Nat) (x y w : Int), c + n = p.Wide.toNat + 1 → n + 20 < k → ((x < 0 ∧ c = 0) ∨ (0 ≤ x ∧ 0 ≤ y)) → w = westS p (c - 1) →
    spec_CutColumn.l1 p a b (westS p p.Wide.toNat) k w x y (c : Int) = some (cutF p a b c n (x, if x < 0 then -1 else y)).1
  | 0, c, k + 1, x, y, w, hc, hk, hxy, hw => by
    obtain ⟨w1, w2⟩ := okW_iff.1 (vP_okW h)
    rw [spec_CutColumn.l1, if_neg (by rw [w64 (by omega) (by omega)]; omega)]; rfl
  | n + 1, c, k + 1, x, y, w, hc, hk, hxy, hw => by
    obtain ⟨w1, w2⟩ := okW_iff.1 (vP_okW h)
    obtain ⟨e1, e2⟩ := cut_wraps h ha hb (c := c) (by omega)
    have e3 : (if westS p c * b - (westS p p.Wide.toNat - westS p c) * a < 0 - (westS p c * b - (westS p p.Wide.toNat - westS p c) * a) then 0 - (westS p c * b - (westS p p.Wide.toNat - westS p c) * a) else westS p c * b - (westS p p.Wide.toNat - westS p c) * a) = cutN p a b c := rfl
    have e4 : IntKind.i64.wrap ((c : Int) + 1) = ((c + 1 : Nat) : Int) := by rw [w64 (by omega) (by omega)]; omega
    have hn := cutN_nonneg p a b c
    have body : ∀ w', w' = westS p c → ((spec_l00Max.f (IntKind.i64.wrap ((IntKind.i64.wrap (w' * b)) - (IntKind.i64.wrap ((IntKind.i64.wrap ((westS p p.Wide.toNat) - w')) * a)))) (IntKind.i64.wrap (0 - (IntKind.i64.wrap ((IntKind.i64.wrap (w' * b)) - (IntKind.i64.wrap ((IntKind.i64.wrap ((westS p p.Wide.toNat) - w')) * a))))))).bind fun t22 => if x < 0 then (some (w', (c : Int), t22)) else (if t22 < y then (some (w', (c : Int), t22)) else (some (w', x, y)))) = some (westS p c, if x < 0 ∨ cutN p a b c < y then ((c : Int), cutN p a b c) else (x, y)) := by
      rintro w' rfl
      simp only [e1, e2, max_eq, e3, Option.bind_some]
      by_cases h1 : x < 0
      · rw [if_pos h1, if_pos (.inl h1)]
      · rw [if_neg h1]
        by_cases h2 : cutN p a b c < y
        · rw [if_pos h2, if_pos (.inr h2)]
        · rw [if_neg h2, if_neg (by omega)]
    have key : (if (0 : Int) < (c : Int) then ((spec_CutColumn.l2 p (c : Int) k w 0).bind fun y16 => (spec_l00Max.f (IntKind.i64.wrap ((IntKind.i64.wrap (y16 * b)) - (IntKind.i64.wrap ((IntKind.i64.wrap ((westS p p.Wide.toNat) - y16)) * a)))) (IntKind.i64.wrap (0 - (IntKind.i64.wrap ((IntKind.i64.wrap (y16 * b)) - (IntKind.i64.wrap ((IntKind.i64.wrap ((westS p p.Wide.toNat) - y16)) * a))))))).bind fun t21 => if x < 0 then (some (y16, (c : Int), t21)) else (if t21 < y then (some (y16, (c : Int), t21)) else (some (y16, x, y))))
        else ((spec_l00Max.f (IntKind.i64.wrap ((IntKind.i64.wrap (w * b)) - (IntKind.i64.wrap ((IntKind.i64.wrap ((westS p p.Wide.toNat) - w)) * a)))) (IntKind.i64.wrap (0 - (IntKind.i64.wrap ((IntKind.i64.wrap (w * b)) - (IntKind.i64.wrap ((IntKind.i64.wrap ((westS p p.Wide.toNat) - w)) * a))))))).bind fun t22 => if x < 0 then (some (w, (c : Int), t22)) else (if t22 < y then (some (w, (c : Int), t22)) else (some (w, x, y))))) = some (westS p c, if x < 0 ∨ cutN p a b c < y then ((c : Int), cutN p a b c) else (x, y)) := by
      cases c with
      | zero => rw [if_neg (by omega)]; exact body w hw
      | succ c =>
        have hw2 := westS_le h (c := c) (by omega)
        simp only [Nat.add_sub_cancel] at hw
        have hr := cut_col h (c := c) (by omega) p.High.toNat 0 k w (by omega) (by omega) (by omega) (by omega)
        rw [show ((0 : Nat) : Int) = 0 from rfl] at hr
        rw [if_pos (by omega), hr, Option.bind_some]
        refine body _ ?_
        rw [hw, westS_succ]
        simp only [Nat.zero_add]
    rw [spec_CutColumn.l1, if_pos (by rw [w64 (by omega) (by omega)]; omega), key, Option.bind_some]
    have ih := fun x y hxy => cut_spec h ha hb n (c + 1) k x y (westS p c) (by omega) (by omega) hxy rfl
    simp only [e4, cutF]
    by_cases h1 : x < 0 ∨ cutN p a b c < y
    · have h5 : (if x < 0 then (-1 : Int) else y) < 0 ∨ cutN p a b c < (if x < 0 then (-1 : Int) else y) := by
        by_cases hx : x < 0
        · rw [if_pos hx]; exact .inl (by omega)
        · rw [if_neg hx]; exact .inr (by rcases h1 with h1 | h1 <;> omega)
      rw [if_pos h1, if_pos h5]
      rw [ih _ _ (.inr ⟨by omega, hn⟩), if_neg (by omega)]
    · rw [if_neg h1]
      have h2 : ¬ x < 0 := fun hx => h1 (.inl hx)
      have h3 : 0 ≤ y := by rcases hxy with h4 | h4 <;> omega
      rw [if_neg h2, if_neg (by intro h5; rcases h5 with h5 | h5 <;> omega)]
      rw [ih _ _ (.inr ⟨by omega, h3⟩), if_neg h2]
  | _, _, 0, _, _, _, _, hk, _, _ => by omega
theorem cut_ev {p : Pasture} (v : VPasture p) (a b : Int) : ∃ r : Int × Int, Ev (fun k => spec_CutColumn.f k p a b) r ∧ Ev (fun k => impl_CutColumn.f k p a b) r := by
  cases hv : vP p
  · refine ⟨(0, 1), (specOk_ev v).bind ?_, (implOk_ev v).bind ?_⟩ <;> rw [hv] <;> exact Ev.const rfl
  · by_cases ha : 0 ≤ a ∧ a ≤ 1000000
    · by_cases hb : 0 ≤ b ∧ b ≤ 1000000
      · by_cases hz : a = 0 ∧ b = 0
        · refine ⟨(0, 4), (specOk_ev v).bind ?_, (implOk_ev v).bind ?_⟩ <;> rw [hv] <;> exact ⟨0, fun k _ => by simp [l00In_eq, within_eq, hz.1, hz.2]⟩
        · obtain ⟨w1, w2⟩ := okW_iff.1 (vP_okW hv)
          have hz' : ((if a = 0 then some (decide (b = 0)) else some false) : Option Bool) = some false := by
            by_cases h1 : a = 0
            · rw [if_pos h1]; congr 1; simp; exact fun h2 => hz ⟨h1, h2⟩
            · rw [if_neg h1]
          have hg : sumL p (gridF (fun _ _ => true) p.Wide.toNat 0 p.High.toNat) = westS p p.Wide.toNat := by
            rw [sumL_grid]; unfold westS; simp
          have hlen := gridF_len (fun _ _ => true) p.Wide.toNat p.High.toNat 0
          have hlen2 : p.High.toNat * p.Wide.toNat ≤ 10 * 10 := Nat.mul_le_mul (by omega) (by omega)
          refine ⟨((cutF p a b 0 (p.Wide.toNat + 1) (-1, -1)).1, 0), (specOk_ev v).bind ?_, (implOk_ev v).bind ?_⟩
          · rw [hv]
            refine ⟨300, fun k hk => ?_⟩
            have h1 := cut_spec hv ha hb (p.Wide.toNat + 1) 0 k (-1) 0 0 (by omega) (by omega) (.inl ⟨by omega, rfl⟩) (westS_zero p).symm
            rw [show ((0 : Nat) : Int) = 0 from rfl, if_pos (by omega)] at h1
            simp only [l00In_eq, ha, hb, decide_true, Bool.not_true, Bool.false_eq_true, if_false, Option.bind_some, and_self, hz', specSum_eq hv (show 24 ≤ k by omega), h1]
          · rw [hv]
            refine ⟨400, fun k hk => ?_⟩
            have hcf : ∀ (n c : Nat) (y : Int), y < 0 → (cutF p a b c n (0, y)).1 = (cutF p a b c n (0, -1)).1 := by
              intro n c y hy
              cases n with
              | zero => rfl
              | succ n => simp only [cutF, if_pos (Or.inl hy : y < 0 ∨ _), if_pos (Or.inl (by omega) : (-1 : Int) < 0 ∨ _)]
            have h1 := cut_impl hv ha hb (p.Wide.toNat + 1) 0 k 0 (-1) (by omega) (by omega)
            rw [show ((0 : Nat) : Int) = 0 from rfl] at h1
            have h2 : cutF p a b 0 (p.Wide.toNat + 1) (0, -1) = cutF p a b 0 (p.Wide.toNat + 1) (-1, -1) := by
              simp only [cutF, if_pos (Or.inl (by omega) : (-1 : Int) < 0 ∨ _)]
            have hs := sumOf_eq hv (gridF (fun _ _ => true) p.Wide.toNat 0 p.High.toNat) (grid_cellIn (by omega) (by omega)) (by omega) (k := k) (by omega)
            rw [hg] at hs
            simp only [within_eq, ha, hb, decide_true, Bool.not_true, Bool.false_eq_true, if_false, Option.bind_some, and_self, hz', all_eq (vP_okW hv) (show 24 ≤ k by omega), hs, h1, h2]
      · refine ⟨(0, 2), (specOk_ev v).bind ?_, (implOk_ev v).bind ?_⟩ <;> rw [hv] <;> exact ⟨0, fun k _ => by simp [l00In_eq, within_eq, ha, hb]⟩
    · refine ⟨(0, 2), (specOk_ev v).bind ?_, (implOk_ev v).bind ?_⟩ <;> rw [hv] <;> exact ⟨0, fun k _ => by simp [l00In_eq, within_eq, ha]⟩
theorem FnExactCutColumn.pure (x0 : Pasture) (hv0 : VPasture x0) (x1 : Int) (hv1 : inI .i64 x1) (x2 : Int) (hv2 : inI .i64 x2) : ∃ k, laws_FnExactCutColumn.f k x0 x1 x2 = some true := by
  refine Ev.get (r := true) ?_
  obtain ⟨⟨r, c⟩, h1, h2⟩ := cut_ev hv0 x1 x2
  have ht := laws_toPasture_ev x0
  exact ht.bind (h1.bind (ht.bind (h2.bind (Ev.neg (by simp) (Ev.neg (by simp) (Ev.const rfl))))))
end Go.Proofs.Ytpaciifeklccfaa
