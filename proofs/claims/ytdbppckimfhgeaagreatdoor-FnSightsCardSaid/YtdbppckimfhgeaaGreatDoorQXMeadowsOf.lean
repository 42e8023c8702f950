
/-
  Plain law: MeadowsOf of the program and of the reference answer alike.
-/
import Derived.Test.YtdbppckimfhgeaaGreatDoorQYe
namespace Go.Proofs.YtdbppckimfhgeaaGreatDoor
open G
set_option linter.unusedVariables false
set_option linter.unusedSimpArgs false
/-! ### Grass -/
def sumW (p : Pasture) : Int → List Spot → Int
  | a, [] => a
  | a, s :: l => sumW p (IntKind.i64.wrap (a + IntKind.i64.wrap (gG p s.Y.toNat s.X.toNat))) l
theorem implSum_loop {p : Pasture} (Y : List Spot) (hl : Y.length ≤ 100) (hm : ∀ s ∈ Y, ∃ x y : Nat, x < 10 ∧ y < 10 ∧ s = sp x y) : ∀ i, i ≤ Y.length → ∀ a : Int, Ev (fun k => impl_Pasture_sumOf.l1 p Y k a (i : Int)) (sumW p a (Y.drop i)) := by
  refine upL ?_ ?_
  · intro a
    rw [List.drop_length]
    exact Ev.step (fun k => impl_Pasture_sumOf.l1.eq_2 _ _ _ _ _) (Ev.neg (by omega) (Ev.const rfl))
  · intro i hi ih a
    obtain ⟨x, y, hx, hy, e⟩ := hm _ (List.getElem_mem hi)
    have ih := ih (IntKind.i64.wrap (a + IntKind.i64.wrap (gG p y x)))
    rw [← wsucc hi (by omega)] at ih
    have hg : getI Y (i : Int) = some (sp x y) := by rw [getI_nat hi, e]
    have hgr : impl_Pasture_grass.f p (sp x y) = some (IntKind.i64.wrap (gG p y x)) := by
      unfold impl_Pasture_grass.f
      show (getI p.Grass.l ((y : Nat) : Int)).bind _ = _
      rw [getR p.Grass hy, Option.bind_some]
      show (getI (gR p.Grass y).l ((x : Nat) : Int)).bind _ = _
      rw [getA _ hx]; rfl
    refine Ev.step (fun k => impl_Pasture_sumOf.l1.eq_2 _ _ _ _ _) (Ev.pos (by omega) (Ev.bind (Ev.const hg) (Ev.bind (Ev.const hgr) ?_)))
    rw [List.drop_eq_getElem_cons hi, e]
    exact ih
def mn (x : Int) : Int := if 1000 < x then 1000 else x
theorem min_eq (x : Int) : spec_l00Min.f 1000 x = some (mn x) := by
  unfold spec_l00Min.f mn
  split <;> rfl
def mOf (p : Pasture) (g : Int) (Y : List Spot) : Meadow := (⟨IntKind.i16.wrap (mn (sumW p 0 Y)), IntKind.i16.wrap (mn (IntKind.i64.wrap (g * (Y.length : Int)))), 1000⟩ : Meadow)
theorem yard_cells {p : Pasture} (hw : okW p = true) {Y : List Spot} (h : isYard p Y) : (∀ s ∈ Y, ∃ x y : Nat, x < 10 ∧ y < 10 ∧ s = sp x y) ∧ (∀ s ∈ Y, VSpot s) ∧ okC p Y = true := by
  obtain ⟨a, b⟩ := okW_iff.1 hw
  have hm : ∀ s ∈ Y, ∃ x y : Nat, x < p.Wide.toNat ∧ y < p.High.toNat ∧ s = sp x y := fun s hs => isYard_mem h hs
  refine ⟨fun s hs => ?_, fun s hs => ?_, List.all_eq_true.2 fun s hs => ?_⟩
  · obtain ⟨x, y, h1, h2, h3⟩ := hm s hs
    exact ⟨x, y, by omega, by omega, h3⟩
  · obtain ⟨x, y, h1, h2, rfl⟩ := hm s hs
    exact VSpot_nat (by omega) (by omega)
  · obtain ⟨x, y, h1, h2, rfl⟩ := hm s hs
    unfold cellB sp
    rw [Bool.and_eq_true, decide_eq_true_eq, decide_eq_true_eq]
    exact ⟨⟨by show (0 : Int) ≤ (x : Int); omega, by show (x : Int) < p.Wide; omega⟩, by show (0 : Int) ≤ (y : Int); omega, by show (y : Int) < p.High; omega⟩
theorem implMeadows_loop {p : Pasture} (hw : okW p = true) (g : Int) (ys : List (List Spot)) (hy : ∀ Y ∈ ys, isYard p Y) (hl : ys.length ≤ 100) : ∀ i, i ≤ ys.length → ∀ out : List Meadow, out.length ≤ i → Ev (fun k => impl_MeadowsOf.l1 p g ys k out (i : Int)) (out ++ (ys.drop i).map (mOf p g)) := by
  refine upL ?_ ?_
  · intro out ho
    rw [List.drop_length]
    exact Ev.step (fun k => impl_MeadowsOf.l1.eq_2 _ _ _ _ _ _) (Ev.neg (by omega) (Ev.const (by simp)))
  · intro i hi ih out ho
    have hY := hy _ (List.getElem_mem hi)
    obtain ⟨c1, c2, c3⟩ := yard_cells hw hY
    have yl := isYard_len hw hY
    have hs := implSum_loop (p := p) ys[i] yl c1 0 (Nat.zero_le _) 0
    rw [List.drop_zero] at hs
    have hgr : Ev (fun k => impl_Pasture_sumOf.f k p ys[i]) (sumW p 0 ys[i]) := Ev.bind hs (Ev.const rfl)
    have hg : getI ys (i : Int) = some ys[i] := getI_nat hi
    have ih := ih (out ++ [mOf p g ys[i]]) (by simp; omega)
    rw [← wsucc hi (by omega), List.append_assoc] at ih
    refine Ev.step (fun k => impl_MeadowsOf.l1.eq_2 _ _ _ _ _ _) (Ev.pos (by omega) (Ev.bind (Ev.const hg) (hgr.bind (Ev.bind (Ev.const (show impl_size_impl_Spot.f ys[i] = some (ys[i].length : Int) from rfl)) (Ev.bind (Ev.const (chk_t (by simp; omega))) ?_)))))
    rw [List.drop_eq_getElem_cons hi, List.map_cons]
    exact ih
theorem first2 (a b : Int) : Ev (fun k => impl_firstOf.f k ([a, b] : List Int)) (if a ≠ 0 then a else b) := by
  have w0 : IntKind.i64.wrap (0 + 1) = 1 := by decide
  have w1 : IntKind.i64.wrap (1 + 1) = 2 := by decide
  have g0 : getI ([a, b] : List Int) 0 = some a := rfl
  have g1 : getI ([a, b] : List Int) 1 = some b := rfl
  have l2 : Ev (fun k => impl_firstOf.l1 ([a, b] : List Int) k 2) (.inr ()) := Ev.step (fun k => impl_firstOf.l1.eq_2 _ _ _) (Ev.neg (by simp) (Ev.const rfl))
  have l1 : Ev (fun k => impl_firstOf.l1 ([a, b] : List Int) k 1) (if b ≠ 0 then .inl b else .inr ()) := by
    refine Ev.step (fun k => impl_firstOf.l1.eq_2 _ _ _) (Ev.pos (by simp) (Ev.bind (Ev.const g1) ?_))
    rw [w1]
    by_cases hb : b ≠ 0
    · rw [if_pos hb]; exact Ev.pos hb (Ev.const rfl)
    · rw [if_neg hb]; exact Ev.neg hb l2
  have l0 : Ev (fun k => impl_firstOf.l1 ([a, b] : List Int) k 0) (if a ≠ 0 then .inl a else if b ≠ 0 then .inl b else .inr ()) := by
    refine Ev.step (fun k => impl_firstOf.l1.eq_2 _ _ _) (Ev.pos (by simp) (Ev.bind (Ev.const g0) ?_))
    rw [w0]
    by_cases ha : a ≠ 0
    · rw [if_pos ha]; exact Ev.pos ha (Ev.const rfl)
    · rw [if_neg ha]; exact Ev.neg ha l1
  refine Ev.bind l0 ?_
  by_cases ha : a ≠ 0
  · rw [if_pos ha, if_pos ha]; exact Ev.const rfl
  · rw [if_neg ha, if_neg ha]
    by_cases hb : b ≠ 0
    · rw [if_pos hb]; exact Ev.const rfl
    · have hb0 : b = 0 := by omega
      rw [if_neg hb, hb0]; exact Ev.const rfl
/-! ### Marks -/
theorem at_app {α : Type} {x : α} : ∀ (d r : List α), getI (d ++ x :: r) (d.length : Int) = some x := fun d r => by
  rw [getI_nat (by simp)]
  simp
theorem set_app1 {α : Type} {x y : α} : ∀ (d r : List α), (d ++ x :: r).set d.length y = d ++ y :: r
  | [], r => rfl
  | a :: d, r => by simp [set_app1 d r]
def mk3 (m : Int) : Meadow := (⟨IntKind.i16.wrap m, IntKind.i16.wrap (m + 1), IntKind.i16.wrap (m + 2)⟩ : Meadow)
def mkS : Int → Nat → List Meadow
  | _, 0 => []
  | m, n + 1 => mk3 m :: mkS (m + 3) n
end Go.Proofs.YtdbppckimfhgeaaGreatDoor
