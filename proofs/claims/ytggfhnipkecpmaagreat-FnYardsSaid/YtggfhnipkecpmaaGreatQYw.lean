
/-
  Plain laws: yards part the pasture: each cell lies in one of them, and the table tells its number.
-/
import Derived.Test.YtggfhnipkecpmaaGreatQYe
import Derived.Test.YtggfhnipkecpmaaGreatQDp
namespace Go.Proofs.YtggfhnipkecpmaaGreat
open G
set_option linter.unusedVariables false
set_option linter.unusedSimpArgs false
def shutY (p : Pasture) (Y : List Spot) : Prop := ∀ y x y' x', y < 10 → x < 10 → sp x y ∈ Y → stepP p y x y' x' → sp x' y' ∈ Y
theorem yard2_ev {p : Pasture} (v : VPasture p) (hw : okW p = true) {x y : Nat} (hx : x < p.Wide.toNat) (hy : y < p.High.toNat) : ∃ Y : List Spot, isYard p Y ∧ shutY p Y ∧ sp x y ∈ Y ∧ (∀ T : Nat → Nat → Prop, closedT p T → T y x → ∀ b a, b < 10 → a < 10 → sp a b ∈ Y → T b a) ∧ Ev (fun k => spec_l01Yard.f k p (sp x y)) Y ∧ Ev (fun k => impl_Pasture_yard.f k p (sp x y)) Y := by
  obtain ⟨a, b⟩ := okW_iff.1 hw
  have hx10 : x < 10 := by omega
  have hy10 : y < 10 := by omega
  obtain ⟨m, n, h1, h2, h3⟩ := far_ev v hw hx10 hy10
  obtain ⟨m2, e1, e2, e3, e4⟩ := far2_ev v hw hx10 hy10
  obtain rfl := Ev.eq h2 e1
  have hc : ∀ k, 24 ≤ k → impl_Pasture_cells.f k p (impl_Pasture_yard_1.f m) = some (gridF (fun y x => decide (0 ≤ g2 m y x)) p.Wide.toNat 0 p.High.toNat) := fun k hk => cells_eq hw (fun y x hy hx => by
    have := h1 y x (by omega) (by omega)
    unfold impl_Pasture_yard_1.f impl_steps_at.f
    rw [getR m (show y < 10 by omega), Option.bind_some, getA _ (show x < 10 by omega), Option.bind_some]
    show some (decide (0 ≤ IntKind.i64.wrap (g2 m y x))) = _
    rw [w64 (by omega) (by omega)]) hk
  have hI : Ev (fun k => impl_Pasture_yard.f k p (sp x y)) (gridF (fun y x => decide (0 ≤ g2 m y x)) p.Wide.toNat 0 p.High.toNat) := h2.bind (Ev.bind ⟨24, hc⟩ (Ev.const rfl))
  obtain ⟨Y, y1, y2, y3⟩ := yard_ev v hw hx10 hy10
  obtain rfl := Ev.eq y3 hI
  have mem : ∀ b a, sp a b ∈ gridF (fun y x => decide (0 ≤ g2 m y x)) p.Wide.toNat 0 p.High.toNat ↔ b < p.High.toNat ∧ a < p.Wide.toNat ∧ 0 ≤ g2 m b a := fun b a => by
    rw [gridF_mem]
    constructor
    · rintro ⟨i, j, c1, c2, c3, c4, c5⟩
      obtain ⟨rfl, rfl⟩ := sp_inj' (x := a) (y := b) (x' := j) (y' := i) c5
      exact ⟨by omega, c3, of_decide_eq_true c4⟩
    · rintro ⟨c1, c2, c3⟩
      exact ⟨b, a, Nat.zero_le _, by omega, c2, decide_eq_true c3, rfl⟩
  refine ⟨_, y1, fun b' a' b2 a2 hb ha hm hs => ?_, (mem y x).2 ⟨hy, hx, e2⟩, fun T hT h0 b2 a2 hb ha hm => e4 T hT h0 b2 a2 hb ha ((mem b2 a2).1 hm).2.2, y2, y3⟩
  have hm := (mem b' a').1 hm
  have hg := e3 b' a' b2 a2 hb ha hm.2.2 hs
  obtain ⟨hb2, ha2, i, hi, ho, e⟩ := hs
  unfold openB at ho
  rw [Bool.and_eq_true, e] at ho
  have hcb := ho.1
  unfold cellB sp at hcb
  simp only [Bool.and_eq_true, decide_eq_true_eq] at hcb
  exact (mem b2 a2).2 ⟨by omega, by omega, hg⟩
theorem cellB_sp {p : Pasture} (hw : okW p = true) {x y : Nat} : cellB p (x : Int) (y : Int) = true ↔ x < p.Wide.toNat ∧ y < p.High.toNat := by
  obtain ⟨a, b⟩ := okW_iff.1 hw
  unfold cellB
  simp only [Bool.and_eq_true, decide_eq_true_eq]
  omega
/-- A yard from a cell that is in no part of what is shut shares no cell with it. -/
theorem apart {p : Pasture} (hw : okW p = true) {x y : Nat} (hx : x < p.Wide.toNat) (hy : y < p.High.toNat) {Y Z : List Spot} (hm : ∀ T : Nat → Nat → Prop, closedT p T → T y x → ∀ b a, b < 10 → a < 10 → sp a b ∈ Y → T b a) (hZ : shutY p Z) (h0 : sp x y ∉ Z) : ∀ b a, b < 10 → a < 10 → sp a b ∈ Y → sp a b ∉ Z := by
  intro b a hb ha hY
  refine (hm (fun b a => cellB p (a : Int) (b : Int) = true ∧ sp a b ∉ Z) (fun y1 x1 y2 x2 hy1 hx1 hT hs => ⟨?_, fun hz => ?_⟩) ⟨(cellB_sp hw).2 ⟨hx, hy⟩, h0⟩ b a hb ha hY).2
  · obtain ⟨_, _, i, hi, ho, e⟩ := hs
    unfold openB at ho
    rw [Bool.and_eq_true, e] at ho
    exact ho.1
  · exact hT.2 (hZ y2 x2 y1 x1 hs.1 hs.2.1 hz (step_back hw hy1 hx1 hT.1 hs))
structure Tell2 (p : Pasture) (tab : Tb) (met : List Spot) (ys : List (List Spot)) : Prop where
  tab_met : ∀ y x, y < 10 → x < 10 → (0 < g2 tab y x ↔ sp x y ∈ met)
  num : ∀ (n : Nat) (Y : List Spot), ys[n]? = some Y → ∀ y x, y < 10 → x < 10 → sp x y ∈ Y → g2 tab y x = ((n + 1 : Nat) : Int)
  met_in : ∀ s ∈ met, ∃ (n : Nat) (Y : List Spot), ys[n]? = some Y ∧ s ∈ Y
  in_met : ∀ Y ∈ ys, ∀ s ∈ Y, s ∈ met
  yard : ∀ Y ∈ ys, isYard p Y ∧ shutY p Y
theorem yards2_row {p : Pasture} (v : VPasture p) (hw : okW p = true) {W H : Nat} (hW : p.Wide = (W : Int)) (hW' : W ≤ 10) (hH : p.High = (H : Int)) (hH' : H ≤ 10) {y : Nat} (hy : y < H) : ∀ x, x ≤ W → ∀ (tab : Tb) (met : List Spot) (ys : List (List Spot)), Tell2 p tab met ys → ys.length ≤ y * W + x →
    ∃ (tab' : Tb) (met' : List Spot) (ys' : List (List Spot)), Tell2 p tab' met' ys' ∧ ys'.length ≤ (y + 1) * W ∧ (∀ s, s ∈ met → s ∈ met') ∧ (∀ j, x ≤ j → j < W → sp j y ∈ met') ∧ Ev (fun k => spec_l01Numbers.l2 p (y : Int) k tab ys (x : Int)) (tab', ys') ∧
    ∀ r, Ev (fun k => impl_Pasture_yards.l1 p (gridF (fun _ _ => true) W 0 H) k ys' met' (((y + 1) * W : Nat) : Int)) r → Ev (fun k => impl_Pasture_yards.l1 p (gridF (fun _ _ => true) W 0 H) k ys met ((y * W + x : Nat) : Int)) r := by
  have hlen := gridT_len W H 0
  have hHW : H * W ≤ 10 * 10 := Nat.mul_le_mul hH' hW'
  have hyW : (y + 1) * W ≤ H * W := Nat.mul_le_mul_right _ hy
  have hyW' : (y + 1) * W = y * W + W := by rw [Nat.add_mul]; omega
  refine upL ?_ ?_
  · intro tab met ys ht hl
    refine ⟨tab, met, ys, ht, by omega, fun s hs => hs, fun j h1 h2 => by omega, Ev.step (fun k => spec_l01Numbers.l2.eq_2 _ _ _ _ _ _) (Ev.neg (by omega) (Ev.const rfl)), fun r hr => ?_⟩
    rw [← hyW']
    exact hr
  · intro x hx ih tab met ys ht hl
    have e : IntKind.i8.wrap ((x : Int) + 1) = ((x + 1 : Nat) : Int) := by rw [w8 (by omega) (by omega)]; omega
    have hget := gridT_get W H 0 y x hy hx
    rw [Nat.zero_add] at hget
    have hi : y * W + x < (gridF (fun _ _ => true) W 0 H).length := by rw [hlen]; omega
    have hgi : getI (gridF (fun _ _ => true) W 0 H) ((y * W + x : Nat) : Int) = some (sp x y) := by
      rw [getI_nat hi]
      rw [List.getElem?_eq_getElem hi] at hget
      exact hget
    have h10 := ht.tab_met y x (by omega) (by omega)
    by_cases hm : sp x y ∈ met
    · obtain ⟨tab', met', ys', a1, a3, a5, a6, a7, a8⟩ := ih tab met ys ht (by omega)
      rw [← e] at a7
      refine ⟨tab', met', ys', a1, a3, a5, fun j h1 h2 => ?_, Ev.step (fun k => spec_l01Numbers.l2.eq_2 _ _ _ _ _ _) (Ev.pos (by omega) (Ev.bind (a := (tab, ys)) (Ev.bind (Ev.const (getR tab (by omega))) (Ev.bind (Ev.const (getA _ (by omega))) (Ev.pos (h10.2 hm) (Ev.const rfl)))) a7)), fun r hr => ?_⟩
      · by_cases hj : j = x
        · subst hj; exact a5 _ hm
        · exact a6 j (by omega) h2
      · have a8 := a8 r hr
        rw [show y * W + (x + 1) = y * W + x + 1 by omega, ← wsucc hi (by omega)] at a8
        exact Ev.step (fun k => impl_Pasture_yards.l1.eq_2 _ _ _ _ _ _) (Ev.pos (by omega) (Ev.bind (a := (ys, met)) (Ev.bind (Ev.const hgi) (Ev.pos hm (Ev.const rfl))) a8))
    · have hxW : x < p.Wide.toNat := by omega
      have hyH : y < p.High.toNat := by omega
      obtain ⟨Y, y1, ysh, yin, ymin, y2, y3⟩ := yard2_ev v hw hxW hyH
      have yl := isYard_len hw y1
      have ym : ∀ s ∈ Y, ∃ x y : Nat, x < 10 ∧ y < 10 ∧ s = sp x y := fun s hs => by
        obtain ⟨a, b, h1, h2, h3⟩ := isYard_mem y1 hs
        exact ⟨a, b, by omega, by omega, h3⟩
      obtain ⟨tab1, t1, t2⟩ := put_loop (ys := ys) ym yl 0 (Nat.zero_le _) tab
      obtain ⟨met1, m1, m2⟩ := met_loop yl 0 (Nat.zero_le _) met
      rw [List.drop_zero] at t2 m2
      have dis : ∀ Z ∈ ys, ∀ b a, b < 10 → a < 10 → sp a b ∈ Y → sp a b ∉ Z := fun Z hZ => apart hw hxW hyH ymin (ht.yard Z hZ).2 fun hz => hm (ht.in_met Z hZ _ hz)
      have ht1 : Tell2 p tab1 met1 (ys ++ [Y]) := by
        refine ⟨fun b a hb ha => ?_, fun n Z hn b a hb ha hz => ?_, fun s hs => ?_, fun Z hZ s hs => ?_, fun Z hZ => ?_⟩
        · rw [t2 b a hb ha, m2]
          by_cases hin : sp a b ∈ Y
          · rw [if_pos hin]
            simp [hin]
          · rw [if_neg hin, ht.tab_met b a hb ha]
            simp [hin]
        · rw [t2 b a hb ha]
          by_cases hlt : n < ys.length
          · rw [List.getElem?_append_left hlt] at hn
            have hZ : Z ∈ ys := List.mem_of_getElem? hn
            rw [if_neg fun hy => dis Z hZ b a hb ha hy hz]
            exact ht.num n Z hn b a hb ha hz
          · rw [List.getElem?_append_right (by omega)] at hn
            have hn0 : n - ys.length = 0 := by
              have := (List.getElem?_eq_some_iff.1 hn).1
              simp at this; omega
            rw [hn0] at hn
            have : Z = Y := by simpa using hn.symm
            subst this
            rw [if_pos hz]
            simp; omega
        · rcases (m2 s).1 hs with h | h
          · obtain ⟨n, Z, h1, h2⟩ := ht.met_in s h
            exact ⟨n, Z, by rw [List.getElem?_append_left (List.getElem?_eq_some_iff.1 h1).1]; exact h1, h2⟩
          · exact ⟨ys.length, Y, by simp, h⟩
        · rcases List.mem_append.1 hZ with h | h
          · exact (m2 s).2 (.inl (ht.in_met Z h s hs))
          · rw [List.mem_singleton.1 h] at hs
            exact (m2 s).2 (.inr hs)
        · rcases List.mem_append.1 hZ with h | h
          · exact ht.yard Z h
          · rw [List.mem_singleton.1 h]; exact ⟨y1, ysh⟩
      obtain ⟨tab', met', ys', a1, a3, a5, a6, a7, a8⟩ := ih tab1 met1 (ys ++ [Y]) ht1 (by simp; omega)
      rw [← e] at a7
      have ca : chk (ys.length + [Y].length ≤ 4294967296) = some () := chk_t (by simp; omega)
      have hneg : ¬ 0 < g2 tab y x := fun h => hm (h10.1 h)
      refine ⟨tab', met', ys', a1, a3, fun s hs => a5 s ((m2 s).2 (.inl hs)), fun j h1 h2 => ?_, Ev.step (fun k => spec_l01Numbers.l2.eq_2 _ _ _ _ _ _) (Ev.pos (by omega) (Ev.bind (a := (tab1, ys ++ [Y])) (Ev.bind (Ev.const (getR tab (by omega))) (Ev.bind (Ev.const (getA _ (by omega))) (Ev.neg hneg (Ev.bind y2 (Ev.bind (Ev.const ca) (Ev.bind t1 (Ev.const rfl))))))) a7)), fun r hr => ?_⟩
      · by_cases hj : j = x
        · subst hj; exact a5 _ ((m2 _).2 (.inr yin))
        · exact a6 j (by omega) h2
      · have a8 := a8 r hr
        rw [show y * W + (x + 1) = y * W + x + 1 by omega, ← wsucc hi (by omega)] at a8
        exact Ev.step (fun k => impl_Pasture_yards.l1.eq_2 _ _ _ _ _ _) (Ev.pos (by omega) (Ev.bind (a := (ys ++ [Y], met1)) (Ev.bind (Ev.const hgi) (Ev.neg hm (Ev.bind y3 (Ev.bind m1 (Ev.bind (Ev.const ca) (Ev.const rfl)))))) a8))
theorem yards2_grid {p : Pasture} (v : VPasture p) (hw : okW p = true) {W H : Nat} (hW : p.Wide = (W : Int)) (hW' : W ≤ 10) (hH : p.High = (H : Int)) (hH' : H ≤ 10) : ∀ y, y ≤ H → ∀ (tab : Tb) (met : List Spot) (ys : List (List Spot)), Tell2 p tab met ys → ys.length ≤ y * W →
    ∃ (tab' : Tb) (met' : List Spot) (ys' : List (List Spot)), Tell2 p tab' met' ys' ∧ ys'.length ≤ 100 ∧ (∀ s, s ∈ met → s ∈ met') ∧ (∀ i j, y ≤ i → i < H → j < W → sp j i ∈ met') ∧ Ev (fun k => spec_l01Numbers.l1 p k tab ys (y : Int)) (tab', ys') ∧ Ev (fun k => impl_Pasture_yards.l1 p (gridF (fun _ _ => true) W 0 H) k ys met ((y * W : Nat) : Int)) ys' := by
  have hlen := gridT_len W H 0
  have hHW : H * W ≤ 10 * 10 := Nat.mul_le_mul hH' hW'
  refine upL ?_ ?_
  · intro tab met ys ht hl
    exact ⟨tab, met, ys, ht, by omega, fun s hs => hs, fun i j h1 h2 h3 => by omega, Ev.step (fun k => spec_l01Numbers.l1.eq_2 _ _ _ _ _) (Ev.neg (by omega) (Ev.const rfl)), Ev.step (fun k => impl_Pasture_yards.l1.eq_2 _ _ _ _ _ _) (Ev.neg (by omega) (Ev.const rfl))⟩
  · intro y hy ih tab met ys ht hl
    have e : IntKind.i8.wrap ((y : Int) + 1) = ((y + 1 : Nat) : Int) := by rw [w8 (by omega) (by omega)]; omega
    obtain ⟨tab1, met1, ys1, b1, b3, b5, b8, b6, b7⟩ := yards2_row v hw hW hW' hH hH' hy 0 (Nat.zero_le _) tab met ys ht (by omega)
    obtain ⟨tab2, met2, ys2, c1, c3, c6, c7, c4, c5⟩ := ih tab1 met1 ys1 b1 b3
    rw [← e] at c4
    refine ⟨tab2, met2, ys2, c1, c3, fun s hs => c6 s (b5 s hs), fun i j h1 h2 h3 => ?_, Ev.step (fun k => spec_l01Numbers.l1.eq_2 _ _ _ _ _) (Ev.pos (by omega) (Ev.bind (Ev.bind b6 (Ev.const rfl)) c4)), b7 _ c5⟩
    by_cases hi : i = y
    · subst hi; exact c6 _ (b8 j (Nat.zero_le _) h3)
    · exact c7 i j (by omega) h2 h3
theorem yards2_ev {p : Pasture} (v : VPasture p) (hw : okW p = true) : ∃ (tab : Tb) (met : List Spot) (ys : List (List Spot)), Tell2 p tab met ys ∧ ys.length ≤ 100 ∧ (∀ y x, y < p.High.toNat → x < p.Wide.toNat → sp x y ∈ met) ∧ Ev (fun k => spec_l01Numbers.f k p) (tab, ys) ∧ Ev (fun k => impl_Pasture_yards.f k p) ys := by
  obtain ⟨a, b⟩ := okW_iff.1 hw
  have t0 : Tell2 p (Arr.mk' (Arr.mk' 0 : Arr 10 Int) : Tb) [] [] := ⟨fun y x hy hx => by rw [g2_zero hy hx]; simp, fun n Y h => by simp at h, fun s hs => by simp at hs, fun Y hY => by simp at hY, fun Y hY => by simp at hY⟩
  obtain ⟨tab, met, ys, c1, c3, c6, c7, c4, c5⟩ := yards2_grid v hw (W := p.Wide.toNat) (H := p.High.toNat) (by omega) (by omega) (by omega) (by omega) 0 (Nat.zero_le _) _ [] [] t0 (by simp)
  rw [Nat.zero_mul] at c5
  exact ⟨tab, met, ys, c1, c3, fun y x hy hx => c7 y x (Nat.zero_le _) hy hx, Ev.bind c4 (Ev.const rfl), Ev.bind ⟨24, fun k hk => all_eq hw hk⟩ (Ev.bind c5 (Ev.const rfl))⟩
end Go.Proofs.YtggfhnipkecpmaaGreat
