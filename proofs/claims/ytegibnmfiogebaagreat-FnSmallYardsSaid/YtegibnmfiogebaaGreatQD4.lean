
/-
  Plain law: how far cells lie: both searches whole; the first strange sight.
-/
import Derived.Test.YtegibnmfiogebaaGreatQD2
namespace Go.Proofs.YtegibnmfiogebaaGreat
open G
set_option linter.unusedVariables false
set_option linter.unusedSimpArgs false
/-! ### The tables at the begin -/
theorem row_ev {y : Nat} (hy : y < 10) : ∀ x, x ≤ 10 → ∀ m : Tb, ∃ m' : Tb, (∀ y' x', y' < 10 → x' < 10 → g2 m' y' x' = if y = y' ∧ x ≤ x' then -1 else g2 m y' x') ∧ Ev (fun k => impl_Pasture_far.l2 (y : Int) k m (x : Int)) m' := by
 refine upL ?_ ?_
 ·intro m
  exact ⟨m, fun y' x' hy' hx' => by rw [if_neg (fun e => by omega)], Ev.step (fun k => impl_Pasture_far.l2.eq_2 _ _ _ _) (Ev.neg (by omega) (Ev.const rfl))⟩
 intro x hx ih m
 obtain ⟨m', h1, h2⟩ := ih (put2 m y x (-1))
 rw [← wsucc hx (by omega)] at h2
 refine ⟨m', fun y' x' hy' hx' => ?_, Ev.step (fun k => impl_Pasture_far.l2.eq_2 _ _ _ _) (Ev.pos (by omega) (Ev.bind (Ev.const (getR m hy)) (Ev.bind (Ev.const (getA _ hx)) h2)))⟩
 rw [h1 y' x' hy' hx', g2_put m hy hx]
 by_cases e1 : y = y'
 ·by_cases e2 : x + 1 ≤ x'
  ·rw [if_pos ⟨e1, e2⟩, if_pos ⟨e1, by omega⟩]
  rw [if_neg (fun e => e2 e.2)]
  by_cases e3 : x = x'
  ·rw [if_pos ⟨e1, e3⟩, if_pos ⟨e1, by omega⟩]
  rw [if_neg (fun e => e3 e.2), if_neg (fun e => by omega)]
 rw [if_neg (fun e => e1 e.1), if_neg (fun e => e1 e.1), if_neg (fun e => e1 e.1)]
theorem tab_ev : ∀ y, y ≤ 10 → ∀ m : Tb, ∃ m' : Tb, (∀ y' x', y' < 10 → x' < 10 → g2 m' y' x' = if y ≤ y' then -1 else g2 m y' x') ∧ Ev (fun k => impl_Pasture_far.l1 k m (y : Int)) m' := by
 refine upL ?_ ?_
 ·intro m
  exact ⟨m, fun y' x' hy' hx' => by rw [if_neg (by omega)], Ev.step (fun k => impl_Pasture_far.l1.eq_2 _ _ _) (Ev.neg (by omega) (Ev.const rfl))⟩
 intro y hy ih m
 obtain ⟨m1, a1, a2⟩ := row_ev hy 0 (Nat.zero_le _) m
 obtain ⟨m', h1, h2⟩ := ih m1
 rw [← wsucc hy (by omega)] at h2
 refine ⟨m', fun y' x' hy' hx' => ?_, Ev.step (fun k => impl_Pasture_far.l1.eq_2 _ _ _) (Ev.pos (by omega) (Ev.bind (Ev.bind a2 (Ev.const rfl)) h2))⟩
 rw [h1 y' x' hy' hx', a1 y' x' hy' hx']
 by_cases e1 : y + 1 ≤ y'
 ·rw [if_pos e1, if_pos (by omega)]
 rw [if_neg e1]
 by_cases e2 : y = y'
 ·rw [if_pos ⟨e2, Nat.zero_le _⟩, if_pos (by omega)]
 rw [if_neg (fun e => e2 e.1), if_neg (by omega)]
theorem g2_zero {y x : Nat} (hy : y < 10) (hx : x < 10) : g2 (Arr.mk' (Arr.mk' 0 : Arr 10 Int) : Tb) y x = 0 := by
 have : ∀ a b : Fin 10, g2 (Arr.mk' (Arr.mk' 0 : Arr 10 Int) : Tb) a b = 0 := by decide
 exact this ⟨y, hy⟩ ⟨x, hx⟩
theorem fr1_all {m : Tb} (h : ∀ y x, y < 10 → x < 10 → g2 m y x < 0) {y : Nat} (hy : y < 10) : ∀ n, n ≤ 10 → fr1 m y n = n
  | 0, _ => rfl
  | n + 1, hn => by rw [fr1, fr1_all h hy n (by omega), if_pos (h y n hy (by omega))]
theorem frA_all {m : Tb} (h : ∀ y x, y < 10 → x < 10 → g2 m y x < 0) : ∀ n, n ≤ 10 → frA m n = n * 10
  | 0, _ => rfl
  | n + 1, hn => by rw [frA, frA_all h n (by omega), fr1_all h (by omega) 10 (Nat.le_refl _)]; omega
/-- Both searches from one cell. -/
theorem far_ev {p : Pasture} (v : VPasture p) (hw : okW p = true) {x y : Nat} (hx : x < 10) (hy : y < 10) : ∃ m n : Tb, (∀ y x, y < 10 → x < 10 → g2 n y x = g2 m y x + 1 ∧ -1 ≤ g2 m y x ∧ g2 m y x ≤ 101) ∧ Ev (fun k => impl_Pasture_far.f k p ([sp x y] : List Spot)) m ∧ Ev (fun k => spec_l01Steps.f k p (sp x y)) n := by
 obtain ⟨m0, a1, a2⟩ := tab_ev 0 (Nat.zero_le _) (Arr.mk' (Arr.mk' 0 : Arr 10 Int) : Tb)
 have hneg : ∀ y x, y < 10 → x < 10 → g2 m0 y x < 0 := fun y x hy hx => by rw [a1 y x hy hx, if_pos (Nat.zero_le _)]; omega
 have hfr := (frA_put m0 hy hx (v := 0) (by omega) (hneg y x hy hx) 10).2 hy
 rw [frA_all hneg 10 (Nat.le_refl _)] at hfr
 have hr : Rl (put2 m0 y x 0) (put2 (Arr.mk' (Arr.mk' 0 : Arr 10 Int) : Tb) y x 1) [sp x y] := by
   refine ⟨fun a b ha hb => ?_, fun a b ha hb => ?_, fun a b ha hb => ?_, ?_, fun s hs => ⟨x, y, hx, hy, List.mem_singleton.1 hs⟩⟩
   · rw [g2_put _ hy hx, g2_put _ hy hx, g2_zero ha hb, a1 a b ha hb, if_pos (Nat.zero_le _)]
     split <;> rfl
   · rw [g2_put _ hy hx, a1 a b ha hb, if_pos (Nat.zero_le _)]
     split <;> omega
   · rw [g2_put _ hy hx, a1 a b ha hb, if_pos (Nat.zero_le _)]
     split <;> simp
   · simp only [List.length_cons, List.length_nil]; omega
 obtain ⟨m, n, h1, h2, h3⟩ := outer v hw 101 0 _ _ _ hr (Nat.zero_le _) (by simp only [List.length_cons, List.length_nil]; omega)
 have hl3 : Ev (fun k => impl_Pasture_far.l3 ([sp x y] : List Spot) k m0 0) (put2 m0 y x 0) := by
   refine Ev.step (fun k => impl_Pasture_far.l3.eq_2 _ _ _ _) (Ev.pos (by simp) (Ev.bind (Ev.const (show _ = some (sp x y) from rfl)) (Ev.bind (Ev.const (getR m0 hy)) (Ev.bind (Ev.const (getA _ hx)) ?_))))
   exact Ev.step (fun k => impl_Pasture_far.l3.eq_2 _ _ _ _) (Ev.neg (by rw [show IntKind.i64.wrap (0 + 1) = 1 from by decide]; simp) (Ev.const rfl))
 exact ⟨m, n, h1, a2.bind (hl3.bind (Ev.bind (Ev.const (show slices_Clone_impl_Spot_impl_Spot.f [sp x y] = some [sp x y] from rfl)) (h2.bind (Ev.const rfl)))),
   Ev.bind (Ev.const (getR _ hy)) (Ev.bind (Ev.const (getA _ hx)) (h3.bind (Ev.const rfl)))⟩
/-! ### The first strange sight -/
end Go.Proofs.YtegibnmfiogebaaGreat
