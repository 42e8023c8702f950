
/-
  Plain law: how far cells lie: both searches whole; the first strange sight.
-/
import Derived.Test.YtdbppckimfhgeaaGreatDoorQD2
import Derived.Test.YtdbppckimfhgeaaGreatDoorQS
namespace Go.Proofs.YtdbppckimfhgeaaGreatDoor
open G
set_option linter.unusedVariables false
set_option linter.unusedSimpArgs false
/-! ### The tables at the begin -/
theorem row_ev {y : Nat} (hy : y < 10) : ∀ x, x ≤ 10 → ∀ m : Tb, ∃ m' : Tb, (∀ y' x', y' < 10 → x' < 10 → g2 m' y' x' = if y = y' ∧ x ≤ x' then -1 else g2 m y' x') ∧ Ev (fun k => impl_Pasture_far.l2 (y : Int) k m (x : Int)) m' := by
  refine upL ?_ ?_
  · intro m
    exact ⟨m, fun y' x' hy' hx' => by rw [if_neg (fun e => by omega)], Ev.step (fun k => impl_Pasture_far.l2.eq_2 _ _ _ _) (Ev.neg (by omega) (Ev.const rfl))⟩
  · intro x hx ih m
    obtain ⟨m', h1, h2⟩ := ih (put2 m y x (-1))
    rw [← wsucc hx (by omega)] at h2
    refine ⟨m', fun y' x' hy' hx' => ?_, Ev.step (fun k => impl_Pasture_far.l2.eq_2 _ _ _ _) (Ev.pos (by omega) (Ev.bind (Ev.const (getR m hy)) (Ev.bind (Ev.const (getA _ hx)) h2)))⟩
    rw [h1 y' x' hy' hx', g2_put m hy hx]
    by_cases e1 : y = y'
    · by_cases e2 : x + 1 ≤ x'
      · rw [if_pos ⟨e1, e2⟩, if_pos ⟨e1, by omega⟩]
      · rw [if_neg (fun e => e2 e.2)]
        by_cases e3 : x = x'
        · rw [if_pos ⟨e1, e3⟩, if_pos ⟨e1, by omega⟩]
        · rw [if_neg (fun e => e3 e.2), if_neg (fun e => by omega)]
    · rw [if_neg (fun e => e1 e.1), if_neg (fun e => e1 e.1), if_neg (fun e => e1 e.1)]
theorem tab_ev : ∀ y, y ≤ 10 → ∀ m : Tb, ∃ m' : Tb, (∀ y' x', y' < 10 → x' < 10 → g2 m' y' x' = if y ≤ y' then -1 else g2 m y' x') ∧ Ev (fun k => impl_Pasture_far.l1 k m (y : Int)) m' := by
  refine upL ?_ ?_
  · intro m
    exact ⟨m, fun y' x' hy' hx' => by rw [if_neg (by omega)], Ev.step (fun k => impl_Pasture_far.l1.eq_2 _ _ _) (Ev.neg (by omega) (Ev.const rfl))⟩
  · intro y hy ih m
    obtain ⟨m1, a1, a2⟩ := row_ev hy 0 (Nat.zero_le _) m
    obtain ⟨m', h1, h2⟩ := ih m1
    rw [← wsucc hy (by omega)] at h2
    refine ⟨m', fun y' x' hy' hx' => ?_, Ev.step (fun k => impl_Pasture_far.l1.eq_2 _ _ _) (Ev.pos (by omega) (Ev.bind (Ev.bind a2 (Ev.const rfl)) h2))⟩
    rw [h1 y' x' hy' hx', a1 y' x' hy' hx']
    by_cases e1 : y + 1 ≤ y'
    · rw [if_pos e1, if_pos (by omega)]
    · rw [if_neg e1]
      by_cases e2 : y = y'
      · rw [if_pos ⟨e2, Nat.zero_le _⟩, if_pos (by omega)]
      · rw [if_neg (fun e => e2 e.1), if_neg (by omega)]
theorem g2_zero {y x : Nat} (hy : y < 10) (hx : x < 10) : g2 (Arr.mk' (Arr.mk' 0 : Arr 10 Int) : Tb) y x = 0 := by
  have : ∀ a b : Fin 10, g2 (Arr.mk' (Arr.mk' 0 : Arr 10 Int) : Tb) a b = 0 := by decide
  exact this ⟨y, hy⟩ ⟨x, hx⟩
theorem fr1_all {m : Tb} (h : ∀ y x, y < 10 → x < 10 → g2 m y x < 0) {y : Nat} (hy : y < 10) : ∀ n, n ≤ 10 → fr1 m y n = n
  | 0, _ => rfl
  | n + 1, hn => by rw [fr1, fr1_all h hy n (by omega), if_pos (h y n hy (by omega))]
theorem frA_all {m : Tb} (h : ∀ y x, y < 10 → x < 10 → g2 m y x < 0) : ∀ n, n ≤ 10 → frA m n = n * 10
  | 0, _ => rfl
  | n + 1, hn => by rw [frA, frA_all h n (by omega), fr1_all h (by omega) 10 (Nat.le_refl _)]; omega
/-- Both searches from one cell. -/
theorem far_ev {p : Pasture} (v : VPasture p) (hw : okW p = true) {x y : Nat} (hx : x < 10) (hy : y < 10) : ∃ m n : Tb, (∀ y x, y < 10 → x < 10 → g2 n y x = g2 m y x + 1 ∧ -1 ≤ g2 m y x ∧ g2 m y x ≤ 101) ∧ Ev (fun k => impl_Pasture_far.f k p ([sp x y] : List Spot)) m ∧ Ev (fun k => spec_l01Steps.f k p (sp x y)) n := by
  obtain ⟨m0, a1, a2⟩ := tab_ev 0 (Nat.zero_le _) (Arr.mk' (Arr.mk' 0 : Arr 10 Int) : Tb)
  have hneg : ∀ y x, y < 10 → x < 10 → g2 m0 y x < 0 := fun y x hy hx => by rw [a1 y x hy hx, if_pos (Nat.zero_le _)]; omega
  have hfr := (frA_put m0 hy hx (v := 0) (by omega) (hneg y x hy hx) 10).2 hy
  rw [frA_all hneg 10 (Nat.le_refl _)] at hfr
  have hr : Rl (put2 m0 y x 0) (put2 (Arr.mk' (Arr.mk' 0 : Arr 10 Int) : Tb) y x 1) [sp x y] := by
    refine ⟨fun a b ha hb => ?_, fun a b ha hb => ?_, fun a b ha hb => ?_, ?_, fun s hs => ⟨x, y, hx, hy, List.mem_singleton.1 hs⟩⟩
    · rw [g2_put _ hy hx, g2_put _ hy hx, g2_zero ha hb, a1 a b ha hb, if_pos (Nat.zero_le _)]
      split <;> rfl
    · rw [g2_put _ hy hx, a1 a b ha hb, if_pos (Nat.zero_le _)]
      split <;> omega
    · rw [g2_put _ hy hx, a1 a b ha hb, if_pos (Nat.zero_le _)]
      split <;> simp
    · simp only [List.length_cons, List.length_nil]; omega
  obtain ⟨m, n, h1, h2, h3⟩ := outer v hw 101 0 _ _ _ hr (Nat.zero_le _) (by simp only [List.length_cons, List.length_nil]; omega)
  have hl3 : Ev (fun k => impl_Pasture_far.l3 ([sp x y] : List Spot) k m0 0) (put2 m0 y x 0) := by
    refine Ev.step (fun k => impl_Pasture_far.l3.eq_2 _ _ _ _) (Ev.pos (by simp) (Ev.bind (Ev.const (show _ = some (sp x y) from rfl)) (Ev.bind (Ev.const (getR m0 hy)) (Ev.bind (Ev.const (getA _ hx)) ?_))))
    exact Ev.step (fun k => impl_Pasture_far.l3.eq_2 _ _ _ _) (Ev.neg (by rw [show IntKind.i64.wrap (0 + 1) = 1 from by decide]; simp) (Ev.const rfl))
  exact ⟨m, n, h1, a2.bind (hl3.bind (Ev.bind (Ev.const (show slices_Clone_impl_Spot_impl_Spot.f [sp x y] = some [sp x y] from rfl)) (h2.bind (Ev.const rfl)))),
    Ev.bind (Ev.const (getR _ hy)) (Ev.bind (Ev.const (getA _ hx)) (h3.bind (Ev.const rfl)))⟩
/-! ### The first strange sight -/
theorem strange_loop {p : Pasture} (v : VPasture p) (hw : okW p = true) (xs : List Sight) (hx : xs.length ≤ 1048576) (hc : ∀ i (h : i < xs.length), cellB p xs[i].At.X xs[i].At.Y = true) (c : Int) : ∀ i, i ≤ xs.length → 1 ≤ i → ∃ r : Int ⊕ Unit, Ev (fun k => spec_l07Strange.l1 p xs c k (i : Int)) r ∧ Ev (fun k => impl_Pasture_strange.l1 p xs c k (i : Int)) r := by
  refine upL ?_ ?_
  · intro h1
    exact ⟨.inr (), Ev.step (fun k => spec_l07Strange.l1.eq_2 _ _ _ _ _) (Ev.neg (by omega) (Ev.const rfl)), Ev.step (fun k => impl_Pasture_strange.l1.eq_2 _ _ _ _ _) (Ev.neg (by omega) (Ev.const rfl))⟩
  · intro i hi ih h1
    obtain ⟨r, r1, r2⟩ := ih (by omega)
    rw [← wsucc hi (by omega)] at r1 r2
    have hi1 : i - 1 < xs.length := by omega
    have hp1 : getI xs (IntKind.i64.wrap ((i : Int) - 1)) = some xs[i - 1] := by
      rw [w64 (by omega) (by omega), show (i : Int) - 1 = ((i - 1 : Nat) : Int) by omega]
      exact getI_nat hi1
    obtain ⟨x, y, hx', hy', e⟩ := cellB_nat hw (hc (i - 1) hi1)
    obtain ⟨a, b, ha, hb, e2⟩ := cellB_nat hw (hc i hi)
    obtain ⟨m, n, g, g1, g2'⟩ := far_ev v hw hx' hy'
    rw [← e] at g1 g2'
    obtain ⟨q1, q2, q3⟩ := g b a hb ha
    have hY : getI m.l (xs[i]).At.Y = some (gR m b) := by rw [e2]; exact getR m hb
    have hX : ∀ t : Arr 10 Int, getI t.l (xs[i]).At.X = some (gA t a) := fun t => by rw [e2]; exact getA t ha
    have hY' : getI n.l (xs[i]).At.Y = some (gR n b) := by rw [e2]; exact getR n hb
    have hw1 : IntKind.i64.wrap (gA (gR m b) a) = g2 m b a := w64 (show -9223372036854775808 ≤ g2 m b a by omega) (show g2 m b a ≤ 9223372036854775807 by omega)
    have hst : impl_steps_at.f m (xs[i]).At = some (g2 m b a) := by
      unfold impl_steps_at.f
      rw [hY, Option.bind_some, hX, Option.bind_some, hw1]
    have hn : gA (gR n b) a = g2 m b a + 1 := q1
    have hw2 : IntKind.i64.wrap (gA (gR n b) a - 1) = g2 m b a := by rw [hn, w64 (by omega) (by omega)]; omega
    by_cases z : g2 m b a < 0
    · exact ⟨.inl (i : Int), Ev.step (fun k => spec_l07Strange.l1.eq_2 _ _ _ _ _) (Ev.pos (by omega) (Ev.bind (Ev.const hp1) (g2'.bind (Ev.bind (Ev.const (getI_nat hi)) (Ev.bind (Ev.const (getI_nat hi)) (Ev.bind (Ev.const hY') (Ev.bind (Ev.const (hX _)) (Ev.pos (by omega) (Ev.const rfl))))))))),
        Ev.step (fun k => impl_Pasture_strange.l1.eq_2 _ _ _ _ _) (Ev.pos (by omega) (Ev.bind (Ev.const hp1) (Ev.bind (Ev.const (getI_nat hi)) (g1.bind (Ev.bind (Ev.const hst) (Ev.pos z (Ev.const rfl)))))))⟩
    · by_cases z2 : IntKind.i64.wrap (c * (IntKind.i64.wrap (IntKind.i16.wrap ((xs[i]).Day - (xs[i - 1]).Day)))) < g2 m b a
      · exact ⟨.inl (i : Int), Ev.step (fun k => spec_l07Strange.l1.eq_2 _ _ _ _ _) (Ev.pos (by omega) (Ev.bind (Ev.const hp1) (g2'.bind (Ev.bind (Ev.const (getI_nat hi)) (Ev.bind (Ev.const (getI_nat hi)) (Ev.bind (Ev.const hY') (Ev.bind (Ev.const (hX _)) (Ev.neg (by omega) (Ev.bind (Ev.const (getI_nat hi)) (Ev.bind (Ev.const hp1) (Ev.pos (by rw [hw2]; exact z2) (Ev.const rfl)))))))))))),
          Ev.step (fun k => impl_Pasture_strange.l1.eq_2 _ _ _ _ _) (Ev.pos (by omega) (Ev.bind (Ev.const hp1) (Ev.bind (Ev.const (getI_nat hi)) (g1.bind (Ev.bind (Ev.const hst) (Ev.neg z (Ev.pos z2 (Ev.const rfl))))))))⟩
      · exact ⟨r, Ev.step (fun k => spec_l07Strange.l1.eq_2 _ _ _ _ _) (Ev.pos (by omega) (Ev.bind (Ev.const hp1) (g2'.bind (Ev.bind (Ev.const (getI_nat hi)) (Ev.bind (Ev.const (getI_nat hi)) (Ev.bind (Ev.const hY') (Ev.bind (Ev.const (hX _)) (Ev.neg (by omega) (Ev.bind (Ev.const (getI_nat hi)) (Ev.bind (Ev.const hp1) (Ev.neg (by rw [hw2]; exact z2) r1))))))))))),
          Ev.step (fun k => impl_Pasture_strange.l1.eq_2 _ _ _ _ _) (Ev.pos (by omega) (Ev.bind (Ev.const hp1) (Ev.bind (Ev.const (getI_nat hi)) (g1.bind (Ev.bind (Ev.const hst) (Ev.neg z (Ev.neg z2 r2)))))))⟩
theorem strange_ev {p : Pasture} (v : VPasture p) (hw : okW p = true) (xs : List Sight) (hx : xs.length ≤ 1048576) (hc : ∀ i (h : i < xs.length), cellB p xs[i].At.X xs[i].At.Y = true) (c : Int) : ∃ r : Int, Ev (fun k => spec_l07Strange.f k p xs c) r ∧ Ev (fun k => impl_Pasture_strange.f k p xs c) r := by
  rcases Nat.lt_or_ge 0 xs.length with h0 | h0
  · obtain ⟨r, r1, r2⟩ := strange_loop v hw xs hx hc c 1 h0 (Nat.le_refl _)
    cases r with
    | inl z => exact ⟨z, r1.bind (Ev.const rfl), r2.bind (Ev.const rfl)⟩
    | inr z => exact ⟨-1, r1.bind (Ev.const rfl), r2.bind (Ev.const rfl)⟩
  · exact ⟨-1, Ev.bind (Ev.step (fun k => spec_l07Strange.l1.eq_2 _ _ _ _ _) (Ev.neg (by omega) (Ev.const rfl))) (Ev.const rfl), Ev.bind (Ev.step (fun k => impl_Pasture_strange.l1.eq_2 _ _ _ _ _) (Ev.neg (by omega) (Ev.const rfl))) (Ev.const rfl)⟩
def sCode (p : Pasture) (xs : List Sight) (c : Int) : Int := if sightsB p xs = false then 1 else if 0 ≤ c ∧ c ≤ 100 then 0 else 2
theorem goat_ev {p : Pasture} (v : VPasture p) (xs : List Sight) (hv : ∀ s ∈ xs, VSight s) (hx : xs.length ≤ 1048576) (c : Int) : Ev (fun k => spec_l07Goat.f k p xs c) (sCode p xs c) := by
  refine (l07Sights_ev v xs hv hx).bind ?_
  unfold sCode
  cases sightsB p xs
  · exact Ev.const rfl
  · refine Ev.neg (by simp) (Ev.bind (Ev.const (l00In_eq c 0 100)) ?_)
    by_cases h : 0 ≤ c ∧ c ≤ 100
    · have e : (if true = false then (1 : Int) else if 0 ≤ c ∧ c ≤ 100 then 0 else 2) = 0 := by simp [h]
      rw [e]; exact Ev.neg (by simp [h]) (Ev.const rfl)
    · have e : (if true = false then (1 : Int) else if 0 ≤ c ∧ c ≤ 100 then 0 else 2) = 2 := by simp [h]
      rw [e]; exact Ev.pos (by simp [h]) (Ev.const rfl)
theorem sightCode_ev {p : Pasture} (v : VPasture p) (xs : List Sight) (hv : ∀ s ∈ xs, VSight s) (hx : xs.length ≤ 1048576) (c : Int) : Ev (fun k => impl_sightCode.f k p xs c) (sCode p xs c) := by
  refine (implSights_ev v xs hv hx).bind ?_
  unfold sCode
  cases sightsB p xs
  · exact Ev.const rfl
  · refine Ev.neg (by simp) (Ev.bind (Ev.const (within_eq c 0 100)) (Ev.bind (Ev.const (unless_eq _ _)) (Ev.const ?_)))
    by_cases h : 0 ≤ c ∧ c ≤ 100
    · simp [h]
    · simp [h]
theorem sCode_zero {p : Pasture} {xs : List Sight} {c : Int} (h : sCode p xs c = 0) : okW p = true ∧ vP p = true ∧ ∀ i (h : i < xs.length), cellB p xs[i].At.X xs[i].At.Y = true := by
  unfold sCode at h
  cases hs : sightsB p xs
  · rw [hs] at h; simp at h
  · unfold sightsB at hs
    rw [Bool.and_eq_true, Bool.and_eq_true] at hs
    refine ⟨vP_okW hs.1, hs.1, fun i hi => ?_⟩
    have := (upA_iff _ _ _).1 hs.2.2 i (Nat.zero_le _) (by omega)
    rw [atOk_eq p hi] at this
    exact this
end Go.Proofs.YtdbppckimfhgeaaGreatDoor
