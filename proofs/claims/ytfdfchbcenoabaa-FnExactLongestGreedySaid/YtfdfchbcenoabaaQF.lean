/-
  Plain laws: plans, and greedy ones.
-/
import Derived.Test.YtfdfchbcenoabaaQFnExactDayBehind
namespace Go.Proofs.Ytfdfchbcenoabaa
open G
set_option linter.unusedVariables false
set_option linter.unusedSimpArgs false

theorem plan_loop (xs : List Meadow) (hx : xs.length ≤ 1048576) (ys : List Int) (hy : ys.length ≤ 1048576) : ∀ i, i ≤ ys.length → ∀ b : Bool, Ev (fun k => spec_l07Plan.l1 xs ys k b (i : Int)) (b && (ys.drop i).all (inM xs)) := by
  refine upL ?_ ?_
  · intro b
    refine Ev.step (fun k => spec_l07Plan.l1.eq_2 _ _ _ _ _) ?_
    exact Ev.neg (by omega) (Ev.const (by simp))
  · intro i hi ih b
    refine Ev.step (fun k => spec_l07Plan.l1.eq_2 _ _ _ _ _) ?_
    refine Ev.pos (by omega) ?_
    simp only [getI_nat hi, Option.bind_some, l07Index_eq xs hx, wsucc hi (by omega), List.drop_eq_getElem_cons hi, List.all_cons]
    cases b
    · exact Ev.neg (by simp) (by simpa using ih false)
    · refine Ev.pos rfl ?_
      rw [Bool.true_and]
      exact ih (inM xs ys[i])
def planC (xs : List Meadow) (a : Int) (ys : List Int) : Int := askC xs a (decide ((ys.length : Int) ≤ 30) && ys.all (inM xs))
theorem plan_ev (xs : List Meadow) (hv : ∀ x ∈ xs, VMeadow x) (hx : xs.length ≤ 1048576) (a : Int) (ys : List Int) (hy : ys.length ≤ 1048576) : Ev (fun k => spec_l07Plan.f k xs a ys) (planC xs a ys) := by
  have h := plan_loop xs hx ys hy 0 (Nat.zero_le _) (decide ((ys.length : Int) ≤ 30))
  rw [List.drop_zero] at h
  exact Ev.bind h (Ev.bind (asked_ev xs hv hx a _) (Ev.const rfl))
theorem planCode_ev (xs : List Meadow) (hv : ∀ x ∈ xs, VMeadow x) (hx : xs.length ≤ 1048576) (a : Int) (ys : List Int) (hy : ys.length ≤ 1048576) : Ev (fun k => impl_planCode.f k xs a ys) (planC xs a ys) := by
  refine Ev.bind (meadowCode_ev xs hv hx a ys hy) ?_
  have hu : impl_unless.f (decide ((ys.length : Int) ≤ 30)) 2 = some (if (ys.length : Int) ≤ 30 then 0 else 2) := by
    unfold impl_unless.f
    by_cases h : (ys.length : Int) ≤ 30 <;> simp [h]
  refine Ev.bind (Ev.const hu) (Ev.bind (firstOf_ev _ _) (Ev.const ?_))
  congr 1
  unfold planC askC
  cases vM xs
  · simp
  · by_cases h1 : 1 ≤ a ∧ a ≤ 1000
    · by_cases h2 : (ys.length : Int) ≤ 30 <;> cases ys.all (inM xs) <;> simp [h1, h2]
    · simp [h1]
theorem planC_zero {xs : List Meadow} {a : Int} {ys : List Int} (h : planC xs a ys = 0) : (∀ x ∈ xs, okM x = true) ∧ 1 ≤ xs.length ∧ xs.length ≤ 6 ∧ (1 ≤ a ∧ a ≤ 1000) ∧ ys.length ≤ 30 ∧ ∀ y ∈ ys, ∃ i : Nat, i < xs.length ∧ y = (i : Int) := by
  obtain ⟨h1, h2, h3⟩ := askC_zero h
  obtain ⟨g1, g2, g3⟩ := vM_parts h1
  rw [Bool.and_eq_true, List.all_eq_true] at h3
  have := of_decide_eq_true h3.1
  exact ⟨g1, g2, g3, h2, by omega, fun y hy => inM_nat (h3.2 y hy)⟩
/-- A plan that is followed. -/
theorem follow_loop (a : Int) (ha : 1 ≤ a ∧ a ≤ 1000) (ys : List Int) (n : Nat) (hn : n ≤ 6) (hl : ys.length ≤ 30) (hin : ∀ y ∈ ys, ∃ i : Nat, i < n ∧ y = (i : Int)) : ∀ j, j ≤ ys.length → ∀ cur : List Meadow, cur.length = n → (∀ x ∈ cur, okM x = true) →
    ∃ r : (Int × List Meadow) ⊕ (List Meadow), Ev (fun k => spec_l07Made.l1 a ys k cur (j : Int)) r ∧ Ev (fun k => impl_follow.l1 a ys k cur (j : Int)) r ∧ ((∃ L, r = .inr L ∧ L.length = n) ∨ ∃ (p : Int) (L : List Meadow), r = .inl (p, L) ∧ 0 ≤ p ∧ p < ys.length ∧ L.length = n) := by
  refine upL ?_ ?_
  · intro cur hc hok
    exact ⟨.inr cur, Ev.step (fun k => spec_l07Made.l1.eq_2 _ _ _ _ _) (Ev.neg (by omega) (Ev.const rfl)), Ev.step (fun k => impl_follow.l1.eq_2 _ _ _ _ _) (Ev.neg (by omega) (Ev.const rfl)), .inl ⟨cur, rfl, hc⟩⟩
  · intro j hj ih cur hc hok
    obtain ⟨i, hi, e⟩ := hin _ (List.getElem_mem hj)
    have hic : i < cur.length := by omega
    obtain ⟨p, q, r⟩ := okM_parts (hok _ (List.getElem_mem hic))
    have e3 : IntKind.i64.wrap cur[i].Grass = cur[i].Grass := w64 (by omega) (by omega)
    have eg : getI ys (j : Int) = some (i : Int) := by rw [getI_nat hj, e]
    by_cases hg : cur[i].Grass < a
    · refine ⟨.inl ((j : Int), cur), Ev.step (fun k => spec_l07Made.l1.eq_2 _ _ _ _ _) (Ev.pos (by omega) ?_), Ev.step (fun k => impl_follow.l1.eq_2 _ _ _ _ _) (Ev.pos (by omega) ?_), .inr ⟨j, cur, rfl, by omega, by omega, hc⟩⟩
      · refine Ev.bind (Ev.const eg) (Ev.bind (Ev.const (getI_nat hic)) ?_)
        rw [e3]
        exact Ev.pos hg (Ev.const rfl)
      · exact Ev.bind (Ev.const eg) (Ev.bind (behind_no hok hic hg) (Ev.pos rfl (Ev.const rfl)))
    · obtain ⟨r', hr1, hr2, hr3⟩ := ih (dayL cur i a) (by rw [dayL_len, hc]) (dayL_ok hok hic (by omega) (by omega))
      rw [← wsucc hj (by omega)] at hr1 hr2
      refine ⟨r', Ev.step (fun k => spec_l07Made.l1.eq_2 _ _ _ _ _) (Ev.pos (by omega) ?_), Ev.step (fun k => impl_follow.l1.eq_2 _ _ _ _ _) (Ev.pos (by omega) ?_), hr3⟩
      · refine Ev.bind (Ev.const eg) (Ev.bind (Ev.const (getI_nat hic)) ?_)
        rw [e3]
        exact Ev.neg hg (Ev.bind (Ev.const eg) (Ev.bind (l07Day_ev hok (by omega) hic (by omega) (by omega)) hr1))
      · exact Ev.bind (Ev.const eg) (Ev.bind (behind_ev hok (by omega) hic (by omega) (by omega)) (Ev.neg (by simp) hr2))
theorem follow_ev {xs : List Meadow} {a : Int} {ys : List Int} (h : planC xs a ys = 0) : ∃ (p q : Int) (L : List Meadow), L.length = xs.length ∧ Ev (fun k => spec_l07Made.f k xs a ys) (p, L) ∧ Ev (fun k => impl_follow.f k xs a ys) (q, L) ∧
    ((p = -1 ∧ q = ys.length) ∨ (p = q ∧ 0 ≤ p ∧ p < ys.length)) := by
  obtain ⟨g1, g2, g3, ha, hl, hin⟩ := planC_zero h
  obtain ⟨r, h1, h2, h3⟩ := follow_loop a ha ys xs.length g3 hl hin 0 (Nat.zero_le _) xs rfl g1
  have hc : chk (([] : List Meadow).length + xs.length ≤ 4294967296) = some () := chk_t (by simp; omega)
  rcases h3 with ⟨L, rfl, hL⟩ | ⟨p, L, rfl, hp0, hp1, hL⟩
  · exact ⟨-1, ys.length, L, hL, Ev.bind (Ev.const hc) (Ev.bind h1 (Ev.const rfl)), Ev.bind h2 (Ev.const rfl), .inl ⟨rfl, rfl⟩⟩
  · exact ⟨p, p, L, hL, Ev.bind (Ev.const hc) (Ev.bind h1 (Ev.const rfl)), Ev.bind h2 (Ev.const rfl), .inr ⟨rfl, hp0, hp1⟩⟩

/-! ### The richest -/
theorem richest_loop (xs : List Meadow) (hx : xs.length ≤ 1048576) : ∀ i, i ≤ xs.length → ∀ b : Nat, b < xs.length → ∃ b' : Nat, b' < xs.length ∧ Ev (fun k => spec_l07Richest.l1 xs k (b : Int) (i : Int)) (b' : Int) ∧ Ev (fun k => impl_greedy.l7 xs k (b : Int) (i : Int)) (b' : Int) := by
  refine upL ?_ ?_
  · intro b hb
    exact ⟨b, hb, Ev.step (fun k => spec_l07Richest.l1.eq_2 _ _ _ _) (Ev.neg (by omega) (Ev.const rfl)), Ev.step (fun k => impl_greedy.l7.eq_2 _ _ _ _) (Ev.neg (by omega) (Ev.const rfl))⟩
  · intro i hi ih b hb
    by_cases hg : xs[b].Grass < xs[i].Grass
    · obtain ⟨b', hb', h1, h2⟩ := ih i hi
      rw [← wsucc hi (by omega)] at h1 h2
      exact ⟨b', hb', Ev.step (fun k => spec_l07Richest.l1.eq_2 _ _ _ _) (Ev.pos (by omega) (Ev.bind (Ev.const (getI_nat hi)) (Ev.bind (Ev.const (getI_nat hb)) (Ev.pos hg h1)))),
        Ev.step (fun k => impl_greedy.l7.eq_2 _ _ _ _) (Ev.pos (by omega) (Ev.bind (Ev.const (getI_nat hi)) (Ev.bind (Ev.const (getI_nat hb)) (Ev.pos hg h2))))⟩
    · obtain ⟨b', hb', h1, h2⟩ := ih b hb
      rw [← wsucc hi (by omega)] at h1 h2
      exact ⟨b', hb', Ev.step (fun k => spec_l07Richest.l1.eq_2 _ _ _ _) (Ev.pos (by omega) (Ev.bind (Ev.const (getI_nat hi)) (Ev.bind (Ev.const (getI_nat hb)) (Ev.neg hg h1)))),
        Ev.step (fun k => impl_greedy.l7.eq_2 _ _ _ _) (Ev.pos (by omega) (Ev.bind (Ev.const (getI_nat hi)) (Ev.bind (Ev.const (getI_nat hb)) (Ev.neg hg h2))))⟩
theorem richest_ev (xs : List Meadow) (hx : xs.length ≤ 1048576) (h1 : 1 ≤ xs.length) : ∃ b : Nat, b < xs.length ∧ Ev (fun k => spec_l07Richest.f k xs) (b : Int) ∧ Ev (fun k => impl_greedy.l7 xs k 0 0) (b : Int) := by
  obtain ⟨b, hb, e1, e2⟩ := richest_loop xs hx 1 h1 0 (by omega)
  have w1 : IntKind.i64.wrap (0 + 1) = ((1 : Nat) : Int) := by rw [w64 (by omega) (by omega)]; rfl
  refine ⟨b, hb, Ev.bind e1 (Ev.const rfl), Ev.step (fun k => impl_greedy.l7.eq_2 _ _ _ _) (Ev.pos (by omega) ?_)⟩
  have hg : getI xs 0 = some xs[0] := getI_nat (i := 0) h1
  refine Ev.bind (Ev.const hg) (Ev.bind (Ev.const hg) (Ev.neg (by omega) ?_))
  rw [w1]
  exact e2
theorem greedy_loop (a : Int) (ha : 1 ≤ a ∧ a ≤ 1000) (m : Int) (hm : m ≤ 30) (n : Nat) (h1 : 1 ≤ n) (hn : n ≤ 6) : ∀ (d : Nat) (plan : List Int) (cur : List Meadow), plan.length + d = 31 → cur.length = n → (∀ x ∈ cur, okM x = true) →
    ∃ (r : (List Int) ⊕ (List Int)) (L : List Int), L.length ≤ 31 ∧ (r = .inl L ∨ r = .inr L) ∧ Ev (fun k => spec_l07Greedy.l1 a m k plan cur) r ∧ Ev (fun k => impl_greedy.l5 a m k plan cur (plan.length : Int)) r
  | 0, plan, cur, hd, hc, hok =>
    ⟨.inr plan, plan, by omega, .inr rfl, Ev.step (fun k => spec_l07Greedy.l1.eq_2 _ _ _ _ _) (Ev.neg (by omega) (Ev.const rfl)), Ev.step (fun k => impl_greedy.l5.eq_2 _ _ _ _ _ _) (Ev.neg (by omega) (Ev.const rfl))⟩
  | d + 1, plan, cur, hd, hc, hok => by
    by_cases hlt : (plan.length : Int) < m
    · obtain ⟨b, hb, e1, e2⟩ := richest_ev cur (by omega) (by omega)
      obtain ⟨p, q, r⟩ := okM_parts (hok _ (List.getElem_mem hb))
      have e3 : IntKind.i64.wrap cur[b].Grass = cur[b].Grass := w64 (by omega) (by omega)
      by_cases hg : cur[b].Grass < a
      · refine ⟨.inl plan, plan, by omega, .inl rfl, Ev.step (fun k => spec_l07Greedy.l1.eq_2 _ _ _ _ _) (Ev.pos hlt ?_), Ev.step (fun k => impl_greedy.l5.eq_2 _ _ _ _ _ _) (Ev.pos hlt ?_)⟩
        · refine Ev.bind e1 (Ev.bind (Ev.const (getI_nat hb)) ?_)
          rw [e3]
          exact Ev.pos hg (Ev.const rfl)
        · exact Ev.bind (Ev.bind e2 (Ev.bind (behind_no hok hb hg) (Ev.pos rfl (Ev.const rfl)))) (Ev.const rfl)
      · obtain ⟨r', L, hL, hr, f1, f2⟩ := greedy_loop a ha m hm n h1 hn d (plan ++ [(b : Int)]) (dayL cur b a) (by simp; omega) (by rw [dayL_len, hc]) (dayL_ok hok hb (by omega) (by omega))
        have hch : chk (plan.length + ([(b : Int)] : List Int).length ≤ 4294967296) = some () := chk_t (by simp; omega)
        have hw : IntKind.i64.wrap ((plan.length : Int) + 1) = ((plan ++ [(b : Int)]).length : Int) := by
          rw [w64 (by omega) (by omega)]; simp
        refine ⟨r', L, hL, hr, Ev.step (fun k => spec_l07Greedy.l1.eq_2 _ _ _ _ _) (Ev.pos hlt ?_), Ev.step (fun k => impl_greedy.l5.eq_2 _ _ _ _ _ _) (Ev.pos hlt ?_)⟩
        · refine Ev.bind e1 (Ev.bind (Ev.const (getI_nat hb)) ?_)
          rw [e3]
          exact Ev.neg hg (Ev.bind (Ev.const hch) (Ev.bind (l07Day_ev hok (by omega) hb (by omega) (by omega)) f1))
        · refine Ev.bind (a := .inr (plan ++ [(b : Int)], dayL cur b a)) (Ev.bind e2 (Ev.bind (behind_ev hok (by omega) hb (by omega) (by omega)) (Ev.neg (by simp) (Ev.bind (Ev.const hch) (Ev.const rfl))))) ?_
          show Ev (fun k => impl_greedy.l5 a m k (plan ++ [(b : Int)]) (dayL cur b a) (IntKind.i64.wrap ((plan.length : Int) + 1))) r'
          rw [hw]
          exact f2
    · exact ⟨.inr plan, plan, by omega, .inr rfl, Ev.step (fun k => spec_l07Greedy.l1.eq_2 _ _ _ _ _) (Ev.neg hlt (Ev.const rfl)), Ev.step (fun k => impl_greedy.l5.eq_2 _ _ _ _ _ _) (Ev.neg hlt (Ev.const rfl))⟩
theorem greedy_ev {xs : List Meadow} (h : vM xs = true) {a : Int} (ha : 1 ≤ a ∧ a ≤ 1000) {m : Int} (hm : m ≤ 30) : ∃ L : List Int, L.length ≤ 31 ∧ Ev (fun k => spec_l07Greedy.f k xs a m) L ∧ Ev (fun k => impl_greedy.f k xs a m) L := by
  obtain ⟨g1, g2, g3⟩ := vM_parts h
  obtain ⟨r, L, hL, hr, e1, e2⟩ := greedy_loop a ha m hm xs.length g2 g3 31 [] xs rfl rfl g1
  refine ⟨L, hL, Ev.bind e1 ?_, Ev.bind e2 ?_⟩
  · rcases hr with rfl | rfl <;> exact Ev.const rfl
  · rcases hr with rfl | rfl <;> exact Ev.const rfl

end Go.Proofs.Ytfdfchbcenoabaa
