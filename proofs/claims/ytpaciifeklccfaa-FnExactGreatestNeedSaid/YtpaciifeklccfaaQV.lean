/-
  Plain laws: the search of a plan: the program's and the reference's go alike.
-/
import Derived.Test.YtpaciifeklccfaaQM
namespace Go.Proofs.Ytpaciifeklccfaa
open G
set_option linter.unusedVariables false
set_option linter.unusedSimpArgs false
variable {α β : Type}

/-! ### With enough fuel of two kinds -/
def Ev2 (f : Nat → Nat → Option α) (r : α) : Prop := ∃ K, ∀ s k, K ≤ s → K ≤ k → f s k = some r
theorem Ev2.of1 {f : Nat → Option α} {r : α} (h : Ev f r) : Ev2 (fun s _ => f s) r := by
  obtain ⟨K, h⟩ := h
  exact ⟨K, fun s k hs _ => h s hs⟩
theorem Ev2.of2 {f : Nat → Option α} {r : α} (h : Ev f r) : Ev2 (fun _ k => f k) r := by
  obtain ⟨K, h⟩ := h
  exact ⟨K, fun s k _ hk => h k hk⟩
theorem Ev2.const {x : Option α} {r : α} (h : x = some r) : Ev2 (fun _ _ => x) r := ⟨0, fun _ _ _ _ => h⟩
theorem Ev2.bind {f : Nat → Nat → Option α} {g : Nat → Nat → α → Option β} {a : α} {r : β} (h : Ev2 f a) (h2 : Ev2 (fun s k => g s k a) r) : Ev2 (fun s k => (f s k).bind (g s k)) r := by
  obtain ⟨K, h⟩ := h
  obtain ⟨K2, h2⟩ := h2
  refine ⟨K + K2, fun s k hs hk => ?_⟩
  show (f s k).bind (g s k) = some r
  rw [h s k (by omega) (by omega)]; exact h2 s k (by omega) (by omega)
theorem Ev2.step {l B : Nat → Nat → Option α} {r : α} (h : ∀ s k, l s (k + 1) = B s k) (hB : Ev2 B r) : Ev2 l r := by
  obtain ⟨K, hB⟩ := hB
  refine ⟨K + 1, fun s k hs hk => ?_⟩
  obtain ⟨k, rfl⟩ : ∃ j, k = j + 1 := ⟨k - 1, by omega⟩
  rw [h, hB s k (by omega) (by omega)]
theorem Ev2.congr {f g : Nat → Nat → Option α} {r : α} (h : Ev2 f r) (e : ∀ s k, g s k = f s k) : Ev2 g r := by
  obtain ⟨K, h⟩ := h
  exact ⟨K, fun s k hs hk => by rw [e, h s k hs hk]⟩
theorem Ev2.pos {c : Prop} [Decidable c] {f g : Nat → Nat → Option α} {r : α} (hc : c) (h : Ev2 f r) : Ev2 (fun s k => if c then f s k else g s k) r := h.congr fun _ _ => if_pos hc
theorem Ev2.neg {c : Prop} [Decidable c] {f g : Nat → Nat → Option α} {r : α} (hc : ¬ c) (h : Ev2 g r) : Ev2 (fun s k => if c then f s k else g s k) r := h.congr fun _ _ => if_neg hc
theorem Ev2.diag {f : Nat → Nat → Option α} {r : α} (h : Ev2 f r) : Ev (fun k => f k k) r := by
  obtain ⟨K, h⟩ := h
  exact ⟨K, fun k hk => h k k hk hk⟩

theorem cloneI_ev (xs : List Int) (hx : xs.length ≤ 1048576) : Ev (fun _ => slices_Clone_int64_int64.f xs) xs := by
  refine Ev.const ?_
  unfold slices_Clone_int64_int64.f
  rw [chk_t (by simp; omega)]; rfl
theorem search_ev (a : Int) (ha : 1 ≤ a ∧ a ≤ 1000) (D b : Int) (hD : 0 ≤ D ∧ D ≤ 30) (hb : 0 ≤ b ∧ b ≤ 20000) (n : Nat) (hn : n ≤ 6) : ∀ (d : Nat) (plan : List Int) (xs : List Meadow) (t : Int), (plan.length : Int) + d = D → xs.length = n → (∀ x ∈ xs, okM x = true) → (0 ≤ t ∧ t ≤ b) →
    ∃ (L L' : List Int) (ok : Bool) (t' : Int) (ov : Bool), (0 ≤ t' ∧ t' ≤ b) ∧ (ok = true → L = L') ∧ L'.length ≤ 30 ∧ Ev (fun k => spec_l07Search_from.f k ⟨a, D, b, t, false⟩ xs plan) (L, ok, ⟨a, D, b, t', ov⟩) ∧ Ev (fun k => impl_planner_find.f k ⟨a, D, b, t, false⟩ xs plan) (L', ok, ⟨a, D, b, t', ov⟩)
  | 0, plan, xs, t, hd, hl, hok, ht => by
    refine ⟨plan, plan, true, t, false, ht, fun _ => rfl, by omega, Ev.step (fun k => spec_l07Search_from.f.eq_2 _ _ _ _) (Ev.pos (show (plan.length : Int) = D by omega) (Ev.const rfl)), Ev.step (fun k => impl_planner_find.f.eq_2 _ _ _ _) ?_⟩
    exact Ev.bind (Ev.const rfl) (Ev.pos (show (plan.length : Int) = D by omega) (Ev.const rfl))
  | d + 1, plan, xs, t, hd, hl, hok, ht => by
    have key : ∀ i : Nat, i ≤ n → ∀ t : Int, (0 ≤ t ∧ t ≤ b) → ∃ (L L' : List Int) (ok : Bool) (t' : Int) (ov : Bool), (0 ≤ t' ∧ t' ≤ b) ∧ (ok = true → L = L') ∧ L'.length ≤ 30 ∧
        ((Ev2 (fun s k => spec_l07Search_from.l1 (spec_l07Search_from.f s) xs plan k ⟨a, D, b, t, false⟩ (i : Int)) (.inl (L, ok, ⟨a, D, b, t', ov⟩)) ∧ Ev2 (fun s k => impl_planner_find.l1 (impl_planner_find.f s) xs plan (xs.length : Int) k ⟨a, D, b, t, false⟩ (i : Int)) (.inl (L', ok, ⟨a, D, b, t', ov⟩))) ∨
         (Ev2 (fun s k => spec_l07Search_from.l1 (spec_l07Search_from.f s) xs plan k ⟨a, D, b, t, false⟩ (i : Int)) (.inr ⟨a, D, b, t', false⟩) ∧ Ev2 (fun s k => impl_planner_find.l1 (impl_planner_find.f s) xs plan (xs.length : Int) k ⟨a, D, b, t, false⟩ (i : Int)) (.inr ⟨a, D, b, t', false⟩))) := by
      refine upL ?_ ?_
      · intro t ht
        exact ⟨[], [], false, t, false, ht, fun h => rfl, by simp, .inr ⟨Ev2.step (fun s k => spec_l07Search_from.l1.eq_2 _ _ _ _ _ _) (Ev2.neg (by omega) (Ev2.const rfl)), Ev2.step (fun s k => impl_planner_find.l1.eq_2 _ _ _ _ _ _ _) (Ev2.neg (by omega) (Ev2.const rfl))⟩⟩
      · intro i hi ih t ht
        have hix : i < xs.length := by omega
        obtain ⟨p, q, r⟩ := okM_parts (hok _ (List.getElem_mem hix))
        have e3 : IntKind.i64.wrap xs[i].Grass = xs[i].Grass := w64 (by omega) (by omega)
        by_cases hg : xs[i].Grass < a
        · obtain ⟨L, L', ok, t', ov, h1, h2, h3, h4⟩ := ih t ht
          rw [← wsucc hi (by omega)] at h4
          have es : ∀ {r}, Ev2 (fun s k => spec_l07Search_from.l1 (spec_l07Search_from.f s) xs plan k ⟨a, D, b, t, false⟩ (IntKind.i64.wrap ((i : Int) + 1))) r → Ev2 (fun s k => spec_l07Search_from.l1 (spec_l07Search_from.f s) xs plan k ⟨a, D, b, t, false⟩ (i : Int)) r := fun h =>
            Ev2.step (fun s k => spec_l07Search_from.l1.eq_2 _ _ _ _ _ _) (Ev2.pos (by omega) (Ev2.bind (Ev2.const (getI_nat hix)) (Ev2.pos (by rw [e3]; exact hg) h)))
          have ei : ∀ {r}, Ev2 (fun s k => impl_planner_find.l1 (impl_planner_find.f s) xs plan (xs.length : Int) k ⟨a, D, b, t, false⟩ (IntKind.i64.wrap ((i : Int) + 1))) r → Ev2 (fun s k => impl_planner_find.l1 (impl_planner_find.f s) xs plan (xs.length : Int) k ⟨a, D, b, t, false⟩ (i : Int)) r := fun h =>
            Ev2.step (fun s k => impl_planner_find.l1.eq_2 _ _ _ _ _ _ _) (Ev2.pos (by omega) (Ev2.bind (Ev2.of2 (behind_no hok hix hg)) (Ev2.pos rfl h)))
          refine ⟨L, L', ok, t', ov, h1, h2, h3, ?_⟩
          rcases h4 with ⟨h5, h6⟩ | ⟨h5, h6⟩
          · exact .inl ⟨es h5, ei h6⟩
          · exact .inr ⟨es h5, ei h6⟩
        · by_cases hbt : t = b
          · refine ⟨plan, [], false, t, true, ht, (fun h => by cases h), by simp, .inl ⟨?_, ?_⟩⟩
            · exact Ev2.step (fun s k => spec_l07Search_from.l1.eq_2 _ _ _ _ _ _) (Ev2.pos (by omega) (Ev2.bind (Ev2.const (getI_nat hix)) (Ev2.neg (by rw [e3]; exact hg) (Ev2.pos hbt (Ev2.const rfl)))))
            · exact Ev2.step (fun s k => impl_planner_find.l1.eq_2 _ _ _ _ _ _ _) (Ev2.pos (by omega) (Ev2.bind (Ev2.of2 (behind_ev (a := a) hok (by omega) hix (by omega) (by omega))) (Ev2.neg (by simp) (Ev2.pos hbt (Ev2.const rfl)))))
          · have hw : IntKind.i64.wrap (t + 1) = t + 1 := w64 (by omega) (by omega)
            obtain ⟨L, L', ok, t', ov, g1, g2, g3, g4, g5⟩ := search_ev a ha D b hD hb n hn d (plan ++ [(i : Int)]) (dayL xs i a) (t + 1) (by simp; omega) (by rw [dayL_len, hl]) (dayL_ok hok hix (by omega) (by omega)) (by omega)
            have c1 : chk (([] : List Int).length + plan.length ≤ 4294967296) = some () := chk_t (by simp; omega)
            have c2 : chk ((([] : List Int) ++ plan).length + ([(i : Int)] : List Int).length ≤ 4294967296) = some () := chk_t (by simp; omega)
            have c3 : chk (plan.length + ([(i : Int)] : List Int).length ≤ 4294967296) = some () := chk_t (by simp; omega)
            have es : ∀ {r}, Ev2 (fun s k => if ok = true then (some (Sum.inl (L, ok, (⟨a, D, b, t', ov⟩ : l07Search)))) else (if ov = true then (some (Sum.inl (L, ok, (⟨a, D, b, t', ov⟩ : l07Search)))) else (spec_l07Search_from.l1 (spec_l07Search_from.f s) xs plan k ⟨a, D, b, t', ov⟩ (IntKind.i64.wrap ((i : Int) + 1))))) r → Ev2 (fun s k => spec_l07Search_from.l1 (spec_l07Search_from.f s) xs plan k ⟨a, D, b, t, false⟩ (i : Int)) r := fun h => by
              refine Ev2.step (fun s k => spec_l07Search_from.l1.eq_2 _ _ _ _ _ _) (Ev2.pos (by omega) (Ev2.bind (Ev2.const (getI_nat hix)) (Ev2.neg (by rw [e3]; exact hg) (Ev2.neg hbt ?_))))
              refine Ev2.bind (Ev2.of2 (l07Day_ev (a := a) hok (by omega) hix (by omega) (by omega))) (Ev2.bind (Ev2.const c1) (Ev2.bind (Ev2.const c2) ?_))
              simp only [hw, List.nil_append]
              exact Ev2.bind (Ev2.of1 g4) h
            have ei : ∀ {r}, Ev2 (fun s k => if ok = true then (some (Sum.inl (L', ok, (⟨a, D, b, t', ov⟩ : planner)))) else (if ov = true then (some (Sum.inl (L', ok, (⟨a, D, b, t', ov⟩ : planner)))) else (impl_planner_find.l1 (impl_planner_find.f s) xs plan (xs.length : Int) k ⟨a, D, b, t', ov⟩ (IntKind.i64.wrap ((i : Int) + 1))))) r → Ev2 (fun s k => impl_planner_find.l1 (impl_planner_find.f s) xs plan (xs.length : Int) k ⟨a, D, b, t, false⟩ (i : Int)) r := fun h => by
              refine Ev2.step (fun s k => impl_planner_find.l1.eq_2 _ _ _ _ _ _ _) (Ev2.pos (by omega) (Ev2.bind (Ev2.of2 (behind_ev (a := a) hok (by omega) hix (by omega) (by omega))) (Ev2.neg (by simp) (Ev2.neg hbt ?_))))
              refine Ev2.bind (Ev2.of2 (cloneI_ev plan (by omega))) (Ev2.bind (Ev2.const c3) ?_)
              simp only [hw]
              exact Ev2.bind (Ev2.of1 g5) h
            cases hok' : ok
            · cases hov : ov
              · subst hok' hov
                obtain ⟨M, M', ok2, t2, ov2, k1, k2, k3, k4⟩ := ih t' g1
                rw [← wsucc hi (by omega)] at k4
                refine ⟨M, M', ok2, t2, ov2, k1, k2, k3, ?_⟩
                rcases k4 with ⟨k5, k6⟩ | ⟨k5, k6⟩
                · exact .inl ⟨es (Ev2.neg (by simp) (Ev2.neg (by simp) k5)), ei (Ev2.neg (by simp) (Ev2.neg (by simp) k6))⟩
                · exact .inr ⟨es (Ev2.neg (by simp) (Ev2.neg (by simp) k5)), ei (Ev2.neg (by simp) (Ev2.neg (by simp) k6))⟩
              · subst hok' hov
                exact ⟨L, L', false, t', true, g1, (fun h => by cases h), g3, .inl ⟨es (Ev2.neg (by simp) (Ev2.pos rfl (Ev2.const rfl))), ei (Ev2.neg (by simp) (Ev2.pos rfl (Ev2.const rfl)))⟩⟩
            · subst hok'
              exact ⟨L, L', true, t', ov, g1, g2, g3, .inl ⟨es (Ev2.pos rfl (Ev2.const rfl)), ei (Ev2.pos rfl (Ev2.const rfl))⟩⟩
    obtain ⟨L, L', ok, t', ov, h1, h2, h3, h4⟩ := key 0 (Nat.zero_le _) t ht
    rcases h4 with ⟨h5, h6⟩ | ⟨h5, h6⟩
    · refine ⟨L, L', ok, t', ov, h1, h2, h3, Ev.step (fun k => spec_l07Search_from.f.eq_2 _ _ _ _) (Ev.neg (show ¬ (plan.length : Int) = D by omega) (Ev.bind h5.diag (Ev.const rfl))), Ev.step (fun k => impl_planner_find.f.eq_2 _ _ _ _) ?_⟩
      exact Ev.bind (Ev.const rfl) (Ev.neg (show ¬ (plan.length : Int) = D by omega) (Ev.bind (Ev.const rfl) (Ev.bind h6.diag (Ev.const rfl))))
    · refine ⟨plan, [], false, t', false, h1, (fun h => by cases h), by simp, Ev.step (fun k => spec_l07Search_from.f.eq_2 _ _ _ _) (Ev.neg (show ¬ (plan.length : Int) = D by omega) (Ev.bind h5.diag (Ev.const rfl))), Ev.step (fun k => impl_planner_find.f.eq_2 _ _ _ _) ?_⟩
      exact Ev.bind (Ev.const rfl) (Ev.neg (show ¬ (plan.length : Int) = D by omega) (Ev.bind (Ev.const rfl) (Ev.bind h6.diag (Ev.const rfl))))
/-- What is found. -/
theorem found_ev {xs : List Meadow} (hok : ∀ x ∈ xs, okM x = true) (hn : xs.length ≤ 6) {a : Int} (ha : 1 ≤ a ∧ a ≤ 1000) {D b : Int} (hD : 0 ≤ D ∧ D ≤ 30) (hb : 0 ≤ b ∧ b ≤ 20000) :
    ∃ r : List Int × Int × Int, r.1.length ≤ 30 ∧ (r.2.2 = 0 ∨ r.2.2 = 6 ∨ r.2.2 = 7) ∧ Ev (fun k => spec_l07Found.f k xs a D b) r ∧ Ev (fun k => impl_firstPlan.f k xs a D b) r := by
  obtain ⟨L, L', ok, t', ov, h1, h2, h3, h4, h5⟩ := search_ev a ha D b hD hb xs.length hn D.toNat [] xs 0 (by simp; omega) rfl hok (by omega)
  cases ov
  · cases ok
    · exact ⟨([], 0, 6), by simp, by simp, h4.bind (Ev.neg (by simp) (Ev.pos rfl (Ev.const rfl))), h5.bind (Ev.neg (by simp) (Ev.pos rfl (Ev.const rfl)))⟩
    · obtain rfl := h2 rfl
      exact ⟨(L, t', 0), h3, by simp, h4.bind (Ev.neg (by simp) (Ev.neg (by simp) (Ev.const rfl))), h5.bind (Ev.neg (by simp) (Ev.neg (by simp) (Ev.const rfl)))⟩
  · exact ⟨([], 0, 7), by simp, by simp, h4.bind (Ev.pos rfl (Ev.const rfl)), h5.bind (Ev.pos rfl (Ev.const rfl))⟩
theorem spanCodeB_ev (xs : List Meadow) (hv : ∀ x ∈ xs, VMeadow x) (hx : xs.length ≤ 1048576) (a d b : Int) : Ev (fun k => impl_spanCode.f k xs a d b) (askC xs a (decide (0 ≤ d ∧ d ≤ 30) && decide (0 ≤ b ∧ b ≤ 20000))) := by
  refine Ev.bind (meadowCode_ev xs hv hx a [] (by simp)) ?_
  simp only [List.all_nil, within_eq, Option.bind_some, unless_eq]
  by_cases h : 0 ≤ d ∧ d ≤ 30
  · refine Ev.pos (by simp [h]) ?_
    refine Ev.bind (firstOf_ev _ _) (Ev.const ?_)
    rw [decide_eq_true h, Bool.true_and]
    congr 1
    by_cases hb : 0 ≤ b ∧ b ≤ 20000
    · rw [decide_eq_true hb]
      by_cases e : askC xs a true = 0 <;> simp [e]
    · rw [decide_eq_false hb]
      unfold askC
      cases vM xs
      · rfl
      · by_cases h1 : 1 ≤ a ∧ a ≤ 1000 <;> simp [h1]
  · refine Ev.neg (by simp [h]) ?_
    refine Ev.bind (firstOf_ev _ _) (Ev.const ?_)
    rw [decide_eq_false h, Bool.false_and]
    congr 1
    unfold askC
    cases vM xs
    · rfl
    · by_cases h1 : 1 ≤ a ∧ a ≤ 1000 <;> simp [h1]
theorem firstPlan_ev (xs : List Meadow) (hv : ∀ x ∈ xs, VMeadow x) (hx : xs.length ≤ 1048576) (a d b : Int) : ∃ r : List Int × Int × Int, r.1.length ≤ 1048576 ∧ Ev (fun k => spec_FirstPlan.f k xs a d b) r ∧ Ev (fun k => impl_FirstPlan.f k xs a d b) r := by
  have hm := spanCodeB_ev xs hv hx a d b
  have hd : spec_l07Days.f d = some (decide (0 ≤ d ∧ d ≤ 30)) := by unfold spec_l07Days.f; rw [l00In_eq]; rfl
  have hbu : spec_l07Budget.f b = some (decide (0 ≤ b ∧ b ≤ 20000)) := by unfold spec_l07Budget.f; rw [l00In_eq]; rfl
  have hs : Ev (fun k => (spec_l07Days.f d).bind fun t2 => if t2 = true then ((spec_l07Budget.f b).bind fun t3 => (spec_l07Asked.f k xs a t3).bind fun t4 => some t4) else ((spec_l07Asked.f k xs a false).bind fun t5 => some t5)) (askC xs a (decide (0 ≤ d ∧ d ≤ 30) && decide (0 ≤ b ∧ b ≤ 20000))) := by
    rw [hd, hbu]
    simp only [Option.bind_some]
    by_cases h : 0 ≤ d ∧ d ≤ 30
    · rw [decide_eq_true h, Bool.true_and]
      exact Ev.pos rfl ((asked_ev xs hv hx a _).bind (Ev.const rfl))
    · rw [decide_eq_false h, Bool.false_and]
      exact Ev.neg (by simp) ((asked_ev xs hv hx a _).bind (Ev.const rfl))
  by_cases h : askC xs a (decide (0 ≤ d ∧ d ≤ 30) && decide (0 ≤ b ∧ b ≤ 20000)) = 0
  · obtain ⟨h1, h2, h3⟩ := askC_zero h
    rw [Bool.and_eq_true, decide_eq_true_eq, decide_eq_true_eq] at h3
    obtain ⟨hok, g2, g3⟩ := vM_parts h1
    obtain ⟨r, r1, r2, r3, r4⟩ := found_ev hok g3 h2 h3.1 h3.2
    exact ⟨r, by omega, hs.bind (Ev.neg (by rw [h]; simp) (r3.bind (Ev.const rfl))), hm.bind (Ev.neg (by rw [h]; simp) (r4.bind (Ev.const rfl)))⟩
  · exact ⟨([], 0, _), by simp, hs.bind (Ev.pos h (Ev.const rfl)), hm.bind (Ev.pos h (Ev.const rfl))⟩
end Go.Proofs.Ytpaciifeklccfaa
