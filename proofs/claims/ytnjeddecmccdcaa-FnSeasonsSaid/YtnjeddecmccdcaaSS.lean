/-
  Plain laws: plans that are followed; the search and the greedy plan, and what they find.
-/
import Derived.Test.YtnjeddecmccdcaaSM
namespace Go.Proofs.Ytnjeddecmccdcaa
open G
set_option linter.unusedVariables false
set_option linter.unusedSimpArgs false
variable {α β : Type}

/-- A plan is followed, day by day. -/
def fol (a : Int) : List Meadow → List Int → Option (List Meadow)
  | xs, [] => some xs
  | xs, y :: r => match xs[y.toNat]? with
    | none => none
    | some x => if 0 ≤ y ∧ a ≤ x.Grass then fol a (dayL xs y.toNat a) r else none
theorem fol_nat (a : Int) {xs : List Meadow} {i : Nat} (hi : i < xs.length) (r : List Int) : fol a xs ((i : Int) :: r) = if a ≤ xs[i].Grass then fol a (dayL xs i a) r else none := by
  rw [fol]
  simp only [Int.toNat_natCast, List.getElem?_eq_getElem hi]
  by_cases h : a ≤ xs[i].Grass <;> simp [h]
theorem fol_out (a : Int) {xs : List Meadow} {i : Nat} (hi : xs.length ≤ i) (r : List Int) : fol a xs ((i : Int) :: r) = none := by
  rw [fol]
  simp only [Int.toNat_natCast, List.getElem?_eq_none hi]
theorem fol_neg (a : Int) {xs : List Meadow} {y : Int} (hy : y < 0) (r : List Int) : fol a xs (y :: r) = none := by
  rw [fol]
  split
  · rfl
  · rw [if_neg (by omega)]
theorem fol_some {a : Int} {xs e : List Meadow} {y : Int} {r : List Int} (h : fol a xs (y :: r) = some e) : ∃ (i : Nat) (hi : i < xs.length), y = (i : Int) ∧ a ≤ xs[i].Grass ∧ fol a (dayL xs i a) r = some e := by
  by_cases hy : y < 0
  · rw [fol_neg a hy] at h; cases h
  · obtain ⟨i, rfl⟩ := Int.eq_ofNat_of_zero_le (by omega : 0 ≤ y)
    by_cases hi : i < xs.length
    · rw [fol_nat a hi] at h
      by_cases hg : a ≤ xs[i].Grass
      · rw [if_pos hg] at h; exact ⟨i, hi, rfl, hg, h⟩
      · rw [if_neg hg] at h; cases h
    · rw [fol_out a (by omega)] at h; cases h
theorem fol_mem {a : Int} : ∀ {ys : List Int} {xs e : List Meadow}, fol a xs ys = some e → ∀ y ∈ ys, inM xs y = true
  | [], xs, e, h, y, hy => by cases hy
  | z :: r, xs, e, h, y, hy => by
    obtain ⟨i, hi, rfl, hg, h2⟩ := fol_some h
    rcases List.mem_cons.1 hy with rfl | hy
    · exact decide_eq_true ⟨by omega, by omega⟩
    · have := fol_mem h2 y hy
      unfold inM at this ⊢
      rwa [dayL_len] at this

/-! ### The search -/
def Ev2 (f : Nat → Nat → Option α) (r : α) : Prop := ∃ K, ∀ s k, K ≤ s → K ≤ k → f s k = some r
theorem Ev2.of1 {f : Nat → Option α} {r : α} (h : Ev f r) : Ev2 (fun s _ => f s) r := by
  obtain ⟨K, hK⟩ := h
  exact ⟨K, fun s k hs _ => hK s hs⟩
theorem Ev2.of2 {f : Nat → Option α} {r : α} (h : Ev f r) : Ev2 (fun _ k => f k) r := by
  obtain ⟨K, hK⟩ := h
  exact ⟨K, fun s k _ hk => hK k hk⟩
theorem Ev2.const {x : Option α} {r : α} (h : x = some r) : Ev2 (fun _ _ => x) r := ⟨0, fun _ _ _ _ => h⟩
theorem Ev2.bind {f : Nat → Nat → Option α} {g : Nat → Nat → α → Option β} {a : α} {r : β} (h : Ev2 f a) (h2 : Ev2 (fun s k => g s k a) r) : Ev2 (fun s k => (f s k).bind (g s k)) r := by
  obtain ⟨K, h⟩ := h
  obtain ⟨K2, h2⟩ := h2
  refine ⟨K + K2, fun s k hs hk => ?_⟩
  show (f s k).bind (g s k) = some r
  rw [h s k (by omega) (by omega)]; exact h2 s k (by omega) (by omega)
theorem Ev2.step {l B : Nat → Nat → Option α} {r : α} (h : ∀ s k, l s (k + 1) = B s k) (hB : Ev2 B r) : Ev2 l r := by
  obtain ⟨K, hB⟩ := hB
  refine ⟨K + 1, fun s k hs hk => ?_⟩
  obtain ⟨k, rfl⟩ : ∃ j, k = j + 1 := ⟨k - 1, by omega⟩
  rw [h, hB s k (by omega) (by omega)]
theorem Ev2.congr {f g : Nat → Nat → Option α} {r : α} (h : Ev2 f r) (e : ∀ s k, g s k = f s k) : Ev2 g r := by
  obtain ⟨K, h⟩ := h
  exact ⟨K, fun s k hs hk => by rw [e, h s k hs hk]⟩
theorem Ev2.pos {c : Prop} [Decidable c] {f g : Nat → Nat → Option α} {r : α} (hc : c) (h : Ev2 f r) : Ev2 (fun s k => if c then f s k else g s k) r := h.congr fun _ _ => if_pos hc
theorem Ev2.neg {c : Prop} [Decidable c] {f g : Nat → Nat → Option α} {r : α} (hc : ¬ c) (h : Ev2 g r) : Ev2 (fun s k => if c then f s k else g s k) r := h.congr fun _ _ => if_neg hc
theorem Ev2.diag {f : Nat → Nat → Option α} {r : α} (h : Ev2 f r) : Ev (fun k => f k k) r := by
  obtain ⟨K, h⟩ := h
  exact ⟨K, fun k hk => h k k hk hk⟩

theorem cloneI_ev (xs : List Int) (hx : xs.length ≤ 1048576) : Ev (fun _ => slices_Clone_int64_int64.f xs) xs := by
  refine Ev.const ?_
  unfold slices_Clone_int64_int64.f
  rw [chk_t (by simp; omega)]; rfl
/-- What a search tells. -/
def Tells (a b : Int) (d : Nat) (plan : List Int) (xs : List Meadow) (t : Int) (L : List Int) (ok : Bool) (t' : Int) (ov : Bool) : Prop :=
  (ok = true → ov = false ∧ ∃ P e, L = plan ++ P ∧ P.length = d ∧ fol a xs P = some e ∧ t + d ≤ t') ∧
  (ok = false → ov = false → ∀ P, P.length = d → fol a xs P = none) ∧ (d ≤ 1 → t + d ≤ b → ov = false) ∧ t ≤ t' ∧ (d = 0 → ok = true)
theorem search_ev (a : Int) (ha : 1 ≤ a ∧ a ≤ 1000) (D b : Int) (hD : 0 ≤ D ∧ D ≤ 30) (hb : 0 ≤ b ∧ b ≤ 20000) (n : Nat) (hn : n ≤ 6) : ∀ (d : Nat) (plan : List Int) (xs : List Meadow) (t : Int), (plan.length : Int) + d = D → xs.length = n → (∀ x ∈ xs, okM x = true) → (0 ≤ t ∧ t ≤ b) →
    ∃ (L L' : List Int) (ok : Bool) (t' : Int) (ov : Bool), (0 ≤ t' ∧ t' ≤ b) ∧ (ok = true → L = L') ∧ L'.length ≤ 30 ∧ Tells a b d plan xs t L ok t' ov ∧ Ev (fun k => spec_l07Search_from.f k ⟨a, D, b, t, false⟩ xs plan) (L, ok, ⟨a, D, b, t', ov⟩) ∧ Ev (fun k => impl_planner_find.f k ⟨a, D, b, t, false⟩ xs plan) (L', ok, ⟨a, D, b, t', ov⟩)
  | 0, plan, xs, t, hd, hl, hok, ht => by
    refine ⟨plan, plan, true, t, false, ht, fun _ => rfl, by omega, ⟨fun _ => ⟨rfl, [], xs, by simp, rfl, rfl, by omega⟩, fun h => (by cases h), fun _ _ => rfl, by omega, fun _ => rfl⟩, Ev.step (fun k => spec_l07Search_from.f.eq_2 _ _ _ _) (Ev.pos (show (plan.length : Int) = D by omega) (Ev.const rfl)), Ev.step (fun k => impl_planner_find.f.eq_2 _ _ _ _) ?_⟩
    exact Ev.bind (Ev.const rfl) (Ev.pos (show (plan.length : Int) = D by omega) (Ev.const rfl))
  | d + 1, plan, xs, t, hd, hl, hok, ht => by
    have key : ∀ i : Nat, i ≤ n → ∀ t : Int, (0 ≤ t ∧ t ≤ b) → ∃ (L L' : List Int) (ok : Bool) (t' : Int) (ov : Bool), (0 ≤ t' ∧ t' ≤ b) ∧ (ok = true → L = L') ∧ L'.length ≤ 30 ∧ t ≤ t' ∧
        ((Ev2 (fun s k => spec_l07Search_from.l1 (spec_l07Search_from.f s) xs plan k ⟨a, D, b, t, false⟩ (i : Int)) (.inl (L, ok, ⟨a, D, b, t', ov⟩)) ∧ Ev2 (fun s k => impl_planner_find.l1 (impl_planner_find.f s) xs plan (xs.length : Int) k ⟨a, D, b, t, false⟩ (i : Int)) (.inl (L', ok, ⟨a, D, b, t', ov⟩)) ∧
            (ok = true → ov = false ∧ ∃ P e, L = plan ++ P ∧ P.length = d + 1 ∧ fol a xs P = some e ∧ t + (d + 1) ≤ t') ∧ (ok = false → ov = true) ∧ (d = 0 → t + 1 ≤ b → ov = false)) ∨
         (Ev2 (fun s k => spec_l07Search_from.l1 (spec_l07Search_from.f s) xs plan k ⟨a, D, b, t, false⟩ (i : Int)) (.inr ⟨a, D, b, t', false⟩) ∧ Ev2 (fun s k => impl_planner_find.l1 (impl_planner_find.f s) xs plan (xs.length : Int) k ⟨a, D, b, t, false⟩ (i : Int)) (.inr ⟨a, D, b, t', false⟩) ∧
            (∀ (j : Nat) (P : List Int), P.length = d → i ≤ j → fol a xs ((j : Int) :: P) = none))) := by
      refine upL ?_ ?_
      · intro t ht
        exact ⟨[], [], false, t, false, ht, fun h => rfl, by simp, by omega, .inr ⟨Ev2.step (fun s k => spec_l07Search_from.l1.eq_2 _ _ _ _ _ _) (Ev2.neg (by omega) (Ev2.const rfl)), Ev2.step (fun s k => impl_planner_find.l1.eq_2 _ _ _ _ _ _ _) (Ev2.neg (by omega) (Ev2.const rfl)), fun j P _ hj => fol_out a (by omega) P⟩⟩
      · intro i hi ih t ht
        have hix : i < xs.length := by omega
        obtain ⟨p, q, r⟩ := okM_parts (hok _ (List.getElem_mem hix))
        have e3 : IntKind.i64.wrap xs[i].Grass = xs[i].Grass := w64 (by omega) (by omega)
        by_cases hg : xs[i].Grass < a
        · obtain ⟨L, L', ok, t', ov, h1, h2, h3, hm, h4⟩ := ih t ht
          rw [← wsucc hi (by omega)] at h4
          have es : ∀ {r}, Ev2 (fun s k => spec_l07Search_from.l1 (spec_l07Search_from.f s) xs plan k ⟨a, D, b, t, false⟩ (IntKind.i64.wrap ((i : Int) + 1))) r → Ev2 (fun s k => spec_l07Search_from.l1 (spec_l07Search_from.f s) xs plan k ⟨a, D, b, t, false⟩ (i : Int)) r := fun h =>
            Ev2.step (fun s k => spec_l07Search_from.l1.eq_2 _ _ _ _ _ _) (Ev2.pos (by omega) (Ev2.bind (Ev2.const (getI_nat hix)) (Ev2.pos (by rw [e3]; exact hg) h)))
          have ei : ∀ {r}, Ev2 (fun s k => impl_planner_find.l1 (impl_planner_find.f s) xs plan (xs.length : Int) k ⟨a, D, b, t, false⟩ (IntKind.i64.wrap ((i : Int) + 1))) r → Ev2 (fun s k => impl_planner_find.l1 (impl_planner_find.f s) xs plan (xs.length : Int) k ⟨a, D, b, t, false⟩ (i : Int)) r := fun h =>
            Ev2.step (fun s k => impl_planner_find.l1.eq_2 _ _ _ _ _ _ _) (Ev2.pos (by omega) (Ev2.bind (Ev2.of2 (behind_no hok hix hg)) (Ev2.pos rfl h)))
          refine ⟨L, L', ok, t', ov, h1, h2, h3, hm, ?_⟩
          rcases h4 with ⟨h5, h6, h7⟩ | ⟨h5, h6, h7⟩
          · exact .inl ⟨es h5, ei h6, h7⟩
          · refine .inr ⟨es h5, ei h6, fun j P hP hj => ?_⟩
            rcases Nat.eq_or_lt_of_le hj with rfl | hj
            · rw [fol_nat a hix, if_neg (by omega)]
            · exact h7 j P hP hj
        · by_cases hbt : t = b
          · refine ⟨plan, [], false, t, true, ht, (fun h => by cases h), by simp, by omega, .inl ⟨?_, ?_, (fun h => by cases h), fun _ => rfl, (fun _ h => by omega)⟩⟩
            · exact Ev2.step (fun s k => spec_l07Search_from.l1.eq_2 _ _ _ _ _ _) (Ev2.pos (by omega) (Ev2.bind (Ev2.const (getI_nat hix)) (Ev2.neg (by rw [e3]; exact hg) (Ev2.pos hbt (Ev2.const rfl)))))
            · exact Ev2.step (fun s k => impl_planner_find.l1.eq_2 _ _ _ _ _ _ _) (Ev2.pos (by omega) (Ev2.bind (Ev2.of2 (behind_ev (a := a) hok (by omega) hix (by omega) (by omega))) (Ev2.neg (by simp) (Ev2.pos hbt (Ev2.const rfl)))))
          · have hw : IntKind.i64.wrap (t + 1) = t + 1 := w64 (by omega) (by omega)
            obtain ⟨L, L', ok, t', ov, g1, g2, g3, gT, g4, g5⟩ := search_ev a ha D b hD hb n hn d (plan ++ [(i : Int)]) (dayL xs i a) (t + 1) (by simp; omega) (by rw [dayL_len, hl]) (dayL_ok hok hix (by omega) (by omega)) (by omega)
            obtain ⟨T1, T2, T3, T4, T5⟩ := gT
            have c1 : chk (([] : List Int).length + plan.length ≤ 4294967296) = some () := chk_t (by simp; omega)
            have c2 : chk ((([] : List Int) ++ plan).length + ([(i : Int)] : List Int).length ≤ 4294967296) = some () := chk_t (by simp; omega)
            have c3 : chk (plan.length + ([(i : Int)] : List Int).length ≤ 4294967296) = some () := chk_t (by simp; omega)
            have es : ∀ {r}, Ev2 (fun s k => if ok = true then (some (Sum.inl (L, ok, (⟨a, D, b, t', ov⟩ : l07Search)))) else (if ov = true then (some (Sum.inl (L, ok, (⟨a, D, b, t', ov⟩ : l07Search)))) else (spec_l07Search_from.l1 (spec_l07Search_from.f s) xs plan k ⟨a, D, b, t', ov⟩ (IntKind.i64.wrap ((i : Int) + 1))))) r → Ev2 (fun s k => spec_l07Search_from.l1 (spec_l07Search_from.f s) xs plan k ⟨a, D, b, t, false⟩ (i : Int)) r := fun h => by
              refine Ev2.step (fun s k => spec_l07Search_from.l1.eq_2 _ _ _ _ _ _) (Ev2.pos (by omega) (Ev2.bind (Ev2.const (getI_nat hix)) (Ev2.neg (by rw [e3]; exact hg) (Ev2.neg hbt ?_))))
              refine Ev2.bind (Ev2.of2 (l07Day_ev (a := a) hok (by omega) hix (by omega) (by omega))) (Ev2.bind (Ev2.const c1) (Ev2.bind (Ev2.const c2) ?_))
              simp only [hw, List.nil_append]
              exact Ev2.bind (Ev2.of1 g4) h
            have ei : ∀ {r}, Ev2 (fun s k => if ok = true then (some (Sum.inl (L', ok, (⟨a, D, b, t', ov⟩ : planner)))) else (if ov = true then (some (Sum.inl (L', ok, (⟨a, D, b, t', ov⟩ : planner)))) else (impl_planner_find.l1 (impl_planner_find.f s) xs plan (xs.length : Int) k ⟨a, D, b, t', ov⟩ (IntKind.i64.wrap ((i : Int) + 1))))) r → Ev2 (fun s k => impl_planner_find.l1 (impl_planner_find.f s) xs plan (xs.length : Int) k ⟨a, D, b, t, false⟩ (i : Int)) r := fun h => by
              refine Ev2.step (fun s k => impl_planner_find.l1.eq_2 _ _ _ _ _ _ _) (Ev2.pos (by omega) (Ev2.bind (Ev2.of2 (behind_ev (a := a) hok (by omega) hix (by omega) (by omega))) (Ev2.neg (by simp) (Ev2.neg hbt ?_))))
              refine Ev2.bind (Ev2.of2 (cloneI_ev plan (by omega))) (Ev2.bind (Ev2.const c3) ?_)
              simp only [hw]
              exact Ev2.bind (Ev2.of1 g5) h
            cases hok' : ok
            · cases hov : ov
              · subst hok' hov
                obtain ⟨M, M', ok2, t2, ov2, k1, k2, k3, km, k4⟩ := ih t' g1
                rw [← wsucc hi (by omega)] at k4
                refine ⟨M, M', ok2, t2, ov2, k1, k2, k3, by omega, ?_⟩
                rcases k4 with ⟨k5, k6, k7, k8, k9⟩ | ⟨k5, k6, k7⟩
                · refine .inl ⟨es (Ev2.neg (by simp) (Ev2.neg (by simp) k5)), ei (Ev2.neg (by simp) (Ev2.neg (by simp) k6)), fun h => ?_, k8, (fun h0 _ => by cases T5 h0)⟩
                  obtain ⟨z, P, e, z1, z2, z3, z4⟩ := k7 h
                  exact ⟨z, P, e, z1, z2, z3, by omega⟩
                · refine .inr ⟨es (Ev2.neg (by simp) (Ev2.neg (by simp) k5)), ei (Ev2.neg (by simp) (Ev2.neg (by simp) k6)), fun j P hP hj => ?_⟩
                  rcases Nat.eq_or_lt_of_le hj with rfl | hj
                  · rw [fol_nat a hix, if_pos (by omega)]
                    exact T2 rfl rfl P hP
                  · exact k7 j P hP hj
              · subst hok' hov
                exact ⟨L, L', false, t', true, g1, (fun h => by cases h), g3, by omega, .inl ⟨es (Ev2.neg (by simp) (Ev2.pos rfl (Ev2.const rfl))), ei (Ev2.neg (by simp) (Ev2.pos rfl (Ev2.const rfl))), (fun h => by cases h), fun _ => rfl, (fun h0 _ => by cases T5 h0)⟩⟩
            · subst hok'
              obtain ⟨rfl, P, e, z1, z2, z3, z4⟩ := T1 rfl
              refine ⟨L, L', true, t', false, g1, g2, g3, by omega, .inl ⟨es (Ev2.pos rfl (Ev2.const rfl)), ei (Ev2.pos rfl (Ev2.const rfl)), fun _ => ⟨rfl, (i : Int) :: P, e, by rw [z1]; simp, by simp [z2], ?_, by omega⟩, (fun h => by cases h), fun _ _ => rfl⟩⟩
              rw [fol_nat a hix, if_pos (by omega)]
              exact z3
    obtain ⟨L, L', ok, t', ov, h1, h2, h3, hm, h4⟩ := key 0 (Nat.zero_le _) t ht
    rcases h4 with ⟨h5, h6, h7, h8, h9⟩ | ⟨h5, h6, h7⟩
    · refine ⟨L, L', ok, t', ov, h1, h2, h3, ⟨fun h => ?_, fun e1 e2 => ?_, fun e1 e2 => h9 (by omega) (by omega), hm, (fun h => by cases h)⟩, Ev.step (fun k => spec_l07Search_from.f.eq_2 _ _ _ _) (Ev.neg (show ¬ (plan.length : Int) = D by omega) (Ev.bind h5.diag (Ev.const rfl))), Ev.step (fun k => impl_planner_find.f.eq_2 _ _ _ _) ?_⟩
      · obtain ⟨z, P, e, z1, z2, z3, z4⟩ := h7 h
        exact ⟨z, P, e, z1, z2, z3, by omega⟩
      · rw [h8 e1] at e2; cases e2
      · exact Ev.bind (Ev.const rfl) (Ev.neg (show ¬ (plan.length : Int) = D by omega) (Ev.bind (Ev.const rfl) (Ev.bind h6.diag (Ev.const rfl))))
    · refine ⟨plan, [], false, t', false, h1, (fun h => by cases h), by simp, ⟨(fun h => by cases h), fun _ _ P hP => ?_, fun _ _ => rfl, hm, (fun h => by cases h)⟩, Ev.step (fun k => spec_l07Search_from.f.eq_2 _ _ _ _) (Ev.neg (show ¬ (plan.length : Int) = D by omega) (Ev.bind h5.diag (Ev.const rfl))), Ev.step (fun k => impl_planner_find.f.eq_2 _ _ _ _) ?_⟩
      · cases P with
        | nil => cases hP
        | cons y P =>
          by_cases hy : y < 0
          · exact fol_neg a hy P
          · obtain ⟨j, rfl⟩ := Int.eq_ofNat_of_zero_le (by omega : 0 ≤ y)
            exact h7 j P (by simpa using hP) (Nat.zero_le _)
      · exact Ev.bind (Ev.const rfl) (Ev.neg (show ¬ (plan.length : Int) = D by omega) (Ev.bind (Ev.const rfl) (Ev.bind h6.diag (Ev.const rfl))))
/-- What is found. -/
def Found (a D b : Int) (xs : List Meadow) (r : List Int × Int × Int) : Prop :=
  (r.2.2 = 0 ∨ r.2.2 = 6 ∨ r.2.2 = 7) ∧ (r.2.2 = 0 → (r.1.length : Int) = D ∧ (∃ e, fol a xs r.1 = some e) ∧ D ≤ r.2.1) ∧ (r.2.2 = 6 → ∀ P : List Int, (P.length : Int) = D → fol a xs P = none) ∧ (D ≤ 1 → D ≤ b → r.2.2 ≠ 7) ∧ r.1.length ≤ 30
theorem found_ev {xs : List Meadow} (hok : ∀ x ∈ xs, okM x = true) (hn : xs.length ≤ 6) {a : Int} (ha : 1 ≤ a ∧ a ≤ 1000) {D b : Int} (hD : 0 ≤ D ∧ D ≤ 30) (hb : 0 ≤ b ∧ b ≤ 20000) :
    ∃ r : List Int × Int × Int, Found a D b xs r ∧ Ev (fun k => spec_l07Found.f k xs a D b) r ∧ Ev (fun k => impl_firstPlan.f k xs a D b) r := by
  obtain ⟨L, L', ok, t', ov, h1, h2, h3, ⟨T1, T2, T3, T4, T5⟩, h4, h5⟩ := search_ev a ha D b hD hb xs.length hn D.toNat [] xs 0 (by simp; omega) rfl hok (by omega)
  cases ov
  · cases ok
    · exact ⟨([], 0, 6), ⟨by simp, by simp, fun _ P hP => T2 rfl rfl P (by omega), by simp, by simp⟩, h4.bind (Ev.neg (by simp) (Ev.pos rfl (Ev.const rfl))), h5.bind (Ev.neg (by simp) (Ev.pos rfl (Ev.const rfl)))⟩
    · obtain rfl := h2 rfl
      obtain ⟨_, P, e, z1, z2, z3, z4⟩ := T1 rfl
      rw [List.nil_append] at z1
      subst z1
      exact ⟨(L, t', 0), ⟨by simp, fun _ => ⟨by simp only; omega, ⟨e, z3⟩, by simp only; omega⟩, by simp, by simp, h3⟩, h4.bind (Ev.neg (by simp) (Ev.neg (by simp) (Ev.const rfl))), h5.bind (Ev.neg (by simp) (Ev.neg (by simp) (Ev.const rfl)))⟩
  · refine ⟨([], 0, 7), ⟨by simp, by simp, by simp, fun g1 g2 => ?_, by simp⟩, h4.bind (Ev.pos rfl (Ev.const rfl)), h5.bind (Ev.pos rfl (Ev.const rfl))⟩
    cases T3 (by omega) (by omega)
end Go.Proofs.Ytnjeddecmccdcaa
