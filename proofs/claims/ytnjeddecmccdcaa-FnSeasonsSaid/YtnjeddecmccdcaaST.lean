/-
  Plain laws: plans that are followed, greedy plans, rests; what is enough; the greatest need.
-/
import Derived.Test.YtnjeddecmccdcaaSS
namespace Go.Proofs.Ytnjeddecmccdcaa
open G
set_option linter.unusedVariables false
set_option linter.unusedSimpArgs false
variable {α β : Type}

/-- Meadows in order, few of them. -/
def GoodM (xs : List Meadow) : Prop := (∀ x ∈ xs, okM x = true) ∧ 1 ≤ xs.length ∧ xs.length ≤ 6
theorem GoodM.day {xs : List Meadow} (h : GoodM xs) {i : Nat} (hi : i < xs.length) {a : Int} (h0 : 0 ≤ a) (ha : a ≤ xs[i].Grass) : GoodM (dayL xs i a) := by
  refine ⟨dayL_ok h.1 hi h0 ha, ?_, ?_⟩ <;> rw [dayL_len]
  · exact h.2.1
  · exact h.2.2
theorem GoodM.v {xs : List Meadow} (h : GoodM xs) : vM xs = true := by
  unfold vM
  rw [Bool.and_eq_true, List.all_eq_true, decide_eq_true_eq]
  exact ⟨h.1, h.2.1, h.2.2⟩
theorem GoodM.ask {xs : List Meadow} (h : GoodM xs) {a : Int} (ha : 1 ≤ a ∧ a ≤ 1000) : askC xs a true = 0 := by
  unfold askC
  rw [h.v]
  simp [ha]
theorem GoodM.V {xs : List Meadow} (h : GoodM xs) : ∀ x ∈ xs, VMeadow x := fun x hx => okM_V (h.1 x hx)

/-! ### A day -/
theorem dayBoth_ev {xs : List Meadow} (h : GoodM xs) {a : Int} (ha : 1 ≤ a ∧ a ≤ 1000) {i : Nat} (hi : i < xs.length) (hg : a ≤ xs[i].Grass) :
    Ev (fun k => impl_DayBehind.f k xs a (i : Int)) (dayL xs i a, 0) ∧ Ev (fun k => spec_DayBehind.f k xs a (i : Int)) (dayL xs i a, 0) := by
  have hx := h.2.2
  have hin : inM xs (i : Int) = true := decide_eq_true ⟨by omega, by omega⟩
  have e : [(i : Int)].all (inM xs) = true := by simp [hin]
  obtain ⟨p, q, r⟩ := okM_parts (h.1 _ (List.getElem_mem hi))
  have e3 : IntKind.i64.wrap xs[i].Grass = xs[i].Grass := w64 (by omega) (by omega)
  have hm := meadowCode_ev xs h.V (by omega) a [(i : Int)] (by simp)
  rw [e, h.ask ha] at hm
  have hs := asked_ev xs h.V (by omega) a true
  rw [h.ask ha] at hs
  refine ⟨hm.bind (Ev.neg (by simp) ((behind_ev h.1 (by omega) hi (by omega) hg).bind (Ev.neg (by simp) (Ev.const rfl)))), ?_⟩
  refine Ev.bind (Ev.const (by rw [l07Index_eq xs (by omega), hin])) (hs.bind (Ev.neg (by simp) (Ev.bind (Ev.const (getI_nat hi)) ?_)))
  rw [e3]
  exact Ev.neg (by omega) ((l07Day_ev h.1 (by omega) hi (by omega) hg).bind (Ev.const rfl))

/-! ### Plans -/
theorem planCode_ev (xs : List Meadow) (hv : ∀ x ∈ xs, VMeadow x) (hx : xs.length ≤ 1048576) (a : Int) (ys : List Int) (hy : ys.length ≤ 1048576) : Ev (fun k => impl_planCode.f k xs a ys) (askC xs a (decide ((ys.length : Int) ≤ 30) && ys.all (inM xs))) := by
  refine Ev.bind (meadowCode_ev xs hv hx a ys hy) ?_
  have hu : impl_unless.f (decide ((ys.length : Int) ≤ 30)) 2 = some (if (ys.length : Int) ≤ 30 then 0 else 2) := by
    unfold impl_unless.f
    by_cases h : (ys.length : Int) ≤ 30 <;> simp [h]
  refine Ev.bind (Ev.const hu) (Ev.bind (firstOf_ev _ _) (Ev.const ?_))
  congr 1
  unfold askC
  cases vM xs
  · simp
  · by_cases h1 : 1 ≤ a ∧ a ≤ 1000
    · by_cases h2 : (ys.length : Int) ≤ 30 <;> cases ys.all (inM xs) <;> simp [h1, h2]
    · simp [h1]
theorem follow_loop {a : Int} (ha : 1 ≤ a ∧ a ≤ 1000) (ys : List Int) (hl : ys.length ≤ 30) : ∀ j, j ≤ ys.length → ∀ (cur e : List Meadow), GoodM cur → fol a cur (ys.drop j) = some e → Ev (fun k => impl_follow.l1 a ys k cur (j : Int)) (.inr e) := by
  refine upL ?_ ?_
  · intro cur e hg h
    rw [List.drop_length, fol] at h
    obtain rfl := Option.some.inj h
    exact Ev.step (fun k => impl_follow.l1.eq_2 _ _ _ _ _) (Ev.neg (by omega) (Ev.const rfl))
  · intro j hj ih cur e hg h
    rw [List.drop_eq_getElem_cons hj] at h
    obtain ⟨i, hi, hy, hgr, h2⟩ := fol_some h
    refine Ev.step (fun k => impl_follow.l1.eq_2 _ _ _ _ _) (Ev.pos (by omega) (Ev.bind (Ev.const (getI_nat hj)) ?_))
    rw [hy]
    refine (behind_ev hg.1 (by have := hg.2.2; omega) hi (by omega) hgr).bind (Ev.neg (by simp) ?_)
    simp only [wsucc hj (by omega)]
    exact ih _ e (hg.day hi (by omega) hgr) h2
theorem follow_ev {xs e : List Meadow} (h : GoodM xs) {a : Int} (ha : 1 ≤ a ∧ a ≤ 1000) {ys : List Int} (hl : ys.length ≤ 30) (hf : fol a xs ys = some e) :
    Ev (fun k => impl_CheckPlan.f k xs a ys) (true, 0) ∧ Ev (fun k => impl_FirstHungry.f k xs a ys) (0, 6) ∧ Ev (fun k => impl_GrassBehind.f k xs a ys) (e, 0) := by
  have hc := planCode_ev xs h.V (by have := h.2.2; omega) a ys (by omega)
  have hall : ys.all (inM xs) = true := List.all_eq_true.2 (fol_mem hf)
  rw [hall, decide_eq_true (by omega), Bool.and_true, h.ask ha] at hc
  have hfo : Ev (fun k => impl_follow.f k xs a ys) ((ys.length : Int), e) := Ev.bind (follow_loop ha ys hl 0 (Nat.zero_le _) xs e h (by rw [List.drop_zero]; exact hf)) (Ev.const rfl)
  have hlen : ∀ (ys : List Int) (xs e : List Meadow), fol a xs ys = some e → e.length = xs.length := by
    intro ys
    induction ys with
    | nil => intro xs e h; rw [fol] at h; obtain rfl := Option.some.inj h; rfl
    | cons y r ih => intro xs e h; obtain ⟨i, hi, _, _, h2⟩ := fol_some h; rw [ih _ _ h2, dayL_len]
  have hcl : slices_Clone_impl_Meadow_impl_Meadow.f e = some e := by
    unfold slices_Clone_impl_Meadow_impl_Meadow.f
    rw [chk_t (by have := hlen ys xs e hf; have := h.2.2; simp; omega)]; rfl
  refine ⟨hc.bind (Ev.neg (by simp) (hfo.bind (Ev.const (by simp)))), hc.bind (Ev.neg (by simp) (hfo.bind (Ev.pos rfl (Ev.const rfl)))), hc.bind (Ev.neg (by simp) (hfo.bind (Ev.neg (by simp) (Ev.bind (Ev.const hcl) (Ev.const rfl)))))⟩

/-! ### Enough -/
def sumM (m : Int) : List Meadow → Int
  | [] => 0
  | x :: r => (x.Grass + x.Grows * m) + sumM m r
theorem sumM_bd (m : Int) (h0 : 0 ≤ m) (h1 : m ≤ 29) : ∀ (xs : List Meadow), (∀ x ∈ xs, okM x = true) → 0 ≤ sumM m xs ∧ sumM m xs ≤ 30000 * (xs.length : Int)
  | [], _ => by simp [sumM]
  | x :: r, h => by
    have ih := sumM_bd m h0 h1 r (fun y hy => h y (by simp [hy]))
    obtain ⟨a, b, c⟩ := okM_parts (h x (by simp))
    have g0 : 0 ≤ x.Grows * m := Int.mul_nonneg c.1 h0
    have g1 : x.Grows * m ≤ 1000 * 29 := Int.mul_le_mul (by omega) h1 h0 (by omega)
    simp only [sumM, List.length_cons]
    omega
theorem enoughSpec_loop (xs : List Meadow) (hok : ∀ x ∈ xs, okM x = true) (hv : ∀ x ∈ xs, VMeadow x) (d m : Int) (hm : spec_l00Max.f 0 (IntKind.i64.wrap (d - 1)) = some m) (h0 : 0 ≤ m) (h1 : m ≤ 29) (hx : xs.length ≤ 6) : ∀ i, i ≤ xs.length → ∀ y : Int, 0 ≤ y → y + sumM m (xs.drop i) ≤ 1000000 → Ev (fun k => spec_EnoughFor.l1 xs d k y (i : Int)) (y + sumM m (xs.drop i)) := by
  refine upL ?_ ?_
  · intro y _ _
    refine Ev.step (fun k => spec_EnoughFor.l1.eq_2 _ _ _ _ _) (Ev.neg (by omega) (Ev.const ?_))
    simp [sumM]
  · intro i hi ih y hy hb
    refine Ev.step (fun k => spec_EnoughFor.l1.eq_2 _ _ _ _ _) (Ev.pos (by omega) ?_)
    obtain ⟨v1, v2, v3⟩ := hv _ (List.getElem_mem hi)
    obtain ⟨a, b, c⟩ := okM_parts (hok _ (List.getElem_mem hi))
    have g0 : 0 ≤ xs[i].Grows * m := Int.mul_nonneg c.1 h0
    have g1 : xs[i].Grows * m ≤ 1000 * 29 := Int.mul_le_mul (by omega) h1 h0 (by omega)
    have hs := sumM_bd m h0 h1 (xs.drop (i + 1)) (fun x hx => hok x (List.mem_of_mem_drop hx))
    rw [List.drop_eq_getElem_cons hi] at hb ⊢
    simp only [sumM] at hb ⊢
    simp only [getI_nat hi, Option.bind_some, hm, i16_64 v1, i16_64 v2, wsucc hi (by omega)]
    rw [w64 (x := xs[i].Grows * m) (by omega) (by omega), w64 (x := xs[i].Grass + xs[i].Grows * m) (by omega) (by omega), w64 (x := y + (xs[i].Grass + xs[i].Grows * m)) (by omega) (by omega)]
    have := ih (y + (xs[i].Grass + xs[i].Grows * m)) (by omega) (by omega)
    rwa [Int.add_assoc] at this
theorem enoughImpl_loop (xs : List Meadow) (hok : ∀ x ∈ xs, okM x = true) (hv : ∀ x ∈ xs, VMeadow x) (d : Int) (h0 : 0 ≤ d - 1) (h1 : d - 1 ≤ 29) (hx : xs.length ≤ 6) : ∀ i, i ≤ xs.length → ∀ y : Int, 0 ≤ y → y + sumM (d - 1) (xs.drop i) ≤ 1000000 → Ev (fun k => impl_EnoughFor.l1 xs d k y (i : Int)) (y + sumM (d - 1) (xs.drop i)) := by
  refine upL ?_ ?_
  · intro y _ _
    refine Ev.step (fun k => impl_EnoughFor.l1.eq_2 _ _ _ _ _) (Ev.neg (by omega) (Ev.const ?_))
    simp [sumM]
  · intro i hi ih y hy hb
    refine Ev.step (fun k => impl_EnoughFor.l1.eq_2 _ _ _ _ _) (Ev.pos (by omega) ?_)
    obtain ⟨v1, v2, v3⟩ := hv _ (List.getElem_mem hi)
    obtain ⟨a, b, c⟩ := okM_parts (hok _ (List.getElem_mem hi))
    have g0 : 0 ≤ xs[i].Grows * (d - 1) := Int.mul_nonneg c.1 h0
    have g1 : xs[i].Grows * (d - 1) ≤ 1000 * 29 := Int.mul_le_mul (by omega) h1 h0 (by omega)
    have hs := sumM_bd (d - 1) h0 h1 (xs.drop (i + 1)) (fun x hx => hok x (List.mem_of_mem_drop hx))
    rw [List.drop_eq_getElem_cons hi] at hb ⊢
    simp only [sumM] at hb ⊢
    simp only [getI_nat hi, Option.bind_some, i16_64 v1, i16_64 v2, wsucc hi (by omega)]
    rw [w64 (x := d - 1) (by omega) (by omega), w64 (x := xs[i].Grows * (d - 1)) (by omega) (by omega), w64 (x := xs[i].Grass + xs[i].Grows * (d - 1)) (by omega) (by omega), w64 (x := y + (xs[i].Grass + xs[i].Grows * (d - 1))) (by omega) (by omega)]
    have := ih (y + (xs[i].Grass + xs[i].Grows * (d - 1))) (by omega) (by omega)
    rwa [Int.add_assoc] at this
theorem enough_ev {xs : List Meadow} (h : GoodM xs) {a d : Int} (ha : 1 ≤ a ∧ a ≤ 1000) (hd : 1 ≤ d ∧ d ≤ 30) :
    Ev (fun k => impl_EnoughFor.f k xs a d) (decide (a * d ≤ sumM (d - 1) xs), 0) ∧ Ev (fun k => spec_EnoughFor.f k xs a d) (decide (a * d ≤ sumM (d - 1) xs), 0) := by
  obtain ⟨g1, g2, g3⟩ := h
  have hv := GoodM.V ⟨g1, g2, g3⟩
  have hask := GoodM.ask ⟨g1, g2, g3⟩ ha
  have hsp : spec_l07Days.f d = some true := by unfold spec_l07Days.f; rw [l00In_eq, decide_eq_true (by omega)]; rfl
  have hs := sumM_bd (d - 1) (by omega) (by omega) xs g1
  have hl := enoughSpec_loop xs g1 hv d (d - 1) (by unfold spec_l00Max.f; rw [w64 (by omega) (by omega)]; split <;> simp <;> omega) (by omega) (by omega) g3 0 (Nat.zero_le _) 0 (by omega) (by rw [List.drop_zero]; omega)
  have hl2 := enoughImpl_loop xs g1 hv d (by omega) (by omega) g3 0 (Nat.zero_le _) 0 (by omega) (by rw [List.drop_zero]; omega)
  rw [List.drop_zero, Int.zero_add] at hl hl2
  have hm : a * d ≤ 1000 * 30 := Int.mul_le_mul ha.2 hd.2 (by omega) (by omega)
  have hm0 : 0 ≤ a * d := Int.mul_nonneg (by omega) (by omega)
  have hc := spanCode_ev xs hv (by omega) a d
  have hk := asked_ev xs hv (by omega) a true
  rw [decide_eq_true (by omega), hask] at hc
  rw [hask] at hk
  refine ⟨hc.bind (Ev.neg (by simp) (hl2.bind (Ev.neg (by omega) (Ev.const ?_)))), Ev.bind (Ev.const hsp) (hk.bind (Ev.neg (by simp) (hl.bind (Ev.const ?_))))⟩
  · rw [w64 (by omega) (by omega)]
  · rw [w64 (by omega) (by omega)]
theorem sumM_map (m : Int) : ∀ xs : List Meadow, sumM m (xs.map dayM) ≤ sumM (m + 1) xs
  | [] => by simp [sumM]
  | x :: r => by
    have := sumM_map m r
    simp only [List.map_cons, sumM]
    have h1 : (dayM x).Grass ≤ x.Grass + x.Grows := by unfold dayM; simp only; split <;> omega
    have h2 : (dayM x).Grows = x.Grows := rfl
    rw [h2, Int.mul_add, Int.mul_one]
    omega
theorem sumM_set (m : Int) : ∀ (xs : List Meadow) (i : Nat) (hi : i < xs.length) (a : Int), sumM m (xs.set i ⟨xs[i].Grass - a, xs[i].Grows, xs[i].Most⟩) = sumM m xs - a
  | x :: r, 0, hi, a => by simp only [List.set_cons_zero, sumM, List.getElem_cons_zero]; omega
  | x :: r, i + 1, hi, a => by
    have := sumM_set m r i (by simpa using hi) a
    simp only [List.set_cons_succ, sumM, List.getElem_cons_succ, this]
    omega
theorem sumM_day (m : Int) {xs : List Meadow} {i : Nat} (hi : i < xs.length) (a : Int) : sumM m (dayL xs i a) ≤ sumM (m + 1) xs - a := by
  unfold dayL
  rw [eatM_at hi, ← sumM_set (m + 1) xs i hi a]
  exact sumM_map m _
theorem sumM_one : ∀ {xs : List Meadow} {i : Nat} (hi : i < xs.length), (∀ x ∈ xs, okM x = true) → xs[i].Grass ≤ sumM 0 xs
  | x :: r, 0, _, h => by
    have := sumM_bd 0 (by omega) (by omega) r (fun y hy => h y (by simp [hy]))
    simp only [List.getElem_cons_zero, sumM]; omega
  | x :: r, i + 1, hi, h => by
    have := sumM_one (xs := r) (i := i) (by simpa using hi) (fun y hy => h y (by simp [hy]))
    obtain ⟨_, b, _⟩ := okM_parts (h x (by simp))
    simp only [List.getElem_cons_succ, sumM]; omega
/-- Where a plan is followed there is enough. -/
theorem fol_enough {a : Int} (ha : 1 ≤ a) : ∀ (d : Nat) (ys : List Int) (xs e : List Meadow), ys.length = d + 1 → GoodM xs → fol a xs ys = some e → a * ((d : Int) + 1) ≤ sumM (d : Int) xs
  | 0, ys, xs, e, hl, hg, h => by
    cases ys with
    | nil => cases hl
    | cons y r =>
      obtain ⟨i, hi, _, hgr, _⟩ := fol_some h
      have := sumM_one hi hg.1
      simp only [Int.natCast_zero, Int.zero_add, Int.mul_one]
      omega
  | d + 1, ys, xs, e, hl, hg, h => by
    cases ys with
    | nil => cases hl
    | cons y r =>
      obtain ⟨i, hi, _, hgr, h2⟩ := fol_some h
      have ih := fol_enough ha d r (dayL xs i a) e (by simpa using hl) (hg.day hi (by omega) hgr) h2
      have := sumM_day (d : Int) hi a
      have e1 : a * (((d + 1 : Nat) : Int) + 1) = a * ((d : Int) + 1) + a := by rw [Int.natCast_add, Int.mul_add (c := 1), Int.mul_one]; rfl
      rw [e1, Int.natCast_add]
      have e2 : ((1 : Nat) : Int) = 1 := rfl
      rw [e2]
      omega
end Go.Proofs.Ytnjeddecmccdcaa
