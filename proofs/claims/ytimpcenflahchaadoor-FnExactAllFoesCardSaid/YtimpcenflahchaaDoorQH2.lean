/-
  Plain laws: what is asked of a herd: goats, groups, quarrels.
-/
import Derived.Test.YtimpcenflahchaaDoorQH1
namespace Go.Proofs.YtimpcenflahchaaDoor
open G
set_option linter.unusedVariables false
set_option linter.unusedSimpArgs false

theorem indexI_loop (xs : List Int) {g : Int → Option Bool} {p : Int → Bool} (hg : ∀ x ∈ xs, g x = some (p x)) (hx : xs.length ≤ 9223372036854775806) : ∀ i : Nat, i ≤ xs.length → ∃ r, Ev (fun k => slices_IndexFunc_int64_int64.l1 xs g k (i : Int)) r ∧
    ((r = .inr () ∧ (xs.drop i).any p = false) ∨ ∃ j : Int, 0 ≤ j ∧ r = .inl j ∧ (xs.drop i).any p = true) := by
  refine upL ?_ ?_
  · refine ⟨.inr (), Ev.step (fun k => slices_IndexFunc_int64_int64.l1.eq_2 _ _ _ _) ?_, .inl ⟨rfl, by simp⟩⟩
    exact Ev.neg (by omega) (Ev.const rfl)
  · rintro i hi ⟨r, ih, h⟩
    by_cases hb : p xs[i] = true
    · refine ⟨.inl (i : Int), Ev.step (fun k => slices_IndexFunc_int64_int64.l1.eq_2 _ _ _ _) ?_, .inr ⟨i, by omega, rfl, ?_⟩⟩
      · refine Ev.pos (by omega) ?_
        simp only [getI_nat hi, Option.bind_some, hg _ (List.getElem_mem hi), hb, if_true]
        exact Ev.const rfl
      · rw [List.drop_eq_getElem_cons hi, List.any_cons, hb, Bool.true_or]
    · refine ⟨r, Ev.step (fun k => slices_IndexFunc_int64_int64.l1.eq_2 _ _ _ _) ?_, ?_⟩
      · refine Ev.pos (by omega) ?_
        simp only [getI_nat hi, Option.bind_some, hg _ (List.getElem_mem hi), wsucc hi (by omega)]
        exact Ev.neg hb ih
      · rw [List.drop_eq_getElem_cons hi, List.any_cons]
        simp only [Bool.not_eq_true] at hb
        rw [hb, Bool.false_or]
        exact h
theorem containsI_ev (xs : List Int) {g : Int → Option Bool} {p : Int → Bool} (hg : ∀ x ∈ xs, g x = some (p x)) (hx : xs.length ≤ 9223372036854775806) : Ev (fun k => slices_ContainsFunc_int64_int64.f k xs g) (xs.any p) := by
  obtain ⟨r, hr, h⟩ := indexI_loop xs hg hx 0 (Nat.zero_le _)
  rw [List.drop_zero] at h
  rcases h with ⟨rfl, h⟩ | ⟨j, hj, rfl, h⟩
  · rw [h]; exact Ev.bind (Ev.bind hr (Ev.const rfl)) (Ev.const rfl)
  · rw [h]; exact Ev.bind (Ev.bind hr (Ev.const rfl)) (Ev.const (by simp [hj]))

/-! ### Goats -/
def goatB (h : Herd) (g : Int) : Bool := decide (0 ≤ g ∧ g ≤ (h.Names.length : Int) - 1)
def goatC (h : Herd) (gs : List Int) : Int := if vH h = false then 1 else if gs.all (goatB h) = true then 0 else 2
theorem asked_loop {h : Herd} (hn : h.Names.length ≤ 14) (gs : List Int) (hx : gs.length ≤ 1048576) : ∀ i : Nat, i ≤ gs.length → Ev (fun k => spec_l06Asked.l1 h gs k (i : Int)) (if (gs.drop i).all (goatB h) = true then .inr () else .inl 2) := by
  refine upL ?_ ?_
  · rw [List.drop_of_length_le (Nat.le_refl _)]
    exact Ev.step (fun k => spec_l06Asked.l1.eq_2 _ _ _ _) (Ev.neg (by omega) (Ev.const rfl))
  · intro i hi ih
    refine Ev.step (fun k => spec_l06Asked.l1.eq_2 _ _ _ _) (Ev.pos (by omega) ?_)
    rw [List.drop_eq_getElem_cons hi, List.all_cons]
    simp only [getI_nat hi, Option.bind_some, l00In_eq, w64 (show -9223372036854775808 ≤ (h.Names.length : Int) - 1 by omega) (by omega), wsucc hi (by omega)]
    by_cases h1 : 0 ≤ gs[i] ∧ gs[i] ≤ (h.Names.length : Int) - 1
    · refine Ev.neg (by simp [h1]) ?_
      simpa [goatB, h1] using ih
    · refine Ev.pos (by simp [h1]) (Ev.const ?_)
      simp [goatB, h1]
theorem specAsked_ev {h : Herd} (v : VHerd h) (gs : List Int) (hx : gs.length ≤ 1048576) : Ev (fun k => spec_l06Asked.f k h gs) (goatC h gs) := by
  unfold goatC
  refine (specHerd_ev v).bind ?_
  cases hv : vH h
  · exact Ev.const rfl
  · have h1 := asked_loop (vH_len hv).1 gs hx 0 (Nat.zero_le _)
    rw [List.drop_zero] at h1
    refine Ev.neg (by simp) (h1.bind ?_)
    cases gs.all (goatB h) <;> exact Ev.const rfl
theorem herdCode1_eq {h : Herd} (hn : h.Names.length ≤ 14) (g : Int) : impl_herdCode_1.f h g = some (!goatB h g) := by
  unfold impl_herdCode_1.f impl_Herd_many.f impl_size_string.f
  simp only [Option.bind_some, within_eq]
  rw [w64 (by omega) (by omega)]; rfl
theorem herdCode_ev {h : Herd} (v : VHerd h) (gs : List Int) (hx : gs.length ≤ 1048576) : Ev (fun k => impl_herdCode.f k h gs) (goatC h gs) := by
  unfold goatC
  refine (implHerd_ev v).bind ?_
  cases hv : vH h
  · exact Ev.const rfl
  · refine Ev.neg (by simp) ((containsI_ev gs (fun y _ => herdCode1_eq (vH_len hv).1 y) (by omega)).bind (Ev.const ?_))
    have ha : gs.any (fun y => !goatB h y) = !gs.all (goatB h) := by rw [List.not_all_eq_any_not]
    rw [ha, Bool.not_not, unless_eq, Option.bind_some]
    cases gs.all (goatB h) <;> rfl
theorem goatC_zero {h : Herd} {gs : List Int} (hc : goatC h gs = 0) : vH h = true ∧ ∀ g ∈ gs, ∃ i : Nat, i < h.Names.length ∧ g = (i : Int) := by
  unfold goatC at hc
  split at hc
  · cases hc
  · rename_i h1
    split at hc
    · rename_i h2
      refine ⟨by simpa using h1, fun g hg => ?_⟩
      have := of_decide_eq_true (List.all_eq_true.1 h2 g hg)
      exact ⟨g.toNat, by omega, by omega⟩
    · cases hc

/-! ### Groups -/
def grpB (g : Int) : Bool := decide (0 ≤ g ∧ g ≤ 13)
def grpsB (h : Herd) (gs : List Int) : Bool := gs.all grpB && decide (gs.length = h.Names.length)
theorem numbers_loop (gs : List Int) (hx : gs.length ≤ 1048576) : ∀ i : Nat, i ≤ gs.length → Ev (fun k => spec_l06Numbers.l1 gs k (i : Int)) (if (gs.drop i).all grpB = true then .inr () else .inl false) := by
  refine upL ?_ ?_
  · rw [List.drop_of_length_le (Nat.le_refl _)]
    exact Ev.step (fun k => spec_l06Numbers.l1.eq_2 _ _ _) (Ev.neg (by omega) (Ev.const rfl))
  · intro i hi ih
    refine Ev.step (fun k => spec_l06Numbers.l1.eq_2 _ _ _) (Ev.pos (by omega) ?_)
    rw [List.drop_eq_getElem_cons hi, List.all_cons]
    simp only [getI_nat hi, Option.bind_some, l00In_eq, wsucc hi (by omega)]
    by_cases h1 : 0 ≤ gs[i] ∧ gs[i] ≤ 13
    · refine Ev.neg (by simp [h1]) ?_
      simpa [grpB, h1] using ih
    · refine Ev.pos (by simp [h1]) (Ev.const ?_)
      simp [grpB, h1]
theorem numbers_ev (h : Herd) (gs : List Int) (hx : gs.length ≤ 1048576) : Ev (fun k => spec_l06Numbers.f k h gs) (grpsB h gs) := by
  have h1 := numbers_loop gs hx 0 (Nat.zero_le _)
  rw [List.drop_zero] at h1
  unfold grpsB
  refine h1.bind ?_
  cases gs.all grpB
  · exact Ev.const rfl
  · refine Ev.const ?_
    simp only [if_true, Bool.true_and]
    congr 2
    simp only [eq_iff_iff]; omega
theorem areGroups_ev (h : Herd) (gs : List Int) (hx : gs.length ≤ 1048576) : Ev (fun k => impl_Herd_areGroups.f k h gs) (grpsB h gs) := by
  have hg : ∀ y ∈ gs, impl_Herd_areGroups_1.f y = some (!grpB y) := fun y _ => by
    unfold impl_Herd_areGroups_1.f; rw [within_eq]; rfl
  refine Ev.bind (Ev.const rfl) (Ev.bind (Ev.const (show _ = some (h.Names.length : Int) from rfl)) ?_)
  unfold grpsB
  by_cases e : (gs.length : Int) = (h.Names.length : Int)
  · refine Ev.pos e ((containsI_ev gs hg (by omega)).bind (Ev.const ?_))
    have ha : gs.any (fun y => !grpB y) = !gs.all grpB := by rw [List.not_all_eq_any_not]
    rw [ha, Bool.not_not, decide_eq_true (show gs.length = h.Names.length by omega), Bool.and_true]
  · refine Ev.neg e (Ev.const ?_)
    rw [decide_eq_false (show ¬ gs.length = h.Names.length by omega), Bool.and_false]

/-! ### Quarrels -/
theorem inner_loop {h : Herd} (v : VHerd h) (hv : vH h = true) {gs : List Int} (hl : gs.length = h.Names.length) {i : Nat} (hi : i < gs.length) : ∀ j : Nat, j ≤ gs.length → ∃ r : Option Nat, (∀ z, r = some z → z < gs.length) ∧
    Ev (fun k => spec_l06Quarrel.l2 h gs (i : Int) k (j : Int)) (match r with | none => .inr () | some z => .inl (.inl (.inl ((i : Int), (z : Int))))) ∧
    Ev (fun k => impl_Herd_quarrel.l2 h gs (i : Int) gs[i] k (j : Int)) (match r with | none => .inr () | some z => .inl (.inl (.inl ((i : Int), (z : Int), true)))) := by
  obtain ⟨n1, n2, n3⟩ := vH_len hv
  refine upL ?_ ?_
  · exact ⟨none, fun z hz => (by cases hz), Ev.step (fun k => spec_l06Quarrel.l2.eq_2 _ _ _ _ _) (Ev.neg (by omega) (Ev.const rfl)), Ev.step (fun k => impl_Herd_quarrel.l2.eq_2 _ _ _ _ _ _) (Ev.neg (by omega) (Ev.const rfl))⟩
  · rintro j hj ⟨r, hr, h1, h2⟩
    rw [← wsucc hj (by omega)] at h1 h2
    by_cases e : gs[i] = gs[j]
    · cases hf : foeB h i j
      · refine ⟨r, hr, Ev.step (fun k => spec_l06Quarrel.l2.eq_2 _ _ _ _ _) (Ev.pos (by omega) (Ev.bind (Ev.const (getI_nat hi)) (Ev.bind (Ev.const (getI_nat hj)) (Ev.pos e (Ev.bind (Ev.const (specAre_eq v (by omega) (by omega))) ?_))))), Ev.step (fun k => impl_Herd_quarrel.l2.eq_2 _ _ _ _ _ _) (Ev.pos (by omega) (Ev.bind (Ev.bind (Ev.const (getI_nat hj)) (Ev.pos e (Ev.bind (Ev.const (implAre_eq (b := j) (by omega))) (Ev.const rfl)))) ?_))⟩
        · rw [hf]; exact Ev.neg (by simp) h1
        · rw [hf]; exact Ev.neg (by simp) h2
      · refine ⟨some j, fun z hz => (by cases hz; exact hj), Ev.step (fun k => spec_l06Quarrel.l2.eq_2 _ _ _ _ _) (Ev.pos (by omega) (Ev.bind (Ev.const (getI_nat hi)) (Ev.bind (Ev.const (getI_nat hj)) (Ev.pos e (Ev.bind (Ev.const (specAre_eq v (by omega) (by omega))) ?_))))), Ev.step (fun k => impl_Herd_quarrel.l2.eq_2 _ _ _ _ _ _) (Ev.pos (by omega) (Ev.bind (Ev.bind (Ev.const (getI_nat hj)) (Ev.pos e (Ev.bind (Ev.const (implAre_eq (b := j) (by omega))) (Ev.const rfl)))) ?_))⟩
        · rw [hf]; exact Ev.pos rfl (Ev.const rfl)
        · rw [hf]; exact Ev.pos rfl (Ev.const rfl)
    · exact ⟨r, hr, Ev.step (fun k => spec_l06Quarrel.l2.eq_2 _ _ _ _ _) (Ev.pos (by omega) (Ev.bind (Ev.const (getI_nat hi)) (Ev.bind (Ev.const (getI_nat hj)) (Ev.neg e h1)))), Ev.step (fun k => impl_Herd_quarrel.l2.eq_2 _ _ _ _ _ _) (Ev.pos (by omega) (Ev.bind (Ev.bind (Ev.const (getI_nat hj)) (Ev.neg e (Ev.const rfl))) (Ev.neg (by simp) h2)))⟩
theorem quarrel_loop {h : Herd} (v : VHerd h) (hv : vH h = true) {gs : List Int} (hl : gs.length = h.Names.length) : ∀ i : Nat, i ≤ gs.length → ∃ r : Option (Nat × Nat),
    Ev (fun k => spec_l06Quarrel.l1 h gs k (i : Int)) (match r with | none => .inr () | some z => .inl ((z.1 : Int), (z.2 : Int))) ∧
    Ev (fun k => impl_Herd_quarrel.l1 h gs k (i : Int)) (match r with | none => .inr () | some z => .inl ((z.1 : Int), (z.2 : Int), true)) := by
  obtain ⟨n1, n2, n3⟩ := vH_len hv
  refine upL ?_ ?_
  · exact ⟨none, Ev.step (fun k => spec_l06Quarrel.l1.eq_2 _ _ _ _) (Ev.neg (by omega) (Ev.const rfl)), Ev.step (fun k => impl_Herd_quarrel.l1.eq_2 _ _ _ _) (Ev.neg (by omega) (Ev.const rfl))⟩
  · rintro i hi ⟨r, h1, h2⟩
    obtain ⟨q, hq, g1, g2⟩ := inner_loop v hv hl hi (i + 1) (by omega)
    rw [← wsucc hi (by omega)] at h1 h2 g1 g2
    cases q with
    | none => exact ⟨r, Ev.step (fun k => spec_l06Quarrel.l1.eq_2 _ _ _ _) (Ev.pos (by omega) (Ev.bind (Ev.bind g1 (Ev.const rfl)) h1)), Ev.step (fun k => impl_Herd_quarrel.l1.eq_2 _ _ _ _) (Ev.pos (by omega) (Ev.bind (Ev.bind (Ev.const (getI_nat hi)) (Ev.bind g2 (Ev.const rfl))) h2))⟩
    | some z => exact ⟨some (i, z), Ev.step (fun k => spec_l06Quarrel.l1.eq_2 _ _ _ _) (Ev.pos (by omega) (Ev.bind (Ev.bind g1 (Ev.const rfl)) (Ev.const rfl))), Ev.step (fun k => impl_Herd_quarrel.l1.eq_2 _ _ _ _) (Ev.pos (by omega) (Ev.bind (Ev.bind (Ev.const (getI_nat hi)) (Ev.bind g2 (Ev.const rfl))) (Ev.const rfl)))⟩
theorem quarrel_ev {h : Herd} (v : VHerd h) (hv : vH h = true) {gs : List Int} (hl : gs.length = h.Names.length) : ∃ r : Option (Nat × Nat),
    Ev (fun k => spec_l06Quarrel.f k h gs) (match r with | none => (-1, -1) | some z => ((z.1 : Int), (z.2 : Int))) ∧
    Ev (fun k => impl_Herd_quarrel.f k h gs) (match r with | none => (0, 0, false) | some z => ((z.1 : Int), (z.2 : Int), true)) := by
  obtain ⟨r, h1, h2⟩ := quarrel_loop v hv hl 0 (Nat.zero_le _)
  cases r with
  | none => exact ⟨none, h1.bind (Ev.const rfl), h2.bind (Ev.const rfl)⟩
  | some z => exact ⟨some z, h1.bind (Ev.const rfl), h2.bind (Ev.const rfl)⟩
end Go.Proofs.YtimpcenflahchaaDoor
