/-
  Plain laws: the codes of what is asked of meadows.
-/
import Derived.Test.YtfdfchbcenoabaaQC
namespace Go.Proofs.Ytfdfchbcenoabaa
open G
set_option linter.unusedVariables false
set_option linter.unusedSimpArgs false

theorem indexI_loop (xs : List Int) {g : Int → Option Bool} {p : Int → Bool} (hg : ∀ x ∈ xs, g x = some (p x)) (hx : xs.length ≤ 9223372036854775806) : ∀ i, i ≤ xs.length → ∃ r, Ev (fun k => slices_IndexFunc_int64_int64.l1 xs g k (i : Int)) r ∧
    ((r = .inr () ∧ (xs.drop i).any p = false) ∨ ∃ j : Int, 0 ≤ j ∧ r = .inl j ∧ (xs.drop i).any p = true) := by
  refine upL ?_ ?_
  · refine ⟨.inr (), Ev.step (fun k => slices_IndexFunc_int64_int64.l1.eq_2 _ _ _ _) ?_, .inl ⟨rfl, by simp⟩⟩
    exact Ev.neg (by omega) (Ev.const rfl)
  · rintro i hi ⟨r, ih, h⟩
    by_cases hb : p xs[i] = true
    · refine ⟨.inl (i : Int), Ev.step (fun k => slices_IndexFunc_int64_int64.l1.eq_2 _ _ _ _) ?_, .inr ⟨i, by omega, rfl, ?_⟩⟩
      · refine Ev.pos (by omega) ?_
        simp only [getI_nat hi, Option.bind_some, hg _ (List.getElem_mem hi), hb, if_true]
        exact Ev.const rfl
      · rw [List.drop_eq_getElem_cons hi, List.any_cons, hb, Bool.true_or]
    · refine ⟨r, Ev.step (fun k => slices_IndexFunc_int64_int64.l1.eq_2 _ _ _ _) ?_, ?_⟩
      · refine Ev.pos (by omega) ?_
        simp only [getI_nat hi, Option.bind_some, hg _ (List.getElem_mem hi), wsucc hi (by omega)]
        exact Ev.neg hb ih
      · rw [List.drop_eq_getElem_cons hi, List.any_cons]
        simp only [Bool.not_eq_true] at hb
        rw [hb, Bool.false_or]
        exact h
theorem containsI_ev (xs : List Int) {g : Int → Option Bool} {p : Int → Bool} (hg : ∀ x ∈ xs, g x = some (p x)) (hx : xs.length ≤ 9223372036854775806) : Ev (fun k => slices_ContainsFunc_int64_int64.f k xs g) (xs.any p) := by
  obtain ⟨r, hr, h⟩ := indexI_loop xs hg hx 0 (Nat.zero_le _)
  rw [List.drop_zero] at h
  rcases h with ⟨rfl, h⟩ | ⟨j, hj, rfl, h⟩
  · rw [h]; exact Ev.bind (Ev.bind hr (Ev.const rfl)) (Ev.const rfl)
  · rw [h]; exact Ev.bind (Ev.bind hr (Ev.const rfl)) (Ev.const (by simp [hj]))

def vM (xs : List Meadow) : Bool := xs.all okM && decide (1 ≤ xs.length ∧ xs.length ≤ 6)
def askC (xs : List Meadow) (a : Int) (b : Bool) : Int := if vM xs = false then 1 else if ¬ (1 ≤ a ∧ a ≤ 1000) then 2 else if b = false then 2 else 0
theorem asked_ev (xs : List Meadow) (hv : ∀ x ∈ xs, VMeadow x) (hx : xs.length ≤ 1048576) (a : Int) (b : Bool) : Ev (fun k => spec_l07Asked.f k xs a b) (askC xs a b) := by
  refine Ev.bind (l07Ok_ev xs hv (by omega)) ?_
  unfold askC vM
  cases (xs.all okM && decide (1 ≤ xs.length ∧ xs.length ≤ 6))
  · exact Ev.const rfl
  · refine Ev.const ?_
    simp only [l00In_eq, Option.bind_some]
    by_cases h : 1 ≤ a ∧ a ≤ 1000
    · cases b <;> simp [h]
    · simp [h]
/-- The place of a meadow. -/
def inM (xs : List Meadow) (y : Int) : Bool := decide (0 ≤ y ∧ y ≤ (xs.length : Int) - 1)
theorem meadowCode1_eq (xs : List Meadow) (hx : xs.length ≤ 1048576) (y : Int) : impl_meadowCode_1.f xs y = some (!inM xs y) := by
  unfold impl_meadowCode_1.f impl_size_impl_Meadow.f
  simp only [Option.bind_some, within_eq]
  rw [w64 (by omega) (by omega)]
  rfl
theorem meadowCode_ev (xs : List Meadow) (hv : ∀ x ∈ xs, VMeadow x) (hx : xs.length ≤ 1048576) (a : Int) (ys : List Int) (hy : ys.length ≤ 1048576) : Ev (fun k => impl_meadowCode.f k xs a ys) (askC xs a (ys.all (inM xs))) := by
  refine Ev.bind (implValid_ev xs hv (by omega)) ?_
  unfold askC vM
  cases (xs.all okM && decide (1 ≤ xs.length ∧ xs.length ≤ 6))
  · exact Ev.const rfl
  · refine Ev.neg (by simp) (Ev.bind (containsI_ev ys (fun y _ => meadowCode1_eq xs hx y) (by omega)) (Ev.const ?_))
    have ha : ys.any (fun y => !inM xs y) = !ys.all (inM xs) := by rw [List.not_all_eq_any_not]
    rw [ha]
    simp only [within_eq, Option.bind_some, impl_unless.f]
    by_cases h : 1 ≤ a ∧ a ≤ 1000
    · cases ys.all (inM xs) <;> simp [h]
    · simp [h]
theorem firstOf_ev (a b : Int) : Ev (fun k => impl_firstOf.f k [a, b]) (if a ≠ 0 then a else b) := by
  have w1 : IntKind.i64.wrap (0 + 1) = 1 := by rw [w64 (by omega) (by omega)]; rfl
  have w2 : IntKind.i64.wrap (1 + 1) = 2 := by rw [w64 (by omega) (by omega)]; rfl
  by_cases ha : a = 0
  · by_cases hb : b = 0
    · refine Ev.bind (a := .inr ()) ?_ (Ev.const (by simp [ha, hb]))
      refine Ev.step (fun k => impl_firstOf.l1.eq_2 _ _ _) (Ev.pos (by simp) (Ev.bind (Ev.const (show getI [a, b] 0 = some a from rfl)) (Ev.neg (by simp [ha]) ?_)))
      simp only [w1]
      refine Ev.step (fun k => impl_firstOf.l1.eq_2 _ _ _) (Ev.pos (by simp) (Ev.bind (Ev.const (show getI [a, b] 1 = some b from rfl)) (Ev.neg (by simp [hb]) ?_)))
      simp only [w2]
      exact Ev.step (fun k => impl_firstOf.l1.eq_2 _ _ _) (Ev.neg (by simp) (Ev.const rfl))
    · refine Ev.bind (a := .inl b) ?_ (Ev.const (by simp [ha]))
      refine Ev.step (fun k => impl_firstOf.l1.eq_2 _ _ _) (Ev.pos (by simp) (Ev.bind (Ev.const (show getI [a, b] 0 = some a from rfl)) (Ev.neg (by simp [ha]) ?_)))
      simp only [w1]
      exact Ev.step (fun k => impl_firstOf.l1.eq_2 _ _ _) (Ev.pos (by simp) (Ev.bind (Ev.const (show getI [a, b] 1 = some b from rfl)) (Ev.pos hb (Ev.const rfl))))
  · refine Ev.bind (a := .inl a) ?_ (Ev.const (by simp [ha]))
    exact Ev.step (fun k => impl_firstOf.l1.eq_2 _ _ _) (Ev.pos (by simp) (Ev.bind (Ev.const (show getI [a, b] 0 = some a from rfl)) (Ev.pos ha (Ev.const rfl))))
theorem spanCode_ev (xs : List Meadow) (hv : ∀ x ∈ xs, VMeadow x) (hx : xs.length ≤ 1048576) (a d : Int) : Ev (fun k => impl_spanCode.f k xs a d 0) (askC xs a (decide (0 ≤ d ∧ d ≤ 30))) := by
  refine Ev.bind (meadowCode_ev xs hv hx a [] (by simp)) ?_
  simp only [List.all_nil, within_eq, Option.bind_some, impl_unless.f]
  by_cases h : 0 ≤ d ∧ d ≤ 30
  · refine Ev.pos (by simp [h]) ?_
    rw [show (if (decide ((0 : Int) ≤ 0 ∧ (0 : Int) ≤ 20000)) = true then some (0 : Int) else some 2) = some 0 from by simp]
    simp only [Option.bind_some]
    refine Ev.bind (firstOf_ev _ _) (Ev.const ?_)
    rw [decide_eq_true h]
    congr 1
    by_cases e : askC xs a true = 0 <;> simp [e]
  · refine Ev.neg (by simp [h]) ?_
    rw [show (if false = true then some (0 : Int) else some 2) = some 2 from rfl]
    simp only [Option.bind_some]
    refine Ev.bind (firstOf_ev _ _) (Ev.const ?_)
    rw [decide_eq_false h]
    congr 1
    unfold askC
    cases vM xs
    · rfl
    · by_cases h1 : 1 ≤ a ∧ a ≤ 1000 <;> simp [h1]
/-- What is asked is in order. -/
theorem askC_zero {xs : List Meadow} {a : Int} {b : Bool} (h : askC xs a b = 0) : vM xs = true ∧ (1 ≤ a ∧ a ≤ 1000) ∧ b = true := by
  unfold askC at h
  split at h
  · cases h
  · split at h
    · cases h
    · split at h
      · cases h
      · rename_i h1 h2 h3
        exact ⟨by simpa using h1, Classical.byContradiction h2, by simpa using h3⟩
theorem vM_parts {xs : List Meadow} (h : vM xs = true) : (∀ x ∈ xs, okM x = true) ∧ 1 ≤ xs.length ∧ xs.length ≤ 6 := by
  unfold vM at h
  rw [Bool.and_eq_true, decide_eq_true_eq, List.all_eq_true] at h
  exact h
theorem okM_parts {x : Meadow} (h : okM x = true) : (0 ≤ x.Most ∧ x.Most ≤ 1000) ∧ (0 ≤ x.Grass ∧ x.Grass ≤ x.Most) ∧ (0 ≤ x.Grows ∧ x.Grows ≤ x.Most) := by
  unfold okM at h
  simpa [Bool.and_eq_true, decide_eq_true_eq] using h

end Go.Proofs.Ytfdfchbcenoabaa
