/-
  Plain laws: when meadows are in order.
-/
import Derived.Test.YtfdfchbcenoabaaQB
namespace Go.Proofs.Ytfdfchbcenoabaa
open G
set_option linter.unusedVariables false
set_option linter.unusedSimpArgs false

theorem i16_64 {x : Int} (h : inI .i16 x) : IntKind.i64.wrap x = x := by
  have h1 : IntKind.i16.min = -32768 := by decide
  have h2 : IntKind.i16.max = 32767 := by decide
  obtain ⟨a, b⟩ := h
  rw [h1] at a; rw [h2] at b
  exact w64 (by omega) (by omega)
def okM (x : Meadow) : Bool := decide (0 ≤ x.Most ∧ x.Most ≤ 1000) && (decide (0 ≤ x.Grass ∧ x.Grass ≤ x.Most) && decide (0 ≤ x.Grows ∧ x.Grows ≤ x.Most))
theorem l07Ok_loop (xs : List Meadow) (hv : ∀ x ∈ xs, VMeadow x) (hx : xs.length ≤ 9223372036854775806) : ∀ i, i ≤ xs.length → Ev (fun k => spec_l07Ok.l1 xs k (i : Int)) (if (xs.drop i).all okM = true then .inr () else .inl false) := by
  refine upL ?_ ?_
  · refine Ev.step (fun k => spec_l07Ok.l1.eq_2 _ _ _) ?_
    refine Ev.neg (by omega) (Ev.const ?_)
    simp
  · intro i hi ih
    refine Ev.step (fun k => spec_l07Ok.l1.eq_2 _ _ _) ?_
    refine Ev.pos (by omega) ?_
    obtain ⟨v1, v2, v3⟩ := hv _ (List.getElem_mem hi)
    simp only [getI_nat hi, Option.bind_some, spec_l01Grass.f, l00In_eq, i16_64 v1, i16_64 v2, i16_64 v3, wsucc hi (by omega), List.drop_eq_getElem_cons hi, List.all_cons]
    by_cases h1 : 0 ≤ xs[i].Most ∧ xs[i].Most ≤ 1000
    · by_cases h2 : 0 ≤ xs[i].Grass ∧ xs[i].Grass ≤ xs[i].Most
      · by_cases h3 : 0 ≤ xs[i].Grows ∧ xs[i].Grows ≤ xs[i].Most
        · simpa [okM, h1, h2, h3] using ih
        · simp [okM, h1, h2, h3]; exact Ev.const rfl
      · simp [okM, h1, h2]; exact Ev.const rfl
    · simp [okM, h1]; exact Ev.const rfl
theorem l07Ok_ev (xs : List Meadow) (hv : ∀ x ∈ xs, VMeadow x) (hx : xs.length ≤ 9223372036854775806) : Ev (fun k => spec_l07Ok.f k xs) (xs.all okM && decide (1 ≤ xs.length ∧ xs.length ≤ 6)) := by
  refine Ev.bind (l07Ok_loop xs hv hx 0 (Nat.zero_le _)) ?_
  rw [List.drop_zero]
  cases xs.all okM
  · exact Ev.const rfl
  · refine Ev.const ?_
    simp only [if_true, l00In_eq, Option.bind_some, Bool.true_and]
    congr 2
    simp only [eq_iff_iff]
    omega
theorem indexM_loop (xs : List Meadow) {g : Meadow → Option Bool} {p : Meadow → Bool} (hg : ∀ x ∈ xs, g x = some (p x)) (hx : xs.length ≤ 9223372036854775806) : ∀ i, i ≤ xs.length → ∃ r, Ev (fun k => slices_IndexFunc_impl_Meadow_impl_Meadow.l1 xs g k (i : Int)) r ∧
    ((r = .inr () ∧ (xs.drop i).any p = false) ∨ ∃ j : Int, 0 ≤ j ∧ r = .inl j ∧ (xs.drop i).any p = true) := by
  refine upL ?_ ?_
  · refine ⟨.inr (), Ev.step (fun k => slices_IndexFunc_impl_Meadow_impl_Meadow.l1.eq_2 _ _ _ _) ?_, .inl ⟨rfl, by simp⟩⟩
    exact Ev.neg (by omega) (Ev.const rfl)
  · rintro i hi ⟨r, ih, h⟩
    by_cases hb : p xs[i] = true
    · refine ⟨.inl (i : Int), Ev.step (fun k => slices_IndexFunc_impl_Meadow_impl_Meadow.l1.eq_2 _ _ _ _) ?_, .inr ⟨i, by omega, rfl, ?_⟩⟩
      · refine Ev.pos (by omega) ?_
        simp only [getI_nat hi, Option.bind_some, hg _ (List.getElem_mem hi), hb, if_true]
        exact Ev.const rfl
      · rw [List.drop_eq_getElem_cons hi, List.any_cons, hb, Bool.true_or]
    · refine ⟨r, Ev.step (fun k => slices_IndexFunc_impl_Meadow_impl_Meadow.l1.eq_2 _ _ _ _) ?_, ?_⟩
      · refine Ev.pos (by omega) ?_
        simp only [getI_nat hi, Option.bind_some, hg _ (List.getElem_mem hi), wsucc hi (by omega)]
        exact Ev.neg hb ih
      · rw [List.drop_eq_getElem_cons hi, List.any_cons]
        simp only [Bool.not_eq_true] at hb
        rw [hb, Bool.false_or]
        exact h
theorem containsM_ev (xs : List Meadow) {g : Meadow → Option Bool} {p : Meadow → Bool} (hg : ∀ x ∈ xs, g x = some (p x)) (hx : xs.length ≤ 9223372036854775806) : Ev (fun k => slices_ContainsFunc_impl_Meadow_impl_Meadow.f k xs g) (xs.any p) := by
  obtain ⟨r, hr, h⟩ := indexM_loop xs hg hx 0 (Nat.zero_le _)
  rw [List.drop_zero] at h
  rcases h with ⟨rfl, h⟩ | ⟨j, hj, rfl, h⟩
  · rw [h]; exact Ev.bind (Ev.bind hr (Ev.const rfl)) (Ev.const rfl)
  · rw [h]; exact Ev.bind (Ev.bind hr (Ev.const rfl)) (Ev.const (by simp [hj]))
theorem validIn_eq (x : Meadow) (v : VMeadow x) : impl_ValidMeadows_1.f x = some (!okM x) := by
  obtain ⟨v1, v2, v3⟩ := v
  unfold impl_ValidMeadows_1.f
  simp only [within_eq, i16_64 v1, i16_64 v2, i16_64 v3, Option.bind_some]
  by_cases h1 : 0 ≤ x.Most ∧ x.Most ≤ 1000
  · by_cases h2 : 0 ≤ x.Grass ∧ x.Grass ≤ x.Most
    · by_cases h3 : 0 ≤ x.Grows ∧ x.Grows ≤ x.Most <;> simp [okM, h1, h2, h3]
    · simp [okM, h1, h2]
  · simp [okM, h1]
theorem implValid_ev (xs : List Meadow) (hv : ∀ x ∈ xs, VMeadow x) (hx : xs.length ≤ 9223372036854775806) : Ev (fun k => impl_ValidMeadows.f k xs) (xs.all okM && decide (1 ≤ xs.length ∧ xs.length ≤ 6)) := by
  have h1 : ((1 : Int) ≤ (xs.length : Int) ∧ (xs.length : Int) ≤ 6) ↔ (1 ≤ xs.length ∧ xs.length ≤ 6) := by omega
  refine Ev.congr (f := fun k => if decide (1 ≤ xs.length ∧ xs.length ≤ 6) = true then ((slices_ContainsFunc_impl_Meadow_impl_Meadow.f k xs impl_ValidMeadows_1.f).bind fun t3 => some (!t3)) else some false) ?_ (fun k => by
    unfold impl_ValidMeadows.f impl_size_impl_Meadow.f
    simp only [Option.bind_some, within_eq, h1])
  have ha : xs.any (fun x => !okM x) = !xs.all okM := by rw [List.not_all_eq_any_not]
  cases hd : decide (1 ≤ xs.length ∧ xs.length ≤ 6)
  · rw [Bool.and_false]; exact Ev.const rfl
  · refine Ev.pos rfl (Ev.bind (containsM_ev xs (fun x hx => validIn_eq x (hv x hx)) hx) (Ev.const ?_))
    rw [ha, Bool.not_not, Bool.and_true]

end Go.Proofs.Ytfdfchbcenoabaa
