/-
  Plain law: EnoughFor of the program and of the reference answer alike.
-/
import Derived.Test.YtfdfchbcenoabaaQD
namespace Go.Proofs.Ytfdfchbcenoabaa
open G
set_option linter.unusedVariables false
set_option linter.unusedSimpArgs false

def sumM (m : Int) : List Meadow → Int
  | [] => 0
  | x :: r => (x.Grass + x.Grows * m) + sumM m r
theorem sumM_bd (m : Int) (h0 : 0 ≤ m) (h1 : m ≤ 29) : ∀ (xs : List Meadow), (∀ x ∈ xs, okM x = true) → 0 ≤ sumM m xs ∧ sumM m xs ≤ 30000 * (xs.length : Int)
  | [], _ => by simp [sumM]
  | x :: r, h => by
    have ih := sumM_bd m h0 h1 r (fun y hy => h y (by simp [hy]))
    obtain ⟨a, b, c⟩ := okM_parts (h x (by simp))
    have g0 : 0 ≤ x.Grows * m := Int.mul_nonneg c.1 h0
    have g1 : x.Grows * m ≤ 1000 * 29 := Int.mul_le_mul (by omega) h1 h0 (by omega)
    simp only [sumM, List.length_cons]
    omega
theorem enoughSpec_loop (xs : List Meadow) (hok : ∀ x ∈ xs, okM x = true) (hv : ∀ x ∈ xs, VMeadow x) (d m : Int) (hm : spec_l00Max.f 0 (IntKind.i64.wrap (d - 1)) = some m) (h0 : 0 ≤ m) (h1 : m ≤ 29) (hx : xs.length ≤ 6) : ∀ i, i ≤ xs.length → ∀ y : Int, 0 ≤ y → y + sumM m (xs.drop i) ≤ 1000000 → Ev (fun k => spec_EnoughFor.l1 xs d k y (i : Int)) (y + sumM m (xs.drop i)) := by
  refine upL ?_ ?_
  · intro y _ _
    refine Ev.step (fun k => spec_EnoughFor.l1.eq_2 _ _ _ _ _) (Ev.neg (by omega) (Ev.const ?_))
    simp [sumM]
  · intro i hi ih y hy hb
    refine Ev.step (fun k => spec_EnoughFor.l1.eq_2 _ _ _ _ _) (Ev.pos (by omega) ?_)
    obtain ⟨v1, v2, v3⟩ := hv _ (List.getElem_mem hi)
    obtain ⟨a, b, c⟩ := okM_parts (hok _ (List.getElem_mem hi))
    have g0 : 0 ≤ xs[i].Grows * m := Int.mul_nonneg c.1 h0
    have g1 : xs[i].Grows * m ≤ 1000 * 29 := Int.mul_le_mul (by omega) h1 h0 (by omega)
    have hs := sumM_bd m h0 h1 (xs.drop (i + 1)) (fun x hx => hok x (List.mem_of_mem_drop hx))
    rw [List.drop_eq_getElem_cons hi] at hb ⊢
    simp only [sumM] at hb ⊢
    simp only [getI_nat hi, Option.bind_some, hm, i16_64 v1, i16_64 v2, wsucc hi (by omega)]
    rw [w64 (x := xs[i].Grows * m) (by omega) (by omega), w64 (x := xs[i].Grass + xs[i].Grows * m) (by omega) (by omega), w64 (x := y + (xs[i].Grass + xs[i].Grows * m)) (by omega) (by omega)]
    have := ih (y + (xs[i].Grass + xs[i].Grows * m)) (by omega) (by omega)
    rwa [Int.add_assoc] at this
theorem enoughImpl_loop (xs : List Meadow) (hok : ∀ x ∈ xs, okM x = true) (hv : ∀ x ∈ xs, VMeadow x) (d : Int) (h0 : 0 ≤ d - 1) (h1 : d - 1 ≤ 29) (hx : xs.length ≤ 6) : ∀ i, i ≤ xs.length → ∀ y : Int, 0 ≤ y → y + sumM (d - 1) (xs.drop i) ≤ 1000000 → Ev (fun k => impl_EnoughFor.l1 xs d k y (i : Int)) (y + sumM (d - 1) (xs.drop i)) := by
  refine upL ?_ ?_
  · intro y _ _
    refine Ev.step (fun k => impl_EnoughFor.l1.eq_2 _ _ _ _ _) (Ev.neg (by omega) (Ev.const ?_))
    simp [sumM]
  · intro i hi ih y hy hb
    refine Ev.step (fun k => impl_EnoughFor.l1.eq_2 _ _ _ _ _) (Ev.pos (by omega) ?_)
    obtain ⟨v1, v2, v3⟩ := hv _ (List.getElem_mem hi)
    obtain ⟨a, b, c⟩ := okM_parts (hok _ (List.getElem_mem hi))
    have g0 : 0 ≤ xs[i].Grows * (d - 1) := Int.mul_nonneg c.1 h0
    have g1 : xs[i].Grows * (d - 1) ≤ 1000 * 29 := Int.mul_le_mul (by omega) h1 h0 (by omega)
    have hs := sumM_bd (d - 1) h0 h1 (xs.drop (i + 1)) (fun x hx => hok x (List.mem_of_mem_drop hx))
    rw [List.drop_eq_getElem_cons hi] at hb ⊢
    simp only [sumM] at hb ⊢
    simp only [getI_nat hi, Option.bind_some, i16_64 v1, i16_64 v2, wsucc hi (by omega)]
    rw [w64 (x := d - 1) (by omega) (by omega), w64 (x := xs[i].Grows * (d - 1)) (by omega) (by omega), w64 (x := xs[i].Grass + xs[i].Grows * (d - 1)) (by omega) (by omega), w64 (x := y + (xs[i].Grass + xs[i].Grows * (d - 1))) (by omega) (by omega)]
    have := ih (y + (xs[i].Grass + xs[i].Grows * (d - 1))) (by omega) (by omega)
    rwa [Int.add_assoc] at this
/-- In the case of no day the loop's answer isn't looked at. -/
theorem enoughImpl_any (xs : List Meadow) (d : Int) (hx : xs.length ≤ 6) : ∀ i, i ≤ xs.length → ∀ y : Int, ∃ r, Ev (fun k => impl_EnoughFor.l1 xs d k y (i : Int)) r := by
  refine upL ?_ ?_
  · intro y
    exact ⟨y, Ev.step (fun k => impl_EnoughFor.l1.eq_2 _ _ _ _ _) (Ev.neg (by omega) (Ev.const rfl))⟩
  · intro i hi ih y
    obtain ⟨r, hr⟩ := ih (IntKind.i64.wrap (y + (IntKind.i64.wrap ((IntKind.i64.wrap xs[i].Grass) + (IntKind.i64.wrap ((IntKind.i64.wrap xs[i].Grows) * (IntKind.i64.wrap (d - 1))))))))
    refine ⟨r, Ev.step (fun k => impl_EnoughFor.l1.eq_2 _ _ _ _ _) (Ev.pos (by omega) ?_)⟩
    simp only [getI_nat hi, Option.bind_some, wsucc hi (by omega)]
    exact hr
theorem enough_ev (xs : List Meadow) (hv : ∀ x ∈ xs, VMeadow x) (hx : xs.length ≤ 1048576) (a d : Int) : ∃ r : Bool × Int, Ev (fun k => spec_EnoughFor.f k xs a d) r ∧ Ev (fun k => impl_EnoughFor.f k xs a d) r := by
  have hsp : spec_l07Days.f d = some (decide (0 ≤ d ∧ d ≤ 30)) := by unfold spec_l07Days.f; rw [l00In_eq]; rfl
  by_cases h : askC xs a (decide (0 ≤ d ∧ d ≤ 30)) = 0
  · obtain ⟨h1, h2, h3⟩ := askC_zero h
    obtain ⟨g1, g2, g3⟩ := vM_parts h1
    have h3 := of_decide_eq_true h3
    by_cases hd : d = 0
    · subst hd
      obtain ⟨r, hr⟩ := enoughImpl_any xs 0 g3 0 (Nat.zero_le _) 0
      have hs := sumM_bd 0 (by omega) (by omega) xs g1
      have hl := enoughSpec_loop xs g1 hv 0 0 (by unfold spec_l00Max.f; rw [w64 (by omega) (by omega)]; rfl) (by omega) (by omega) g3 0 (Nat.zero_le _) 0 (by omega) (by rw [List.drop_zero]; omega)
      rw [List.drop_zero, Int.zero_add] at hl
      refine ⟨(true, 0), Ev.bind (Ev.const hsp) (Ev.bind (asked_ev xs hv hx a _) ?_), Ev.bind (spanCode_ev xs hv hx a 0) ?_⟩
      · rw [h]
        refine Ev.neg (by simp) (Ev.bind hl (Ev.const ?_))
        rw [w64 (by omega) (by omega), decide_eq_true (by omega)]
      · rw [h]
        exact Ev.neg (by simp) (Ev.bind hr (Ev.pos rfl (Ev.const rfl)))
    · have hs := sumM_bd (d - 1) (by omega) (by omega) xs g1
      have hl := enoughSpec_loop xs g1 hv d (d - 1) (by unfold spec_l00Max.f; rw [w64 (by omega) (by omega)]; split <;> simp <;> omega) (by omega) (by omega) g3 0 (Nat.zero_le _) 0 (by omega) (by rw [List.drop_zero]; omega)
      have hl2 := enoughImpl_loop xs g1 hv d (by omega) (by omega) g3 0 (Nat.zero_le _) 0 (by omega) (by rw [List.drop_zero]; omega)
      refine ⟨(decide (IntKind.i64.wrap (a * d) ≤ 0 + sumM (d - 1) (xs.drop 0)), 0), Ev.bind (Ev.const hsp) (Ev.bind (asked_ev xs hv hx a _) ?_), Ev.bind (spanCode_ev xs hv hx a d) ?_⟩
      · rw [h]
        exact Ev.neg (by simp) (Ev.bind hl (Ev.const rfl))
      · rw [h]
        exact Ev.neg (by simp) (Ev.bind hl2 (Ev.neg hd (Ev.const rfl)))
  · refine ⟨(false, askC xs a (decide (0 ≤ d ∧ d ≤ 30))), Ev.bind (Ev.const hsp) (Ev.bind (asked_ev xs hv hx a _) (Ev.pos h (Ev.const rfl))), Ev.bind (spanCode_ev xs hv hx a d) (Ev.pos h (Ev.const rfl))⟩
theorem FnExactEnoughFor.pure (x0 : List Meadow) (hv0 : ∀ x ∈ x0, (VMeadow) x) (hb0 : x0.length * 6 ≤ 140737488351232) (x1 : Int) (hv1 : inI .i64 x1) (x2 : Int) (hv2 : inI .i64 x2) : ∃ k, laws_FnExactEnoughFor.f k x0 x1 x2 = some true := by
  refine Ev.get (r := true) ?_
  refine Ev.bind (Ev.const (szMeadowS_eq x0 1048576 (by omega) (by omega) (by omega))) ?_
  by_cases h0 : (1048576 : Int) < x0.length
  · rw [if_pos h0]; exact Ev.const rfl
  rw [if_neg h0]
  have ht := toMeadowS_ev x0 (by omega)
  obtain ⟨⟨b, c⟩, hs, hi⟩ := enough_ev x0 hv0 (by omega) x1 x2
  have he := eqMeadowS_ev x0 x0 (by omega)
  rw [decide_eq_true rfl] at he
  refine Ev.neg (by omega) (Ev.bind ht (Ev.bind hs (Ev.bind ht (Ev.bind hi (Ev.bind (a := false) (Ev.const (by simp)) ?_)))))
  exact Ev.neg (by simp) (Ev.bind ht (Ev.bind he (Ev.const rfl)))

end Go.Proofs.Ytfdfchbcenoabaa
