
/-
  Plain laws: what is asked of a herd: goats, groups, quarrels.
-/
import Derived.Test.YtonpnkppaflcbaaGreatDoorQH1
namespace Go.Proofs.YtonpnkppaflcbaaGreatDoor
open G
set_option linter.unusedVariables false
set_option linter.unusedSimpArgs false

theorem indexI_loop (xs : List Int) {g : Int → Option Bool} {p : Int → Bool} (hg : ∀ x ∈ xs, g x = some (p x)) (hx : xs.length ≤ 9223372036854775806) : ∀ i : Nat, i ≤ xs.length → ∃ r, Ev (fun k => slices_IndexFunc_int64_int64.l1 xs g k (i : Int)) r ∧
    ((r = .inr () ∧ (xs.drop i).any p = false) ∨ ∃ j : Int, 0 ≤ j ∧ r = .inl j ∧ (xs.drop i).any p = true) := by
  refine upL ?_ ?_
  · refine ⟨.inr (), Ev.step (fun k => slices_IndexFunc_int64_int64.l1.eq_2 _ _ _ _) ?_, .inl ⟨rfl, by simp⟩⟩
    exact Ev.neg (by omega) (Ev.const rfl)
  · rintro i hi ⟨r, ih, h⟩
    by_cases hb : p xs[i] = true
    · refine ⟨.inl (i : Int), Ev.step (fun k => slices_IndexFunc_int64_int64.l1.eq_2 _ _ _ _) ?_, .inr ⟨i, by omega, rfl, ?_⟩⟩
      · refine Ev.pos (by omega) ?_
        simp only [getI_nat hi, Option.bind_some, hg _ (List.getElem_mem hi), hb, if_true]
        exact Ev.const rfl
      · rw [List.drop_eq_getElem_cons hi, List.any_cons, hb, Bool.true_or]
    · refine ⟨r, Ev.step (fun k => slices_IndexFunc_int64_int64.l1.eq_2 _ _ _ _) ?_, ?_⟩
      · refine Ev.pos (by omega) ?_
        simp only [getI_nat hi, Option.bind_some, hg _ (List.getElem_mem hi), wsucc hi (by omega)]
        exact Ev.neg hb ih
      · rw [List.drop_eq_getElem_cons hi, List.any_cons]
        simp only [Bool.not_eq_true] at hb
        rw [hb, Bool.false_or]
        exact h
theorem containsI_ev (xs : List Int) {g : Int → Option Bool} {p : Int → Bool} (hg : ∀ x ∈ xs, g x = some (p x)) (hx : xs.length ≤ 9223372036854775806) : Ev (fun k => slices_ContainsFunc_int64_int64.f k xs g) (xs.any p) := by
  obtain ⟨r, hr, h⟩ := indexI_loop xs hg hx 0 (Nat.zero_le _)
  rw [List.drop_zero] at h
  rcases h with ⟨rfl, h⟩ | ⟨j, hj, rfl, h⟩
  · rw [h]; exact Ev.bind (Ev.bind hr (Ev.const rfl)) (Ev.const rfl)
  · rw [h]; exact Ev.bind (Ev.bind hr (Ev.const rfl)) (Ev.const (by simp [hj]))

/-! ### Goats -/
def goatB (h : Herd) (g : Int) : Bool := decide (0 ≤ g ∧ g ≤ (h.Names.length : Int) - 1)
def goatC (h : Herd) (gs : List Int) : Int := if vH h = false then 1 else if gs.all (goatB h) = true then 0 else 2
theorem herdCode1_eq {h : Herd} (hn : h.Names.length ≤ 14) (g : Int) : impl_herdCode_1.f h g = some (!goatB h g) := by
  unfold impl_herdCode_1.f impl_Herd_many.f impl_size_string.f
  simp only [Option.bind_some, within_eq]
  rw [w64 (by omega) (by omega)]; rfl
theorem herdCode_ev {h : Herd} (v : VHerd h) (gs : List Int) (hx : gs.length ≤ 1048576) : Ev (fun k => impl_herdCode.f k h gs) (goatC h gs) := by
  unfold goatC
  refine (implHerd_ev v).bind ?_
  cases hv : vH h
  · exact Ev.const rfl
  · refine Ev.neg (by simp) ((containsI_ev gs (fun y _ => herdCode1_eq (vH_len hv).1 y) (by omega)).bind (Ev.const ?_))
    have ha : gs.any (fun y => !goatB h y) = !gs.all (goatB h) := by rw [List.not_all_eq_any_not]
    rw [ha, Bool.not_not, unless_eq, Option.bind_some]
    cases gs.all (goatB h) <;> rfl
theorem goatC_zero {h : Herd} {gs : List Int} (hc : goatC h gs = 0) : vH h = true ∧ ∀ g ∈ gs, ∃ i : Nat, i < h.Names.length ∧ g = (i : Int) := by
  unfold goatC at hc
  split at hc
  · cases hc
  · rename_i h1
    split at hc
    · rename_i h2
      refine ⟨by simpa using h1, fun g hg => ?_⟩
      have := of_decide_eq_true (List.all_eq_true.1 h2 g hg)
      exact ⟨g.toNat, by omega, by omega⟩
    · cases hc
end Go.Proofs.YtonpnkppaflcbaaGreatDoor
