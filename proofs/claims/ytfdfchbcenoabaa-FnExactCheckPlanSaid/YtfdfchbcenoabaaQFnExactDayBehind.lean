/-
  Plain law: DayBehind of the program and of the reference answer alike.
-/
import Derived.Test.YtfdfchbcenoabaaQE
namespace Go.Proofs.Ytfdfchbcenoabaa
open G
set_option linter.unusedVariables false
set_option linter.unusedSimpArgs false

theorem l07Index_eq (xs : List Meadow) (hx : xs.length ≤ 1048576) (y : Int) : spec_l07Index.f xs y = some (inM xs y) := by
  unfold spec_l07Index.f inM
  rw [l00In_eq, w64 (by omega) (by omega)]
  rfl
theorem inM_nat {xs : List Meadow} {y : Int} (h : inM xs y = true) : ∃ i : Nat, i < xs.length ∧ y = (i : Int) := by
  have h := of_decide_eq_true h
  exact ⟨y.toNat, by omega, by omega⟩
theorem day_ev (xs : List Meadow) (hv : ∀ x ∈ xs, VMeadow x) (hx : xs.length ≤ 1048576) (a y : Int) : ∃ r : List Meadow × Int, r.1.length ≤ 1048576 ∧ Ev (fun k => spec_DayBehind.f k xs a y) r ∧ Ev (fun k => impl_DayBehind.f k xs a y) r := by
  have hm := meadowCode_ev xs hv hx a [y] (by simp)
  have e : [y].all (inM xs) = inM xs y := by simp
  rw [e] at hm
  by_cases h : askC xs a (inM xs y) = 0
  · obtain ⟨h1, h2, h3⟩ := askC_zero h
    obtain ⟨hok, g2, g3⟩ := vM_parts h1
    obtain ⟨i, hi, rfl⟩ := inM_nat h3
    obtain ⟨p, q, r⟩ := okM_parts (hok _ (List.getElem_mem hi))
    have e3 : IntKind.i64.wrap xs[i].Grass = xs[i].Grass := w64 (by omega) (by omega)
    by_cases hg : xs[i].Grass < a
    · refine ⟨([], 4), by simp, Ev.bind (Ev.const (l07Index_eq xs hx _)) (Ev.bind (asked_ev xs hv hx a _) ?_), Ev.bind hm ?_⟩
      · refine Ev.neg (by rw [h]; simp) (Ev.bind (Ev.const (getI_nat hi)) ?_)
        rw [e3]
        exact Ev.pos hg (Ev.const rfl)
      · exact Ev.neg (by rw [h]; simp) (Ev.bind (behind_no hok hi hg) (Ev.const rfl))
    · refine ⟨(dayL xs i a, 0), by simpa [dayL_len] using hx, Ev.bind (Ev.const (l07Index_eq xs hx _)) (Ev.bind (asked_ev xs hv hx a _) ?_), Ev.bind hm ?_⟩
      · refine Ev.neg (by rw [h]; simp) (Ev.bind (Ev.const (getI_nat hi)) ?_)
        rw [e3]
        exact Ev.neg hg (Ev.bind (l07Day_ev hok hx hi (by omega) (by omega)) (Ev.const rfl))
      · exact Ev.neg (by rw [h]; simp) (Ev.bind (behind_ev hok hx hi (by omega) (by omega)) (Ev.const rfl))
  · refine ⟨([], askC xs a (inM xs y)), by simp, Ev.bind (Ev.const (l07Index_eq xs hx _)) (Ev.bind (asked_ev xs hv hx a _) (Ev.pos h (Ev.const rfl))), Ev.bind hm (Ev.pos h (Ev.const rfl))⟩
theorem FnExactDayBehind.pure (x0 : List Meadow) (hv0 : ∀ x ∈ x0, (VMeadow) x) (hb0 : x0.length * 6 ≤ 140737488351232) (x1 : Int) (hv1 : inI .i64 x1) (x2 : Int) (hv2 : inI .i64 x2) : ∃ k, laws_FnExactDayBehind.f k x0 x1 x2 = some true := by
  refine Ev.get (r := true) ?_
  refine Ev.bind (Ev.const (szMeadowS_eq x0 1048576 (by omega) (by omega) (by omega))) ?_
  by_cases h0 : (1048576 : Int) < x0.length
  · rw [if_pos h0]; exact Ev.const rfl
  rw [if_neg h0]
  have ht := toMeadowS_ev x0 (by omega)
  obtain ⟨⟨L, c⟩, hl, hs, hi⟩ := day_ev x0 hv0 (by omega) x1 x2
  simp only at hl
  have he := eqMeadowS_ev L L (by omega)
  rw [decide_eq_true rfl] at he
  have hy : Ev (fun k => (laws_eqMeadowS.f k L L).bind fun t14 => if (!t14) = true then (some true) else (some (decide (c ≠ c)))) false := Ev.bind he (Ev.const (by simp))
  have he0 := eqMeadowS_ev x0 x0 (by omega)
  rw [decide_eq_true rfl] at he0
  have hh := heldMeadowS_ev L.length 1 (by omega) (by omega)
  refine Ev.neg (by omega) (Ev.bind ht (Ev.bind hs (Ev.bind ht (Ev.bind hi (Ev.bind hy ?_)))))
  refine Ev.neg (by simp) (Ev.bind ht (Ev.bind he0 ?_))
  refine Ev.neg (by simp) (Ev.bind (markMeadowS_ev x0 1 (by omega) (by omega)) (Ev.bind (Ev.neg (by simp only; omega) hy) ?_))
  refine Ev.neg (by simp) (Ev.bind (markMeadowS_ev L 1 (by omega) (by omega)) (Ev.bind hh ?_))
  refine Ev.neg (by omega) (Ev.neg (by simp) (Ev.bind ht (Ev.bind hi (Ev.bind hy ?_))))
  refine Ev.neg (by simp) (Ev.bind hh ?_)
  exact Ev.neg (by omega) (Ev.neg (by simp) (Ev.const rfl))

end Go.Proofs.Ytfdfchbcenoabaa
