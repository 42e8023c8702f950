
/-
  Plain law: what groups need.
-/
import Derived.Test.YtonpnkppaflcbaaGreatDoorQH3
import Derived.Test.YtonpnkppaflcbaaGreatDoorQH4a
namespace Go.Proofs.YtonpnkppaflcbaaGreatDoor
open G
set_option linter.unusedVariables false
set_option linter.unusedSimpArgs false
def mxL (y : Int) (xs : List Int) : Int := xs.foldl (fun a x => if a < x then x else a) y
theorem mxL_ge : ∀ (xs : List Int) (y : Int), y ≤ mxL y xs ∧ ∀ x ∈ xs, x ≤ mxL y xs
  | [], y => ⟨Int.le_refl _, by simp⟩
  | x :: xs, y => by
    have h := mxL_ge xs (if y < x then x else y)
    have e : mxL y (x :: xs) = mxL (if y < x then x else y) xs := rfl
    rw [e]
    refine ⟨?_, ?_⟩
    · have := h.1; split at this <;> split <;> omega
    · intro z hz
      rcases List.mem_cons.1 hz with rfl | hz
      · have := h.1; split at this <;> split <;> omega
      · exact h.2 z hz
theorem mxL_le (B : Int) : ∀ (xs : List Int) (y : Int), y ≤ B → (∀ x ∈ xs, x ≤ B) → mxL y xs ≤ B
  | [], y, h, _ => h
  | x :: xs, y, h, hx => by
    refine mxL_le B xs (if y < x then x else y) ?_ (fun z hz => hx z (List.mem_cons_of_mem _ hz))
    have := hx x (List.mem_cons_self ..)
    split <;> omega
theorem specMost_loop (gs : List Int) (hx : gs.length ≤ 1048576) : ∀ i, i ≤ gs.length → ∀ y : Int, Ev (fun k => spec_l06Needs.l1 gs k y (i : Int)) (mxL y (gs.drop i)) := by
  refine upL ?_ ?_
  · intro y
    refine Ev.step (fun k => spec_l06Needs.l1.eq_2 _ _ _ _) (Ev.neg (by omega) (Ev.const ?_))
    rw [List.drop_length]; rfl
  · intro i hi ih y
    refine Ev.step (fun k => spec_l06Needs.l1.eq_2 _ _ _ _) (Ev.pos (by omega) (Ev.bind (Ev.const (getI_nat hi)) (Ev.bind (Ev.const (show spec_l00Max.f y gs[i] = some (if y < gs[i] then gs[i] else y) from ?_)) ?_)))
    · unfold spec_l00Max.f
      by_cases h1 : gs[i] < y
      · rw [if_pos h1, if_neg (by omega)]
      · rw [if_neg h1]; by_cases h2 : y < gs[i]
        · rw [if_pos h2]
        · rw [if_neg h2]; congr 1; omega
    · rw [wsucc hi (by omega), List.drop_eq_getElem_cons hi]
      exact ih _
theorem max_loop (gs : List Int) (hx : gs.length ≤ 1048576) : ∀ i, i ≤ gs.length → ∀ y : Int, Ev (fun k => slices_Max_int64_int64.l1 gs k y (i : Int)) (mxL y (gs.drop i)) := by
  refine upL ?_ ?_
  · intro y
    refine Ev.step (fun k => slices_Max_int64_int64.l1.eq_2 _ _ _ _) (Ev.neg (by omega) (Ev.const ?_))
    rw [List.drop_length]; rfl
  · intro i hi ih y
    refine Ev.step (fun k => slices_Max_int64_int64.l1.eq_2 _ _ _ _) (Ev.pos (by omega) (Ev.bind (Ev.const (getI_nat hi)) ?_))
    rw [wsucc hi (by omega), List.drop_eq_getElem_cons hi]
    exact ih _
theorem max_ev (g : Int) (gs : List Int) (hx : (g :: gs).length ≤ 1048576) (hg : 0 ≤ g) : Ev (fun k => slices_Max_int64_int64.f k (g :: gs)) (mxL (-1) (g :: gs)) := by
  refine Ev.neg (by simp; omega) (Ev.bind (Ev.const (show _ = some g from getI_nat (i := 0) (by simp))) (Ev.bind (max_loop (g :: gs) hx 1 (by simp) g) (Ev.const ?_)))
  have e : mxL (-1) (g :: gs) = mxL (if -1 < g then g else -1) gs := rfl
  rw [e, if_pos (by omega)]; rfl
theorem needs_loop {h : Herd} (v : VHerd h) {gs : List Int} (hl : h.Eats.length = gs.length) (hx : gs.length ≤ 1048576) {n : Nat} (hg : ∀ g ∈ gs, 0 ≤ g ∧ g < (n : Int)) : ∀ i, i ≤ gs.length → ∀ ys : List Int, ys.length = n → ∃ r : List Int, r.length = n ∧ Ev (fun k => spec_l06Needs.l2 h gs k ys (i : Int)) r ∧ Ev (fun k => impl_NeedsOf.l1 h gs k ys (i : Int)) r := by
  refine upL ?_ ?_
  · intro ys hy
    exact ⟨ys, hy, Ev.step (fun k => spec_l06Needs.l2.eq_2 _ _ _ _ _) (Ev.neg (by omega) (Ev.const rfl)), Ev.step (fun k => impl_NeedsOf.l1.eq_2 _ _ _ _ _) (Ev.neg (by omega) (Ev.const rfl))⟩
  · intro i hi ih ys hy
    obtain ⟨g0, g1⟩ := hg gs[i] (List.getElem_mem hi)
    obtain ⟨z, hz⟩ := Int.eq_ofNat_of_zero_le g0
    have hzn : z < ys.length := by omega
    obtain ⟨r, hr, r1, r2⟩ := ih (ys.set (gs[i]).toNat (IntKind.i64.wrap (ys[z] + (IntKind.i64.wrap (eats h i))))) (by simpa using hy)
    have e1 : getI ys gs[i] = some ys[z] := by rw [hz]; exact getI_nat hzn
    have e2 := eats_get (h := h) (i := i) (by omega)
    rw [← wsucc hi (by omega)] at r1 r2
    exact ⟨r, hr, Ev.step (fun k => spec_l06Needs.l2.eq_2 _ _ _ _ _) (Ev.pos (by omega) (Ev.bind (Ev.const (getI_nat hi)) (Ev.bind (Ev.const e1) (Ev.bind (Ev.const e2) (Ev.bind (Ev.const e1) r1))))), Ev.step (fun k => impl_NeedsOf.l1.eq_2 _ _ _ _ _) (Ev.pos (by omega) (Ev.bind (Ev.const (getI_nat hi)) (Ev.bind (Ev.const e1) (Ev.bind (Ev.const e2) (Ev.bind (Ev.const e1) r2)))))⟩
theorem told_ev {h : Herd} (v : VHerd h) (gs : List Int) (hx : gs.length ≤ 1048576) : Ev (fun k => spec_l06Told.f k h gs) (if vH h = false then 1 else if grpsB h gs = false then 4 else 0) := by
  refine (specHerd_ev v).bind ?_
  cases vH h
  · exact Ev.const rfl
  · refine Ev.neg (by simp) ((numbers_ev h gs hx).bind ?_)
    cases grpsB h gs
    · exact Ev.const rfl
    · exact Ev.const rfl
theorem needs2_ev {h : Herd} (v : VHerd h) (gs : List Int) (hx : gs.length ≤ 1048576) (hv : vH h = true) (hg : grpsB h gs = true) : ∃ r : List Int, r.length ≤ 14 ∧ Ev (fun k => spec_l06Needs.f k h gs) r ∧ Ev (fun k => impl_NeedsOf.f k h gs) (r, 0) := by
  have h2 := implHerd_ev v
  rw [hv] at h2
  have g2 := areGroups_ev h gs hx
  rw [hg] at g2
  obtain ⟨n1, n2, n3⟩ := vH_len hv
  unfold grpsB at hg
  rw [Bool.and_eq_true, decide_eq_true_eq, List.all_eq_true] at hg
  have hb : ∀ g ∈ gs, 0 ≤ g ∧ g ≤ 13 := fun g hm => of_decide_eq_true (hg.1 g hm)
  obtain ⟨m1, m2⟩ := mxL_ge gs (-1)
  have m3 := mxL_le 13 gs (-1) (by omega) (fun g hm => (hb g hm).2)
  have hm := specMost_loop gs hx 0 (Nat.zero_le _) (-1)
  rw [List.drop_zero] at hm
  have hw : IntKind.i64.wrap (mxL (-1) gs + 1) = mxL (-1) gs + 1 := w64 (by omega) (by omega)
  obtain ⟨r, hr, r1, r2⟩ := needs_loop v (gs := gs) (by omega) hx (n := (IntKind.i64.wrap (mxL (-1) gs + 1)).toNat) (fun g hm => by have := hb g hm; have := m2 g hm; rw [hw]; omega) 0 (Nat.zero_le _) (List.replicate ((IntKind.i64.wrap (mxL (-1) gs + 1)).toNat) 0) (by simp)
  have hc : chk (0 ≤ (IntKind.i64.wrap (mxL (-1) gs + 1)) ∧ (IntKind.i64.wrap (mxL (-1) gs + 1)) ≤ 4294967296) = some () := chkT (by rw [hw]; omega)
  refine ⟨r, by rw [hr, hw]; omega, hm.bind (Ev.bind (Ev.const hc) (r1.bind (Ev.const rfl))), h2.bind (Ev.neg (by simp) (g2.bind (Ev.neg (by simp) ?_)))⟩
  cases gs with
  | nil =>
    refine Ev.pos rfl (Ev.const ?_)
    have : r = [] := by rw [← List.length_eq_zero_iff, hr]; rfl
    rw [this]
  | cons g gs => exact Ev.neg (by simp; omega) ((max_ev g gs hx (hb g (by simp)).1).bind (Ev.bind (Ev.const hc) (r2.bind (Ev.const rfl))))
theorem needsBad_ev {h : Herd} (v : VHerd h) (gs : List Int) (hx : gs.length ≤ 1048576) (c : Int) (hc : c = if vH h = false then 1 else if grpsB h gs = false then 4 else 0) (hne : c ≠ 0) : Ev (fun k => impl_NeedsOf.f k h gs) ([], c) := by
  have h2 := implHerd_ev v
  cases hv : vH h
  · rw [hv] at h2 hc
    subst hc
    exact h2.bind (Ev.const rfl)
  · rw [hv] at h2 hc
    have g2 := areGroups_ev h gs hx
    cases hg : grpsB h gs
    · rw [hg] at g2 hc
      subst hc
      exact h2.bind (Ev.neg (by simp) (g2.bind (Ev.const rfl)))
    · rw [hg] at hc
      exact absurd (by rw [hc]; rfl) hne
end Go.Proofs.YtonpnkppaflcbaaGreatDoor
