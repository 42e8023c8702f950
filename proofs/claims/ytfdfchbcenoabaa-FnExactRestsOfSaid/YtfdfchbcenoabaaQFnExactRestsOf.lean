/-
  Plain law: RestsOf of the program and of the reference answer alike.
-/
import Derived.Test.YtfdfchbcenoabaaQC
namespace Go.Proofs.Ytfdfchbcenoabaa
open G
set_option linter.unusedVariables false
set_option linter.unusedSimpArgs false

def in5 (x : Int) : Bool := decide (0 ≤ x ∧ x ≤ 5)
theorem restsSpec1 (xs : List Int) (hx : xs.length ≤ 9223372036854775806) : ∀ i, i ≤ xs.length → ∀ b : Bool, Ev (fun k => spec_RestsOf.l1 xs k b (i : Int)) (b && (xs.drop i).all in5) := by
  refine upL ?_ ?_
  · intro b
    refine Ev.step (fun k => spec_RestsOf.l1.eq_2 _ _ _ _) ?_
    exact Ev.neg (by omega) (Ev.const (by simp))
  · intro i hi ih b
    refine Ev.step (fun k => spec_RestsOf.l1.eq_2 _ _ _ _) ?_
    refine Ev.pos (by omega) ?_
    simp only [getI_nat hi, Option.bind_some, l00In_eq, wsucc hi (by omega), List.drop_eq_getElem_cons hi, List.all_cons]
    cases b
    · exact Ev.neg (by simp) (by simpa using ih false)
    · refine Ev.pos rfl ?_
      rw [Bool.true_and]
      exact ih (decide (0 ≤ xs[i] ∧ xs[i] ≤ 5))
theorem restsImpl1 (xs : List Int) (a : Int) (hx : xs.length ≤ 1048576) : ∀ i, i ≤ ([a] ++ xs).length → Ev (fun k => impl_RestsOf.l1 xs a k (i : Int)) (if i < ([a] ++ xs).length ∧ (((([a] ++ xs).drop i).all in5) = false ∨ 30 < xs.length) then .inl ([], 2) else .inr ()) := by
  refine upL ?_ ?_
  · refine Ev.step (fun k => impl_RestsOf.l1.eq_2 _ _ _ _) ?_
    exact Ev.neg (by omega) (Ev.const (by simp))
  · intro i hi ih
    refine Ev.step (fun k => impl_RestsOf.l1.eq_2 _ _ _ _) ?_
    refine Ev.pos (by omega) ?_
    have hn : ([a] ++ xs).length ≤ 9223372036854775806 := by simp; omega
    simp only [getI_nat hi, Option.bind_some, within_eq, wsucc hi (by omega), List.drop_eq_getElem_cons hi, List.all_cons]
    by_cases h1 : 0 ≤ ([a] ++ xs)[i] ∧ ([a] ++ xs)[i] ≤ 5
    · have hd : decide (0 ≤ ([a] ++ xs)[i] ∧ ([a] ++ xs)[i] ≤ 5) = true := decide_eq_true h1
      have hd' : in5 ([a] ++ xs)[i] = true := hd
      rw [hd, hd', Bool.true_and]
      refine Ev.neg (by simp) ?_
      by_cases h2 : 30 < xs.length
      · refine Ev.pos (by omega) (Ev.const ?_)
        rw [if_pos ⟨hi, .inr h2⟩]
      · refine Ev.neg (by omega) ?_
        have e : (i < ([a] ++ xs).length ∧ ((([a] ++ xs).drop (i + 1)).all in5 = false ∨ 30 < xs.length)) ↔ (i + 1 < ([a] ++ xs).length ∧ ((([a] ++ xs).drop (i + 1)).all in5 = false ∨ 30 < xs.length)) := by
          constructor
          · rintro ⟨_, h⟩
            refine ⟨?_, h⟩
            apply Classical.byContradiction
            intro hc
            rw [List.drop_of_length_le (by omega)] at h
            rcases h with h | h
            · simp at h
            · exact h2 h
          · rintro ⟨_, h⟩; exact ⟨hi, h⟩
        by_cases hc : i + 1 < ([a] ++ xs).length ∧ ((([a] ++ xs).drop (i + 1)).all in5 = false ∨ 30 < xs.length)
        · rw [if_pos hc] at ih
          rw [if_pos (e.2 hc)]; exact ih
        · rw [if_neg hc] at ih
          rw [if_neg (fun h => hc (e.1 h))]; exact ih
    · have hd : decide (0 ≤ ([a] ++ xs)[i] ∧ ([a] ++ xs)[i] ≤ 5) = false := decide_eq_false h1
      have hd' : in5 ([a] ++ xs)[i] = false := hd
      rw [hd, hd', Bool.false_and]
      refine Ev.pos rfl (Ev.const ?_)
      rw [if_pos ⟨hi, .inl rfl⟩]
theorem rests2_same (xs : List Int) (a : Int) : ∀ (k : Nat) (ys : List Int) (p q : Int), impl_RestsOf.l2 xs a k ys p q = spec_RestsOf.l2 xs a k ys p q
  | 0, _, _, _ => rfl
  | k + 1, ys, p, q => by
    rw [impl_RestsOf.l2, spec_RestsOf.l2]
    simp only [rests2_same xs a k]
theorem rests2 (xs : List Int) (a : Int) (hx : xs.length ≤ 1048576) : ∀ i, i ≤ xs.length → ∀ (ys : List Int) (p : Int), ys.length ≤ i → ∃ r : List Int, r.length ≤ xs.length ∧ Ev (fun k => spec_RestsOf.l2 xs a k ys p (i : Int)) r := by
  refine upL ?_ ?_
  · intro ys p hl
    refine ⟨ys, hl, Ev.step (fun k => spec_RestsOf.l2.eq_2 _ _ _ _ _ _) ?_⟩
    exact Ev.neg (by omega) (Ev.const rfl)
  · intro i hi ih ys p hl
    by_cases h1 : xs[i] ≠ a
    · obtain ⟨r, hr, h⟩ := ih ys p (by omega)
      refine ⟨r, hr, Ev.step (fun k => spec_RestsOf.l2.eq_2 _ _ _ _ _ _) (Ev.pos (by omega) ?_)⟩
      simp only [getI_nat hi, Option.bind_some, wsucc hi (by omega)]
      exact Ev.pos h1 h
    · by_cases h2 : 0 ≤ p
      · obtain ⟨r, hr, h⟩ := ih (ys ++ [IntKind.i64.wrap ((IntKind.i64.wrap ((i : Int) - p)) - 1)]) i (by simp; omega)
        refine ⟨r, hr, Ev.step (fun k => spec_RestsOf.l2.eq_2 _ _ _ _ _ _) (Ev.pos (by omega) ?_)⟩
        simp only [getI_nat hi, Option.bind_some, wsucc hi (by omega)]
        refine Ev.neg h1 (Ev.pos h2 ?_)
        rw [chk_t (by simp; omega)]
        exact h
      · obtain ⟨r, hr, h⟩ := ih ys i (by omega)
        refine ⟨r, hr, Ev.step (fun k => spec_RestsOf.l2.eq_2 _ _ _ _ _ _) (Ev.pos (by omega) ?_)⟩
        simp only [getI_nat hi, Option.bind_some, wsucc hi (by omega)]
        exact Ev.neg h1 (Ev.neg h2 h)
theorem rests_ev (xs : List Int) (a : Int) (hx : xs.length ≤ 1048576) : ∃ r : List Int × Int, r.1.length ≤ 1048576 ∧ Ev (fun k => spec_RestsOf.f k xs a) r ∧ Ev (fun k => impl_RestsOf.f k xs a) r := by
  obtain ⟨r, hr, h2⟩ := rests2 xs a hx 0 (Nat.zero_le _) [] (-1) (by simp)
  have h1 := restsSpec1 xs (by omega) 0 (Nat.zero_le _) (if (xs.length : Int) ≤ 30 then decide (0 ≤ a ∧ a ≤ 5) else false)
  have h3 := restsImpl1 xs a hx 0 (Nat.zero_le _)
  rw [List.drop_zero] at h1 h3
  have hsp : (if (xs.length : Int) ≤ 30 then ((spec_l00In.f a 0 5).bind fun t2 => some t2) else (some false)) = some (if (xs.length : Int) ≤ 30 then decide (0 ≤ a ∧ a ≤ 5) else false) := by
    rw [l00In_eq]; split <;> rfl
  have hc : chk (([a] : List Int).length + xs.length ≤ 4294967296) = some () := chk_t (by simp; omega)
  by_cases hok : xs.length ≤ 30 ∧ in5 a = true ∧ xs.all in5 = true
  · refine ⟨(r, 0), by simpa using Nat.le_trans hr hx, ?_, ?_⟩
    · refine Ev.bind (Ev.const hsp) (Ev.bind h1 ?_)
      rw [if_pos (by omega), hok.2.2, Bool.and_true, show decide (0 ≤ a ∧ a ≤ 5) = true from hok.2.1]
      exact Ev.neg (by simp) (Ev.bind h2 (Ev.const rfl))
    · refine Ev.bind (Ev.const hc) (Ev.bind h3 ?_)
      rw [if_neg (by
        rintro ⟨_, h | h⟩
        · rw [List.cons_append, List.nil_append, List.all_cons, hok.2.1, hok.2.2] at h; simp at h
        · omega)]
      exact Ev.bind (h2.congr fun k => rests2_same xs a k _ _ _) (Ev.const rfl)
  · refine ⟨([], 2), by simp, ?_, ?_⟩
    · refine Ev.bind (Ev.const hsp) (Ev.bind h1 ?_)
      have : ((if (xs.length : Int) ≤ 30 then decide (0 ≤ a ∧ a ≤ 5) else false) && xs.all in5) = false := by
        by_cases h : (xs.length : Int) ≤ 30
        · rw [if_pos h]
          have h' : xs.length ≤ 30 := by omega
          cases e1 : decide (0 ≤ a ∧ a ≤ 5)
          · rfl
          · cases e2 : xs.all in5
            · rfl
            · exact absurd ⟨h', e1, e2⟩ hok
        · rw [if_neg h]; rfl
      rw [this]
      exact Ev.pos rfl (Ev.const rfl)
    · refine Ev.bind (Ev.const hc) (Ev.bind h3 ?_)
      rw [if_pos (by
        refine ⟨by simp, ?_⟩
        by_cases h : 30 < xs.length
        · exact .inr h
        · refine .inl ?_
          rw [List.cons_append, List.nil_append, List.all_cons]
          cases e1 : in5 a
          · rfl
          · cases e2 : xs.all in5
            · rfl
            · exact absurd ⟨by omega, e1, e2⟩ hok)]
      exact Ev.const rfl
theorem FnExactRestsOf.pure (x0 : List Int) (hv0 : ∀ x ∈ x0, (inI .i64) x) (hb0 : x0.length * 8 ≤ 140737488351232) (x1 : Int) (hv1 : inI .i64 x1) : ∃ k, laws_FnExactRestsOf.f k x0 x1 = some true := by
  refine Ev.get (r := true) ?_
  by_cases h0 : (1048576 : Int) < x0.length
  · exact Ev.pos h0 (Ev.const rfl)
  refine Ev.neg h0 ?_
  obtain ⟨⟨L, c⟩, hl, hs, hi⟩ := rests_ev x0 x1 (by omega)
  have ht := toInt64S_ev x0 (by omega)
  have he := eqInt64S_ev L L (by simp at hl; omega)
  rw [decide_eq_true rfl] at he
  have hy : Ev (fun k => (laws_eqInt64S.f k L L).bind fun t14 => if (!t14) = true then (some true) else (some (decide (c ≠ c)))) false := Ev.bind he (Ev.const (by simp))
  have he0 := eqInt64S_ev x0 x0 (by omega)
  rw [decide_eq_true rfl] at he0
  simp only at hl
  have hh := heldInt64S_ev L.length 1 (by omega) (by omega)
  refine Ev.bind ht (Ev.bind hs (Ev.bind ht (Ev.bind hi (Ev.bind hy ?_))))
  refine Ev.neg (by simp) (Ev.bind ht (Ev.bind he0 ?_))
  refine Ev.neg (by simp) (Ev.bind (markInt64S_ev x0 1 (by omega) (by omega)) (Ev.bind (Ev.neg (by simp only; omega) hy) ?_))
  refine Ev.neg (by simp) (Ev.bind (markInt64S_ev L 1 (by omega) (by omega)) (Ev.bind hh ?_))
  refine Ev.neg (by omega) (Ev.neg (by simp) (Ev.bind ht (Ev.bind hi (Ev.bind hy ?_))))
  refine Ev.neg (by simp) (Ev.bind hh ?_)
  exact Ev.neg (by omega) (Ev.neg (by simp) (Ev.const rfl))

end Go.Proofs.Ytfdfchbcenoabaa
