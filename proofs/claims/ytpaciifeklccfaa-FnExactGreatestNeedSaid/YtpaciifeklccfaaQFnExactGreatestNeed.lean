/-
  Plain law: GreatestNeed of the program and of the reference answer alike.
-/
import Derived.Test.YtpaciifeklccfaaQV
namespace Go.Proofs.Ytpaciifeklccfaa
open G
set_option linter.unusedVariables false
set_option linter.unusedSimpArgs false
theorem need_loop {xs : List Meadow} (hok : ∀ x ∈ xs, okM x = true) (hn : xs.length ≤ 6) {D b : Int} (hD : 0 ≤ D ∧ D ≤ 30) (hb : 0 ≤ b ∧ b ≤ 20000) : ∀ i : Nat, i ≤ 1000 →
    ∃ r : (Int × Int) ⊕ Int, Ev (fun k => spec_GreatestNeed.l1 xs D b k (i : Int)) r ∧ Ev (fun k => impl_GreatestNeed.l1 xs D b k (i : Int)) r := by
  refine upL ?_ ?_
  · exact ⟨_, Ev.step (fun k => spec_GreatestNeed.l1.eq_2 _ _ _ _ _) (Ev.neg (by omega) (Ev.const rfl)), Ev.step (fun k => impl_GreatestNeed.l1.eq_2 _ _ _ _ _) (Ev.neg (by omega) (Ev.const rfl))⟩
  · rintro i hi ⟨r, ih1, ih2⟩
    have e : IntKind.i64.wrap ((i : Int) + 1) = ((i + 1 : Nat) : Int) := by rw [w64 (by omega) (by omega)]; omega
    obtain ⟨⟨L, t, c⟩, r1, r2, r3, r4⟩ := found_ev hok hn (a := ((i + 1 : Nat) : Int)) (by omega) hD hb
    rw [← e] at ih1 ih2 r3 r4
    simp only at r2
    rcases r2 with rfl | rfl | rfl
    · exact ⟨r, Ev.step (fun k => spec_GreatestNeed.l1.eq_2 _ _ _ _ _) (Ev.pos (by omega) (r3.bind (Ev.neg (by simp) (Ev.neg (by simp) ih1)))), Ev.step (fun k => impl_GreatestNeed.l1.eq_2 _ _ _ _ _) (Ev.pos (by omega) (r4.bind (Ev.neg (by simp) (Ev.neg (by simp) ih2))))⟩
    · exact ⟨.inr i, Ev.step (fun k => spec_GreatestNeed.l1.eq_2 _ _ _ _ _) (Ev.pos (by omega) (r3.bind (Ev.neg (by simp) (Ev.pos (by simp) (Ev.const rfl))))), Ev.step (fun k => impl_GreatestNeed.l1.eq_2 _ _ _ _ _) (Ev.pos (by omega) (r4.bind (Ev.neg (by simp) (Ev.pos rfl (Ev.const rfl)))))⟩
    · exact ⟨.inl (0, 7), Ev.step (fun k => spec_GreatestNeed.l1.eq_2 _ _ _ _ _) (Ev.pos (by omega) (r3.bind (Ev.pos rfl (Ev.const rfl)))), Ev.step (fun k => impl_GreatestNeed.l1.eq_2 _ _ _ _ _) (Ev.pos (by omega) (r4.bind (Ev.pos rfl (Ev.const rfl))))⟩
theorem need_ev (xs : List Meadow) (hv : ∀ x ∈ xs, VMeadow x) (hx : xs.length ≤ 1048576) (d b : Int) : ∃ r : Int × Int, Ev (fun k => spec_GreatestNeed.f k xs d b) r ∧ Ev (fun k => impl_GreatestNeed.f k xs d b) r := by
  have hbu : spec_l07Budget.f b = some (decide (0 ≤ b ∧ b ≤ 20000)) := by unfold spec_l07Budget.f; rw [l00In_eq]; rfl
  have hs : ((spec_l00In.f d 1 30).bind fun t2 => if t2 = true then ((spec_l07Budget.f b).bind fun t3 => some t3) else (some false)) = some (decide (1 ≤ d ∧ d ≤ 30) && decide (0 ≤ b ∧ b ≤ 20000)) := by
    rw [l00In_eq, hbu]
    by_cases h : 1 ≤ d ∧ d ≤ 30 <;> simp [h]
  have hm := spanCodeB_ev xs hv hx 1 d b
  have ha := asked_ev xs hv hx 1 (decide (1 ≤ d ∧ d ≤ 30) && decide (0 ≤ b ∧ b ≤ 20000))
  have hcode : Ev (fun k => (impl_spanCode.f k xs 1 d b).bind fun t1 => (impl_unless.f (decide (1 ≤ d)) 2).bind fun t2 => (impl_firstOf.f k ([t1, t2] : List Int))) (askC xs 1 (decide (1 ≤ d ∧ d ≤ 30) && decide (0 ≤ b ∧ b ≤ 20000))) := by
    refine hm.bind (Ev.bind (Ev.const (unless_eq _ _)) ?_)
    have e : (if askC xs 1 (decide (0 ≤ d ∧ d ≤ 30) && decide (0 ≤ b ∧ b ≤ 20000)) ≠ 0 then askC xs 1 (decide (0 ≤ d ∧ d ≤ 30) && decide (0 ≤ b ∧ b ≤ 20000)) else (if (decide (1 ≤ d)) = true then (0 : Int) else 2)) = askC xs 1 (decide (1 ≤ d ∧ d ≤ 30) && decide (0 ≤ b ∧ b ≤ 20000)) := by
      unfold askC
      cases vM xs
      · rfl
      · by_cases hb : 0 ≤ b ∧ b ≤ 20000
        · rw [decide_eq_true hb, Bool.and_true, Bool.and_true]
          by_cases h1 : 1 ≤ d ∧ d ≤ 30
          · simp [h1, show 0 ≤ d by omega]
          · by_cases h2 : 0 ≤ d ∧ d ≤ 30
            · simp [h2, show ¬ 1 ≤ d by omega]
            · rw [decide_eq_false h1, decide_eq_false h2]; simp
        · rw [decide_eq_false hb, Bool.and_false, Bool.and_false]; simp
    rw [← e]
    exact firstOf_ev _ _
  have hcode2 : ∀ {r : Int × Int} {G : Nat → Int → Option (Int × Int)}, Ev (fun k => G k (askC xs 1 (decide (1 ≤ d ∧ d ≤ 30) && decide (0 ≤ b ∧ b ≤ 20000)))) r → Ev (fun k => (impl_spanCode.f k xs 1 d b).bind fun t1 => (impl_unless.f (decide (1 ≤ d)) 2).bind fun t2 => (impl_firstOf.f k ([t1, t2] : List Int)).bind (G k)) r := by
    intro r G hG
    obtain ⟨K, h⟩ := (hcode.bind hG)
    refine ⟨K, fun k hk => ?_⟩
    rw [← h k hk]
    simp only [Option.bind_assoc]
  by_cases h : askC xs 1 (decide (1 ≤ d ∧ d ≤ 30) && decide (0 ≤ b ∧ b ≤ 20000)) = 0
  · obtain ⟨h1, h2, h3⟩ := askC_zero h
    rw [Bool.and_eq_true, decide_eq_true_eq, decide_eq_true_eq] at h3
    obtain ⟨hok, g2, g3⟩ := vM_parts h1
    obtain ⟨r, r1, r2⟩ := need_loop hok g3 (D := d) (by omega) h3.2 0 (Nat.zero_le _)
    have fin : ∀ y : Int, ∃ q : Int × Int, ((if y = 0 then (some (0, 6)) else (some (y, 0)) : Option (Int × Int))) = some q := by
      intro y
      by_cases hy : y = 0
      · exact ⟨(0, 6), by simp [hy]⟩
      · exact ⟨(y, 0), by simp [hy]⟩
    rcases r with r | y
    · exact ⟨r, Ev.bind (Ev.const hs) (ha.bind (Ev.neg (by rw [h]; simp) (r1.bind (Ev.const rfl)))), hcode2 (Ev.neg (by rw [h]; simp) (r2.bind (Ev.const rfl)))⟩
    · obtain ⟨q, hq⟩ := fin y
      exact ⟨q, Ev.bind (Ev.const hs) (ha.bind (Ev.neg (by rw [h]; simp) (r1.bind (Ev.const hq)))), hcode2 (Ev.neg (by rw [h]; simp) (r2.bind (Ev.const hq)))⟩
  · exact ⟨(0, _), Ev.bind (Ev.const hs) (ha.bind (Ev.pos h (Ev.const rfl))), hcode2 (Ev.pos h (Ev.const rfl))⟩
theorem FnExactGreatestNeed.pure (x0 : List Meadow) (hv0 : ∀ x ∈ x0, (VMeadow) x) (hb0 : x0.length * 6 ≤ 140737488351232) (x1 : Int) (hv1 : inI .i64 x1) (x2 : Int) (hv2 : inI .i64 x2) : ∃ k, laws_FnExactGreatestNeed.f k x0 x1 x2 = some true := by
  refine Ev.get (r := true) ?_
  refine Ev.bind (Ev.const (laws_szMeadowS_eq x0 1048576 (by omega) (by omega) (by omega))) ?_
  by_cases h0 : (1048576 : Int) < x0.length
  · rw [if_pos h0]; exact Ev.const rfl
  rw [if_neg h0]
  have ht := laws_toMeadowS_ev x0 (by omega)
  have he0 := laws_eqMeadowS_ev x0 x0 (by omega)
  rw [decide_eq_true rfl] at he0
  obtain ⟨⟨g, c⟩, hs, hi⟩ := need_ev x0 hv0 (by omega) x1 x2
  refine Ev.neg (by omega) (Ev.bind ht (Ev.bind hs (Ev.bind ht (Ev.bind hi (Ev.bind (Ev.const (show _ = some false by simp)) ?_)))))
  exact Ev.neg (by simp) (Ev.bind ht (Ev.bind he0 (Ev.neg (by simp) (Ev.const rfl))))
end Go.Proofs.Ytpaciifeklccfaa
