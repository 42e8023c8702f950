
/-
  Plain law: groups that go on with a list: both look alike at who is free.
-/
import Derived.Test.YtonpnkppaflcbaaGreatDoorQT
namespace Go.Proofs.YtonpnkppaflcbaaGreatDoor
open G
set_option linter.unusedVariables false
set_option linter.unusedSimpArgs false
theorem l3c_loop {h : Herd} (v : VHerd h) (S : Nat → Herd → List Int → Int → Int → Option (List Int × Bool)) {gs : List Int} (hl : gs.length < h.Foes.length) (hn : gs.length ≤ 14) (g : Int) : ∀ j, j ≤ gs.length → ∀ b : Bool, Ev2 (fun s k => spec_l06Colour.l3 (S s) h gs (gs.length : Int) g k b (j : Int)) (b && upA (freeB h gs g) j (gs.length - j)) := by
  refine upL ?_ ?_
  · intro b
    refine Ev2.step (fun s k => spec_l06Colour.l3.eq_2 _ _ _ _ _ _ _ _) (Ev2.neg (by omega) (Ev2.const ?_))
    rw [Nat.sub_self]; simp [upA]
  · intro j hj ih b
    refine Ev2.step (fun s k => spec_l06Colour.l3.eq_2 _ _ _ _ _ _ _ _) (Ev2.pos (by omega) ?_)
    rw [wsucc hj (by omega), upA_step _ hj]
    have hg : gs.getD j 0 = gs[j] := by simp [List.getD_eq_getElem?_getD, List.getElem?_eq_getElem hj]
    have hf : freeB h gs g j = !(decide (gs[j] = g) && foeB h gs.length j) := by unfold freeB; rw [hg]
    rw [hf]
    cases b
    · exact Ev2.neg (by simp) (by simpa using ih false)
    · refine Ev2.pos rfl (Ev2.bind (Ev2.const (getI_nat hj)) ?_)
      by_cases e : gs[j] = g
      · refine Ev2.pos e (Ev2.bind (Ev2.const (specAre_eq v hl (by omega))) ?_)
        rw [decide_eq_true e, Bool.true_and, Bool.true_and]
        exact ih _
      · refine Ev2.neg e ?_
        rw [decide_eq_false e, Bool.false_and, Bool.not_false, Bool.true_and, Bool.true_and]
        simpa using ih true
/-- The program's look. -/
theorem notFree_ev {h : Herd} (v : VHerd h) {gs : List Int} (hl : gs.length < h.Foes.length) (hn : gs.length ≤ 14) (g : Int) : Ev (fun k => (impl_listed.f k (andI .u16 (foes h gs.length) (IntKind.u16.wrap ((shlI .u16 1 (gs.length : Int)) - 1)))).bind fun t7 => slices_ContainsFunc_int64_int64.f k t7 (impl_Herd_group_1.f gs g)) (!upA (freeB h gs g) 0 gs.length) := by
  obtain ⟨f0, f1⟩ := foes_in v gs.length
  refine (listed_ev _).bind ?_
  have hmem : ∀ x ∈ bl (andI .u16 (foes h gs.length) (IntKind.u16.wrap ((shlI .u16 1 (gs.length : Int)) - 1))) 0 16, ∃ j : Nat, j < gs.length ∧ foeB h gs.length j = true ∧ x = (j : Int) := by
    intro x hx
    obtain ⟨j, _, h2, h3, rfl⟩ := mem_bl.1 hx
    rw [bit_below f0 f1 hn j (by omega), Bool.and_eq_true, decide_eq_true_eq] at h3
    exact ⟨j, h3.1, h3.2, rfl⟩
  have hp : ∀ x ∈ bl (andI .u16 (foes h gs.length) (IntKind.u16.wrap ((shlI .u16 1 (gs.length : Int)) - 1))) 0 16, impl_Herd_group_1.f gs g x = some (decide (gs.getD x.toNat 0 = g)) := by
    intro x hx
    obtain ⟨j, hj, _, rfl⟩ := hmem x hx
    unfold impl_Herd_group_1.f
    rw [getI_nat hj, Option.bind_some, Int.toNat_natCast]
    simp [List.getD_eq_getElem?_getD, List.getElem?_eq_getElem hj]
  have hc := containsI_ev _ hp (Nat.le_trans (bl_len _ _ _) (by omega))
  have e : (bl (andI .u16 (foes h gs.length) (IntKind.u16.wrap ((shlI .u16 1 (gs.length : Int)) - 1))) 0 16).any (fun x => decide (gs.getD x.toNat 0 = g)) = !upA (freeB h gs g) 0 gs.length := by
    rw [Bool.eq_iff_iff, List.any_eq_true, Bool.not_eq_true', ← Bool.not_eq_true, upA_iff]
    constructor
    · rintro ⟨x, hx, hxg⟩ hall
      obtain ⟨j, hj, hf, rfl⟩ := hmem x hx
      have := hall j (Nat.zero_le _) (by omega)
      unfold freeB at this
      rw [Int.toNat_natCast] at hxg
      rw [hxg, hf] at this
      cases this
    · intro hn'
      refine Classical.byContradiction fun hno => hn' fun j _ hj => ?_
      unfold freeB
      cases hd : decide (gs.getD j 0 = g)
      · rfl
      · cases hf : foeB h gs.length j
        · rfl
        · exfalso
          refine hno ⟨(j : Int), mem_bl.2 ⟨j, Nat.zero_le _, by omega, ?_, rfl⟩, by rw [Int.toNat_natCast]; exact hd⟩
          rw [bit_below f0 f1 hn j (by omega), Bool.and_eq_true, decide_eq_true_eq]
          exact ⟨by omega, hf⟩
  rw [← e]
  exact hc
end Go.Proofs.YtonpnkppaflcbaaGreatDoor
