/-
  Plain law: FoesOf of the program and of the reference answer alike.
-/
import Derived.Test.YtimpcenflahchaaDoorQH3
namespace Go.Proofs.YtimpcenflahchaaDoor
open G
set_option linter.unusedVariables false
set_option linter.unusedSimpArgs false
theorem specFoes_loop {h : Herd} (v : VHerd h) {g : Nat} (hg : g < h.Foes.length) (hn : h.Names.length ≤ 14) : ∀ i, i ≤ h.Names.length → ∀ ys : List Int, ys.length ≤ i → Ev (fun k => spec_FoesOf.l1 h (g : Int) k ys (i : Int)) (ys ++ bl (foes h g) i (h.Names.length - i)) := by
  refine upL ?_ ?_
  · intro ys hy
    refine Ev.step (fun k => spec_FoesOf.l1.eq_2 _ _ _ _ _) (Ev.neg (by omega) (Ev.const ?_))
    simp [bl]
  · intro i hi ih ys hy
    refine Ev.step (fun k => spec_FoesOf.l1.eq_2 _ _ _ _ _) (Ev.pos (by omega) (Ev.bind (Ev.const (specAre_eq v hg (by omega))) ?_))
    rw [wsucc hi (by omega), bl_step _ hi, foeB_bit]
    cases e : bitN (foes h g) i
    · exact Ev.neg (by simp) (by simpa using ih ys (by omega))
    · refine Ev.pos rfl (Ev.bind (Ev.const (chkT (by simp; omega))) ?_)
      have := ih (ys ++ [(i : Int)]) (by simp; omega)
      rw [List.append_assoc] at this
      exact this
theorem foesOf_ev {h : Herd} (v : VHerd h) (g : Int) : ∃ r : List Int × Int, r.1.length ≤ 16 ∧ Ev (fun k => spec_FoesOf.f k h g) r ∧ Ev (fun k => impl_FoesOf.f k h g) r := by
  have h1 := specAsked_ev v [g] (by simp)
  have h2 := herdCode_ev v [g] (by simp)
  by_cases hc : goatC h [g] = 0
  · obtain ⟨hv, hg⟩ := goatC_zero hc
    obtain ⟨i, hi, rfl⟩ := hg g (by simp)
    obtain ⟨n1, n2, n3⟩ := vH_len hv
    have l1 := specFoes_loop v (g := i) (by omega) n1 0 (Nat.zero_le _) [] (by simp)
    rw [List.nil_append, Nat.sub_zero] at l1
    have l2 := listed_ev (foes h i)
    rw [bl_cut (show h.Names.length ≤ 16 by omega) (fun j hj => foes_high v hv hi hj)] at l2
    refine ⟨(bl (foes h i) 0 h.Names.length, 0), Nat.le_trans (bl_len _ _ _) (by omega), h1.bind (Ev.neg (by rw [hc]; simp) (Ev.bind l1 (Ev.const rfl))), h2.bind (Ev.neg (by rw [hc]; simp) (Ev.bind (Ev.const (foes_get (by omega))) (l2.bind (Ev.const rfl))))⟩
  · exact ⟨([], _), by simp, h1.bind (Ev.pos hc (Ev.const rfl)), h2.bind (Ev.pos hc (Ev.const rfl))⟩
theorem FnExactFoesOf.pure (x0 : Herd) (hv0 : VHerd x0) (x1 : Int) (hv1 : inI .i64 x1) : ∃ k, laws_FnExactFoesOf.f k x0 x1 = some true := by
  refine Ev.get (r := true) ?_
  obtain ⟨r, hr, h⟩ := szHerd_ev x0 hv0 1048576 (by omega) (by omega)
  refine hr.bind ?_
  rcases h with rfl | ⟨a, c⟩
  · exact Ev.pos (by omega) (Ev.const rfl)
  · have hs : smallH x0 := ⟨by omega, by omega, by omega⟩
    have ht := toHerd_ev x0 hs
    have he := eqHerd_ev x0 x0 hs
    rw [decide_eq_true rfl] at he
    obtain ⟨⟨g, c⟩, hl, h1, h2⟩ := foesOf_ev hv0 x1
    have hl : g.length ≤ 16 := hl
    have hq := same_ev g c (by omega)
    obtain ⟨m, hm, hm0⟩ := markHerd_ev x0 hs
    have hk := laws_markInt64S_ev g 1 (by omega) (by omega)
    have hd := laws_heldInt64S_ev g.length 1 (by omega) (by omega)
    exact Ev.neg (by omega) (ht.bind (h1.bind (ht.bind (h2.bind (Ev.bind hq (Ev.neg (by simp) (ht.bind (he.bind (Ev.neg (by simp) (hm.bind (Ev.bind (Ev.neg (by omega) hq) (Ev.neg (by simp) (hk.bind (hd.bind (Ev.neg (by omega) (Ev.neg (by simp) (ht.bind (h2.bind (Ev.bind hq (Ev.neg (by simp) (hd.bind (Ev.neg (by omega) (Ev.neg (by simp) (Ev.const rfl))))))))))))))))))))))))
end Go.Proofs.YtimpcenflahchaaDoor
