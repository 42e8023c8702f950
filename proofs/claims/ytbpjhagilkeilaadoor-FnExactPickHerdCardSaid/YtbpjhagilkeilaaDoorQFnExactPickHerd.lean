/-
  Plain law: PickHerd of the program and of the reference answer alike.
-/
import Derived.Test.YtbpjhagilkeilaaDoorQU
import Derived.Test.YtbpjhagilkeilaaDoorQI
namespace Go.Proofs.YtbpjhagilkeilaaDoor
open G
set_option linter.unusedVariables false
set_option linter.unusedSimpArgs false
def diffB (gs : List Int) (i j : Nat) : Bool := !decide (gs.getD i 0 = gs.getD j 0)
theorem dup2_loop (gs : List Int) (hx : gs.length ≤ 1048576) {i : Nat} (hi : i < gs.length) : ∀ j, j ≤ i → Ev (fun k => spec_PickHerd.l2 gs (i : Int) k (j : Int)) (if upA (diffB gs i) j (i - j) = true then .inr () else .inl (.inl (.inl ((⟨[], [], []⟩ : Herd), 4)))) := by
  refine upL ?_ ?_
  · refine Ev.step (fun k => spec_PickHerd.l2.eq_2 _ _ _ _) (Ev.neg (by omega) (Ev.const ?_))
    rw [Nat.sub_self]; rfl
  · intro j hj ih
    refine Ev.step (fun k => spec_PickHerd.l2.eq_2 _ _ _ _) (Ev.pos (by omega) (Ev.bind (Ev.const (getI_nat hi)) (Ev.bind (Ev.const (getI_nat (show j < gs.length by omega))) ?_)))
    rw [upA_step _ hj, wsucc hj (by omega)]
    have hd : diffB gs i j = !decide (gs[i] = gs[j]) := by
      unfold diffB
      simp [List.getD_eq_getElem?_getD, List.getElem?_eq_getElem hi, List.getElem?_eq_getElem (show j < gs.length by omega)]
    rw [hd]
    by_cases e : gs[i] = gs[j]
    · rw [decide_eq_true e, Bool.not_true, Bool.false_and]
      exact Ev.pos e (Ev.const rfl)
    · rw [decide_eq_false e, Bool.not_false, Bool.true_and]
      exact Ev.neg e ih
theorem dup1_loop (gs : List Int) (hx : gs.length ≤ 1048576) : ∀ i, i ≤ gs.length → Ev (fun k => spec_PickHerd.l1 gs k (i : Int)) (if upA (fun i => upA (diffB gs i) 0 i) i (gs.length - i) = true then .inr () else .inl ((⟨[], [], []⟩ : Herd), 4)) := by
  refine upL ?_ ?_
  · refine Ev.step (fun k => spec_PickHerd.l1.eq_2 _ _ _) (Ev.neg (by omega) (Ev.const ?_))
    rw [Nat.sub_self]; rfl
  · intro i hi ih
    have h2 := dup2_loop gs hx hi 0 (Nat.zero_le _)
    rw [Nat.sub_zero] at h2
    refine Ev.step (fun k => spec_PickHerd.l1.eq_2 _ _ _) (Ev.pos (by omega) ?_)
    rw [upA_step _ hi, wsucc hi (by omega)]
    cases e : upA (diffB gs i) 0 i
    · rw [e] at h2
      rw [Bool.false_and]
      exact Ev.bind (Ev.bind h2 (Ev.const rfl)) (Ev.const rfl)
    · rw [e] at h2
      rw [Bool.true_and]
      exact Ev.bind (Ev.bind h2 (Ev.const rfl)) ih
theorem diff_nodup (gs : List Int) : upA (fun i => upA (diffB gs i) 0 i) 0 gs.length = decide gs.Nodup := by
  rw [Bool.eq_iff_iff, upA_iff, decide_eq_true_eq]
  unfold List.Nodup
  rw [List.pairwise_iff_getElem]
  constructor
  · intro h i j hi hj hij e
    have := (upA_iff _ _ _).1 (h j (Nat.zero_le _) (by omega)) i (Nat.zero_le _) (by omega)
    unfold diffB at this
    simp [List.getD_eq_getElem?_getD, List.getElem?_eq_getElem hi, List.getElem?_eq_getElem hj, e] at this
  · intro h i _ hi
    refine (upA_iff _ _ _).2 fun j _ hj => ?_
    have hi : i < gs.length := by omega
    have hjl : j < gs.length := by omega
    unfold diffB
    have := h j i hjl hi (by omega)
    simp [List.getD_eq_getElem?_getD, List.getElem?_eq_getElem hi, List.getElem?_eq_getElem hjl, Ne.symm this]
theorem pick_in {h : Herd} (v : VHerd h) (hl : h.Foes.length = h.Names.length) {gs : List Int} (hx : gs.length ≤ 1048576) (hg : ∀ g ∈ gs, ∃ i : Nat, i < h.Names.length ∧ g = (i : Int)) (hn : h.Names.length ≤ 14) {i : Nat} (hi : i < gs.length) (N N' : List ByteArray) (E E' Z : List Int) (s : ByteArray) (t : Int) : ∀ j, j ≤ i → ∀ F : List Int, F.length = i + 1 →
    ∃ r : List Int, r.length = i + 1 ∧ Ev (fun k => spec_PickHerd.l4 h gs (i : Int) N E s t k F (j : Int)) r ∧ Ev (fun k => impl_PickHerd.l2 h gs (i : Int) N E gs[i] s t k (F ++ Z) (j : Int)) (r ++ Z) := by
  have e : (gs.drop 0).take ((i : Int).toNat - 0) = gs.take i := by simp
  have el : (gs.take i).length = i := by simp; omega
  refine upL ?_ ?_
  · intro F hF
    refine ⟨F, hF, Ev.step (fun k => spec_PickHerd.l4.eq_2 _ _ _ _ _ _ _ _ _ _) (Ev.neg (by omega) (Ev.const rfl)), Ev.step (fun k => impl_PickHerd.l2.eq_2 _ _ _ _ _ _ _ _ _ _ _) (Ev.neg ?_ (Ev.const rfl))⟩
    rw [e, el]; omega
  · intro j hj ih F hF
    have hjl : j < gs.length := by omega
    obtain ⟨p, hp, ep⟩ := hg _ (List.getElem_mem hi)
    obtain ⟨q, hq, eq⟩ := hg _ (List.getElem_mem hjl)
    obtain ⟨r, hr, p1, p2⟩ := put_eq (h := (⟨N ++ [s], E ++ [t], F⟩ : Herd)) (a := i) (b := j) (by show i < F.length; omega) (by show j < F.length; omega) (by omega) (by show F.length ≤ _; omega) (foeB h p q)
    have hr : r.length = F.length := hr
    have p3 := set_app (N := N ++ [s]) (E := E ++ [t]) (N' := N ++ [s]) (E' := E ++ [t]) (Z := Z) (show i < F.length by omega) (show j < F.length by omega) (by omega) (foeB h p q) p2
    obtain ⟨r', h1, h2, h3⟩ := ih r (by omega)
    rw [← wsucc hj (by omega)] at h2 h3
    refine ⟨r', h1, Ev.step (fun k => spec_PickHerd.l4.eq_2 _ _ _ _ _ _ _ _ _ _) (Ev.pos (by omega) (Ev.bind (Ev.const (getI_nat hi)) (Ev.bind (Ev.const (getI_nat hjl)) (Ev.bind (Ev.const (show _ = some (foeB h p q) from ?_)) (Ev.bind (Ev.const p1) h2))))), Ev.step (fun k => impl_PickHerd.l2.eq_2 _ _ _ _ _ _ _ _ _ _ _) (Ev.pos ?_ (Ev.bind (a := gs[j]) (Ev.const ?_) (Ev.bind (Ev.const (show _ = some (foeB h p q) from ?_)) (Ev.bind (Ev.const p3) h3))))⟩
    · rw [ep, eq]; exact specAre_eq v (by omega) (by omega)
    · rw [e, el]; omega
    · rw [e, getI_nat (by omega), List.getElem_take]
    · rw [ep, eq]; exact implAre_eq (by omega)
theorem pick_out {h : Herd} (v : VHerd h) (hl : h.Foes.length = h.Names.length) (he : h.Eats.length = h.Names.length) {gs : List Int} (hx : gs.length ≤ 1048576) (hg : ∀ g ∈ gs, ∃ i : Nat, i < h.Names.length ∧ g = (i : Int)) (hn : h.Names.length ≤ 14) : ∀ i, i ≤ gs.length → ∀ (N : List ByteArray) (E F : List Int), N.length = i → E.length = i → F.length = i →
    ∃ (N' : List ByteArray) (E' F' : List Int), N'.length = gs.length ∧ E'.length = gs.length ∧ F'.length = gs.length ∧ Ev (fun k => spec_PickHerd.l3 h gs k (i : Int) N E F) (N', E', F') ∧ Ev (fun k => impl_PickHerd.l1 h gs k (F ++ List.replicate (gs.length - i) 0) (i : Int) N E) (F', N', E') := by
  refine upL ?_ ?_
  · intro N E F h1 h2 h3
    refine ⟨N, E, F, h1, h2, h3, Ev.step (fun k => spec_PickHerd.l3.eq_2 _ _ _ _ _ _ _) (Ev.neg (by omega) (Ev.const rfl)), Ev.step (fun k => impl_PickHerd.l1.eq_2 _ _ _ _ _ _ _) (Ev.neg (by omega) (Ev.const ?_))⟩
    rw [Nat.sub_self]; simp
  · intro i hi ih N E F h1 h2 h3
    obtain ⟨p, hp, ep⟩ := hg _ (List.getElem_mem hi)
    have gn : getI h.Names gs[i] = some (nm h p) := by rw [ep]; exact nm_get hp
    have ge : getI h.Eats gs[i] = some (eats h p) := by rw [ep]; exact eats_get (by omega)
    have c1 : chk (N.length + ([nm h p] : List ByteArray).length ≤ 4294967296) = some () := chkT (by simp; omega)
    have c2 : chk (E.length + ([eats h p] : List Int).length ≤ 4294967296) = some () := chkT (by simp; omega)
    have c3 : chk (F.length + ([0] : List Int).length ≤ 4294967296) = some () := chkT (by simp; omega)
    have c4 : chk ((0 : Int) ≤ 0 ∧ 0 ≤ (i : Int) ∧ (i : Int) ≤ (gs.length : Int)) = some () := chkT (by omega)
    obtain ⟨r, hr, k1, k2⟩ := pick_in v hl hx hg hn hi N N E E (List.replicate (gs.length - (i + 1)) 0) (nm h p) (eats h p) 0 (Nat.zero_le _) (F ++ [0]) (by simp; omega)
    have ez : F ++ List.replicate (gs.length - i) 0 = (F ++ [0]) ++ List.replicate (gs.length - (i + 1)) 0 := by
      rw [List.append_assoc]
      congr 1
      rw [show gs.length - i = (gs.length - (i + 1)) + 1 by omega, List.replicate_succ]; rfl
    obtain ⟨N', E', F', a1, a2, a3, a4, a5⟩ := ih (N ++ [nm h p]) (E ++ [eats h p]) r (by simp; omega) (by simp; omega) (by omega)
    rw [← wsucc hi (by omega)] at a4 a5
    refine ⟨N', E', F', a1, a2, a3, Ev.step (fun k => spec_PickHerd.l3.eq_2 _ _ _ _ _ _ _) (Ev.pos (by omega) (Ev.bind (a := (N ++ [nm h p], E ++ [eats h p], r)) ?_ a4)), Ev.step (fun k => impl_PickHerd.l1.eq_2 _ _ _ _ _ _ _) (Ev.pos (by omega) (Ev.bind (a := (r ++ List.replicate (gs.length - (i + 1)) 0, N ++ [nm h p], E ++ [eats h p])) ?_ a5))⟩
    · exact Ev.bind (Ev.const (getI_nat hi)) (Ev.bind (Ev.const gn) (Ev.bind (Ev.const c1) (Ev.bind (Ev.const (getI_nat hi)) (Ev.bind (Ev.const ge) (Ev.bind (Ev.const c2) (Ev.bind (Ev.const c3) (k1.bind (Ev.const rfl))))))))
    · rw [ez]
      exact Ev.bind (Ev.const (getI_nat hi)) (Ev.bind (Ev.const gn) (Ev.bind (Ev.const ge) (Ev.bind (Ev.const c1) (Ev.bind (Ev.const c2) (Ev.bind (Ev.const c4) (k2.bind (Ev.const rfl)))))))
theorem pickHerd_ev {h : Herd} (v : VHerd h) (gs : List Int) (hx : gs.length ≤ 1048576) : ∃ r : Herd × Int, smallH r.1 ∧ Ev (fun k => spec_PickHerd.f k h gs) r ∧ Ev (fun k => impl_PickHerd.f k h gs) r := by
  have h1 := specAsked_ev v gs hx
  have h2 := herdCode_ev v gs hx
  have h3 := isEach_eq gs hx
  have hd := dup1_loop gs hx 0 (Nat.zero_le _)
  rw [Nat.sub_zero, diff_nodup] at hd
  have hu := unless_eq (decide gs.Nodup) 4
  have hsm : smallH (⟨[], [], []⟩ : Herd) := ⟨by simp, by simp, by simp⟩
  have hf := firstOf_ev [goatC h gs, if decide gs.Nodup = true then 0 else 4] (by simp)
  by_cases hc : goatC h gs = 0
  · by_cases hn : gs.Nodup
    · rw [decide_eq_true hn] at hd hf hu h3
      obtain ⟨hv, hg⟩ := goatC_zero hc
      obtain ⟨n1, n2, n3⟩ := vH_len hv
      obtain ⟨N', E', F', a1, a2, a3, a4, a5⟩ := pick_out v n3 n2 hx hg n1 0 (Nat.zero_le _) [] [] [] rfl rfl rfl
      have c0 : chk (0 ≤ (gs.length : Int) ∧ (gs.length : Int) ≤ 4294967296) = some () := chkT (by omega)
      refine ⟨(⟨N', E', F'⟩, 0), ⟨by show N'.length ≤ _; omega, by show E'.length ≤ _; omega, by show F'.length ≤ _; omega⟩, h1.bind (Ev.neg (by rw [hc]; simp) (hd.bind (a4.bind (Ev.const rfl)))), h2.bind (Ev.bind (Ev.const h3) (Ev.bind (Ev.const hu) (hf.bind (Ev.neg ?_ (Ev.bind (Ev.const c0) (Ev.bind (a := (F', N', E')) ?_ (Ev.const rfl)))))))⟩
      · rw [hc]; simp [foL]
      · rw [show (gs.length : Int).toNat = gs.length from Int.toNat_natCast _]
        exact a5
    · rw [decide_eq_false hn] at hd hf hu h3
      refine ⟨(⟨[], [], []⟩, 4), hsm, h1.bind (Ev.neg (by rw [hc]; simp) (hd.bind (Ev.const rfl))), h2.bind (Ev.bind (Ev.const h3) (Ev.bind (Ev.const hu) (hf.bind (Ev.pos ?_ (Ev.const ?_)))))⟩
      · rw [hc]; simp [foL]
      · rw [hc]; simp [foL]
  · refine ⟨(⟨[], [], []⟩, goatC h gs), hsm, h1.bind (Ev.pos hc (Ev.const rfl)), h2.bind (Ev.bind (Ev.const h3) (Ev.bind (Ev.const hu) (hf.bind (Ev.pos ?_ (Ev.const ?_)))))⟩
    · simp [foL, hc]
    · simp [foL, hc]
theorem FnExactPickHerd.pure (x0 : Herd) (hv0 : VHerd x0) (x1 : List Int) (hv1 : ∀ x ∈ x1, (inI .i64) x) (hb1 : x1.length * 8 ≤ 140737488351232) : ∃ k, laws_FnExactPickHerd.f k x0 x1 = some true := by
  refine Ev.get (r := true) ?_
  by_cases hx : 1048576 < (x1.length : Int)
  · exact Ev.pos hx (Ev.const rfl)
  refine Ev.neg hx ?_
  obtain ⟨r, hr, h⟩ := szHerd_ev x0 hv0 1048576 (by omega) (by omega)
  refine hr.bind ?_
  rcases h with rfl | ⟨a, c⟩
  · exact Ev.pos (by omega) (Ev.const rfl)
  · have hs : smallH x0 := ⟨by omega, by omega, by omega⟩
    have ht := toHerd_ev x0 hs
    have he := eqHerd_ev x0 x0 hs
    rw [decide_eq_true rfl] at he
    have hti := laws_toInt64S_ev x1 (by omega)
    have hei := laws_eqInt64S_ev x1 x1 (by omega)
    rw [decide_eq_true rfl] at hei
    obtain ⟨⟨g, c⟩, hl, h1, h2⟩ := pickHerd_ev hv0 x1 (by omega)
    have hl : smallH g := hl
    have hq := sameH_ev g hl c
    have hm := markH_ev x0 hs 1 (by omega) (by omega)
    have hm2 := laws_markInt64S_ev x1 (1 + x0.Names.length + x0.Eats.length + x0.Foes.length) (by omega) (by have := hs.1; have := hs.2.1; have := hs.2.2; omega)
    have hk := markH_ev g hl 1 (by omega) (by omega)
    have hd := heldH_ev g.Names.length g.Eats.length g.Foes.length hl.1 hl.2.1 hl.2.2
    exact Ev.neg (by omega) (ht.bind (hti.bind (h1.bind (ht.bind (hti.bind (h2.bind (Ev.bind hq (Ev.neg (by simp) (ht.bind (he.bind (Ev.neg (by simp) (hti.bind (hei.bind (Ev.neg (by simp) (hm.bind (Ev.bind hm2 (Ev.bind (Ev.neg (by show ¬ (1 + (x0.Names.length : Int) + x0.Eats.length + x0.Foes.length + x1.length) < 0; omega) hq) (Ev.neg (by simp) (hk.bind (hd.bind (Ev.neg (by omega) (Ev.neg (by simp) (ht.bind (hti.bind (h2.bind (Ev.bind hq (Ev.neg (by simp) (hd.bind (Ev.neg (by omega) (Ev.neg (by simp) (Ev.const rfl)))))))))))))))))))))))))))))))
end Go.Proofs.YtbpjhagilkeilaaDoor
