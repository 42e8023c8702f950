/-
  Plain law: what the law of the groups tells is true.
-/
import Derived.Test.YtonpnkppaflcbaaGreatDoorQU4
import Derived.Test.YtonpnkppaflcbaaGreatDoorQU6
namespace Go.Proofs.YtonpnkppaflcbaaGreatDoor
open G
set_option linter.unusedVariables false
set_option linter.unusedSimpArgs false
set_option maxRecDepth 100000
theorem most_loop (h : Herd) {gs hs : List Int} {c e : Int} {m : Int} (hg : gs.length = h.Names.length) (hh : hs.length = h.Names.length) (hn : h.Names.length ≤ 14) : ∀ i, i ≤ h.Names.length → ∀ a b : Int, Ev (fun k => laws_FnGroups.l1 h (gs, m, c) (hs, e) k a b (i : Int)) (mxL a (gs.drop i), mxL b (hs.drop i)) := by
  refine upL ?_ ?_
  · intro a b
    refine Ev.step (fun k => laws_FnGroups.l1.eq_2 _ _ _ _ _ _ _) (Ev.neg (by omega) (Ev.const ?_))
    rw [List.drop_of_length_le (by omega), List.drop_of_length_le (by omega)]; rfl
  · intro i hi ih a b
    have h1 : i < gs.length := by omega
    have h2 : i < hs.length := by omega
    refine Ev.step (fun k => laws_FnGroups.l1.eq_2 _ _ _ _ _ _ _) (Ev.pos (by omega) (Ev.bind (Ev.const (getI_nat h1)) (Ev.bind (Ev.const (getI_nat h2)) ?_)))
    rw [wsucc hi (by omega), List.drop_eq_getElem_cons h1, List.drop_eq_getElem_cons h2]
    exact ih _ _
theorem clique_in {h : Herd} (v : VHerd h) (hv : vH h = true) {s : Nat} (hg : goodS true h s = true) {c : Int} {i : Nat} (hi : i < (bl (s : Int) 0 h.Names.length).length) : ∀ j, j ≤ i → Ev (fun k => laws_FnGroups.l3 h (bl (s : Int) 0 h.Names.length, c) (i : Int) k (j : Int)) (.inr ()) := by
  have hlen := bl_len (s : Int) 0 h.Names.length
  obtain ⟨n1, n2, n3⟩ := vH_len hv
  refine upL ?_ ?_
  · exact Ev.step (fun k => laws_FnGroups.l3.eq_2 _ _ _ _ _) (Ev.neg (by omega) (Ev.const rfl))
  · intro j hj ih
    have hjl : j < (bl (s : Int) 0 h.Names.length).length := by omega
    have hne : (bl (s : Int) 0 h.Names.length)[i] ≠ (bl (s : Int) 0 h.Names.length)[j] := by
      intro e
      have := (List.getElem_inj (bl_nodup _ _ _)).1 e
      omega
    obtain ⟨a, b, ea, eb, ha, hb, hf⟩ := pair_of hv hg (List.getElem_mem hi) (List.getElem_mem hjl) hne
    have hae := areFoes_ev v hv ha hb
    rw [hf, ← ea, ← eb] at hae
    rw [← wsucc hj (by omega)] at ih
    exact Ev.step (fun k => laws_FnGroups.l3.eq_2 _ _ _ _ _) (Ev.pos (by omega) (Ev.bind (Ev.const (getI_nat hi)) (Ev.bind (Ev.const (getI_nat hjl)) (hae.bind (Ev.neg (by simp) (Ev.neg (by simp) ih))))))
theorem clique_loop {h : Herd} (v : VHerd h) (hv : vH h = true) {s : Nat} (hg : goodS true h s = true) (c : Int) : ∀ i, i ≤ (bl (s : Int) 0 h.Names.length).length → Ev (fun k => laws_FnGroups.l2 h (bl (s : Int) 0 h.Names.length, c) k (i : Int)) (.inr ()) := by
  have hlen := bl_len (s : Int) 0 h.Names.length
  obtain ⟨n1, n2, n3⟩ := vH_len hv
  refine upL ?_ ?_
  · exact Ev.step (fun k => laws_FnGroups.l2.eq_2 _ _ _ _) (Ev.neg (by simp only; omega) (Ev.const rfl))
  · intro i hi ih
    rw [← wsucc hi (by omega)] at ih
    exact Ev.step (fun k => laws_FnGroups.l2.eq_2 _ _ _ _) (Ev.pos (by simp only; omega) (Ev.bind ((clique_in v hv hg hi 0 (Nat.zero_le _)).bind (Ev.const rfl)) ih))
theorem calm_in {h : Herd} (v : VHerd h) (hv : vH h = true) {s : Nat} (hg : goodS false h s = true) {c : Int} {i : Nat} (hi : i < (bl (s : Int) 0 h.Names.length).length) : ∀ j, j ≤ i → Ev (fun k => laws_FnGroups.l5 h (bl (s : Int) 0 h.Names.length, c) (i : Int) k (j : Int)) (.inr ()) := by
  have hlen := bl_len (s : Int) 0 h.Names.length
  obtain ⟨n1, n2, n3⟩ := vH_len hv
  refine upL ?_ ?_
  · exact Ev.step (fun k => laws_FnGroups.l5.eq_2 _ _ _ _ _) (Ev.neg (by omega) (Ev.const rfl))
  · intro j hj ih
    have hjl : j < (bl (s : Int) 0 h.Names.length).length := by omega
    have hne : (bl (s : Int) 0 h.Names.length)[i] ≠ (bl (s : Int) 0 h.Names.length)[j] := by
      intro e
      have := (List.getElem_inj (bl_nodup _ _ _)).1 e
      omega
    obtain ⟨a, b, ea, eb, ha, hb, hf⟩ := pair_of hv hg (List.getElem_mem hi) (List.getElem_mem hjl) hne
    have hae := areFoes_ev v hv ha hb
    rw [hf, ← ea, ← eb] at hae
    rw [← wsucc hj (by omega)] at ih
    exact Ev.step (fun k => laws_FnGroups.l5.eq_2 _ _ _ _ _) (Ev.pos (by omega) (Ev.bind (Ev.const (getI_nat hi)) (Ev.bind (Ev.const (getI_nat hjl)) (hae.bind (Ev.neg (by simp) (Ev.neg (by simp) ih))))))
theorem calm_loop {h : Herd} (v : VHerd h) (hv : vH h = true) {s : Nat} (hg : goodS false h s = true) (c : Int) : ∀ i, i ≤ (bl (s : Int) 0 h.Names.length).length → Ev (fun k => laws_FnGroups.l4 h (bl (s : Int) 0 h.Names.length, c) k (i : Int)) (.inr ()) := by
  have hlen := bl_len (s : Int) 0 h.Names.length
  obtain ⟨n1, n2, n3⟩ := vH_len hv
  refine upL ?_ ?_
  · exact Ev.step (fun k => laws_FnGroups.l4.eq_2 _ _ _ _) (Ev.neg (by simp only; omega) (Ev.const rfl))
  · intro i hi ih
    rw [← wsucc hi (by omega)] at ih
    exact Ev.step (fun k => laws_FnGroups.l4.eq_2 _ _ _ _) (Ev.pos (by simp only; omega) (Ev.bind ((calm_in v hv hg hi 0 (Nat.zero_le _)).bind (Ev.const rfl)) ih))
theorem yards_loop {x1 : List Int} (hc : byteL x1) (gs : List Int) {m : Nat} (hm : m ≤ 7) (c : Int) : ∀ i, i ≤ m + 1 → ∀ Y : List Int, Y.length = i → (∀ y ∈ Y, yardB y = true) → ∃ r : List Int, r.length = m + 1 ∧ (∀ y ∈ r, yardB y = true) ∧ Ev (fun k => laws_FnGroups.l6 x1 (gs, (m : Int), c) k Y (i : Int)) r := by
  have wm : IntKind.i64.wrap ((m : Int) + 1) = (m : Int) + 1 := w64 (by omega) (by omega)
  refine upL ?_ ?_
  · intro Y hl hy
    exact ⟨Y, hl, hy, Ev.step (fun k => laws_FnGroups.l6.eq_2 _ _ _ _ _) (Ev.neg (by rw [wm]; omega) (Ev.const rfl))⟩
  · intro i hi ih Y hl hy
    obtain ⟨z, e, z0, z1⟩ := a2At_ok hc (i := (i : Int)) (by omega) (n := 40) (by omega)
    have w4 : IntKind.i64.wrap (4 * z) = 4 * z := w64 (by omega) (by omega)
    obtain ⟨r, r1, r2, r3⟩ := ih (Y ++ [4 * z]) (by simp; omega) (fun y hm => by
      rcases List.mem_append.1 hm with hm | hm
      · exact hy y hm
      · rw [List.mem_singleton.1 hm]; exact decide_eq_true (by omega))
    rw [← wsucc hi (by omega)] at r3
    refine ⟨r, r1, r2, Ev.step (fun k => laws_FnGroups.l6.eq_2 _ _ _ _ _) (Ev.pos (by rw [wm]; omega) (Ev.bind (Ev.const e) ?_))⟩
    rw [w4]
    exact Ev.bind (Ev.const (chkT (by simp; omega))) r3
theorem sum_loop {h : Herd} (v : VHerd h) (hv : vH h = true) : ∀ i, i ≤ h.Names.length → ∀ y : Int, 0 ≤ y → y ≤ 100 * (i : Int) → Ev (fun k => laws_FnGroups.l7 h k y (i : Int)) (y + sumE h i (h.Names.length - i)) := by
  obtain ⟨n1, n2, n3⟩ := vH_len hv
  refine upL ?_ ?_
  · intro y _ _
    refine Ev.step (fun k => laws_FnGroups.l7.eq_2 _ _ _ _) (Ev.neg (by omega) (Ev.const ?_))
    rw [Nat.sub_self]; simp [sumE]
  · intro i hi ih y h0 h1
    obtain ⟨e0, e1⟩ := eats_ok hv hi
    refine Ev.step (fun k => laws_FnGroups.l7.eq_2 _ _ _ _) (Ev.pos (by omega) (Ev.bind (Ev.const (eats_get (by omega))) ?_))
    rw [wsucc hi (by omega), w64 (x := eats h i) (by omega) (by omega), w64 (x := y + eats h i) (by omega) (by omega), show h.Names.length - i = (h.Names.length - (i + 1)) + 1 by omega, sumE]
    have := ih (y + eats h i) (by omega) (by omega)
    rwa [Int.add_assoc] at this
theorem apart_loop {r : List Int} (hnd : r.Nodup) (hl : r.length ≤ 14) (c : Int) {i : Nat} (hi : i < r.length) : ∀ j, j ≤ i → Ev (fun k => laws_FnGroups.l9 (r, c) (i : Int) k (j : Int)) (.inr ()) := by
  refine upL ?_ ?_
  · exact Ev.step (fun k => laws_FnGroups.l9.eq_2 _ _ _ _) (Ev.neg (by omega) (Ev.const rfl))
  · intro j hj ih
    have hjl : j < r.length := by omega
    rw [← wsucc hj (by omega)] at ih
    refine Ev.step (fun k => laws_FnGroups.l9.eq_2 _ _ _ _) (Ev.pos (by omega) (Ev.bind (Ev.const (getI_nat hjl)) (Ev.bind (Ev.const (getI_nat hi)) (Ev.neg ?_ ih))))
    intro e
    have := (List.getElem_inj hnd).1 e
    omega
theorem fits_loop (gs : List Int) {m c : Int} {N Y r : List Int} {c1 : Int} (hN : N.length ≤ 14) (hNm : (N.length : Int) = m) (hNb : ∀ y ∈ N, 0 ≤ y ∧ y ≤ 1400) (hY : (Y.length : Int) = m + 1) (hl : r.length ≤ 14) (hr : c1 = 0 → r.length = N.length ∧ Ways N Y r) :
    ∀ i, i ≤ N.length → ∀ y : Int, -100000 + 1400 * (N.length - i : Int) ≤ y → y ≤ 100000 → Ev (fun k => laws_FnGroups.l8 (gs, m, c) (N, 0) Y (r, c1) (r, c1) k y (i : Int)) (.inr (y - lsum (N.drop i))) := by
  refine upL ?_ ?_
  · intro y _ _
    refine Ev.step (fun k => laws_FnGroups.l8.eq_2 _ _ _ _ _ _ _ _) (Ev.neg (by show ¬ (N.length : Int) < (N.length : Int); omega) (Ev.const ?_))
    rw [List.drop_length]; simp [lsum]
  · intro i hi ih y h0 h1
    have hb := hNb _ (List.getElem_mem hi)
    have hw : IntKind.i64.wrap (y - N[i]) = y - N[i] := w64 (by omega) (by omega)
    have ih' := ih (y - N[i]) (by omega) (by omega)
    rw [← wsucc hi (by omega)] at ih'
    rw [List.drop_eq_getElem_cons hi, lsum_cons, show y - (N[i] + lsum (N.drop (i + 1))) = y - N[i] - lsum (N.drop (i + 1)) by omega]
    refine Ev.step (fun k => laws_FnGroups.l8.eq_2 _ _ _ _ _ _ _ _) (Ev.pos (by show (i : Int) < (N.length : Int); omega) (Ev.bind (a := (Sum.inr (y - N[i]) : (Bool ⊕ Int) ⊕ Int)) (Ev.bind (Ev.const (getI_nat hi)) ?_) ih'))
    by_cases hc : c1 = 0
    · obtain ⟨r1, rW⟩ := hr hc
      have hir : i < r.length := by omega
      obtain ⟨q, q1, q2, q3⟩ := rW.1 i hir
      have gr : getI r (i : Int) = some (q : Int) := by rw [getI_nat hir, q1]
      have eN : N.getD i 0 = N[i] := by simp [List.getD_eq_getElem?_getD, hi]
      have eY : Y.getD q 0 = Y[q] := by simp [List.getD_eq_getElem?_getD, q2]
      refine Ev.neg (by simpa using hc) (Ev.bind (a := false) ?_ (Ev.neg (by simp) ((apart_loop rW.2 hl c1 hir 0 (Nat.zero_le _)).bind (Ev.const ?_))))
      · refine Ev.neg (by simp only; omega) (Ev.bind (Ev.const gr) (Ev.neg (by omega) (Ev.bind (Ev.const gr) (Ev.neg (by simp only; omega) (Ev.bind (Ev.const gr) (Ev.bind (Ev.const (getI_nat q2)) (Ev.bind (Ev.const (getI_nat hi)) (Ev.const ?_))))))))
        congr 1
        refine decide_eq_false ?_
        rw [eN, eY] at q3
        omega
      · rw [hw]
    · refine Ev.pos (by simpa using hc) (Ev.const ?_)
      rw [hw]
theorem FnGroups.pure (x0 : List Int) (hv0 : ∀ x ∈ x0, (inI .u8) x) (hb0 : x0.length * 1 ≤ 140737488351232) (x1 : List Int) (hv1 : ∀ x ∈ x1, (inI .u8) x) (hb1 : x1.length * 1 ≤ 140737488351232) : ∃ k, laws_FnGroups.f k x0 x1 = some true := by
  refine Ev.get (r := true) ?_
  obtain ⟨bg, hbg⟩ : ∃ b, laws_a2Long.f x0 x1 = some b := by
    unfold laws_a2Long.f
    split
    · exact ⟨_, rfl⟩
    · exact ⟨_, rfl⟩
  refine Ev.bind (Ev.const hbg) ?_
  cases bg
  case true => exact Ev.pos rfl (Ev.const rfl)
  refine Ev.neg (by simp) ?_
  obtain ⟨h, v, hv, hn7, eh⟩ := herd_ev (byteL_of hv0)
  obtain ⟨n1, n2, n3⟩ := vH_len hv
  obtain ⟨od, o1, o2, o3, eo⟩ := order_ev (byteL_of hv1) (n := h.Names.length) n1
  obtain ⟨gs, m, gl, hF, e1, e2⟩ := fewest_ev v hv
  obtain ⟨md, d1, d2, d3, e3, e4⟩ := greedy_ev v hv (gs := od) o1 (fun g hg => by
    have := (o3 g).1 hg
    unfold goatB
    exact decide_eq_true (by omega)) o2 (fun p hp => (o3 _).2 ⟨by omega, by omega⟩)
  obtain ⟨s, s1, s2, s3, e5, e6⟩ := largest_ev v hv true
  obtain ⟨t, t1, t2, t3, e7, e8⟩ := largest_ev v hv false
  have hS := specHerd_ev v
  have hI := implHerd_ev v
  rw [hv] at hS hI
  have a1 : Ev (fun k => spec_AllFoes.f k h) (bl (s : Int) 0 h.Names.length, 0) := hS.bind (Ev.neg (by simp) (e5.bind (Ev.const rfl)))
  have a2 : Ev (fun k => impl_AllFoes.f k h) (bl (s : Int) 0 h.Names.length, 0) := hI.bind (Ev.neg (by simp) (e6.bind (Ev.const rfl)))
  have a3 : Ev (fun k => spec_MostPeaceful.f k h) (bl (t : Int) 0 h.Names.length, 0) := hS.bind (Ev.neg (by simp) (e7.bind (Ev.const rfl)))
  have a4 : Ev (fun k => impl_MostPeaceful.f k h) (bl (t : Int) 0 h.Names.length, 0) := hI.bind (Ev.neg (by simp) (e8.bind (Ev.const rfl)))
  obtain ⟨f1, f2, f3, f4, f5, f6⟩ := hF
  have hF : Few h gs m := ⟨f1, f2, f3, f4, f5, f6⟩
  obtain ⟨c1, c2⟩ := quiet_ev v hv (few_grps hv hF) f1 f3
  obtain ⟨c3, _⟩ := quiet_ev v hv (grps_of n1 d1 d2) d1 d3
  obtain ⟨N, N1, N2, N3, N4, N5⟩ := needsF_ev v hv hF
  obtain ⟨mn, rfl⟩ := Int.eq_ofNat_of_zero_le f4
  obtain ⟨Y, Y1, Y2, eY⟩ := yards_loop (byteL_of hv1) gs (m := mn) (by omega) 0 0 (Nat.zero_le _) [] rfl (by simp)
  obtain ⟨r, rc, r1, r2, r3, e9, e10⟩ := fitF_ev v hv hF N1 N4 N5 (Y := Y) (by omega) (List.all_eq_true.2 Y2)
  have q1 := same_ev2 gs (by omega)
  have q2 := same_ev2 md (by omega)
  have b1 := bl_len (s : Int) 0 h.Names.length
  have b2 := bl_len (t : Int) 0 h.Names.length
  have q3 := same_ev2 (bl (s : Int) 0 h.Names.length) (by omega)
  have q4 := same_ev2 (bl (t : Int) 0 h.Names.length) (by omega)
  have q5 := same_ev2 r (by omega)
  have hmost := most_loop h (gs := gs) (hs := md) (c := 0) (e := 0) (m := (mn : Int)) f1 d1 n1 0 (Nat.zero_le _) (-1) (-1)
  rw [List.drop_zero, List.drop_zero] at hmost
  have hfm := few_most hF
  have hmd : (mn : Int) ≤ mxL (-1) md + 1 := by
    obtain ⟨m1, m2⟩ := mxL_ge md (-1)
    exact f6 _ _ (col_calm d1 (fun x hx => ⟨(d2 x hx).1, by have := m2 x hx; omega⟩) d3) (by omega)
  have hmdle := mxL_le 14 md (-1) (by omega) (fun g hm => by have := (d2 g hm).2; omega)
  have hcl := clique_le hv hF s2
  have hpm := peace_many hv hF t3
  rw [Int.toNat_natCast] at hpm
  have hp2 : (many h t : Int) * (mn : Int) = ((many h t * mn : Nat) : Int) := (Int.natCast_mul _ _).symm
  have hmt : many h t = (bl (t : Int) 0 h.Names.length).length := rfl
  have hms : many h s = (bl (s : Int) 0 h.Names.length).length := rfl
  have hmb : many h t * mn ≤ 14 * 14 := Nat.mul_le_mul (by omega) (by omega)
  refine eh.bind (eo.bind (e2.bind (e1.bind (e4.bind (e3.bind (a2.bind (a1.bind (a4.bind (a3.bind (c1.bind (c3.bind (c2.bind ?_))))))))))))
  simp only
  refine Ev.bind (a := false) ?_ (Ev.neg (by simp) (hmost.bind ?_))
  · refine Ev.neg (by simp) (Ev.neg (by simp) (q1.bind (Ev.neg (by simp) (Ev.neg (by simp) (Ev.neg (by omega) (Ev.neg (by simp) (Ev.neg (by simp) (q2.bind (Ev.neg (by simp) (Ev.neg (by omega) (Ev.neg (by simp) (Ev.neg (by simp) (q3.bind (Ev.neg (by simp) (Ev.neg (by simp) (Ev.neg (by simp) (q4.bind (Ev.neg (by simp) ?_))))))))))))))))))
    exact Ev.neg (by simp) (Ev.neg (by simp) (Ev.neg (by simp) (Ev.neg (by simp) (Ev.const (by simp)))))
  have w1 : IntKind.i64.wrap (mxL (-1) gs + 1) = (mn : Int) := by rw [hfm]; exact w64 (by omega) (by omega)
  have w2 : IntKind.i64.wrap (mxL (-1) md + 1) = mxL (-1) md + 1 := w64 (by omega) (by omega)
  have w3 : IntKind.i64.wrap (((bl (t : Int) 0 h.Names.length).length : Int) * (mn : Int)) = ((many h t * mn : Nat) : Int) := by rw [← hmt, hp2]; exact w64 (by omega) (by omega)
  refine Ev.bind (a := false) ?_ (Ev.neg (by simp) ?_)
  · refine Ev.neg (by rw [w1]; simp) (Ev.neg (by rw [w2]; omega) (Ev.neg (by omega) ?_))
    by_cases h0 : 0 < h.Names.length
    · have := one_many hv h0 s3
      refine Ev.pos (by omega) (Ev.neg (by omega) (Ev.neg (by rw [w3]; omega) (Ev.const ?_)))
      rw [decide_eq_false (by omega)]
    · refine Ev.neg (by omega) (Ev.neg (by rw [w3]; omega) (Ev.const ?_))
      rw [decide_eq_false (by omega)]
  refine (clique_loop v hv s2 0 0 (Nat.zero_le _)).bind ((calm_loop v hv t2 0 0 (Nat.zero_le _)).bind (N5.bind (Ev.bind (a := false) (Ev.neg (by simp) (Ev.const (by simp; omega))) (Ev.neg (by simp) (eY.bind (e10.bind (e9.bind ?_)))))))
  refine Ev.bind (a := false) (Ev.neg (by simp) (q5.bind (Ev.neg (by simp) ?_))) (Ev.neg (by simp) ((sum_loop v hv 0 (Nat.zero_le _) 0 (by omega) (by omega)).bind ?_))
  · rcases r1 with rfl | rfl
    · exact Ev.neg (by simp) (Ev.const rfl)
    · exact Ev.pos (by simp) (Ev.const (by simp))
  rw [Nat.sub_zero, Int.zero_add]
  have hsum : ∀ n i, i + n = h.Names.length → 0 ≤ sumE h i n ∧ sumE h i n ≤ 100 * (n : Int) := by
    intro n
    induction n with
    | zero => intro i _; simp [sumE]
    | succ n ih =>
      intro i hi
      have := ih (i + 1) (by omega)
      have := eats_ok hv (i := i) (by omega)
      rw [sumE]; omega
  have hs0 := hsum h.Names.length 0 (by omega)
  have hfin := fits_loop gs (m := (mn : Int)) (c := 0) (N := N) (Y := Y) (r := r) (c1 := rc) (by omega) N1 N3 (by omega) r2 r3 0 (Nat.zero_le _) (sumE h 0 h.Names.length) (by omega) (by omega)
  rw [List.drop_zero, N2, Int.sub_self] at hfin
  exact hfin.bind (Ev.const rfl)
end Go.Proofs.YtonpnkppaflcbaaGreatDoor
