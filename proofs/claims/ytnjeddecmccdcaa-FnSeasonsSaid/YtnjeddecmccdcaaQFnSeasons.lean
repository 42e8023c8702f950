/-
  Plain law: what the law of the seasons tells is true.
-/
import Derived.Test.YtnjeddecmccdcaaSU
namespace Go.Proofs.Ytnjeddecmccdcaa
open G
set_option linter.unusedVariables false
set_option linter.unusedSimpArgs false
set_option maxRecDepth 100000

theorem sameN_ev (xs ys : List Int) (hx : xs.length ≤ 1048576) : Ev (fun k => spec_SameNumbers.f k xs ys) (decide (xs = ys)) := by
  refine Ev.bind (a := decide (xs = ys)) ⟨xs.length + 1, fun k hk => ?_⟩ (Ev.const rfl)
  show spec_l00Same.f k xs ys = _
  unfold spec_l00Same.f
  by_cases hl : xs.length = ys.length
  · rw [if_neg (by omega), eqLoop (f := spec_l00Same.l1 xs ys) hl (by omega) (fun _ _ => rfl) (by omega)]
    by_cases e : xs = ys <;> simp [e]
  · rw [if_pos (by omega)]
    have : xs ≠ ys := fun e => hl (by rw [e])
    simp [this]
theorem sameM_ev (xs ys : List Meadow) (hx : xs.length ≤ 1048576) : Ev (fun k => spec_SameMeadows.f k xs ys) (decide (xs = ys)) := by
  refine ⟨xs.length + 1, fun k hk => ?_⟩
  show spec_SameMeadows.f k xs ys = _
  unfold spec_SameMeadows.f
  by_cases hl : xs.length = ys.length
  · rw [if_neg (by omega), eqLoop (f := spec_SameMeadows.l1 xs ys) hl (by omega) (fun _ _ => rfl) (by omega)]
    by_cases e : xs = ys <;> simp [e]
  · rw [if_pos (by omega)]
    have : xs ≠ ys := fun e => hl (by rw [e])
    simp [this]
theorem sameI_ev (xs ys : List Meadow) (hx : xs.length ≤ 1048576) : Ev (fun k => impl_SameMeadows.f k xs ys) (decide (xs = ys)) :=
  (slices_Equal_impl_Meadow_impl_Meadow_ev xs ys (by omega)).bind (Ev.const rfl)
theorem days_loop {t7 a : Int} (hw : IntKind.i64.wrap (1 + t7) = a) (ha : 1 ≤ a ∧ a ≤ 1000) (r : List Int × Int × Int) (hl : r.1.length ≤ 30) : ∀ j, j ≤ r.1.length → ∀ (cur e : List Meadow), GoodM cur → fol a cur (r.1.drop j) = some e → Ev (fun k => laws_FnSeasons.l1 t7 r k cur (j : Int)) (.inr e) := by
  refine upL ?_ ?_
  · intro cur e hg h
    rw [List.drop_length, fol] at h
    obtain rfl := Option.some.inj h
    exact Ev.step (fun k => laws_FnSeasons.l1.eq_2 _ _ _ _ _) (Ev.neg (by omega) (Ev.const rfl))
  · intro j hj ih cur e hg h
    rw [List.drop_eq_getElem_cons hj] at h
    obtain ⟨i, hi, hy, hgr, h2⟩ := fol_some h
    obtain ⟨d1, d2⟩ := dayBoth_ev hg ha hi hgr
    have hlen : (dayL cur i a).length ≤ 1048576 := by rw [dayL_len]; have := hg.2.2; omega
    have s1 := sameM_ev (dayL cur i a) (dayL cur i a) hlen
    have s2 := sameI_ev (dayL cur i a) (dayL cur i a) hlen
    rw [decide_eq_true rfl] at s1 s2
    refine Ev.step (fun k => laws_FnSeasons.l1.eq_2 _ _ _ _ _) (Ev.pos (by omega) (Ev.bind (Ev.const (getI_nat hj)) ?_))
    rw [hy, hw]
    refine d1.bind (Ev.bind (Ev.const (getI_nat hj)) ?_)
    rw [hy]
    refine d2.bind (Ev.neg (by simp) (Ev.neg (by simp) (s1.bind (Ev.neg (by simp) (s2.bind (Ev.neg (by simp) ?_))))))
    simp only [wsucc hj (by omega)]
    exact ih _ e (hg.day hi (by omega) hgr) h2
theorem times_loop (xs : List Int) (m : Int) (hx : xs.length ≤ 30) : ∀ i, i ≤ xs.length → ∀ n : Int, 0 ≤ n → n ≤ i → Ev (fun k => laws_FnSeasons.l3 xs m k n (i : Int)) (n + ((xs.drop i).count m : Nat)) := by
  refine upL ?_ ?_
  · intro n h0 h1
    exact Ev.step (fun k => laws_FnSeasons.l3.eq_2 _ _ _ _ _) (Ev.neg (by omega) (Ev.const (by simp)))
  · intro i hi ih n h0 h1
    rw [List.drop_eq_getElem_cons hi, List.count_cons]
    refine Ev.step (fun k => laws_FnSeasons.l3.eq_2 _ _ _ _ _) (Ev.pos (by omega) (Ev.bind (Ev.const (getI_nat hi)) ?_))
    simp only [wsucc hi (by omega), w64 (x := n + 1) (by omega) (by omega)]
    by_cases h : xs[i] = m
    · refine Ev.pos h ?_
      have := ih (n + 1) (by omega) (by omega)
      rw [if_pos (by simpa using h)]
      rw [show n + (((xs.drop (i + 1)).count m + 1 : Nat) : Int) = n + 1 + ((xs.drop (i + 1)).count m : Nat) by omega]
      exact this
    · refine Ev.neg h ?_
      rw [if_neg (by simpa using h)]
      exact ih n h0 (by omega)
theorem sumC_le (xs : List Int) (n : Nat) : sumC xs n ≤ n * xs.length := by
  induction n with
  | zero => simp [sumC]
  | succ n ih =>
    have := List.count_le_length (a := (n : Int)) (l := xs)
    rw [sumC, Nat.add_mul]
    omega
theorem rests_loop (xs : List Int) (hx : xs.length ≤ 30) (hall : xs.all in5 = true) : ∀ m, m ≤ 6 → Ev (fun k => laws_FnSeasons.l2 xs k 0 (sumC xs m : Nat) (m : Int)) (.inr (0, (sumC xs 6 : Nat))) := by
  refine upL ?_ ?_
  · exact Ev.step (fun k => laws_FnSeasons.l2.eq_2 _ _ _ _ _) (Ev.neg (by omega) (Ev.const rfl))
  · intro m hm ih
    obtain ⟨r, hr, hrl, e1, e2⟩ := rests_ev xs (m : Int) hx (decide_eq_true ⟨by omega, by omega⟩) hall
    have hs := sameN_ev r r (by omega)
    rw [decide_eq_true rfl] at hs
    have ht := times_loop xs (m : Int) hx 0 (Nat.zero_le _) 0 (by omega) (by omega)
    rw [List.drop_zero, Int.zero_add] at ht
    have hcl := List.count_le_length (a := (m : Int)) (l := xs)
    have hsl := sumC_le xs m
    have hb : m * xs.length ≤ 6 * 30 := Nat.mul_le_mul (by omega) hx
    refine Ev.step (fun k => laws_FnSeasons.l2.eq_2 _ _ _ _ _) (Ev.pos (by omega) ?_)
    refine Ev.bind (a := .inr ((0 : Int), ((sumC xs (m + 1) : Nat) : Int))) ?_ ?_
    · refine e2.bind (e1.bind (Ev.bind (a := false) (Ev.neg (by simp) (Ev.neg (by simp) (hs.bind (Ev.const rfl)))) (Ev.neg (by simp) (ht.bind ?_))))
      have hsum : ((sumC xs m : Nat) : Int) + ((xs.count (m : Int) : Nat) : Int) = ((sumC xs (m + 1) : Nat) : Int) := by rw [sumC]; omega
      rw [w64 (x := ((sumC xs m : Nat) : Int) + ((xs.count (m : Int) : Nat) : Int)) (by omega) (by omega), hsum]
      by_cases hz : 0 < xs.count (m : Int)
      · rw [if_pos hz] at hr
        refine Ev.pos (by omega) (Ev.const ?_)
        have e9 : ((xs.count (m : Int) : Nat) : Int) - 1 - (r.length : Int) = 0 := by omega
        have e0 : IntKind.i64.wrap 0 = 0 := w64 (by omega) (by omega)
        rw [w64 (x := ((xs.count (m : Int) : Nat) : Int) - 1) (by omega) (by omega)]
        simp only [e9, e0, Int.add_zero]
      · exact Ev.neg (by omega) (Ev.const rfl)
    · simp only [wsucc hm (by omega)]
      exact ih
theorem lack_loop {t7 a : Int} (hw : IntKind.i64.wrap (1 + t7) = a) {xs : List Meadow} (h : GoodM xs) (hn : ∀ (i : Nat) (hi : i < xs.length), xs[i].Grass < a) : ∀ i, i ≤ xs.length → Ev (fun k => laws_FnSeasons.l4 t7 xs k (i : Int)) (.inr ()) := by
  have hx := h.2.2
  refine upL ?_ ?_
  · exact Ev.step (fun k => laws_FnSeasons.l4.eq_2 _ _ _ _) (Ev.neg (by omega) (Ev.const rfl))
  · intro i hi ih
    obtain ⟨p, q, r⟩ := okM_parts (h.1 _ (List.getElem_mem hi))
    have := hn i hi
    refine Ev.step (fun k => laws_FnSeasons.l4.eq_2 _ _ _ _) (Ev.pos (by omega) (Ev.bind (Ev.const (getI_nat hi)) (Ev.neg ?_ ?_)))
    · rw [hw, w64 (by omega) (by omega)]; omega
    · simp only [wsucc hi (by omega)]; exact ih
theorem most_loop {xs : List Meadow} (h : GoodM xs) : ∀ i, i ≤ xs.length → ∀ y : Int, 0 ≤ y → Ev (fun k => laws_FnSeasons.l5 xs k y (i : Int)) (max y (mostG (xs.drop i))) := by
  have hx := h.2.2
  refine upL ?_ ?_
  · intro y hy
    refine Ev.step (fun k => laws_FnSeasons.l5.eq_2 _ _ _ _) (Ev.neg (by omega) (Ev.const ?_))
    simp [mostG]; omega
  · intro i hi ih y hy
    obtain ⟨p, q, r⟩ := okM_parts (h.1 _ (List.getElem_mem hi))
    refine Ev.step (fun k => laws_FnSeasons.l5.eq_2 _ _ _ _) (Ev.pos (by omega) (Ev.bind (Ev.const (getI_nat hi)) ?_))
    simp only [wsucc hi (by omega), w64 (x := xs[i].Grass) (by omega) (by omega)]
    rw [List.drop_eq_getElem_cons hi, mostG]
    by_cases hlt : y < xs[i].Grass
    · rw [if_pos hlt]
      have := ih xs[i].Grass (by omega)
      rw [show max y (max xs[i].Grass (mostG (xs.drop (i + 1)))) = max xs[i].Grass (mostG (xs.drop (i + 1))) by omega]
      exact this
    · rw [if_neg hlt]
      have := ih y hy
      rw [show max y (max xs[i].Grass (mostG (xs.drop (i + 1)))) = max y (mostG (xs.drop (i + 1))) by omega]
      exact this
theorem FnSeasons.pure (x0 : List Int) (hv0 : ∀ x ∈ x0, (inI .u8) x) (hb0 : x0.length * 1 ≤ 140737488351232) (x1 : List Int) (hv1 : ∀ x ∈ x1, (inI .u8) x) (hb1 : x1.length * 1 ≤ 140737488351232) : ∃ k, laws_FnSeasons.f k x0 x1 = some true := by
  refine Ev.get (r := true) ?_
  by_cases hbig : 4096 < (x0.length : Int) ∨ 4096 < (x1.length : Int)
  · refine Ev.bind (a := true) (Ev.const ?_) (Ev.pos rfl (Ev.const rfl))
    unfold laws_f6big.f
    simp only [Option.bind_some]
    by_cases h0 : 4096 < (x0.length : Int)
    · simp [h0]
    · have h1 := hbig.resolve_left h0
      simp [h0, h1]
  have hb0' : ¬ 4096 < (x0.length : Int) := fun h => hbig (.inl h)
  have hb1' : ¬ 4096 < (x1.length : Int) := fun h => hbig (.inr h)
  refine Ev.bind (a := false) (Ev.const (by unfold laws_f6big.f; simp [hb0', hb1'])) (Ev.neg (by simp) ?_)
  obtain ⟨xs, hg, exs⟩ := meadows_ev (byteL_of hv0)
  obtain ⟨t7, e7, t70, t71⟩ := pickB_ev (byteL_of hv1) (n := 5) (by omega)
  obtain ⟨t8, e8, t80, t81⟩ := pickB_ev (byteL_of hv0) (n := 6) (by omega)
  refine exs.bind (Ev.bind (Ev.const e7) (Ev.bind (Ev.const e8) ?_))
  obtain ⟨a, ha⟩ : ∃ a, IntKind.i64.wrap (1 + t7) = a := ⟨_, rfl⟩
  obtain ⟨d, hd⟩ : ∃ d, IntKind.i64.wrap (1 + t8) = d := ⟨_, rfl⟩
  have ha' : a = 1 + t7 := by rw [← ha, w64 (by omega) (by omega)]
  have hd' : d = 1 + t8 := by rw [← hd, w64 (by omega) (by omega)]
  rw [ha, hd]
  have hx := hg.2.2
  obtain ⟨⟨P, t, c⟩, ⟨f1, f2, f3, f4, f5⟩, p1, p2⟩ := firstPlan_ev hg (a := a) (d := d) (b := 3000) (by omega) (by omega) (by omega)
  obtain ⟨⟨Q, g⟩, l, g1, g2, g3, g4, g5, g6⟩ := greedyPlan_ev hg (a := a) (d := d) (by omega) (by omega)
  obtain ⟨n1, n2⟩ := enough_ev hg (a := a) (d := d) (by omega) (by omega)
  simp only at f1 f2 f3 f4 f5 g4 g5 g6
  have hval := implValid_ev xs hg.V (by omega)
  rw [show (xs.all okM && decide (1 ≤ xs.length ∧ xs.length ≤ 6)) = true from hg.v] at hval
  have sP := sameN_ev P P (by omega)
  have sQ := sameN_ev Q Q (by omega)
  rw [decide_eq_true rfl] at sP sQ
  have hgd : decide (g = 0) = decide (d ≤ l) := by rw [decide_eq_decide]; exact g4
  have hneed := need_ev hg
  have hmost := most_loop hg 0 (Nat.zero_le _) 0 (by omega)
  have hmb := mostG_bd xs hg.1
  rw [List.drop_zero, show max 0 (mostG xs) = mostG xs by omega] at hmost
  refine p2.bind (p1.bind (g1.bind (g2.bind (g3.bind (n1.bind (n2.bind ?_))))))
  simp only
  refine Ev.bind (a := false) ?_ (Ev.neg (by simp) ?_)
  · refine Ev.neg (by simp) (sP.bind (Ev.neg (by simp) (Ev.neg (by simp) (Ev.neg (by simp) (sQ.bind (Ev.neg (by simp) (Ev.neg (by simp) (Ev.neg (by simp [hgd]) (Ev.neg (by simp) (Ev.neg (by simp) (Ev.neg (by simp) (hval.bind (Ev.neg (by simp) ?_)))))))))))))
    rcases f1 with rfl | rfl | rfl
    · exact Ev.neg (by simp) (Ev.const rfl)
    · exact Ev.pos (by simp) (Ev.neg (by simp) (Ev.const rfl))
    · exact Ev.pos (by simp) (Ev.pos (by simp) (Ev.const (by simp)))
  refine Ev.bind (a := .inr (xs, Q)) ?_ ?_
  · by_cases hc : c = 0
    · obtain ⟨h1, ⟨e, h2⟩, h3⟩ := f2 hc
      have hPl : P.length ≤ 30 := by omega
      obtain ⟨k1, k2, k3⟩ := follow_ev hg (a := a) (by omega) hPl h2
      have hl1 := days_loop ha (by omega) (P, t, c) hPl 0 (Nat.zero_le _) xs e hg (by rw [List.drop_zero]; exact h2)
      have hen : a * d ≤ sumM (d - 1) xs := by
        have := fol_enough (a := a) (by omega) (P.length - 1) P xs e (by omega) hg h2
        have e1 : ((P.length - 1 : Nat) : Int) = d - 1 := by omega
        rw [e1, show d - 1 + 1 = d by omega] at this
        exact this
      have hel : e.length ≤ 1048576 := by
        have hlen : ∀ (ys : List Int) (xs e : List Meadow), fol a xs ys = some e → e.length = xs.length := by
          intro ys
          induction ys with
          | nil => intro xs e h; rw [fol] at h; obtain rfl := Option.some.inj h; rfl
          | cons y r ih => intro xs e h; obtain ⟨i, hi, _, _, h2⟩ := fol_some h; rw [ih _ _ h2, dayL_len]
        rw [hlen P xs e h2]; omega
      have se := sameM_ev e e hel
      rw [decide_eq_true rfl] at se
      refine Ev.pos hc (k1.bind (k2.bind (Ev.bind (a := false) ?_ (Ev.neg (by simp) (hl1.bind ?_)))))
      · refine Ev.neg (by simp) (Ev.neg (by simp) (Ev.neg (by simp) (Ev.neg (by omega) (Ev.neg (by simpa using hen) (Ev.const ?_)))))
        congr 1
        exact decide_eq_false (by omega)
      · exact k3.bind (Ev.neg (by simp) (se.bind (Ev.neg (by simp) (Ev.const rfl))))
    · exact Ev.neg hc (Ev.const rfl)
  refine Ev.bind (a := .inr ()) ?_ ?_
  · by_cases hgz : g = 0
    · obtain ⟨h1, e, h2⟩ := g5 hgz
      obtain ⟨k1, _, _⟩ := follow_ev hg (a := a) (by omega) g6 h2
      have hall : Q.all in5 = true := by
        rw [List.all_eq_true]
        intro y hy
        have := of_decide_eq_true (fol_mem h2 y hy)
        exact decide_eq_true (by omega)
      have hr := rests_loop Q g6 hall 0 (Nat.zero_le _)
      rw [sumC_all Q hall] at hr
      have hc6 : c ≠ 6 := by
        intro hc
        have := f3 hc Q h1
        rw [h2] at this
        cases this
      refine Ev.pos hgz (k1.bind (Ev.bind (a := false) (Ev.neg (by simp) (Ev.neg (by simp) (Ev.const (by simp [hc6])))) (Ev.neg (by simp) (hr.bind ?_))))
      exact Ev.neg (by simp) (Ev.neg (by omega) (Ev.const rfl))
    · exact Ev.neg hgz (Ev.const rfl)
  refine Ev.bind (a := .inr ()) ?_ ?_
  · by_cases hc : c = 6 ∧ d = 1
    · obtain ⟨hc, hd1⟩ := hc
      have hlk := lack_loop ha hg (a := a) (by
        intro i hi
        have := f3 hc [(i : Int)] (by simp [hd1])
        rw [fol_nat a hi] at this
        by_cases hge : a ≤ xs[i].Grass
        · rw [if_pos hge] at this; cases this
        · omega) 0 (Nat.zero_le _)
      exact Ev.bind (a := true) (Ev.pos hc (Ev.const (by simp [hd1]))) (Ev.pos rfl (hlk.bind (Ev.const rfl)))
    · refine Ev.bind (a := false) ?_ (Ev.neg (by simp) (Ev.const rfl))
      by_cases h6 : c = 6
      · exact Ev.pos h6 (Ev.const (by simp; exact fun h => hc ⟨h6, h⟩))
      · exact Ev.neg h6 (Ev.const rfl)
  refine hneed.bind (hmost.bind (Ev.const ?_))
  by_cases hz : mostG xs = 0
  · rw [if_pos hz]; simp [hz]
  · rw [if_neg hz]
    simp only [if_true]
    rw [if_pos (by omega)]
end Go.Proofs.Ytnjeddecmccdcaa
