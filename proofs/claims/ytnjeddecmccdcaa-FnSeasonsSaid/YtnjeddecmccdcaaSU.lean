/-
  Plain laws: greedy plans; rests; the greatest need; meadows that are drawn.
-/
import Derived.Test.YtnjeddecmccdcaaST
import Derived.Test.YtnjeddecmccdcaaSD
namespace Go.Proofs.Ytnjeddecmccdcaa
open G
set_option linter.unusedVariables false
set_option linter.unusedSimpArgs false
set_option maxRecDepth 100000
variable {α β : Type}

/-! ### Greedy -/
def grassAt (xs : List Meadow) (i : Nat) : Int := match xs[i]? with | some x => x.Grass | none => 0
theorem grassAt_eq {xs : List Meadow} {i : Nat} (hi : i < xs.length) : grassAt xs i = xs[i].Grass := by unfold grassAt; rw [List.getElem?_eq_getElem hi]
def richF (xs : List Meadow) : Nat → Nat → Nat → Nat
  | 0, b, _ => b
  | n + 1, b, i => richF xs n (if grassAt xs b < grassAt xs i then i else b) (i + 1)
theorem richF_lt (xs : List Meadow) : ∀ (n b i : Nat), b < xs.length → i + n = xs.length → richF xs n b i < xs.length
  | 0, b, i, hb, _ => hb
  | n + 1, b, i, hb, h => by
    rw [richF]
    refine richF_lt xs n _ _ ?_ (by omega)
    split <;> omega
def rich (xs : List Meadow) : Nat := richF xs (xs.length - 1) 0 1
theorem rich_lt {xs : List Meadow} (h : 1 ≤ xs.length) : rich xs < xs.length := richF_lt xs _ _ _ (by omega) (by omega)
theorem richest_loop (xs : List Meadow) (hx : xs.length ≤ 1048576) : ∀ i, i ≤ xs.length → ∀ b : Nat, b < xs.length → Ev (fun k => spec_l07Richest.l1 xs k (b : Int) (i : Int)) (richF xs (xs.length - i) b i : Int) ∧ Ev (fun k => impl_greedy.l2 xs k (b : Int) (i : Int)) (richF xs (xs.length - i) b i : Int) := by
  refine upL ?_ ?_
  · intro b hb
    rw [Nat.sub_self, richF]
    exact ⟨Ev.step (fun k => spec_l07Richest.l1.eq_2 _ _ _ _) (Ev.neg (by omega) (Ev.const rfl)), Ev.step (fun k => impl_greedy.l2.eq_2 _ _ _ _) (Ev.neg (by omega) (Ev.const rfl))⟩
  · intro i hi ih b hb
    rw [show xs.length - i = (xs.length - (i + 1)) + 1 by omega, richF, grassAt_eq hb, grassAt_eq hi]
    by_cases hg : xs[b].Grass < xs[i].Grass
    · obtain ⟨h1, h2⟩ := ih i hi
      rw [← wsucc hi (by omega)] at h1 h2
      rw [if_pos hg]
      exact ⟨Ev.step (fun k => spec_l07Richest.l1.eq_2 _ _ _ _) (Ev.pos (by omega) (Ev.bind (Ev.const (getI_nat hi)) (Ev.bind (Ev.const (getI_nat hb)) (Ev.pos hg h1)))),
        Ev.step (fun k => impl_greedy.l2.eq_2 _ _ _ _) (Ev.pos (by omega) (Ev.bind (Ev.const (getI_nat hi)) (Ev.bind (Ev.const (getI_nat hb)) (Ev.pos hg h2))))⟩
    · obtain ⟨h1, h2⟩ := ih b hb
      rw [← wsucc hi (by omega)] at h1 h2
      rw [if_neg hg]
      exact ⟨Ev.step (fun k => spec_l07Richest.l1.eq_2 _ _ _ _) (Ev.pos (by omega) (Ev.bind (Ev.const (getI_nat hi)) (Ev.bind (Ev.const (getI_nat hb)) (Ev.neg hg h1)))),
        Ev.step (fun k => impl_greedy.l2.eq_2 _ _ _ _) (Ev.pos (by omega) (Ev.bind (Ev.const (getI_nat hi)) (Ev.bind (Ev.const (getI_nat hb)) (Ev.neg hg h2))))⟩
theorem richest_ev (xs : List Meadow) (hx : xs.length ≤ 1048576) (h1 : 1 ≤ xs.length) : Ev (fun k => spec_l07Richest.f k xs) (rich xs : Int) ∧ Ev (fun k => impl_greedy.l2 xs k 0 0) (rich xs : Int) := by
  obtain ⟨e1, e2⟩ := richest_loop xs hx 1 h1 0 (by omega)
  have w1 : IntKind.i64.wrap (0 + 1) = ((1 : Nat) : Int) := by rw [w64 (by omega) (by omega)]; rfl
  refine ⟨Ev.bind e1 (Ev.const rfl), Ev.step (fun k => impl_greedy.l2.eq_2 _ _ _ _) (Ev.pos (by omega) ?_)⟩
  have hg : getI xs 0 = some xs[0] := getI_nat (i := 0) h1
  refine Ev.bind (Ev.const hg) (Ev.bind (Ev.const hg) (Ev.neg (by omega) ?_))
  rw [w1]
  exact e2
def grd (a : Int) : Nat → List Meadow → List Int
  | 0, _ => []
  | n + 1, xs => if grassAt xs (rich xs) < a then [] else (rich xs : Int) :: grd a n (dayL xs (rich xs) a)
theorem grd_len (a : Int) : ∀ (n : Nat) (xs : List Meadow), (grd a n xs).length ≤ n
  | 0, xs => by simp [grd]
  | n + 1, xs => by
    rw [grd]
    split
    · simp
    · have := grd_len a n (dayL xs (rich xs) a)
      simp only [List.length_cons]; omega
theorem grd_more (a : Int) : ∀ (n k : Nat) (xs : List Meadow), grd a n xs = (grd a (n + k) xs).take n
  | 0, k, xs => by simp [grd]
  | n + 1, k, xs => by
    rw [show n + 1 + k = (n + k) + 1 by omega, grd, grd]
    split
    · simp
    · rw [List.take_succ_cons, ← grd_more a n k]
theorem grd_fol {a : Int} (ha : 1 ≤ a) : ∀ (n : Nat) (xs : List Meadow), GoodM xs → ∃ e, fol a xs (grd a n xs) = some e
  | 0, xs, _ => ⟨xs, rfl⟩
  | n + 1, xs, h => by
    have hb := rich_lt h.2.1
    rw [grd, grassAt_eq hb]
    split
    · exact ⟨xs, rfl⟩
    · obtain ⟨e, he⟩ := grd_fol ha n _ (h.day hb (a := a) (by omega) (by omega))
      refine ⟨e, ?_⟩
      rw [fol_nat a hb, if_pos (by omega)]
      exact he
theorem greedy_loop (a : Int) (ha : 1 ≤ a ∧ a ≤ 1000) (m : Int) (hm : m ≤ 30) : ∀ (d : Nat) (plan : List Int) (cur : List Meadow), (plan.length : Int) + d = m → GoodM cur →
    ∃ (r : (List Int) ⊕ (List Int)), (r = .inl (plan ++ grd a d cur) ∨ r = .inr (plan ++ grd a d cur)) ∧ Ev (fun k => spec_l07Greedy.l1 a m k plan cur) r ∧ Ev (fun k => impl_greedy.l1 a m k plan cur (plan.length : Int)) r
  | 0, plan, cur, hd, hc =>
    ⟨.inr plan, .inr (by simp [grd]), Ev.step (fun k => spec_l07Greedy.l1.eq_2 _ _ _ _ _) (Ev.neg (by omega) (Ev.const rfl)), Ev.step (fun k => impl_greedy.l1.eq_2 _ _ _ _ _ _) (Ev.neg (by omega) (Ev.const rfl))⟩
  | d + 1, plan, cur, hd, hc => by
    obtain ⟨hok, n1, n6⟩ := hc
    have hlt : (plan.length : Int) < m := by omega
    have hb := rich_lt n1
    obtain ⟨e1, e2⟩ := richest_ev cur (by omega) n1
    obtain ⟨p, q, r⟩ := okM_parts (hok _ (List.getElem_mem hb))
    have e3 : IntKind.i64.wrap cur[rich cur].Grass = cur[rich cur].Grass := w64 (by omega) (by omega)
    rw [grd, grassAt_eq hb]
    by_cases hg : cur[rich cur].Grass < a
    · rw [if_pos hg, List.append_nil]
      refine ⟨.inl plan, .inl rfl, Ev.step (fun k => spec_l07Greedy.l1.eq_2 _ _ _ _ _) (Ev.pos hlt ?_), Ev.step (fun k => impl_greedy.l1.eq_2 _ _ _ _ _ _) (Ev.pos hlt ?_)⟩
      · refine Ev.bind e1 (Ev.bind (Ev.const (getI_nat hb)) ?_)
        rw [e3]
        exact Ev.pos hg (Ev.const rfl)
      · exact Ev.bind (Ev.bind e2 (Ev.bind (behind_no hok hb hg) (Ev.pos rfl (Ev.const rfl)))) (Ev.const rfl)
    · rw [if_neg hg]
      obtain ⟨r', hr, f1, f2⟩ := greedy_loop a ha m hm d (plan ++ [(rich cur : Int)]) (dayL cur (rich cur) a) (by simp; omega) (GoodM.day ⟨hok, n1, n6⟩ hb (by omega) (by omega))
      have hch : chk (plan.length + ([(rich cur : Int)] : List Int).length ≤ 4294967296) = some () := chk_t (by simp; omega)
      have hw : IntKind.i64.wrap ((plan.length : Int) + 1) = ((plan ++ [(rich cur : Int)]).length : Int) := by
        rw [w64 (by omega) (by omega)]; simp
      rw [List.append_assoc, List.cons_append, List.nil_append] at hr
      refine ⟨r', hr, Ev.step (fun k => spec_l07Greedy.l1.eq_2 _ _ _ _ _) (Ev.pos hlt ?_), Ev.step (fun k => impl_greedy.l1.eq_2 _ _ _ _ _ _) (Ev.pos hlt ?_)⟩
      · refine Ev.bind e1 (Ev.bind (Ev.const (getI_nat hb)) ?_)
        rw [e3]
        exact Ev.neg hg (Ev.bind (Ev.const hch) (Ev.bind (l07Day_ev hok (by omega) hb (by omega) (by omega)) f1))
      · refine Ev.bind (a := .inr (plan ++ [(rich cur : Int)], dayL cur (rich cur) a)) (Ev.bind e2 (Ev.bind (behind_ev hok (by omega) hb (by omega) (by omega)) (Ev.neg (by simp) (Ev.bind (Ev.const hch) (Ev.const rfl))))) ?_
        show Ev (fun k => impl_greedy.l1 a m k (plan ++ [(rich cur : Int)]) (dayL cur (rich cur) a) (IntKind.i64.wrap ((plan.length : Int) + 1))) r'
        rw [hw]
        exact f2
theorem greedyF_ev {xs : List Meadow} (h : GoodM xs) {a : Int} (ha : 1 ≤ a ∧ a ≤ 1000) {m : Int} (h0 : 0 ≤ m) (hm : m ≤ 30) : Ev (fun k => spec_l07Greedy.f k xs a m) (grd a m.toNat xs) ∧ Ev (fun k => impl_greedy.f k xs a m) (grd a m.toNat xs) := by
  obtain ⟨r, hr, e1, e2⟩ := greedy_loop a ha m hm m.toNat [] xs (by simp; omega) h
  rw [List.nil_append] at hr
  exact ⟨Ev.bind e1 (by rcases hr with rfl | rfl <;> exact Ev.const rfl), Ev.bind e2 (by rcases hr with rfl | rfl <;> exact Ev.const rfl)⟩
/-- The greedy plan of some days, and the longest one. -/
theorem greedyPlan_ev {xs : List Meadow} (h : GoodM xs) {a d : Int} (ha : 1 ≤ a ∧ a ≤ 1000) (hd : 1 ≤ d ∧ d ≤ 30) : ∃ (r : List Int × Int) (l : Int),
    Ev (fun k => impl_GreedyPlan.f k xs a d) r ∧ Ev (fun k => spec_GreedyPlan.f k xs a d) r ∧ Ev (fun k => impl_LongestGreedy.f k xs a) (l, 0) ∧ ((r.2 = 0) ↔ d ≤ l) ∧ (r.2 = 0 → (r.1.length : Int) = d ∧ ∃ e, fol a xs r.1 = some e) ∧ r.1.length ≤ 30 := by
  have hsp : spec_l07Days.f d = some true := by unfold spec_l07Days.f; rw [l00In_eq, decide_eq_true (by omega)]; rfl
  have hx := h.2.2
  have hc := spanCode_ev xs h.V (by omega) a d
  have hk := asked_ev xs h.V (by omega) a true
  have hm := meadowCode_ev xs h.V (by omega) a [] (by simp)
  rw [List.all_nil, h.ask ha] at hm
  rw [decide_eq_true (by omega), h.ask ha] at hc
  rw [h.ask ha] at hk
  obtain ⟨s1, i1⟩ := greedyF_ev h ha (m := d) (by omega) hd.2
  obtain ⟨s2, i2⟩ := greedyF_ev h ha (m := 30) (by omega) (by omega)
  have hmore := grd_more a d.toNat (30 - d.toNat) xs
  rw [show d.toNat + (30 - d.toNat) = (30 : Int).toNat by omega] at hmore
  have hl := congrArg List.length hmore
  rw [List.length_take] at hl
  have hlong : Ev (fun k => impl_LongestGreedy.f k xs a) (((grd a (30 : Int).toNat xs).length : Int), 0) := hm.bind (Ev.neg (by simp) (i2.bind (Ev.const rfl)))
  have hl30 := grd_len a d.toNat xs
  by_cases hlt : ((grd a d.toNat xs).length : Int) < d
  · refine ⟨([], 6), _, hc.bind (Ev.neg (by simp) (i1.bind (Ev.bind (Ev.const rfl) (Ev.pos hlt (Ev.const rfl))))), Ev.bind (Ev.const hsp) (hk.bind (Ev.neg (by simp) (s1.bind (Ev.pos hlt (Ev.const rfl))))), hlong, ?_, by simp, by simp⟩
    simp only
    omega
  · refine ⟨(grd a d.toNat xs, 0), _, hc.bind (Ev.neg (by simp) (i1.bind (Ev.bind (Ev.const rfl) (Ev.neg hlt (Ev.const rfl))))), Ev.bind (Ev.const hsp) (hk.bind (Ev.neg (by simp) (s1.bind (Ev.neg hlt (Ev.const rfl))))), hlong, ?_, ?_, ?_⟩
    · simp only [true_iff]
      omega
    · intro _
      exact ⟨by simp only; omega, grd_fol (by omega) _ _ h⟩
    · simp only; omega

/-! ### Rests -/
def in5 (x : Int) : Bool := decide (0 ≤ x ∧ x ≤ 5)
theorem restsSpec1 (xs : List Int) (hx : xs.length ≤ 9223372036854775806) : ∀ i, i ≤ xs.length → ∀ b : Bool, Ev (fun k => spec_RestsOf.l1 xs k b (i : Int)) (b && (xs.drop i).all in5) := by
  refine upL ?_ ?_
  · intro b
    refine Ev.step (fun k => spec_RestsOf.l1.eq_2 _ _ _ _) ?_
    exact Ev.neg (by omega) (Ev.const (by simp))
  · intro i hi ih b
    refine Ev.step (fun k => spec_RestsOf.l1.eq_2 _ _ _ _) ?_
    refine Ev.pos (by omega) ?_
    simp only [getI_nat hi, Option.bind_some, l00In_eq, wsucc hi (by omega), List.drop_eq_getElem_cons hi, List.all_cons]
    cases b
    · exact Ev.neg (by simp) (by simpa using ih false)
    · refine Ev.pos rfl ?_
      rw [Bool.true_and]
      exact ih (decide (0 ≤ xs[i] ∧ xs[i] ≤ 5))
theorem restsImpl1 (xs : List Int) (a : Int) (hx : xs.length ≤ 1048576) : ∀ i, i ≤ ([a] ++ xs).length → Ev (fun k => impl_RestsOf.l1 xs a k (i : Int)) (if i < ([a] ++ xs).length ∧ (((([a] ++ xs).drop i).all in5) = false ∨ 30 < xs.length) then .inl ([], 2) else .inr ()) := by
  refine upL ?_ ?_
  · refine Ev.step (fun k => impl_RestsOf.l1.eq_2 _ _ _ _) ?_
    exact Ev.neg (by omega) (Ev.const (by simp))
  · intro i hi ih
    refine Ev.step (fun k => impl_RestsOf.l1.eq_2 _ _ _ _) ?_
    refine Ev.pos (by omega) ?_
    have hn : ([a] ++ xs).length ≤ 9223372036854775806 := by simp; omega
    simp only [getI_nat hi, Option.bind_some, within_eq, wsucc hi (by omega), List.drop_eq_getElem_cons hi, List.all_cons]
    by_cases h1 : 0 ≤ ([a] ++ xs)[i] ∧ ([a] ++ xs)[i] ≤ 5
    · have hd : decide (0 ≤ ([a] ++ xs)[i] ∧ ([a] ++ xs)[i] ≤ 5) = true := decide_eq_true h1
      have hd' : in5 ([a] ++ xs)[i] = true := hd
      rw [hd, hd', Bool.true_and]
      refine Ev.neg (by simp) ?_
      by_cases h2 : 30 < xs.length
      · refine Ev.pos (by omega) (Ev.const ?_)
        rw [if_pos ⟨hi, .inr h2⟩]
      · refine Ev.neg (by omega) ?_
        have e : (i < ([a] ++ xs).length ∧ ((([a] ++ xs).drop (i + 1)).all in5 = false ∨ 30 < xs.length)) ↔ (i + 1 < ([a] ++ xs).length ∧ ((([a] ++ xs).drop (i + 1)).all in5 = false ∨ 30 < xs.length)) := by
          constructor
          · rintro ⟨_, h⟩
            refine ⟨?_, h⟩
            apply Classical.byContradiction
            intro hc
            rw [List.drop_of_length_le (by omega)] at h
            rcases h with h | h
            · simp at h
            · exact h2 h
          · rintro ⟨_, h⟩; exact ⟨hi, h⟩
        by_cases hc : i + 1 < ([a] ++ xs).length ∧ ((([a] ++ xs).drop (i + 1)).all in5 = false ∨ 30 < xs.length)
        · rw [if_pos hc] at ih
          rw [if_pos (e.2 hc)]; exact ih
        · rw [if_neg hc] at ih
          rw [if_neg (fun h => hc (e.1 h))]; exact ih
    · have hd : decide (0 ≤ ([a] ++ xs)[i] ∧ ([a] ++ xs)[i] ≤ 5) = false := decide_eq_false h1
      have hd' : in5 ([a] ++ xs)[i] = false := hd
      rw [hd, hd', Bool.false_and]
      refine Ev.pos rfl (Ev.const ?_)
      rw [if_pos ⟨hi, .inl rfl⟩]
theorem rests2_same (xs : List Int) (a : Int) : ∀ (k : Nat) (ys : List Int) (p q : Int), impl_RestsOf.l2 xs a k ys p q = spec_RestsOf.l2 xs a k ys p q
  | 0, _, _, _ => rfl
  | k + 1, ys, p, q => by
    rw [impl_RestsOf.l2, spec_RestsOf.l2]
    simp only [rests2_same xs a k]
theorem rests2n (xs : List Int) (a : Int) (hx : xs.length ≤ 1048576) : ∀ i, i ≤ xs.length → ∀ (ys : List Int) (p : Int), ys.length ≤ i → ∃ r : List Int, r.length + (if p < 0 ∧ 0 < (xs.drop i).count a then 1 else 0) = ys.length + (xs.drop i).count a ∧ Ev (fun k => spec_RestsOf.l2 xs a k ys p (i : Int)) r := by
  refine upL ?_ ?_
  · intro ys p hl
    refine ⟨ys, by simp, Ev.step (fun k => spec_RestsOf.l2.eq_2 _ _ _ _ _ _) ?_⟩
    exact Ev.neg (by omega) (Ev.const rfl)
  · intro i hi ih ys p hl
    rw [List.drop_eq_getElem_cons hi]
    by_cases h1 : xs[i] ≠ a
    · obtain ⟨r, hr, h⟩ := ih ys p (by omega)
      rw [List.count_cons_of_ne h1]
      refine ⟨r, hr, Ev.step (fun k => spec_RestsOf.l2.eq_2 _ _ _ _ _ _) (Ev.pos (by omega) ?_)⟩
      simp only [getI_nat hi, Option.bind_some, wsucc hi (by omega)]
      exact Ev.pos h1 h
    · have h1' : xs[i] = a := Classical.byContradiction h1
      have hcnt : (xs[i] :: xs.drop (i + 1)).count a = (xs.drop (i + 1)).count a + 1 := by rw [h1', List.count_cons_self]
      rw [hcnt]
      by_cases h2 : 0 ≤ p
      · obtain ⟨r, hr, h⟩ := ih (ys ++ [IntKind.i64.wrap ((IntKind.i64.wrap ((i : Int) - p)) - 1)]) i (by simp; omega)
        refine ⟨r, ?_, Ev.step (fun k => spec_RestsOf.l2.eq_2 _ _ _ _ _ _) (Ev.pos (by omega) ?_)⟩
        · rw [if_neg (by omega)] at hr ⊢
          simp only [List.length_append, List.length_cons, List.length_nil] at hr
          omega
        · simp only [getI_nat hi, Option.bind_some, wsucc hi (by omega)]
          refine Ev.neg h1 (Ev.pos h2 ?_)
          rw [chk_t (by simp; omega)]
          exact h
      · obtain ⟨r, hr, h⟩ := ih ys i (by omega)
        refine ⟨r, ?_, Ev.step (fun k => spec_RestsOf.l2.eq_2 _ _ _ _ _ _) (Ev.pos (by omega) ?_)⟩
        · rw [if_neg (by omega)] at hr
          rw [if_pos ⟨by omega, by omega⟩]
          omega
        · simp only [getI_nat hi, Option.bind_some, wsucc hi (by omega)]
          exact Ev.neg h1 (Ev.neg h2 h)
theorem rests_ev (xs : List Int) (a : Int) (hl : xs.length ≤ 30) (ha : in5 a = true) (hall : xs.all in5 = true) : ∃ r : List Int, (r.length + (if 0 < xs.count a then 1 else 0) = xs.count a) ∧ r.length ≤ 30 ∧ Ev (fun k => spec_RestsOf.f k xs a) (r, 0) ∧ Ev (fun k => impl_RestsOf.f k xs a) (r, 0) := by
  obtain ⟨r, hr, h2⟩ := rests2n xs a (by omega) 0 (Nat.zero_le _) [] (-1) (by simp)
  have h1 := restsSpec1 xs (by omega) 0 (Nat.zero_le _) (if (xs.length : Int) ≤ 30 then decide (0 ≤ a ∧ a ≤ 5) else false)
  have h3 := restsImpl1 xs a (by omega) 0 (Nat.zero_le _)
  rw [List.drop_zero] at h1 h3 hr
  have hsp : (if (xs.length : Int) ≤ 30 then ((spec_l00In.f a 0 5).bind fun t2 => some t2) else (some false)) = some (if (xs.length : Int) ≤ 30 then decide (0 ≤ a ∧ a ≤ 5) else false) := by
    rw [l00In_eq]; split <;> rfl
  have hc : chk (([a] : List Int).length + xs.length ≤ 4294967296) = some () := chk_t (by simp; omega)
  have hcl := List.count_le_length (a := a) (l := xs)
  refine ⟨r, ?_, ?_, ?_, ?_⟩
  · simp only [List.length_nil, Nat.zero_add] at hr
    by_cases hz : 0 < xs.count a
    · rw [if_pos ⟨by omega, hz⟩] at hr; rw [if_pos hz]; exact hr
    · rw [if_neg (fun h => hz h.2)] at hr; rw [if_neg hz]; exact hr
  · simp only [List.length_nil, Nat.zero_add] at hr
    split at hr <;> omega
  · refine Ev.bind (Ev.const hsp) (Ev.bind h1 ?_)
    rw [if_pos (by omega), hall, Bool.and_true, show decide (0 ≤ a ∧ a ≤ 5) = true from ha]
    exact Ev.neg (by simp) (Ev.bind h2 (Ev.const rfl))
  · refine Ev.bind (Ev.const hc) (Ev.bind h3 ?_)
    rw [if_neg (by
      rintro ⟨_, h | h⟩
      · rw [List.cons_append, List.nil_append, List.all_cons, ha, hall] at h; simp at h
      · omega)]
    exact Ev.bind (h2.congr fun k => rests2_same xs a k _ _ _) (Ev.const rfl)
/-- How many of the first numbers are in a list. -/
def sumC (xs : List Int) : Nat → Nat
  | 0 => 0
  | n + 1 => sumC xs n + xs.count (n : Int)
theorem sumC_cons (y : Int) (xs : List Int) : ∀ n : Nat, sumC (y :: xs) n = sumC xs n + (if 0 ≤ y ∧ y < n then 1 else 0)
  | 0 => by rw [sumC, sumC, if_neg (by omega)]
  | n + 1 => by
    rw [sumC, sumC, sumC_cons y xs n, List.count_cons]
    by_cases h : y = (n : Int)
    · subst h
      rw [if_neg (by omega), if_pos (by simp), if_pos (by omega)]
      omega
    · rw [if_neg (show ¬ (y == (n : Int)) = true by simpa using h)]
      by_cases h2 : 0 ≤ y ∧ y < (n : Int)
      · rw [if_pos h2, if_pos (by omega)]; omega
      · rw [if_neg h2, if_neg (by omega)]; omega
theorem sumC_all : ∀ xs : List Int, xs.all in5 = true → sumC xs 6 = xs.length
  | [], _ => rfl
  | y :: xs, h => by
    rw [List.all_cons, Bool.and_eq_true] at h
    have h1 := of_decide_eq_true h.1
    rw [sumC_cons, sumC_all xs h.2, if_pos (by omega)]
    rfl

/-! ### The greatest need -/
def mostG : List Meadow → Int
  | [] => 0
  | x :: r => max x.Grass (mostG r)
theorem mostG_le : ∀ {xs : List Meadow} {i : Nat} (hi : i < xs.length), xs[i].Grass ≤ mostG xs
  | x :: r, 0, _ => by simp only [List.getElem_cons_zero, mostG]; omega
  | x :: r, i + 1, hi => by
    have := mostG_le (xs := r) (i := i) (by simpa using hi)
    simp only [List.getElem_cons_succ, mostG]; omega
theorem mostG_at : ∀ (xs : List Meadow), 0 < mostG xs → ∃ (i : Nat) (hi : i < xs.length), xs[i].Grass = mostG xs
  | [], h => by simp [mostG] at h
  | x :: r, h => by
    by_cases hx : mostG r ≤ x.Grass
    · exact ⟨0, by simp, by simp only [List.getElem_cons_zero, mostG]; omega⟩
    · simp only [mostG] at h
      obtain ⟨i, hi, e⟩ := mostG_at r (by omega)
      exact ⟨i + 1, by simpa using hi, by simp only [List.getElem_cons_succ, mostG]; omega⟩
theorem mostG_bd : ∀ (xs : List Meadow), (∀ x ∈ xs, okM x = true) → 0 ≤ mostG xs ∧ mostG xs ≤ 1000
  | [], _ => by simp [mostG]
  | x :: r, h => by
    have := mostG_bd r (fun y hy => h y (by simp [hy]))
    obtain ⟨p, q, _⟩ := okM_parts (h x (by simp))
    simp only [mostG]; omega
theorem need_loop {xs : List Meadow} (h : GoodM xs) : ∀ n i : Nat, (i : Int) + n = mostG xs → Ev (fun k => impl_GreatestNeed.l1 xs 1 1000 k (i : Int)) (.inr (mostG xs))
  | 0, i, hi => by
    have hbd := mostG_bd xs h.1
    by_cases h1 : (i : Int) < 1000
    · have e : IntKind.i64.wrap ((i : Int) + 1) = ((i + 1 : Nat) : Int) := by rw [w64 (by omega) (by omega)]; omega
      obtain ⟨⟨L, t, c⟩, ⟨r1, r2, r3, r4, _⟩, _, e2⟩ := found_ev h.1 h.2.2 (a := ((i + 1 : Nat) : Int)) (by omega) (D := 1) (b := 1000) (by omega) (by omega)
      rw [← e] at e2
      simp only at r1 r2 r3 r4
      have h0 : c ≠ 0 := by
        intro hc
        obtain ⟨g1, ⟨e, g2⟩, _⟩ := r2 hc
        cases L with
        | nil => simp at g1
        | cons y r =>
          obtain ⟨j, hj, _, hg, _⟩ := fol_some g2
          have := mostG_le hj
          omega
      have h6 : c = 6 := by have := r4 (by omega) (by omega); omega
      subst h6
      have hr : (i : Int) = mostG xs := by omega
      refine Ev.step (fun k => impl_GreatestNeed.l1.eq_2 _ _ _ _ _) (Ev.pos h1 (e2.bind (Ev.neg (by simp) (Ev.pos rfl (Ev.const ?_)))))
      rw [hr]
    · refine Ev.step (fun k => impl_GreatestNeed.l1.eq_2 _ _ _ _ _) (Ev.neg h1 (Ev.const ?_))
      rw [show (i : Int) = mostG xs by omega]
  | n + 1, i, hi => by
    have hbd := mostG_bd xs h.1
    have e : IntKind.i64.wrap ((i : Int) + 1) = ((i + 1 : Nat) : Int) := by rw [w64 (by omega) (by omega)]; omega
    obtain ⟨⟨L, t, c⟩, ⟨r1, r2, r3, r4, _⟩, _, e2⟩ := found_ev h.1 h.2.2 (a := ((i + 1 : Nat) : Int)) (by omega) (D := 1) (b := 1000) (by omega) (by omega)
    rw [← e] at e2
    simp only at r1 r2 r3 r4
    have h6 : c ≠ 6 := by
      intro hc
      obtain ⟨j, hj, hm⟩ := mostG_at xs (by omega)
      have := r3 hc [(j : Int)] rfl
      rw [fol_nat _ hj, if_pos (by omega)] at this
      cases this
    have h7 := r4 (by omega) (by omega)
    have ih := need_loop h n (i + 1) (by omega)
    rw [← e] at ih
    exact Ev.step (fun k => impl_GreatestNeed.l1.eq_2 _ _ _ _ _) (Ev.pos (by omega) (e2.bind (Ev.neg h7 (Ev.neg h6 ih))))
theorem spanCodeB_ev (xs : List Meadow) (hv : ∀ x ∈ xs, VMeadow x) (hx : xs.length ≤ 1048576) (a d b : Int) : Ev (fun k => impl_spanCode.f k xs a d b) (askC xs a (decide (0 ≤ d ∧ d ≤ 30) && decide (0 ≤ b ∧ b ≤ 20000))) := by
  refine Ev.bind (meadowCode_ev xs hv hx a [] (by simp)) ?_
  simp only [List.all_nil, within_eq, Option.bind_some, unless_eq]
  by_cases h : 0 ≤ d ∧ d ≤ 30
  · refine Ev.pos (by simp [h]) ?_
    refine Ev.bind (firstOf_ev _ _) (Ev.const ?_)
    rw [decide_eq_true h, Bool.true_and]
    congr 1
    by_cases hb : 0 ≤ b ∧ b ≤ 20000
    · rw [decide_eq_true hb]
      by_cases e : askC xs a true = 0 <;> simp [e]
    · rw [decide_eq_false hb]
      unfold askC
      cases vM xs
      · rfl
      · by_cases h1 : 1 ≤ a ∧ a ≤ 1000 <;> simp [h1]
  · refine Ev.neg (by simp [h]) ?_
    refine Ev.bind (firstOf_ev _ _) (Ev.const ?_)
    rw [decide_eq_false h, Bool.false_and]
    congr 1
    unfold askC
    cases vM xs
    · rfl
    · by_cases h1 : 1 ≤ a ∧ a ≤ 1000 <;> simp [h1]
theorem need_ev {xs : List Meadow} (h : GoodM xs) : Ev (fun k => impl_GreatestNeed.f k xs 1 1000) (if mostG xs = 0 then (0, 6) else (mostG xs, 0)) := by
  have hc := spanCodeB_ev xs h.V (by have := h.2.2; omega) 1 1 1000
  have hbd := mostG_bd xs h.1
  rw [show (decide ((0 : Int) ≤ 1 ∧ (1 : Int) ≤ 30) && decide ((0 : Int) ≤ 1000 ∧ (1000 : Int) ≤ 20000)) = true from by decide, h.ask (by omega)] at hc
  have hl := need_loop h (mostG xs).toNat 0 (by omega)
  have hu : impl_unless.f (decide ((1 : Int) ≤ 1)) 2 = some 0 := by rw [unless_eq]; rfl
  refine hc.bind (Ev.bind (Ev.const hu) ((firstOf_ev 0 0).bind (Ev.neg (by simp) (hl.bind ?_))))
  by_cases hz : mostG xs = 0
  · rw [if_pos hz]; exact Ev.pos hz (Ev.const rfl)
  · rw [if_neg hz]; exact Ev.neg hz (Ev.const rfl)
theorem firstPlan_ev {xs : List Meadow} (h : GoodM xs) {a d b : Int} (ha : 1 ≤ a ∧ a ≤ 1000) (hd : 0 ≤ d ∧ d ≤ 30) (hb : 0 ≤ b ∧ b ≤ 20000) :
    ∃ r : List Int × Int × Int, Found a d b xs r ∧ Ev (fun k => spec_FirstPlan.f k xs a d b) r ∧ Ev (fun k => impl_FirstPlan.f k xs a d b) r := by
  obtain ⟨r, r1, r2, r3⟩ := found_ev h.1 h.2.2 ha hd hb
  have hc := spanCodeB_ev xs h.V (by have := h.2.2; omega) a d b
  have hk := asked_ev xs h.V (by have := h.2.2; omega) a true
  rw [decide_eq_true hd, decide_eq_true hb, Bool.and_true, h.ask ha] at hc
  rw [h.ask ha] at hk
  have hd' : spec_l07Days.f d = some true := by unfold spec_l07Days.f; rw [l00In_eq, decide_eq_true hd]; rfl
  have hbu : spec_l07Budget.f b = some true := by unfold spec_l07Budget.f; rw [l00In_eq, decide_eq_true hb]; rfl
  refine ⟨r, r1, Ev.bind (a := (0 : Int)) ?_ (Ev.neg (by simp) (r2.bind (Ev.const rfl))), hc.bind (Ev.neg (by simp) (r3.bind (Ev.const rfl)))⟩
  exact Ev.bind (Ev.const hd') (Ev.pos rfl (Ev.bind (Ev.const hbu) (hk.bind (Ev.const rfl))))

/-! ### Meadows that are drawn -/
theorem drawn_loop {c : List Int} (hc : byteL c) : ∀ (n : Nat) (ys : List Meadow) (at_ seed : Int), ys.length + n ≤ 6 → (∀ y ∈ ys, okM y = true) → 0 ≤ at_ → at_ ≤ 1000 - 6 * n → ∃ r at' seed', Ev (fun k => spec_l07Drawn.l1 ⟨c, 0, 0⟩ k ys (n : Int) at_ seed) (r, at', seed') ∧ (∀ y ∈ r, okM y = true) ∧ r.length = ys.length + n
  | 0, ys, at_, seed, hn, hok, h0, h1 => ⟨ys, at_, seed, Ev.step (fun k => spec_l07Drawn.l1.eq_2 _ _ _ _ _ _) (Ev.neg (by omega) (Ev.const rfl)), hok, rfl⟩
  | n + 1, ys, at_, seed, hn, hok, h0, h1 => by
    obtain ⟨m, a1, s1, e1, m0, m1, q1, q1'⟩ := pick_ok hc (seed := seed) h0 (by omega) 14
    obtain ⟨g, a2, s2, e2, g0, g1, q2, q2'⟩ := pick_ok hc (at_ := a1) (seed := s1) (by omega) (by omega) (m + 1)
    obtain ⟨w, hw⟩ : ∃ w, spec_l00Min.f m 3 = some w ∧ 0 ≤ w ∧ w ≤ 3 ∧ w ≤ m := by
      unfold spec_l00Min.f
      by_cases h : m < 3
      · exact ⟨m, by rw [if_pos h], by omega⟩
      · exact ⟨3, by rw [if_neg h], by omega⟩
    obtain ⟨e3, w0, w3, wm⟩ := hw
    obtain ⟨u, a3, s3, e4, u0, u1, q3, q3'⟩ := pick_ok hc (at_ := a2) (seed := s2) (by omega) (by omega) (w + 1)
    have hnew : okM (⟨IntKind.i16.wrap g, IntKind.i16.wrap u, IntKind.i16.wrap m⟩ : Meadow) = true := by
      rw [w16 (x := g) (by omega) (by omega), w16 (x := u) (by omega) (by omega), w16 (x := m) (by omega) (by omega)]
      unfold okM
      simp only [Bool.and_eq_true, decide_eq_true_eq]
      omega
    obtain ⟨r, at', seed', hr, hok', hl⟩ := drawn_loop hc n (ys ++ [⟨IntKind.i16.wrap g, IntKind.i16.wrap u, IntKind.i16.wrap m⟩]) a3 s3 (by simp; omega) (by
      intro y hy
      rcases List.mem_append.1 hy with hy | hy
      · exact hok y hy
      · rw [List.mem_singleton] at hy; rw [hy]; exact hnew) (by omega) (by omega)
    refine ⟨r, at', seed', Ev.step (fun k => spec_l07Drawn.l1.eq_2 _ _ _ _ _ _) (Ev.pos (by omega) ?_), hok', by rw [hl]; simp; omega⟩
    refine Ev.bind (Ev.const e1) ?_
    simp only [w64 (x := m + 1) (by omega) (by omega)]
    refine Ev.bind (Ev.const e2) (Ev.bind (Ev.const e3) ?_)
    simp only [w64 (x := w + 1) (by omega) (by omega)]
    refine Ev.bind (Ev.const e4) (Ev.bind (Ev.const (chk_t (by simp; omega))) ?_)
    have e5 : IntKind.i64.wrap (((n + 1 : Nat) : Int) - 1) = (n : Int) := by rw [w64 (by omega) (by omega)]; omega
    simp only [e5]
    exact hr
theorem meadows_ev {c : List Int} (hc : byteL c) : ∃ xs : List Meadow, GoodM xs ∧ Ev (fun k => spec_P6Meadows.f k c) xs := by
  obtain ⟨n, a1, s1, e1, n0, n1, q1, q1'⟩ := pick_ok hc (at_ := 0) (seed := 0) (by omega) (by omega) 4
  obtain ⟨r, at', seed', hr, hok, hl⟩ := drawn_loop hc (1 + n).toNat [] a1 s1 (by simp; omega) (by simp) (by omega) (by omega)
  refine ⟨r, ⟨hok, by rw [hl]; simp; omega, by rw [hl]; simp; omega⟩, ?_⟩
  unfold spec_P6Meadows.f spec_l00From.f
  simp only [Option.bind_some]
  refine Ev.bind (a := (r, ⟨c, at', seed'⟩)) ?_ (Ev.const rfl)
  unfold spec_l07Drawn.f
  refine Ev.bind (Ev.const e1) ?_
  simp only [w64 (x := 1 + n) (by omega) (by omega)]
  rw [show (((1 + n).toNat : Nat) : Int) = 1 + n by omega] at hr
  exact hr.bind (Ev.const rfl)
theorem pickB_ev {c : List Int} (hc : byteL c) {n : Int} (hn : 1 ≤ n) : ∃ v : Int, spec_P6Pick.f c n = some v ∧ 0 ≤ v ∧ v < n := by
  obtain ⟨v, a1, s1, e1, v0, v1, _⟩ := pick_ok hc (at_ := 0) (seed := 0) (by omega) (by omega) n
  refine ⟨v, ?_, v0, by omega⟩
  unfold spec_P6Pick.f spec_l00From.f
  simp only [Option.bind_some]
  rw [e1]
  rfl
end Go.Proofs.Ytnjeddecmccdcaa
