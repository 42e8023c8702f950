/-
  Plain law: WateredYards of the program and of the reference answer alike.
-/
import Derived.Test.YtlmfhjjhgiobdaaQYw
import Derived.Test.YtlmfhjjhgiobdaaQFs
namespace Go.Proofs.Ytlmfhjjhgiobdaa
open G
set_option linter.unusedVariables false
set_option linter.unusedSimpArgs false
/-! ### Numbers that rise -/
def insL (v : Int) : List Int → List Int
  | [] => [v]
  | x :: xs => if v < x then v :: x :: xs else if v = x then x :: xs else x :: insL v xs
theorem mem_insL (v z : Int) : ∀ xs : List Int, z ∈ insL v xs ↔ z = v ∨ z ∈ xs
  | [] => by simp [insL]
  | x :: xs => by
    unfold insL
    split
    · simp
    · split
      · rename_i h
        subst h
        simp
      · rw [List.mem_cons, mem_insL v z xs, List.mem_cons]
        constructor
        · rintro (h | h | h)
          · exact .inr (.inl h)
          · exact .inl h
          · exact .inr (.inr h)
        · rintro (h | h | h)
          · exact .inr (.inl h)
          · exact .inl h
          · exact .inr (.inr h)
theorem sorted_insL (v : Int) : ∀ xs : List Int, xs.Pairwise (· < ·) → (insL v xs).Pairwise (· < ·)
  | [], _ => by simp [insL]
  | x :: xs, h => by
    have hh := List.pairwise_cons.1 h
    unfold insL
    split
    · rename_i hv
      refine List.pairwise_cons.2 ⟨fun z hz => ?_, h⟩
      rcases List.mem_cons.1 hz with rfl | hz
      · exact hv
      · have := hh.1 z hz; omega
    · split
      · exact h
      · refine List.pairwise_cons.2 ⟨fun z hz => ?_, sorted_insL v xs hh.2⟩
        rcases (mem_insL v z xs).1 hz with rfl | hz
        · omega
        · exact hh.1 z hz
theorem insL_len (v : Int) : ∀ xs : List Int, (insL v xs).length ≤ xs.length + 1
  | [] => by simp [insL]
  | x :: xs => by
    have := insL_len v xs
    unfold insL
    split
    · simp
    · split
      · simp
      · simp; omega
theorem sorted_ext : ∀ {xs ys : List Int}, xs.Pairwise (· < ·) → ys.Pairwise (· < ·) → (∀ z, z ∈ xs ↔ z ∈ ys) → xs = ys
  | [], [], _, _, _ => rfl
  | [], y :: ys, _, _, h => absurd ((h y).2 (by simp)) (by simp)
  | x :: xs, [], _, _, h => absurd ((h x).1 (by simp)) (by simp)
  | x :: xs, y :: ys, hx, hy, h => by
    have h1 := List.pairwise_cons.1 hx
    have h2 := List.pairwise_cons.1 hy
    have e : x = y := by
      rcases List.mem_cons.1 ((h x).1 (by simp)) with e | hm
      · exact e
      · rcases List.mem_cons.1 ((h y).2 (by simp)) with e | hm'
        · exact e.symm
        · have a := h1.1 y hm'
          have b := h2.1 x hm
          omega
    subst e
    congr 1
    refine sorted_ext h1.2 h2.2 fun z => ⟨fun hz => ?_, fun hz => ?_⟩
    · rcases List.mem_cons.1 ((h z).1 (List.mem_cons_of_mem _ hz)) with e | hm
      · have := h1.1 z hz; omega
      · exact hm
    · rcases List.mem_cons.1 ((h z).2 (List.mem_cons_of_mem _ hz)) with e | hm
      · have := h2.1 z hz; omega
      · exact hm
/-! ### l00Put -/
def putF (v : Int) : List Int → Bool → List Int
  | [], _ => []
  | x :: xs, d => if (!d && decide (v ≤ x)) = true then (if v < x then [v] else []) ++ (x :: putF v xs true) else x :: putF v xs d
def putD (v : Int) : List Int → Bool → Bool
  | [], d => d
  | x :: xs, d => putD v xs (d || decide (v ≤ x))
theorem putF_true (v : Int) : ∀ xs : List Int, putF v xs true = xs ∧ putD v xs true = true
  | [] => ⟨rfl, rfl⟩
  | x :: xs => by
    have := putF_true v xs
    unfold putF putD
    simp [this]
theorem putF_ins (v : Int) : ∀ xs : List Int, (if putD v xs false = true then putF v xs false else putF v xs false ++ [v]) = insL v xs
  | [] => rfl
  | x :: xs => by
    have ih := putF_ins v xs
    obtain ⟨t1, t2⟩ := putF_true v xs
    unfold putF putD insL
    by_cases h : v ≤ x
    · rw [decide_eq_true h]
      simp only [Bool.not_false, Bool.true_and, if_true, Bool.false_or, t1, t2]
      by_cases h1 : v < x
      · simp [h1]
      · have : v = x := by omega
        simp [this]
    · rw [decide_eq_false h]
      simp only [Bool.not_false, Bool.true_and, Bool.false_or, if_neg (show ¬ v < x by omega), if_neg (show ¬ v = x by omega), if_neg (show ¬ (false = true) by simp)]
      rw [← ih]
      split <;> simp
theorem put_loop2 (xs : List Int) (v : Int) (hx : xs.length ≤ 2000000) : ∀ i, i ≤ xs.length → ∀ (ys : List Int) (d : Bool), ys.length ≤ 2 * i → Ev (fun k => spec_l00Put.l1 xs v k ys d (i : Int)) (ys ++ putF v (xs.drop i) d, putD v (xs.drop i) d) := by
  refine upL ?_ ?_
  · intro ys d hy
    rw [List.drop_length]
    exact Ev.step (fun k => spec_l00Put.l1.eq_2 _ _ _ _ _ _) (Ev.neg (by omega) (Ev.const (by simp [putF, putD])))
  · intro i hi ih ys d hy
    have hg : getI xs (i : Int) = some xs[i] := getI_nat hi
    rw [List.drop_eq_getElem_cons hi]
    refine Ev.step (fun k => spec_l00Put.l1.eq_2 _ _ _ _ _ _) (Ev.pos (by omega) ?_)
    unfold putF putD
    cases d
    · by_cases h : v ≤ xs[i]
      · refine Ev.bind (a := true) (Ev.pos rfl (Ev.bind (Ev.const hg) (Ev.const (by rw [decide_eq_true h])))) (Ev.pos rfl (Ev.bind (Ev.const hg) ?_))
        simp only [decide_eq_true h, Bool.not_false, Bool.true_and, if_true, Bool.false_or]
        by_cases h1 : v < xs[i]
        · have ih := ih ((ys ++ [v]) ++ [xs[i]]) true (by simp; omega)
          rw [← wsucc hi (by omega)] at ih
          rw [if_pos h1]
          refine Ev.pos h1 (Ev.bind (Ev.const (chk_t (by simp; omega))) (Ev.bind (Ev.const hg) (Ev.bind (Ev.const (chk_t (by simp; omega))) ?_)))
          rw [show ys ++ ([v] ++ (xs[i] :: putF v (xs.drop (i + 1)) true)) = ((ys ++ [v]) ++ [xs[i]]) ++ putF v (xs.drop (i + 1)) true by simp]
          exact ih
        · have ih := ih (ys ++ [xs[i]]) true (by simp; omega)
          rw [← wsucc hi (by omega), List.append_assoc] at ih
          rw [if_neg h1]
          exact Ev.neg h1 (Ev.bind (Ev.const hg) (Ev.bind (Ev.const (chk_t (by simp; omega))) ih))
      · have ih := ih (ys ++ [xs[i]]) false (by simp; omega)
        rw [← wsucc hi (by omega), List.append_assoc] at ih
        refine Ev.bind (a := false) (Ev.pos rfl (Ev.bind (Ev.const hg) (Ev.const (by rw [decide_eq_false h])))) (Ev.neg (by simp) (Ev.bind (Ev.const hg) (Ev.bind (Ev.const (chk_t (by simp; omega))) ?_)))
        simp only [decide_eq_false h, Bool.not_false, Bool.true_and, Bool.false_or, if_neg (show ¬ false = true by simp)]
        exact ih
    · have ih := ih (ys ++ [xs[i]]) true (by simp; omega)
      rw [← wsucc hi (by omega), List.append_assoc] at ih
      refine Ev.bind (a := false) (Ev.neg (by simp) (Ev.const rfl)) (Ev.neg (by simp) (Ev.bind (Ev.const hg) (Ev.bind (Ev.const (chk_t (by simp; omega))) ?_)))
      simp only [Bool.not_true, Bool.false_and, Bool.true_or, if_neg (show ¬ false = true by simp)]
      exact ih
theorem put_ev (xs : List Int) (v : Int) (hx : xs.length ≤ 2000000) : Ev (fun k => spec_l00Put.f k xs v) (insL v xs) := by
  have h := put_loop2 xs v hx 0 (Nat.zero_le _) [] false (by simp)
  rw [List.drop_zero, List.nil_append] at h
  have hl := insL_len v xs
  rw [← putF_ins v xs] at hl ⊢
  refine Ev.bind h ?_
  cases hd : putD v xs false
  · rw [hd] at hl
    simp only [if_neg (show ¬ false = true by simp), List.length_append, List.length_singleton] at hl ⊢
    exact Ev.pos rfl (Ev.bind (Ev.const (chk_t (by simp; omega))) (Ev.const rfl))
  · simp only [if_true]
    exact Ev.neg (by simp) (Ev.const rfl)
/-! ### What two lists share -/
theorem indexS_loop (xs : List Spot) (s : Spot) (hx : xs.length ≤ 1048576) : ∀ i, i ≤ xs.length → ∃ r : Int ⊕ Unit, Ev (fun k => slices_Index_impl_Spot_impl_Spot.l1 xs s k (i : Int)) r ∧ ((s ∈ xs.drop i ∧ ∃ j : Nat, r = .inl (j : Int)) ∨ (s ∉ xs.drop i ∧ r = .inr ())) := by
  refine upL ?_ ?_
  · rw [List.drop_length]
    exact ⟨.inr (), Ev.step (fun k => slices_Index_impl_Spot_impl_Spot.l1.eq_2 _ _ _ _) (Ev.neg (by omega) (Ev.const rfl)), .inr ⟨by simp, rfl⟩⟩
  · rintro i hi ⟨r, h1, h2⟩
    rw [← wsucc hi (by omega)] at h1
    rw [List.drop_eq_getElem_cons hi]
    by_cases h : s = xs[i]
    · exact ⟨.inl (i : Int), Ev.step (fun k => slices_Index_impl_Spot_impl_Spot.l1.eq_2 _ _ _ _) (Ev.pos (by omega) (Ev.bind (Ev.const (getI_nat hi)) (Ev.pos h (Ev.const rfl)))), .inl ⟨by rw [h]; exact List.mem_cons_self .., i, rfl⟩⟩
    · refine ⟨r, Ev.step (fun k => slices_Index_impl_Spot_impl_Spot.l1.eq_2 _ _ _ _) (Ev.pos (by omega) (Ev.bind (Ev.const (getI_nat hi)) (Ev.neg h h1))), ?_⟩
      rcases h2 with ⟨a, b⟩ | ⟨a, b⟩
      · exact .inl ⟨List.mem_cons_of_mem _ a, b⟩
      · exact .inr ⟨fun hm => (List.mem_cons.1 hm).elim h a, b⟩
theorem notIn_ev (xs : List Spot) (s : Spot) (hx : xs.length ≤ 1048576) : Ev (fun k => impl_common_1.f k xs s) (!decide (s ∈ xs)) := by
  obtain ⟨r, h1, h2⟩ := indexS_loop xs s hx 0 (Nat.zero_le _)
  rw [List.drop_zero] at h2
  rcases h2 with ⟨a, j, rfl⟩ | ⟨a, rfl⟩
  · rw [decide_eq_true a]
    refine Ev.bind (Ev.bind (Ev.bind h1 (Ev.const rfl)) (Ev.const rfl)) (Ev.const ?_)
    rw [decide_eq_true (show (0 : Int) ≤ (j : Int) by omega)]
  · rw [decide_eq_false a]
    exact Ev.bind (Ev.bind (Ev.bind h1 (Ev.const rfl)) (Ev.const rfl)) (Ev.const rfl)
theorem common_ev (Y ws : List Spot) (hY : Y.length ≤ 100) (hw : ws.length ≤ 1048576) : Ev (fun k => impl_common.f k Y ws) (Y.filter fun s => decide (s ∈ ws)) := by
  have hd := delete_ev Y (g := fun k => impl_common_1.f k ws) (dl := fun s => !decide (s ∈ ws)) (fun x _ => notIn_ev ws x hw) (by omega)
  have hc : slices_Clone_impl_Spot_impl_Spot.f Y = some Y := by
    unfold slices_Clone_impl_Spot_impl_Spot.f
    rw [chk_t (by simp; omega)]; rfl
  refine Ev.bind (Ev.const hc) (Ev.bind (hd.congr fun k => rfl) (Ev.const ?_))
  congr 1
  exact List.filter_congr fun s _ => by simp
/-! ### Both -/
def hitY (ws : List Spot) (Y : List Spot) : Bool := decide (0 < (Y.filter fun s => decide (s ∈ ws)).length)
theorem hitY_iff {ws Y : List Spot} : hitY ws Y = true ↔ ∃ s ∈ Y, s ∈ ws := by
  unfold hitY
  rw [decide_eq_true_eq, List.length_pos_iff_exists_mem]
  constructor
  · rintro ⟨s, hs⟩
    obtain ⟨a, b⟩ := List.mem_filter.1 hs
    exact ⟨s, a, of_decide_eq_true b⟩
  · rintro ⟨s, a, b⟩
    exact ⟨s, List.mem_filter.2 ⟨a, decide_eq_true b⟩⟩
def hitsF (ws : List Spot) (ys : List (List Spot)) (i n : Nat) : List Int := ((List.range' i n).filter fun j => hitY ws (ys.getD j [])).map fun j : Nat => (j : Int)
theorem implWater_loop {p : Pasture} (hw : okW p = true) (ws : List Spot) (hws : ws.length ≤ 1048576) (ys : List (List Spot)) (hy : ∀ Y ∈ ys, isYard p Y) (hl : ys.length ≤ 100) : ∀ i, i ≤ ys.length → ∀ out : List Int, out.length ≤ i → Ev (fun k => impl_WateredYards.l1 ws ys k out (i : Int)) (out ++ hitsF ws ys i (ys.length - i)) := by
  refine upL ?_ ?_
  · intro out ho
    rw [Nat.sub_self]
    exact Ev.step (fun k => impl_WateredYards.l1.eq_2 _ _ _ _ _) (Ev.neg (by omega) (Ev.const (by simp [hitsF])))
  · intro i hi ih out ho
    have yl := isYard_len hw (hy _ (List.getElem_mem hi))
    have hc := common_ev ys[i] ws yl hws
    have hgd : ys.getD i [] = ys[i] := by rw [List.getD_eq_getElem?_getD, List.getElem?_eq_getElem hi]; rfl
    refine Ev.step (fun k => impl_WateredYards.l1.eq_2 _ _ _ _ _) (Ev.pos (by omega) (Ev.bind (Ev.const (getI_nat hi)) (Ev.bind hc ?_)))
    have eh : hitsF ws ys i (ys.length - i) = (if hitY ws ys[i] = true then [(i : Int)] else []) ++ hitsF ws ys (i + 1) (ys.length - (i + 1)) := by
      unfold hitsF
      rw [show ys.length - i = (ys.length - (i + 1)) + 1 by omega, List.range'_succ, List.filter_cons, hgd]
      split <;> simp
    rw [eh]
    cases hh : hitY ws ys[i]
    · unfold hitY at hh
      have ih := ih out (by omega)
      rw [← wsucc hi (by omega)] at ih
      exact Ev.neg (by have := of_decide_eq_false hh; omega) (by simpa using ih)
    · unfold hitY at hh
      have ih := ih (out ++ [(i : Int)]) (by simp; omega)
      rw [← wsucc hi (by omega), List.append_assoc] at ih
      exact Ev.pos (by have := of_decide_eq_true hh; omega) (Ev.bind (Ev.const (chk_t (by simp; omega))) ih)
def numW (tab : Tb) (s : Spot) : Int := g2 tab s.Y.toNat s.X.toNat - 1
theorem specWater_loop (ws : List Spot) (hws : ws.length ≤ 1048576) (tab : Tb) (ys : List (List Spot)) (hc : ∀ s ∈ ws, ∃ x y : Nat, x < 10 ∧ y < 10 ∧ s = sp x y ∧ 1 ≤ g2 tab y x ∧ g2 tab y x ≤ 100) : ∀ i, i ≤ ws.length → ∀ out : List Int, out.length ≤ i → Ev (fun k => spec_WateredYards.l1 ws (tab, ys) k out (i : Int)) ((ws.drop i).foldl (fun o s => insL (numW tab s) o) out) := by
  refine upL ?_ ?_
  · intro out ho
    rw [List.drop_length]
    exact Ev.step (fun k => spec_WateredYards.l1.eq_2 _ _ _ _ _) (Ev.neg (by omega) (Ev.const rfl))
  · intro i hi ih out ho
    obtain ⟨x, y, hx, hy, e, b1, b2⟩ := hc _ (List.getElem_mem hi)
    have hg : getI ws (i : Int) = some (sp x y) := by rw [getI_nat hi, e]
    have hp := put_ev out (g2 tab y x - 1) (by omega)
    have hl := insL_len (g2 tab y x - 1) out
    have ih := ih (insL (g2 tab y x - 1) out) (by omega)
    rw [← wsucc hi (by omega)] at ih
    rw [List.drop_eq_getElem_cons hi, List.foldl_cons, e]
    refine Ev.step (fun k => spec_WateredYards.l1.eq_2 _ _ _ _ _) (Ev.pos (by omega) (Ev.bind (Ev.const hg) (Ev.bind (Ev.const hg) (Ev.bind (Ev.const (getR tab hy)) (Ev.bind (Ev.const (getA _ hx)) ?_)))))
    have ew : IntKind.i64.wrap (gA (gR tab y) x - 1) = g2 tab y x - 1 := w64 (show -9223372036854775808 ≤ g2 tab y x - 1 by omega) (show g2 tab y x - 1 ≤ 9223372036854775807 by omega)
    rw [ew]
    exact Ev.bind hp ih
theorem fold_mem (tab : Tb) (z : Int) : ∀ (ws : List Spot) (out : List Int), z ∈ ws.foldl (fun o s => insL (numW tab s) o) out ↔ z ∈ out ∨ ∃ s ∈ ws, numW tab s = z
  | [], out => by simp
  | w :: ws, out => by
    rw [List.foldl_cons, fold_mem tab z ws, mem_insL]
    constructor
    · rintro ((h | h) | ⟨s, hs, h⟩)
      · exact .inr ⟨w, by simp, h.symm⟩
      · exact .inl h
      · exact .inr ⟨s, List.mem_cons_of_mem _ hs, h⟩
    · rintro (h | ⟨s, hs, h⟩)
      · exact .inl (.inr h)
      · rcases List.mem_cons.1 hs with rfl | hs
        · exact .inl (.inl h.symm)
        · exact .inr ⟨s, hs, h⟩
theorem fold_sorted (tab : Tb) : ∀ (ws : List Spot) (out : List Int), out.Pairwise (· < ·) → (ws.foldl (fun o s => insL (numW tab s) o) out).Pairwise (· < ·)
  | [], out, h => h
  | w :: ws, out, h => fold_sorted tab ws _ (sorted_insL _ _ h)
theorem hits_sorted (ws : List Spot) (ys : List (List Spot)) (i n : Nat) : (hitsF ws ys i n).Pairwise (· < ·) := by
  unfold hitsF
  rw [List.pairwise_map]
  refine List.Pairwise.imp (fun h => ?_) (List.Pairwise.filter _ (List.pairwise_lt_range' (s := i) (n := n)))
  omega
theorem water_ev {p : Pasture} (v : VPasture p) (ws : List Spot) (hv : ∀ s ∈ ws, VSpot s) (hws : ws.length ≤ 1048576) : ∃ r : List Int × Int, r.1.length ≤ 100 ∧ Ev (fun k => spec_WateredYards.f k p ws) r ∧ Ev (fun k => impl_WateredYards.f k p ws) r := by
  have s1 := specAll_ev v ws hv hws
  have i1 := cellCode_ev v ws hv hws
  by_cases hc : cCode p ws = 0
  · have hp : vP p = true := by
      unfold cCode at hc
      cases h : vP p
      · rw [h] at hc; simp at hc
      · rfl
    have hok : okC p ws = true := by
      unfold cCode at hc
      rw [hp] at hc
      cases h : okC p ws
      · rw [h] at hc; simp at hc
      · rfl
    have hw := vP_okW hp
    obtain ⟨tab, met, ys, t, hl, hm, y1, y2⟩ := yards2_ev v hw
    obtain ⟨wa, wb⟩ := okW_iff.1 hw
    have cells : ∀ s ∈ ws, ∃ x y : Nat, x < 10 ∧ y < 10 ∧ s = sp x y ∧ ∃ (n : Nat) (Y : List Spot), ys[n]? = some Y ∧ s ∈ Y ∧ g2 tab y x = ((n + 1 : Nat) : Int) := fun s hs => by
      have hcb : cellB p s.X s.Y = true := List.all_eq_true.1 hok s hs
      obtain ⟨x, y, hx, hy, rfl⟩ := cellB_nat hw hcb
      have hcc := (cellB_sp hw).1 (show cellB p (x : Int) (y : Int) = true from hcb)
      obtain ⟨n, Y, h1, h2⟩ := t.met_in _ (hm y x hcc.2 hcc.1)
      exact ⟨x, y, hx, hy, rfl, n, Y, h1, h2, t.num n Y h1 y x hy hx h2⟩
    have sl := specWater_loop ws hws tab ys (fun s hs => by
      obtain ⟨x, y, hx, hy, e, n, Y, h1, h2, h3⟩ := cells s hs
      have := (List.getElem?_eq_some_iff.1 h1).1
      exact ⟨x, y, hx, hy, e, by omega, by omega⟩) 0 (Nat.zero_le _) [] (by simp)
    have il := implWater_loop hw ws hws ys (fun Y hY => (t.yard Y hY).1) hl 0 (Nat.zero_le _) [] (by simp)
    rw [List.drop_zero] at sl
    rw [List.nil_append, Nat.sub_zero] at il
    have eq : ws.foldl (fun o s => insL (numW tab s) o) [] = hitsF ws ys 0 ys.length := by
      refine sorted_ext (fold_sorted tab ws [] List.Pairwise.nil) (hits_sorted ws ys 0 ys.length) fun z => ?_
      rw [fold_mem]
      unfold hitsF
      rw [List.mem_map]
      constructor
      · rintro (h | ⟨s, hs, h⟩)
        · simp at h
        · obtain ⟨x, y, hx, hy, e, n, Y, h1, h2, h3⟩ := cells s hs
          have hn := (List.getElem?_eq_some_iff.1 h1).1
          have hz : z = (n : Int) := by
            rw [← h, e]
            show g2 tab ((y : Int)).toNat ((x : Int)).toNat - 1 = _
            rw [Int.toNat_natCast, Int.toNat_natCast, h3]; omega
          refine ⟨n, List.mem_filter.2 ⟨List.mem_range'_1.2 ⟨Nat.zero_le _, by omega⟩, hitY_iff.2 ⟨s, ?_, hs⟩⟩, hz.symm⟩
          rw [List.getD_eq_getElem?_getD, h1]; exact h2
      · rintro ⟨n, hn, rfl⟩
        obtain ⟨a, b⟩ := List.mem_filter.1 hn
        have hlt : n < ys.length := by have := List.mem_range'_1.1 a; omega
        obtain ⟨s, hs, hsw⟩ := hitY_iff.1 b
        rw [List.getD_eq_getElem?_getD, List.getElem?_eq_getElem hlt, Option.getD_some] at hs
        obtain ⟨x, y, hx, hy, e, m, Y, h1, h2, h3⟩ := cells s hsw
        have hnum := t.num n ys[n] (List.getElem?_eq_getElem hlt) y x hy hx (by rw [← e]; exact hs)
        refine .inr ⟨s, hsw, ?_⟩
        rw [e]
        show g2 tab ((y : Int)).toNat ((x : Int)).toNat - 1 = _
        rw [Int.toNat_natCast, Int.toNat_natCast, hnum]; omega
    rw [eq] at sl
    rw [hc] at s1 i1
    refine ⟨(hitsF ws ys 0 ys.length, 0), ?_, s1.bind (Ev.neg (by simp) (y1.bind (Ev.bind sl (Ev.const rfl)))), i1.bind (Ev.neg (by simp) (y2.bind (Ev.bind il (Ev.const rfl))))⟩
    show (hitsF ws ys 0 ys.length).length ≤ 100
    unfold hitsF
    rw [List.length_map]
    have := List.length_filter_le (fun j => hitY ws (ys.getD j [])) (List.range' 0 ys.length)
    rw [List.length_range'] at this
    omega
  · exact ⟨([], cCode p ws), by simp, s1.bind (Ev.pos hc (Ev.const rfl)), i1.bind (Ev.pos hc (Ev.const rfl))⟩
/-! ### Marks -/
theorem at_app {α : Type} {x : α} : ∀ (d r : List α), getI (d ++ x :: r) (d.length : Int) = some x := fun d r => by
  rw [getI_nat (by simp)]
  simp
theorem set_app1 {α : Type} {x y : α} : ∀ (d r : List α), (d ++ x :: r).set d.length y = d ++ y :: r
  | [], r => rfl
  | a :: d, r => by simp [set_app1 d r]
theorem mark2_loop (a0 : List Spot) (ha : a0.length ≤ 1048576) : ∀ (rest done : List Spot) (m : Int), done.length + rest.length = a0.length → 0 ≤ m → m + 2 * rest.length ≤ 4294967296 → ∃ zs : List Spot, Ev (fun k => laws_markSpotS.l1 a0 k (done ++ rest) m (done.length : Int)) (zs, m + 2 * rest.length)
  | [], done, m, hl, h0, h1 => by
    refine ⟨done ++ [], Ev.step (fun k => laws_markSpotS.l1.eq_2 _ _ _ _ _) (Ev.neg ?_ (Ev.const ?_))⟩
    · simp at hl; omega
    · simp
  | x :: rest, done, m, hl, h0, h1 => by
    rw [List.length_cons] at h1
    obtain ⟨zs, ih⟩ := mark2_loop a0 ha rest (done ++ [(⟨IntKind.i8.wrap m, IntKind.i8.wrap (m + 1)⟩ : Spot)]) (m + 2) (by simp at hl ⊢; omega) (by omega) (by omega)
    have e : (done ++ [(⟨IntKind.i8.wrap m, IntKind.i8.wrap (m + 1)⟩ : Spot)]).length = done.length + 1 := by simp
    rw [e, List.append_assoc] at ih
    rw [← wsucc (n := a0.length) (by simp at hl; omega) (by omega)] at ih
    refine ⟨zs, Ev.step (fun k => laws_markSpotS.l1.eq_2 _ _ _ _ _) (Ev.pos (by simp at hl; omega) (Ev.bind (Ev.const (at_app _ _)) ?_))⟩
    simp only [Int.toNat_natCast, set_app1]
    refine Ev.bind (Ev.const (at_app _ _)) ?_
    rw [w64 (x := m + 1) (by omega) (by omega), w64 (x := m + 1 + 1) (by omega) (by omega)]
    simp only [set_app1]
    rw [show m + 1 + 1 = m + 2 by omega]
    have e2 : m + 2 * ((rest.length + 1 : Nat) : Int) = m + 2 + 2 * rest.length := by omega
    show Ev _ (zs, m + 2 * ((rest.length + 1 : Nat) : Int))
    rw [e2]
    exact ih
theorem mark2_ev (xs : List Spot) (hx : xs.length ≤ 1048576) : ∃ r : Int × List Spot, Ev (fun k => laws_markSpotS.f k xs 1) r ∧ 0 ≤ r.1 := by
  obtain ⟨zs, h⟩ := mark2_loop xs hx xs [] 1 (by simp) (by omega) (by omega)
  exact ⟨(1 + 2 * xs.length, zs), h.bind (Ev.const rfl), by show (0 : Int) ≤ 1 + 2 * xs.length; omega⟩
theorem sameI_ev (g : List Int) (c : Int) (hg : g.length ≤ 1048576) : Ev (fun k => (laws_eqInt64S.f k g g).bind fun t25 => if (!t25) = true then some true else some (decide (c ≠ c))) false := by
  have he := laws_eqInt64S_ev g g (by omega)
  rw [decide_eq_true rfl] at he
  exact he.bind (Ev.neg (by simp) (Ev.const (by simp)))
theorem FnExactWateredYards.pure (x0 : Pasture) (hv0 : VPasture x0) (x1 : List Spot) (hv1 : ∀ x ∈ x1, (VSpot) x) (hb1 : x1.length * 2 ≤ 140737488351232) : ∃ k, laws_FnExactWateredYards.f k x0 x1 = some true := by
  refine Ev.get (r := true) ?_
  refine Ev.bind (Ev.const (laws_szSpotS_eq x1 1048576 (by omega) (by omega) (by omega))) ?_
  by_cases h0 : (1048576 : Int) < x1.length
  · rw [if_pos h0]; exact Ev.pos (by omega) (Ev.const rfl)
  rw [if_neg h0]
  have htp := laws_toPasture_ev x0
  have ht := laws_toSpotS_ev x1 (by omega)
  have he := laws_eqSpotS_ev x1 x1 (by omega)
  rw [decide_eq_true rfl] at he
  obtain ⟨⟨g, c⟩, hl, h1, h2⟩ := water_ev hv0 x1 hv1 (by omega)
  have hl : g.length ≤ 100 := hl
  have hq := sameI_ev g c (by omega)
  obtain ⟨m, hm, hm0⟩ := mark2_ev x1 (by omega)
  have hk := laws_markInt64S_ev g 1 (by omega) (by omega)
  have hd := laws_heldInt64S_ev g.length 1 (by omega) (by omega)
  refine Ev.neg (by omega) (htp.bind (ht.bind (h1.bind (ht.bind (htp.bind (h2.bind (Ev.bind hq (Ev.neg (by simp) (ht.bind (he.bind (Ev.neg (by simp) (hm.bind (Ev.bind (Ev.neg (by omega) hq) (Ev.neg (by simp) (hk.bind (hd.bind (Ev.neg (by omega) (Ev.neg (by simp) ?_))))))))))))))))))
  exact htp.bind (ht.bind (h2.bind (Ev.bind hq (Ev.neg (by simp) (hd.bind (Ev.neg (by omega) (Ev.neg (by simp) (Ev.const rfl))))))))
end Go.Proofs.Ytlmfhjjhgiobdaa
