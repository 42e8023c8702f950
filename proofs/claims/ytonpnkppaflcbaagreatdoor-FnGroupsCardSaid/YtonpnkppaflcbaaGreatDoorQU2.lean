/-
  Plain law: greedy groups are peaceful.
-/
import Derived.Test.YtonpnkppaflcbaaGreatDoorQU1
import Derived.Test.YtonpnkppaflcbaaGreatDoorQI
namespace Go.Proofs.YtonpnkppaflcbaaGreatDoor
open G
set_option linter.unusedVariables false
set_option linter.unusedSimpArgs false
/-! ### A list of one number -/
theorem mul_one_eq {n : Nat} (hn : n ≤ 14) : math_bits_Mul.f (IntKind.u64.wrap (([(-1)] : List Int).length : Int)) (IntKind.u64.wrap (n : Int)) = some (0, (n : Int)) := by
  have : ∀ i : Fin 15, math_bits_Mul.f (IntKind.u64.wrap (([(-1)] : List Int).length : Int)) (IntKind.u64.wrap ((i : Nat) : Int)) = some (0, ((i : Nat) : Int)) := by decide +kernel
  exact this ⟨n, by omega⟩
theorem repeat_loop {n : Nat} (hn : n ≤ 14) : ∀ d m, n - m = d → 1 ≤ m → m ≤ n → Ev (fun k => slices_Repeat_int64_int64.l1 k (List.replicate m (-1) ++ List.replicate (n - m) 0) (m : Int)) (List.replicate n (-1)) := by
  intro d
  induction d using Nat.strongRecOn with
  | _ d ih =>
    intro m hd h1 h2
    have hl : (List.replicate m (-1 : Int) ++ List.replicate (n - m) 0).length = n := by simp; omega
    by_cases e : m = n
    · refine Ev.step (fun k => slices_Repeat_int64_int64.l1.eq_2 _ _ _) (Ev.neg (by rw [hl]; omega) (Ev.const ?_))
      subst e
      rw [Nat.sub_self]; simp
    · refine Ev.step (fun k => slices_Repeat_int64_int64.l1.eq_2 _ _ _) (Ev.pos (by rw [hl]; omega) (Ev.bind (Ev.const (chkT (by rw [hl]; omega))) (Ev.bind (Ev.const (chkT (by rw [hl]; omega))) ?_)))
      rw [Int.toNat_natCast, hl]
      have ht : (List.replicate m (-1 : Int) ++ List.replicate (n - m) 0).take m = List.replicate m (-1) := by rw [List.take_left' (by simp)]
      rw [ht]
      have hc : cpyN (n - m) (List.replicate m (-1 : Int)) = Nat.min m (n - m) := by unfold cpyN; rw [List.length_replicate]
      have hm : Nat.min m (n - m) ≤ m ∧ Nat.min m (n - m) ≤ n - m ∧ 1 ≤ Nat.min m (n - m) := ⟨Nat.min_le_left _ _, Nat.min_le_right _ _, by show 1 ≤ min m (n - m); omega⟩
      have hcp : cpy (List.replicate m (-1 : Int) ++ List.replicate (n - m) 0) m (n - m) (List.replicate m (-1 : Int)) = List.replicate (m + Nat.min m (n - m)) (-1) ++ List.replicate (n - (m + Nat.min m (n - m))) 0 := by
        unfold cpy
        rw [hc, ht, List.take_replicate, show min (Nat.min m (n - m)) m = Nat.min m (n - m) by omega, List.replicate_append_replicate, List.drop_append, List.length_replicate, List.drop_replicate, List.drop_replicate]
        rw [show m - (m + Nat.min m (n - m)) = 0 by omega, show n - m - (m + Nat.min m (n - m) - m) = n - (m + Nat.min m (n - m)) by omega]
        simp
      rw [hc, hcp, w64 (by omega) (by omega), show (m : Int) + ((Nat.min m (n - m) : Nat) : Int) = ((m + Nat.min m (n - m) : Nat) : Int) by omega]
      exact ih (n - (m + Nat.min m (n - m))) (by omega) _ rfl (by omega) (by omega)
theorem repeat_ev {n : Nat} (hn : n ≤ 14) : Ev (fun k => slices_Repeat_int64_int64.f k ([(-1)] : List Int) (n : Int)) (List.replicate n (-1)) := by
  refine Ev.neg (by omega) (Ev.bind (Ev.const (mul_one_eq hn)) (Ev.bind (a := false) (Ev.neg (by simp) (Ev.const ?_)) (Ev.neg (by simp) ?_)))
  · rw [decide_eq_false]; show ¬ 9223372036854775807 < (n : Int); omega
  · have hw : IntKind.i64.wrap (n : Int) = (n : Int) := w64 (by omega) (by omega)
    show Ev (fun k => (chk (0 ≤ (IntKind.i64.wrap (n : Int)) ∧ (IntKind.i64.wrap (n : Int)) ≤ 4294967296)).bind fun u3 => (slices_Repeat_int64_int64.l1 k (cpy (List.replicate ((IntKind.i64.wrap (n : Int)).toNat) 0) 0 ((List.replicate ((IntKind.i64.wrap (n : Int)).toNat) 0).length) ([(-1)] : List Int)) (cpyN ((List.replicate ((IntKind.i64.wrap (n : Int)).toNat) (0 : Int)).length) ([(-1)] : List Int) : Nat)).bind fun y5 => some y5) (List.replicate n (-1))
    rw [hw, Int.toNat_natCast, List.length_replicate]
    refine Ev.bind (Ev.const (chkT (by omega))) (Ev.bind (a := List.replicate n (-1)) ?_ (Ev.const rfl))
    cases n with
    | zero =>
      have : Ev (fun k => slices_Repeat_int64_int64.l1 k ([] : List Int) 0) [] := Ev.step (fun k => slices_Repeat_int64_int64.l1.eq_2 _ _ _) (Ev.neg (by simp) (Ev.const rfl))
      simpa [cpy, cpyN] using this
    | succ n =>
      have h1 : cpyN (n + 1) ([(-1)] : List Int) = 1 := by unfold cpyN; show min 1 (n + 1) = 1; omega
      have h2 : cpy (List.replicate (n + 1) 0) 0 (n + 1) ([(-1)] : List Int) = List.replicate 1 (-1) ++ List.replicate (n + 1 - 1) 0 := by
        unfold cpy
        rw [h1]; simp [List.replicate_succ]
      rw [h1, h2]
      exact repeat_loop hn _ 1 rfl (by omega) (by omega)
theorem minus_loop {n : Nat} (hn : n ≤ 14) : ∀ i, i ≤ n → Ev (fun k => spec_GreedyGroups.l1 k (List.replicate i (-1) ++ List.replicate (n - i) 0) (i : Int)) (List.replicate n (-1)) := by
  refine upL ?_ ?_
  · refine Ev.step (fun k => spec_GreedyGroups.l1.eq_2 _ _ _) (Ev.neg (by simp) (Ev.const ?_))
    rw [Nat.sub_self]; simp
  · intro i hi ih
    have hl : (List.replicate i (-1 : Int) ++ List.replicate (n - i) 0).length = n := by simp; omega
    have hs : (List.replicate i (-1 : Int) ++ List.replicate (n - i) 0).set i (-1) = List.replicate (i + 1) (-1) ++ List.replicate (n - (i + 1)) 0 := by
      rw [List.set_append_right _ _ (by simp), List.length_replicate, Nat.sub_self, show n - i = n - (i + 1) + 1 by omega, List.replicate_succ, List.set_cons_zero, List.replicate_succ' (n := i), List.append_assoc]
      rfl
    refine Ev.step (fun k => spec_GreedyGroups.l1.eq_2 _ _ _) (Ev.pos (by rw [hl]; omega) (Ev.bind (Ev.const (getI_nat (show i < _ by rw [hl]; omega))) ?_))
    rw [Int.toNat_natCast, hs, wsucc hi (by omega)]
    exact ih
/-! ### The least group that is free -/
def frB (h : Herd) (y : List Int) (p : Nat) (g : Int) (k : Nat) : Bool := !(decide (y.getD k 0 = g) && foeB h p k)
theorem least2_loop {h : Herd} (v : VHerd h) {y : List Int} (hn : y.length ≤ 14) {p : Nat} (hp : p < h.Foes.length) (g : Int) : ∀ j, j ≤ y.length → ∀ b : Bool, Ev (fun k => spec_l06Least.l2 h y (p : Int) g k b (j : Int)) (b && upA (frB h y p g) j (y.length - j)) := by
  refine upL ?_ ?_
  · intro b
    refine Ev.step (fun k => spec_l06Least.l2.eq_2 _ _ _ _ _ _ _) (Ev.neg (by omega) (Ev.const ?_))
    rw [Nat.sub_self]; simp [upA]
  · intro j hj ih b
    refine Ev.step (fun k => spec_l06Least.l2.eq_2 _ _ _ _ _ _ _) (Ev.pos (by omega) ?_)
    rw [wsucc hj (by omega), upA_step _ hj]
    have hg : y.getD j 0 = y[j] := by simp [List.getD_eq_getElem?_getD, List.getElem?_eq_getElem hj]
    have hf : frB h y p g j = !(decide (y[j] = g) && foeB h p j) := by unfold frB; rw [hg]
    rw [hf]
    cases b
    · exact Ev.neg (by simp) (by simpa using ih false)
    · refine Ev.pos rfl (Ev.bind (Ev.const (getI_nat hj)) ?_)
      by_cases e : y[j] = g
      · refine Ev.pos e (Ev.bind (Ev.const (specAre_eq v hp (by omega))) ?_)
        rw [decide_eq_true e, Bool.true_and, Bool.true_and]
        exact ih _
      · refine Ev.neg e ?_
        rw [decide_eq_false e, Bool.false_and, Bool.not_false, Bool.true_and, Bool.true_and]
        simpa using ih true
theorem leastI_ev {h : Herd} (v : VHerd h) (hv : vH h = true) {y : List Int} (hy : y.length = h.Names.length) {p : Nat} (hp : p < h.Names.length) (g : Int) : Ev (fun k => (impl_listed.f k (foes h p)).bind fun t22 => slices_ContainsFunc_int64_int64.f k t22 (impl_GreedyGroups_1.f y g)) (!upA (frB h y p g) 0 y.length) := by
  obtain ⟨n1, n2, n3⟩ := vH_len hv
  have l2 := listed_ev (foes h p)
  rw [bl_cut (show h.Names.length ≤ 16 by omega) (fun j hj => foes_high v hv hp hj)] at l2
  refine l2.bind ?_
  have hmem : ∀ x ∈ bl (foes h p) 0 h.Names.length, ∃ j : Nat, j < y.length ∧ foeB h p j = true ∧ x = (j : Int) := by
    intro x hx
    obtain ⟨j, _, h2, h3, rfl⟩ := mem_bl.1 hx
    exact ⟨j, by omega, h3, rfl⟩
  have hp : ∀ x ∈ bl (foes h p) 0 h.Names.length, impl_GreedyGroups_1.f y g x = some (decide (y.getD x.toNat 0 = g)) := by
    intro x hx
    obtain ⟨j, hj, _, rfl⟩ := hmem x hx
    unfold impl_GreedyGroups_1.f
    rw [getI_nat hj, Option.bind_some, Int.toNat_natCast]
    simp [List.getD_eq_getElem?_getD, List.getElem?_eq_getElem hj]
  have hc := containsI_ev _ hp (Nat.le_trans (bl_len _ _ _) (by omega))
  have e : (bl (foes h p) 0 h.Names.length).any (fun x => decide (y.getD x.toNat 0 = g)) = !upA (frB h y p g) 0 y.length := by
    rw [Bool.eq_iff_iff, List.any_eq_true, Bool.not_eq_true', ← Bool.not_eq_true, upA_iff]
    constructor
    · rintro ⟨x, hx, hxg⟩ hall
      obtain ⟨j, hj, hf, rfl⟩ := hmem x hx
      have := hall j (Nat.zero_le _) (by omega)
      unfold frB at this
      rw [Int.toNat_natCast] at hxg
      rw [hxg, hf] at this
      cases this
    · intro hn'
      refine Classical.byContradiction fun hno => hn' fun j _ hj => ?_
      unfold frB
      cases hd : decide (y.getD j 0 = g)
      · rfl
      · cases hf : foeB h p j
        · rfl
        · exact (hno ⟨(j : Int), mem_bl.2 ⟨j, Nat.zero_le _, by omega, hf, rfl⟩, by rw [Int.toNat_natCast]; exact hd⟩).elim
  rw [← e]
  exact hc
theorem least_ev {h : Herd} (v : VHerd h) (hv : vH h = true) {y : List Int} (hy : y.length = h.Names.length) {p : Nat} (hp : p < h.Names.length) {m : Nat} (hm : m ≤ 14) (hlt : ∀ x ∈ y, x < (m : Int)) :
    ∃ g : Int, 0 ≤ g ∧ g ≤ (m : Int) ∧ upA (frB h y p g) 0 y.length = true ∧ Ev (fun k => spec_l06Least.f k h y (p : Int)) g ∧ Ev (fun k => impl_GreedyGroups.l2 h y (p : Int) k 0) g := by
  obtain ⟨n1, n2, n3⟩ := vH_len hv
  have key : ∀ i, i ≤ m → ∃ g : Int, 0 ≤ g ∧ g ≤ (m : Int) ∧ upA (frB h y p g) 0 y.length = true ∧ Ev (fun k => spec_l06Least.l1 h y (p : Int) k (i : Int)) (.inl g) ∧ Ev (fun k => impl_GreedyGroups.l2 h y (p : Int) k (i : Int)) g := by
    have one : ∀ i : Nat, i ≤ m → (upA (frB h y p (i : Int)) 0 y.length = true → ∃ g : Int, 0 ≤ g ∧ g ≤ (m : Int) ∧ upA (frB h y p g) 0 y.length = true ∧ Ev (fun k => spec_l06Least.l1 h y (p : Int) k (i : Int)) (.inl g) ∧ Ev (fun k => impl_GreedyGroups.l2 h y (p : Int) k (i : Int)) g) := by
      intro i hi hf
      have h1 := least2_loop v (y := y) (by omega) (p := p) (by omega) (i : Int) 0 (Nat.zero_le _) true
      have h2 := leastI_ev v hv hy hp (i : Int)
      rw [Bool.true_and, Nat.sub_zero, hf] at h1
      rw [hf] at h2
      refine ⟨(i : Int), by omega, by omega, hf, Ev.step (fun k => spec_l06Least.l1.eq_2 _ _ _ _ _) (Ev.bind (h1.bind (Ev.pos rfl (Ev.const rfl))) (Ev.const rfl)), Ev.step (fun k => impl_GreedyGroups.l2.eq_2 _ _ _ _ _) (Ev.bind (Ev.const (foes_get (by omega))) ?_)⟩
      have h3 : Ev (fun k => ((impl_listed.f k (foes h p)).bind fun t22 => slices_ContainsFunc_int64_int64.f k t22 (impl_GreedyGroups_1.f y (i : Int))).bind fun t25 => if t25 = true then (impl_GreedyGroups.l2 h y (p : Int) k (IntKind.i64.wrap ((i : Int) + 1))) else (some (i : Int))) (i : Int) := h2.bind (Ev.neg (by simp) (Ev.const rfl))
      obtain ⟨K, hK⟩ := h3
      exact ⟨K, fun k hk => by have := hK k hk; simp only [Option.bind_assoc] at this; exact this⟩
    refine upL ?_ ?_
    · refine one m (Nat.le_refl _) ((upA_iff _ _ _).2 fun j _ hj => ?_)
      unfold frB
      have hjl : j < y.length := by omega
      have hne : ¬ y.getD j 0 = (m : Int) := by
        have := hlt _ (List.getElem_mem hjl)
        simp only [List.getD_eq_getElem?_getD, List.getElem?_eq_getElem hjl, Option.getD_some]
        omega
      rw [decide_eq_false hne]; rfl
    · intro i hi ih
      cases hf : upA (frB h y p (i : Int)) 0 y.length
      · obtain ⟨g, g0, g1, gf, g2, g3⟩ := ih
        rw [← wsucc hi (by omega)] at g2 g3
        have h1 := least2_loop v (y := y) (by omega) (p := p) (by omega) (i : Int) 0 (Nat.zero_le _) true
        have h2 := leastI_ev v hv hy hp (i : Int)
        rw [Bool.true_and, Nat.sub_zero, hf] at h1
        rw [hf] at h2
        refine ⟨g, g0, g1, gf, Ev.step (fun k => spec_l06Least.l1.eq_2 _ _ _ _ _) (Ev.bind (h1.bind (Ev.neg (by simp) (Ev.const rfl))) g2), Ev.step (fun k => impl_GreedyGroups.l2.eq_2 _ _ _ _ _) (Ev.bind (Ev.const (foes_get (by omega))) ?_)⟩
        have h3 : Ev (fun k => ((impl_listed.f k (foes h p)).bind fun t22 => slices_ContainsFunc_int64_int64.f k t22 (impl_GreedyGroups_1.f y (i : Int))).bind fun t25 => if t25 = true then (impl_GreedyGroups.l2 h y (p : Int) k (IntKind.i64.wrap ((i : Int) + 1))) else (some (i : Int))) g := h2.bind (Ev.pos rfl g3)
        obtain ⟨K, hK⟩ := h3
        exact ⟨K, fun k hk => by have := hK k hk; simp only [Option.bind_assoc] at this; exact this⟩
      · exact one i (by omega) hf
  obtain ⟨g, g0, g1, gf, g2, g3⟩ := key 0 (Nat.zero_le _)
  exact ⟨g, g0, g1, gf, g2.bind (Ev.const rfl), g3⟩
/-! ### The goats, one by one -/
/-- Groups that have been given are peaceful. -/
def CalmG (h : Herd) (y : List Int) : Prop := ∀ p q : Nat, p < h.Names.length → q < h.Names.length → 0 ≤ y.getD p 0 → y.getD p 0 = y.getD q 0 → foeB h p q = false
theorem getD_at (y : List Int) {p : Nat} (hp : p < y.length) : y.getD p 0 = y[p] := by simp [List.getD_eq_getElem?_getD, List.getElem?_eq_getElem hp]
theorem set_getD (y : List Int) {p q : Nat} (g : Int) (hq : q < y.length) (hp : p < y.length) : (y.set p g).getD q 0 = if p = q then g else y.getD q 0 := by
  rw [getD_at y hq]
  simp only [List.getD_eq_getElem?_getD, List.getElem?_set, List.getElem?_eq_getElem hq]
  by_cases e : p = q
  · subst e; simp [hp]
  · simp [e]
theorem greedy_loop {h : Herd} (v : VHerd h) (hv : vH h = true) {gs : List Int} (hl : gs.length = h.Names.length) (hgs : ∀ g ∈ gs, goatB h g = true) (hnd : gs.Nodup) : ∀ i, i ≤ gs.length → ∀ y : List Int, y.length = h.Names.length → (∀ x ∈ y, x < (i : Int)) → (∀ p : Nat, p < h.Names.length → (0 ≤ y.getD p 0 ↔ (p : Int) ∈ gs.take i)) → CalmG h y →
    ∃ r : List Int, r.length = h.Names.length ∧ (∀ x ∈ r, x < (gs.length : Int)) ∧ (∀ p : Nat, p < h.Names.length → (0 ≤ r.getD p 0 ↔ (p : Int) ∈ gs)) ∧ CalmG h r ∧ Ev (fun k => spec_GreedyGroups.l2 h gs k y (i : Int)) (.inr r) ∧ Ev (fun k => impl_GreedyGroups.l1 h gs k y (i : Int)) r := by
  obtain ⟨n1, n2, n3⟩ := vH_len hv
  refine upL ?_ ?_
  · intro y hy hlt hin hca
    rw [List.take_length] at hin
    exact ⟨y, hy, hlt, hin, hca, Ev.step (fun k => spec_GreedyGroups.l2.eq_2 _ _ _ _ _) (Ev.neg (by omega) (Ev.const rfl)), Ev.step (fun k => impl_GreedyGroups.l1.eq_2 _ _ _ _ _) (Ev.neg (by omega) (Ev.const rfl))⟩
  · intro i hi ih y hy hlt hin hca
    have hw : IntKind.i64.wrap ((gs.length : Int) - 1) = (h.Names.length : Int) - 1 := by rw [w64 (by omega) (by omega), hl]
    have hb := hgs _ (List.getElem_mem hi)
    have hin0 : Ev (fun _ => spec_l00In.f gs[i] 0 (IntKind.i64.wrap ((gs.length : Int) - 1))) true := by
      refine Ev.const ?_
      rw [hw, l00In_eq]
      exact congrArg some hb
    have htk : gs.take (i + 1) = gs.take i ++ [gs[i]] := by rw [List.take_succ_eq_append_getElem hi]
    have hb' := of_decide_eq_true hb
    obtain ⟨p, hp, ep⟩ : ∃ p : Nat, p < h.Names.length ∧ gs[i] = (p : Int) := ⟨gs[i].toNat, by omega, by omega⟩
    have hpy : p < y.length := by omega
    have gy : getI y gs[i] = some y[p] := by rw [ep]; exact getI_nat hpy
    have hnm : ¬ (p : Int) ∈ gs.take i := by
      intro hm
      have h1 : (gs.take (i + 1)).Nodup := hnd.sublist (List.take_sublist _ _)
      rw [htk, List.nodup_append] at h1
      exact h1.2.2 _ hm _ (List.mem_singleton.2 rfl) ep.symm
    have hd : ¬ 0 ≤ y[p] := fun hd => hnm ((hin p hp).1 (by rw [getD_at y hpy]; exact hd))
    obtain ⟨g, g0, g1, gf, g2, g3⟩ := least_ev v hv hy hp (m := i) (by omega) hlt
    have hfr : ∀ q, q < h.Names.length → y.getD q 0 = g → foeB h p q = false := by
      intro q hq e
      have := (upA_iff _ _ _).1 gf q (Nat.zero_le _) (by omega)
      unfold frB at this
      rw [decide_eq_true e, Bool.true_and, Bool.not_eq_true'] at this
      exact this
    obtain ⟨r, r1, r2, r3, r4, r5, r6⟩ := ih (y.set p g) (by rw [List.length_set]; exact hy) (fun x hx => by
      rcases List.mem_or_eq_of_mem_set hx with hx | rfl
      · have := hlt x hx; omega
      · omega) (fun q hq => by
      rw [htk, List.mem_append, List.mem_singleton, ep, set_getD y g (by omega) hpy]
      by_cases e : p = q
      · subst e
        rw [if_pos rfl]
        exact ⟨fun _ => .inr rfl, fun _ => g0⟩
      · rw [if_neg e, hin q hq]
        exact ⟨.inl, fun h => h.resolve_right fun h => e (by omega)⟩) (by
      intro a b ha hb2 h0 e
      rw [set_getD y g (by omega) hpy] at h0 e
      rw [set_getD y g (by omega) hpy] at e
      by_cases e1 : p = a
      · subst e1
        rw [if_pos rfl] at e h0
        by_cases e2 : p = b
        · subst e2; exact foe_self hv hp
        · rw [if_neg e2] at e; exact hfr b hb2 e.symm
      · rw [if_neg e1] at e h0
        by_cases e2 : p = b
        · subst e2
          rw [if_pos rfl] at e
          rw [foe_sym hv ha hp]
          exact hfr a ha e
        · rw [if_neg e2] at e
          exact hca a b ha hb2 h0 e)
    refine ⟨r, r1, r2, r3, r4, ?_, ?_⟩
    · rw [← wsucc hi (by omega)] at r5
      refine Ev.step (fun k => spec_GreedyGroups.l2.eq_2 _ _ _ _ _) (Ev.pos (by omega) (Ev.bind (a := false) (Ev.bind (Ev.const (getI_nat hi)) (hin0.bind (Ev.neg (by simp) (Ev.bind (Ev.const (getI_nat hi)) (Ev.bind (Ev.const gy) (Ev.const (by rw [decide_eq_false hd]))))))) (Ev.neg (by simp) (Ev.bind (Ev.const (getI_nat hi)) (Ev.bind (Ev.const (getI_nat hi)) (Ev.bind (a := g) ?_ (Ev.bind (Ev.const gy) ?_)))))))
      · rw [ep]; exact g2
      · rw [ep, Int.toNat_natCast]; exact r5
    · rw [← wsucc hi (by omega)] at r6
      refine Ev.step (fun k => impl_GreedyGroups.l1.eq_2 _ _ _ _ _) (Ev.pos (by omega) (Ev.bind (a := y.set p g) (Ev.bind (Ev.const (getI_nat hi)) (Ev.bind (a := g) ?_ (Ev.bind (Ev.const gy) (Ev.const ?_)))) r6))
      · rw [ep]; exact g3
      · rw [ep, Int.toNat_natCast]
theorem greedy_ev {h : Herd} (v : VHerd h) (hv : vH h = true) {gs : List Int} (hl : gs.length = h.Names.length) (hgs : ∀ g ∈ gs, goatB h g = true) (hnd : gs.Nodup) (hall : ∀ p : Nat, p < h.Names.length → (p : Int) ∈ gs) :
    ∃ r : List Int, r.length = h.Names.length ∧ (∀ x ∈ r, 0 ≤ x ∧ x < (h.Names.length : Int)) ∧ Calm h r ∧ Ev (fun k => spec_GreedyGroups.f k h gs) (r, 0) ∧ Ev (fun k => impl_GreedyGroups.f k h gs) (r, 0) := by
  have h1 := specHerd_ev v
  have h2 := implHerd_ev v
  rw [hv] at h1 h2
  obtain ⟨n1, n2, n3⟩ := vH_len hv
  have hs : impl_size_int64.f gs = some (gs.length : Int) := rfl
  have hmn : impl_Herd_many.f h = some (h.Names.length : Int) := rfl
  have hm := minus_loop n1 0 (Nat.zero_le _)
  rw [List.replicate_zero, List.nil_append, Nat.sub_zero] at hm
  have hr := repeat_ev n1
  have hc := herdCode_ev v gs (by omega)
  obtain ⟨r, r1, r2, r3, r4, r5, r6⟩ := greedy_loop v hv hl hgs hnd 0 (Nat.zero_le _) (List.replicate h.Names.length (-1)) (by simp) (fun x hx => by rw [(List.mem_replicate.1 hx).2]; omega) (fun p hp => by
    rw [List.take_zero]
    simp [List.getD_eq_getElem?_getD, hp]) (fun p q hp hq h0 => by
    simp [List.getD_eq_getElem?_getD, hp] at h0)
  have c0 : chk (0 ≤ (gs.length : Int) ∧ (gs.length : Int) ≤ 4294967296) = some () := chkT (by omega)
  have hm' : Ev (fun k => spec_GreedyGroups.l1 k (List.replicate ((gs.length : Int).toNat) 0) 0) (List.replicate h.Names.length (-1)) := by rw [Int.toNat_natCast, hl]; exact hm
  have hcz : goatC h gs = 0 := by
    unfold goatC
    rw [hv, if_neg (by simp), if_pos (List.all_eq_true.2 hgs)]
  have hpos : ∀ i (hi : i < r.length), 0 ≤ r[i] := fun i hi => by
    have := (r3 i (by omega)).2 (hall i (by omega))
    rwa [getD_at r hi] at this
  refine ⟨r, r1, fun x hx => ?_, fun i j hi hj e => ?_, h1.bind (Ev.neg (by simp) (Ev.neg (by omega) (Ev.bind (Ev.const c0) (hm'.bind (r5.bind (Ev.const rfl)))))), h2.bind (Ev.neg (by simp) (Ev.bind (a := false) (Ev.bind (Ev.const hs) (Ev.bind (Ev.const hmn) (Ev.neg (by omega) (Ev.bind (Ev.const (isEach_eq gs (by omega))) (Ev.neg (by simp [hnd]) (hc.bind (Ev.const ?_))))))) (Ev.neg (by simp) (Ev.bind (a := List.replicate h.Names.length (-1)) ?_ (r6.bind (Ev.const rfl))))))⟩
  · obtain ⟨i, hi, rfl⟩ := List.getElem_of_mem hx
    exact ⟨hpos i hi, by have := r2 _ hx; omega⟩
  · have := r4 i j (by omega) (by omega)
    rw [getD_at r hi, getD_at r hj] at this
    exact this (hpos i hi) e
  · rw [decide_eq_false]; exact fun hne => hne hcz
  · rw [hl]; exact hr
end Go.Proofs.YtonpnkppaflcbaaGreatDoor
