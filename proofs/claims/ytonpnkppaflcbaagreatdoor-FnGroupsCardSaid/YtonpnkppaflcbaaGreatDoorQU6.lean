/-
  Plain law: cliques, calm sets and groups: how many there are.
-/
import Derived.Test.YtonpnkppaflcbaaGreatDoorQU3
import Derived.Test.YtonpnkppaflcbaaGreatDoorQU5
import Derived.Test.YtonpnkppaflcbaaGreatDoorQH4a
namespace Go.Proofs.YtonpnkppaflcbaaGreatDoor
open G
set_option linter.unusedVariables false
set_option linter.unusedSimpArgs false
/-! ### How often -/
def sumC (xs : List Int) : Nat → Nat
  | 0 => 0
  | n + 1 => sumC xs n + xs.count (n : Int)
theorem sumC_cons (y : Int) (xs : List Int) : ∀ n : Nat, sumC (y :: xs) n = sumC xs n + (if 0 ≤ y ∧ y < n then 1 else 0)
  | 0 => by rw [sumC, sumC, if_neg (by omega)]
  | n + 1 => by
    rw [sumC, sumC, sumC_cons y xs n, List.count_cons]
    by_cases h : y = (n : Int)
    · subst h
      rw [if_neg (by omega), if_pos (by simp), if_pos (by omega)]
      omega
    · rw [if_neg (show ¬ (y == (n : Int)) = true by simpa using h)]
      by_cases h2 : 0 ≤ y ∧ y < (n : Int)
      · rw [if_pos h2, if_pos (by omega)]; omega
      · rw [if_neg h2, if_neg (by omega)]; omega
theorem sumC_all (n : Nat) : ∀ xs : List Int, (∀ x ∈ xs, 0 ≤ x ∧ x < (n : Int)) → sumC xs n = xs.length
  | [], _ => by
    induction n with
    | zero => rfl
    | succ n ih => rw [sumC, ih (by simp)]; rfl
  | y :: xs, h => by
    rw [sumC_cons, sumC_all n xs (fun x hx => h x (by simp [hx])), if_pos (h y (by simp))]
    rfl
theorem count_nodup {xs : List Int} (h : xs.Nodup) (a : Int) : xs.count a ≤ 1 := by
  induction xs with
  | nil => simp
  | cons y xs ih =>
    rw [List.nodup_cons] at h
    rw [List.count_cons]
    by_cases e : y = a
    · subst e
      rw [List.count_eq_zero_of_not_mem h.1, if_pos (by simp)]
      omega
    · rw [if_neg (by simpa using e)]
      have := ih h.2
      omega
theorem nodup_le {xs : List Int} (h : xs.Nodup) {n : Nat} (hb : ∀ x ∈ xs, 0 ≤ x ∧ x < (n : Int)) : xs.length ≤ n := by
  rw [← sumC_all n xs hb]
  have : ∀ m, sumC xs m ≤ m := by
    intro m
    induction m with
    | zero => exact Nat.le_refl _
    | succ m ih => rw [sumC]; have := count_nodup h (m : Int); omega
  exact this n
/-! ### Sets -/
def mask (p : Nat → Bool) : Nat → Nat
  | 0 => 0
  | n + 1 => 2 ^ n * (p n).toNat + mask p n
theorem mask_lt (p : Nat → Bool) : ∀ n, mask p n < 2 ^ n
  | 0 => by simp [mask]
  | n + 1 => by
    have := mask_lt p n
    rw [mask, Nat.pow_succ]
    cases p n <;> simp <;> omega
theorem mask_bit (p : Nat → Bool) : ∀ n i, i < n → (mask p n).testBit i = p i
  | 0, i, h => by omega
  | n + 1, i, h => by
    have hlt := mask_lt p n
    rw [mask]
    rcases Nat.eq_or_lt_of_le (Nat.le_of_lt_succ h) with rfl | h1
    · rw [Nat.testBit_two_pow_mul_add _ hlt, if_neg (by omega), Nat.sub_self]
      cases p i <;> rfl
    · rw [Nat.testBit_two_pow_mul_add _ hlt, if_pos h1, mask_bit p n i h1]
theorem mask_bitN {p : Nat → Bool} {n i : Nat} (hn : n ≤ 14) (hi : i < n) : bitN ((mask p n : Nat) : Int) i = p i := by
  have := mask_lt p n
  have h2 : 2 ^ n ≤ 2 ^ 14 := Nat.pow_le_pow_right (by omega) hn
  rw [bit_nat (by omega) (by omega), mask_bit p n i hi]
theorem many_mask {h : Herd} (hn : h.Names.length ≤ 14) (p : Nat → Bool) : many h (mask p h.Names.length) = ((List.range' 0 h.Names.length).filter p).length := by
  unfold many bl
  rw [List.length_map]
  congr 1
  refine List.filter_congr fun j hj => ?_
  rw [List.mem_range'_1] at hj
  exact mask_bitN hn (by omega)
theorem goodS_iff {f : Bool} {h : Herd} {s : Nat} : goodS f h s = true ↔ ∀ i j, i < h.Names.length → j < i → bitN (s : Int) i = true → bitN (s : Int) j = true → foeB h i j = f := by
  unfold goodS
  rw [upA_iff]
  constructor
  · intro hz i j hi hj h1 h2
    have := hz i (Nat.zero_le _) (by omega)
    unfold okAt at this
    rw [h1, Bool.not_true, Bool.false_or, List.all_eq_true] at this
    exact eq_of_beq (this (j : Int) (mem_bl.2 ⟨j, Nat.zero_le _, by omega, h2, rfl⟩))
  · intro hz i _ hi
    unfold okAt
    cases h1 : bitN (s : Int) i
    · rfl
    · rw [Bool.not_true, Bool.false_or, List.all_eq_true]
      intro x hx
      obtain ⟨j, _, hj, hb, rfl⟩ := mem_bl.1 hx
      rw [Int.toNat_natCast, hz i j (by omega) (by omega) h1 hb]
      exact beq_self_eq_true f
theorem bl_nodup (s : Int) (i n : Nat) : (bl s i n).Nodup := by
  unfold bl
  refine List.Pairwise.map _ (fun a b (h : a ≠ b) => ?_) ((List.nodup_range' (s := i) (n := n)).filter _)
  intro e
  exact h (by omega)
/-- Any two in an accepted set are foes, or none. -/
theorem pair_of {f : Bool} {h : Herd} (hv : vH h = true) {s : Nat} (hg : goodS f h s = true) {x y : Int} (hx : x ∈ bl (s : Int) 0 h.Names.length) (hy : y ∈ bl (s : Int) 0 h.Names.length) (hn : x ≠ y) : ∃ i j : Nat, x = (i : Int) ∧ y = (j : Int) ∧ i < h.Names.length ∧ j < h.Names.length ∧ foeB h i j = f := by
  obtain ⟨i, _, hi, bi, rfl⟩ := mem_bl.1 hx
  obtain ⟨j, _, hj, bj, rfl⟩ := mem_bl.1 hy
  refine ⟨i, j, rfl, rfl, by omega, by omega, ?_⟩
  rcases Nat.lt_trichotomy i j with h1 | h1 | h1
  · rw [foe_sym hv (by omega) (by omega)]
    exact goodS_iff.1 hg j i (by omega) h1 bj bi
  · exact absurd (by rw [h1]) hn
  · exact goodS_iff.1 hg i j (by omega) h1 bi bj
/-- Goats that all are foes are in as many groups. -/
theorem clique_le {h : Herd} (hv : vH h = true) {gs : List Int} {m : Int} (hF : Few h gs m) {s : Nat} (hg : goodS true h s = true) : ((bl (s : Int) 0 h.Names.length).length : Int) ≤ m := by
  obtain ⟨f1, f2, f3, f4, f5, f6⟩ := hF
  have hat : ∀ x ∈ bl (s : Int) 0 h.Names.length, ∃ (i : Nat) (hi : i < gs.length), x = (i : Int) ∧ gs.getD x.toNat 0 = gs[i] := by
    intro x hx
    obtain ⟨i, _, hi, _, rfl⟩ := mem_bl.1 hx
    exact ⟨i, by omega, rfl, by rw [Int.toNat_natCast]; exact getD_at gs (by omega)⟩
  have hnd : ((bl (s : Int) 0 h.Names.length).map fun x => gs.getD x.toNat 0).Nodup := by
    unfold List.Nodup
    rw [List.pairwise_map]
    refine List.Pairwise.imp_of_mem (fun {a b} ha hb hn => ?_) (bl_nodup _ _ _)
    obtain ⟨i, hi, rfl, e1⟩ := hat a ha
    obtain ⟨j, hj, rfl, e2⟩ := hat b hb
    rw [e1, e2]
    intro e
    obtain ⟨i', j', q1, q2, _, _, q3⟩ := pair_of hv hg ha hb hn
    obtain rfl : i = i' := by omega
    obtain rfl : j = j' := by omega
    rw [f3 i j hi hj e] at q3
    cases q3
  have := nodup_le hnd (n := m.toNat) (fun x hx => by
    obtain ⟨y, hy, rfl⟩ := List.mem_map.1 hx
    obtain ⟨i, hi, rfl, e1⟩ := hat y hy
    simp only [e1]
    have := f2 _ (List.getElem_mem hi)
    omega)
  rw [List.length_map] at this
  omega
/-- A group has no more goats than the most peaceful set. -/
theorem group_le {h : Herd} (hv : vH h = true) {gs : List Int} (hl : gs.length = h.Names.length) (hc : Calm h gs) {c : Nat} (hmx : ∀ s', s' < 2 ^ h.Names.length → goodS false h s' = true → many h s' ≤ many h c) (g : Int) : gs.count g ≤ many h c := by
  obtain ⟨n1, n2, n3⟩ := vH_len hv
  have hgood : goodS false h (mask (fun i => decide (gs.getD i 0 = g)) h.Names.length) = true := by
    rw [goodS_iff]
    intro i j hi hj h1 h2
    rw [mask_bitN n1 hi, decide_eq_true_eq, getD_at gs (by omega)] at h1
    rw [mask_bitN n1 (by omega), decide_eq_true_eq, getD_at gs (by omega)] at h2
    exact hc i j (by omega) (by omega) (by rw [h1, h2])
  have h1 := hmx _ (mask_lt _ _) hgood
  rw [many_mask n1] at h1
  have e : gs = (List.range' 0 h.Names.length).map (fun i => gs.getD i 0) := by
    apply List.ext_getElem
    · simp [hl]
    · intro i q1 q2
      simp [List.getD_eq_getElem?_getD, List.getElem?_eq_getElem q1]
  have e2 : gs.count g = ((List.range' 0 h.Names.length).filter (fun i => decide (gs.getD i 0 = g))).length := by
    conv => lhs; rw [e]
    rw [List.count_eq_countP, List.countP_map, List.countP_eq_length_filter]
    refine congrArg List.length (List.filter_congr fun i _ => ?_)
    simp only [Function.comp]
    rw [Bool.eq_iff_iff, beq_iff_eq, decide_eq_true_eq]
  omega
theorem peace_many {h : Herd} (hv : vH h = true) {gs : List Int} {m : Int} (hF : Few h gs m) {c : Nat} (hmx : ∀ s', s' < 2 ^ h.Names.length → goodS false h s' = true → many h s' ≤ many h c) : h.Names.length ≤ many h c * m.toNat := by
  obtain ⟨f1, f2, f3, f4, f5, f6⟩ := hF
  have hs := sumC_all m.toNat gs (fun x hx => by have := f2 x hx; omega)
  have : ∀ k, sumC gs k ≤ many h c * k := by
    intro k
    induction k with
    | zero => exact Nat.le_refl _
    | succ k ih => rw [sumC, Nat.mul_succ]; have := group_le hv f1 f3 hmx (k : Int); omega
  have := this m.toNat
  omega
theorem one_many {h : Herd} (hv : vH h = true) (h0 : 0 < h.Names.length) {c : Nat} (hmx : ∀ s', s' < 2 ^ h.Names.length → goodS true h s' = true → many h s' ≤ many h c) : 1 ≤ many h c := by
  obtain ⟨n1, n2, n3⟩ := vH_len hv
  have hgood : goodS true h (mask (fun i => decide (i = 0)) h.Names.length) = true := by
    rw [goodS_iff]
    intro i j hi hj h1 h2
    rw [mask_bitN n1 hi, decide_eq_true_eq] at h1
    omega
  have h1 := hmx _ (mask_lt _ _) hgood
  rw [many_mask n1] at h1
  have : (0 : Nat) ∈ (List.range' 0 h.Names.length).filter (fun i => decide (i = 0)) := List.mem_filter.2 ⟨List.mem_range'_1.2 ⟨by omega, by omega⟩, by simp⟩
  have := List.length_pos_of_mem this
  omega
/-! ### Peaceful groups are accepted -/
theorem quiet_in {h : Herd} (hv : vH h = true) {gs : List Int} (hl : gs.length = h.Names.length) (hc : Calm h gs) {i : Nat} (hi : i < gs.length) : ∀ j : Nat, j ≤ gs.length → Ev (fun k => impl_Herd_quarrel.l2 h gs (i : Int) gs[i] k (j : Int)) (.inr ()) := by
  obtain ⟨n1, n2, n3⟩ := vH_len hv
  refine upL ?_ ?_
  · exact Ev.step (fun k => impl_Herd_quarrel.l2.eq_2 _ _ _ _ _ _) (Ev.neg (by omega) (Ev.const rfl))
  · intro j hj ih
    rw [← wsucc hj (by omega)] at ih
    refine Ev.step (fun k => impl_Herd_quarrel.l2.eq_2 _ _ _ _ _ _) (Ev.pos (by omega) (Ev.bind (a := false) (Ev.bind (Ev.const (getI_nat hj)) ?_) (Ev.neg (by simp) ih)))
    by_cases e : gs[i] = gs[j]
    · refine Ev.pos e (Ev.bind (Ev.const (implAre_eq (b := j) (by omega))) (Ev.const ?_))
      rw [hc i j hi hj e]
    · exact Ev.neg e (Ev.const rfl)
theorem quiet_ev {h : Herd} (v : VHerd h) (hv : vH h = true) {gs : List Int} (hg : grpsB h gs = true) (hl : gs.length = h.Names.length) (hc : Calm h gs) : Ev (fun k => impl_CheckGroups.f k h gs) (true, 0) ∧ Ev (fun k => impl_FirstQuarrel.f k h gs) (0, 0, 6) := by
  obtain ⟨n1, n2, n3⟩ := vH_len hv
  have h2 := implHerd_ev v
  rw [hv] at h2
  have g2 := areGroups_ev h gs (by omega)
  rw [hg] at g2
  have hq : ∀ i, i ≤ gs.length → Ev (fun k => impl_Herd_quarrel.l1 h gs k (i : Int)) (.inr ()) := by
    refine upL ?_ ?_
    · exact Ev.step (fun k => impl_Herd_quarrel.l1.eq_2 _ _ _ _) (Ev.neg (by omega) (Ev.const rfl))
    · intro i hi ih
      have hin := quiet_in hv hl hc hi (i + 1) (by omega)
      rw [← wsucc hi (by omega)] at ih hin
      exact Ev.step (fun k => impl_Herd_quarrel.l1.eq_2 _ _ _ _) (Ev.pos (by omega) (Ev.bind (Ev.bind (Ev.const (getI_nat hi)) (Ev.bind hin (Ev.const rfl))) ih))
  have hf : Ev (fun k => impl_Herd_quarrel.f k h gs) (0, 0, false) := (hq 0 (Nat.zero_le _)).bind (Ev.const rfl)
  exact ⟨h2.bind (Ev.neg (by simp) (g2.bind (Ev.neg (by simp) (hf.bind (Ev.const rfl))))), h2.bind (Ev.neg (by simp) (g2.bind (Ev.neg (by simp) (hf.bind (Ev.pos rfl (Ev.const rfl))))))⟩
theorem grps_of {h : Herd} {gs : List Int} (hn : h.Names.length ≤ 14) (hl : gs.length = h.Names.length) (hb : ∀ x ∈ gs, 0 ≤ x ∧ x < (h.Names.length : Int)) : grpsB h gs = true := by
  unfold grpsB
  rw [Bool.and_eq_true, decide_eq_true_eq, List.all_eq_true]
  refine ⟨fun g hm => decide_eq_true ?_, hl⟩
  have := hb g hm
  omega
theorem areFoes_ev {h : Herd} (v : VHerd h) (hv : vH h = true) {i j : Nat} (hi : i < h.Names.length) (hj : j < h.Names.length) : Ev (fun k => impl_AreFoes.f k h (i : Int) (j : Int)) (foeB h i j, 0) := by
  obtain ⟨n1, n2, n3⟩ := vH_len hv
  have hc := herdCode_ev v [(i : Int), (j : Int)] (by simp)
  have hg : goatC h [(i : Int), (j : Int)] = 0 := by
    unfold goatC goatB
    rw [hv, if_neg (by simp), if_pos]
    simp only [List.all_cons, List.all_nil, Bool.and_true, Bool.and_eq_true, decide_eq_true_eq]
    omega
  rw [hg] at hc
  exact hc.bind (Ev.neg (by simp) (Ev.bind (Ev.const (implAre_eq (by omega))) (Ev.const rfl)))
theorem same_ev2 (xs : List Int) (hx : xs.length ≤ 1048576) : Ev (fun k => spec_A2Same.f k xs xs) true := by
  refine Ev.bind (a := true) ⟨xs.length + 1, fun k hk => ?_⟩ (Ev.const rfl)
  show spec_l00Same.f k xs xs = _
  unfold spec_l00Same.f
  rw [if_neg (by omega), eqLoop (f := spec_l00Same.l1 xs xs) rfl (by omega) (fun _ _ => rfl) (by omega)]
  simp
theorem a2At_ok {c : List Int} (hc : byteL c) {i : Int} (h0 : 0 ≤ i) {n : Int} (hn : 1 ≤ n) : ∃ v, laws_a2At.f c i n = some v ∧ 0 ≤ v ∧ v < n := by
  unfold laws_a2At.f
  by_cases h : (c.length : Int) ≤ i
  · rw [if_pos h]
    exact ⟨0, rfl, by omega, by omega⟩
  · rw [if_neg h, decide_eq_false (by omega)]
    obtain ⟨j, rfl⟩ := Int.eq_ofNat_of_zero_le h0
    have hj : j < c.length := by omega
    have hb := hc _ (List.getElem_mem hj)
    refine ⟨Int.tmod c[j] n, ?_, ?_, ?_⟩
    · simp only [Option.bind_some]
      rw [if_neg (by simp), getI_nat hj, Option.bind_some, chkT (show n ≠ 0 by omega), Option.bind_some, w64 (by omega) (by omega)]
    · rw [Int.tmod_eq_emod_of_nonneg (by omega)]; exact Int.emod_nonneg _ (by omega)
    · rw [Int.tmod_eq_emod_of_nonneg (by omega)]; exact Int.emod_lt_of_pos _ (by omega)
end Go.Proofs.YtonpnkppaflcbaaGreatDoor
