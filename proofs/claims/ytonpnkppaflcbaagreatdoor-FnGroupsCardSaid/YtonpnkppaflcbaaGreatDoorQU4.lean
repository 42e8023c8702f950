/-
  Plain law: what groups need, and yards into which they fit.
-/
import Derived.Test.YtonpnkppaflcbaaGreatDoorQU1
import Derived.Test.YtonpnkppaflcbaaGreatDoorQN0
import Derived.Test.YtonpnkppaflcbaaGreatDoorQR2
namespace Go.Proofs.YtonpnkppaflcbaaGreatDoor
open G
set_option linter.unusedVariables false
set_option linter.unusedSimpArgs false
/-! ### Needs -/
def lsum (xs : List Int) : Int := xs.foldr (· + ·) 0
theorem lsum_cons (x : Int) (xs : List Int) : lsum (x :: xs) = x + lsum xs := rfl
theorem lsum_set : ∀ (xs : List Int) (i : Nat) (hi : i < xs.length) (e : Int), lsum (xs.set i (xs[i] + e)) = lsum xs + e
  | x :: r, 0, hi, e => by simp only [List.set_cons_zero, lsum_cons, List.getElem_cons_zero]; omega
  | x :: r, i + 1, hi, e => by
    have := lsum_set r i (by simpa using hi) e
    simp only [List.set_cons_succ, lsum_cons, List.getElem_cons_succ, this]; omega
theorem lsum_zero : ∀ n : Nat, lsum (List.replicate n 0) = 0
  | 0 => rfl
  | n + 1 => by rw [List.replicate_succ, lsum_cons, lsum_zero n]; rfl
def sumE (h : Herd) : Nat → Nat → Int
  | _, 0 => 0
  | i, n + 1 => eats h i + sumE h (i + 1) n
theorem eats_ok {h : Herd} (hv : vH h = true) {i : Nat} (hi : i < h.Names.length) : 0 ≤ eats h i ∧ eats h i ≤ 100 := by
  have := (vH_ok hv hi).1
  unfold okI at this
  simp only [Bool.and_eq_true, decide_eq_true_eq] at this
  exact this.2.1
theorem needsS_loop {h : Herd} (v : VHerd h) (hv : vH h = true) {gs : List Int} (hl : gs.length = h.Names.length) {n : Nat} (hg : ∀ g ∈ gs, 0 ≤ g ∧ g < (n : Int)) : ∀ i, i ≤ gs.length → ∀ ys : List Int, ys.length = n → (∀ y ∈ ys, 0 ≤ y ∧ y ≤ 100 * (i : Int)) →
    ∃ r : List Int, r.length = n ∧ lsum r = lsum ys + sumE h i (gs.length - i) ∧ (∀ y ∈ r, 0 ≤ y ∧ y ≤ 1400) ∧ Ev (fun k => spec_l06Needs.l2 h gs k ys (i : Int)) r ∧ Ev (fun k => impl_NeedsOf.l1 h gs k ys (i : Int)) r := by
  obtain ⟨n1, n2, n3⟩ := vH_len hv
  refine upL ?_ ?_
  · intro ys hy hb
    refine ⟨ys, hy, by rw [Nat.sub_self]; simp [sumE], fun y hm => ?_, Ev.step (fun k => spec_l06Needs.l2.eq_2 _ _ _ _ _) (Ev.neg (by omega) (Ev.const rfl)), Ev.step (fun k => impl_NeedsOf.l1.eq_2 _ _ _ _ _) (Ev.neg (by omega) (Ev.const rfl))⟩
    have := hb y hm
    omega
  · intro i hi ih ys hy hb
    obtain ⟨g0, g1⟩ := hg gs[i] (List.getElem_mem hi)
    obtain ⟨z, hz⟩ := Int.eq_ofNat_of_zero_le g0
    have hzn : z < ys.length := by omega
    obtain ⟨e0, e100⟩ := eats_ok hv (i := i) (by omega)
    have hyz := hb _ (List.getElem_mem hzn)
    have ew : IntKind.i64.wrap (ys[z] + IntKind.i64.wrap (eats h i)) = ys[z] + eats h i := by
      rw [w64 (x := eats h i) (by omega) (by omega), w64 (by omega) (by omega)]
    obtain ⟨r, hr, hs, hrb, r1, r2⟩ := ih (ys.set z (ys[z] + eats h i)) (by simpa using hy) (fun y hm => by
      rcases List.mem_or_eq_of_mem_set hm with hm | rfl
      · have := hb y hm; omega
      · omega)
    have e1 : getI ys gs[i] = some ys[z] := by rw [hz]; exact getI_nat hzn
    have e2 := eats_get (h := h) (i := i) (by omega)
    rw [← wsucc hi (by omega)] at r1 r2
    rw [lsum_set] at hs
    refine ⟨r, hr, by rw [hs, show gs.length - i = (gs.length - (i + 1)) + 1 by omega, sumE]; omega, hrb, Ev.step (fun k => spec_l06Needs.l2.eq_2 _ _ _ _ _) (Ev.pos (by omega) (Ev.bind (Ev.const (getI_nat hi)) (Ev.bind (Ev.const e1) (Ev.bind (Ev.const e2) (Ev.bind (Ev.const e1) ?_))))), Ev.step (fun k => impl_NeedsOf.l1.eq_2 _ _ _ _ _) (Ev.pos (by omega) (Ev.bind (Ev.const (getI_nat hi)) (Ev.bind (Ev.const e1) (Ev.bind (Ev.const e2) (Ev.bind (Ev.const e1) ?_)))))⟩
    · rw [ew, hz, Int.toNat_natCast]; exact r1
    · rw [ew, hz, Int.toNat_natCast]; exact r2
theorem few_most {h : Herd} {gs : List Int} {m : Int} (hF : Few h gs m) : mxL (-1) gs + 1 = m := by
  obtain ⟨f1, f2, f3, f4, f5, f6⟩ := hF
  obtain ⟨m1, m2⟩ := mxL_ge gs (-1)
  have hle := mxL_le (m - 1) gs (-1) (by omega) (fun g hm => by have := (f2 g hm).2; omega)
  have := f6 (mxL (-1) gs + 1) _ (col_calm f1 (fun x hx => ⟨(f2 x hx).1, by have := m2 x hx; omega⟩) f3) (by omega)
  omega
theorem few_grps {h : Herd} (hv : vH h = true) {gs : List Int} {m : Int} (hF : Few h gs m) : grpsB h gs = true := by
  obtain ⟨n1, n2, n3⟩ := vH_len hv
  obtain ⟨f1, f2, f3, f4, f5, f6⟩ := hF
  unfold grpsB
  rw [Bool.and_eq_true, decide_eq_true_eq, List.all_eq_true]
  refine ⟨fun g hm => decide_eq_true ?_, f1⟩
  have := f2 g hm
  omega
/-- What the groups need. -/
theorem needsF_ev {h : Herd} (v : VHerd h) (hv : vH h = true) {gs : List Int} {m : Int} (hF : Few h gs m) : ∃ r : List Int, (r.length : Int) = m ∧ lsum r = sumE h 0 h.Names.length ∧ (∀ y ∈ r, 0 ≤ y ∧ y ≤ 1400) ∧ Ev (fun k => spec_l06Needs.f k h gs) r ∧ Ev (fun k => impl_NeedsOf.f k h gs) (r, 0) := by
  have hmx := few_most hF
  have hg := few_grps hv hF
  have h2 := implHerd_ev v
  rw [hv] at h2
  obtain ⟨n1, n2, n3⟩ := vH_len hv
  obtain ⟨f1, f2, f3, f4, f5, f6⟩ := hF
  have g2 := areGroups_ev h gs (by omega)
  rw [hg] at g2
  have hm := specMost_loop gs (by omega) 0 (Nat.zero_le _) (-1)
  rw [List.drop_zero] at hm
  have hw : IntKind.i64.wrap (mxL (-1) gs + 1) = m := by rw [hmx]; exact w64 (by omega) (by omega)
  obtain ⟨r, hr, hs, hb, r1, r2⟩ := needsS_loop v hv f1 (n := m.toNat) (fun g hm => by have := f2 g hm; omega) 0 (Nat.zero_le _) (List.replicate m.toNat 0) (by simp) (fun y hy => by rw [(List.mem_replicate.1 hy).2]; omega)
  rw [lsum_zero, Nat.sub_zero, f1, Int.zero_add] at hs
  have hc : chk (0 ≤ (IntKind.i64.wrap (mxL (-1) gs + 1)) ∧ (IntKind.i64.wrap (mxL (-1) gs + 1)) ≤ 4294967296) = some () := chkT (by rw [hw]; omega)
  have r1' : Ev (fun k => spec_l06Needs.l2 h gs k (List.replicate ((IntKind.i64.wrap (mxL (-1) gs + 1)).toNat) 0) 0) r := by rw [hw]; exact r1
  have r2' : Ev (fun k => impl_NeedsOf.l1 h gs k (List.replicate ((IntKind.i64.wrap (mxL (-1) gs + 1)).toNat) 0) 0) r := by rw [hw]; exact r2
  refine ⟨r, by omega, hs, hb, hm.bind (Ev.bind (Ev.const hc) (r1'.bind (Ev.const rfl))), h2.bind (Ev.neg (by simp) (g2.bind (Ev.neg (by simp) ?_)))⟩
  cases gs with
  | nil =>
    refine Ev.pos rfl (Ev.const ?_)
    have hm0 : m = 0 := by rw [← hmx]; rfl
    have : r = [] := by rw [← List.length_eq_zero_iff, hr, hm0]; rfl
    rw [this]
  | cons g gs => exact Ev.neg (by simp; omega) ((max_ev g gs (by omega) (f2 g (by simp)).1).bind (Ev.bind (Ev.const hc) (r2'.bind (Ev.const rfl))))
/-! ### Fits -/
/-- A yard that is left, large enough, and behind it the rest fit. -/
def Cand (N Y : List Int) (T : Int) (i q : Nat) : Prop := q < Y.length ∧ bitN T q = false ∧ N.getD i 0 ≤ Y.getD q 0 ∧ FitP (N.drop (i + 1)) (unt Y (fun m => !bitN (orI .u16 T (shlI .u16 1 (q : Int))) m) 0 Y.length)
theorem fit_cand {x : Int} {a Y : List Int} {p : Nat → Bool} (h : FitP (x :: a) (unt Y p 0 Y.length)) : ∃ j, j < Y.length ∧ p j = true ∧ x ≤ Y.getD j 0 ∧ FitP a (unt Y (fun k => p k && !decide (j = k)) 0 Y.length) := by
  have hex : ∃ j, j < Y.length ∧ p j = true ∧ x ≤ Y.getD j 0 := by
    apply Classical.byContradiction
    intro hno
    have h1 := h x
    rw [cge_cons, if_pos (Int.le_refl x)] at h1
    have h2 : cge (unt Y p 0 Y.length) x = 0 := cge_none fun z hz => by
      obtain ⟨j, _, hj, hp, rfl⟩ := unt_mem.1 hz
      apply Classical.byContradiction
      intro hge
      exact hno ⟨j, by omega, hp, by omega⟩
    omega
  have hmin : ∀ n j, j < Y.length → p j = true → x ≤ Y.getD j 0 → (Y.getD j 0 - x).toNat = n → ∃ j, j < Y.length ∧ p j = true ∧ x ≤ Y.getD j 0 ∧ ∀ k, k < Y.length → p k = true → x ≤ Y.getD k 0 → Y.getD j 0 ≤ Y.getD k 0 := by
    intro n
    induction n using Nat.strongRecOn with
    | _ n ih =>
      intro j h1 h2 h3 h4
      by_cases hb : ∃ k, k < Y.length ∧ p k = true ∧ x ≤ Y.getD k 0 ∧ Y.getD k 0 < Y.getD j 0
      · obtain ⟨k, k1, k2, k3, k4⟩ := hb
        exact ih _ (by omega) k k1 k2 k3 rfl
      · refine ⟨j, h1, h2, h3, fun k k1 k2 k3 => ?_⟩
        apply Classical.byContradiction
        intro hlt
        exact hb ⟨k, k1, k2, k3, by omega⟩
  obtain ⟨j0, a1, a2, a3⟩ := hex
  obtain ⟨j, h1, h2, h3, h4⟩ := hmin _ j0 a1 a2 a3 rfl
  refine ⟨j, h1, h2, h3, fun v => ?_⟩
  obtain ⟨s1, s2⟩ := unt_split (Y := Y) (p := p) (q := fun k => p k && !decide (j = k)) h1 h2 (fun _ _ => rfl)
  have hsp : ∀ v, cge (unt Y p 0 Y.length) v = cge (unt Y (fun k => p k && !decide (j = k)) 0 Y.length) v + if v ≤ Y.getD j 0 then 1 else 0 := fun v => by
    rw [s1, s2]; exact cge_mid _ _ _ _
  have hv := h v
  have hx := h x
  rw [cge_cons] at hv hx
  rw [if_pos (Int.le_refl x)] at hx
  rw [hsp] at hv
  by_cases c1 : v ≤ x
  · rw [if_pos c1, if_pos (by omega)] at hv; omega
  · rw [if_neg c1] at hv
    by_cases c2 : v ≤ Y.getD j 0
    · -- none lies between
      have e : cge (unt Y p 0 Y.length) v = cge (unt Y p 0 Y.length) x := by
        unfold cge
        refine List.countP_congr fun z hz => ?_
        obtain ⟨k, _, k1, k2, rfl⟩ := unt_mem.1 hz
        rw [decide_eq_true_eq, decide_eq_true_eq]
        constructor
        · intro h; omega
        · intro h; have := h4 k (by omega) k2 h; omega
      have := cge_anti a (show x ≤ v by omega)
      have e2 := hsp v
      rw [if_pos c2] at e2
      omega
    · rw [if_neg c2] at hv; omega
theorem contI_ev (xs : List Int) (hx : xs.length ≤ 1048576) (a : Int) : Ev (fun k => slices_Contains_int64_int64.f k xs a) (decide (a ∈ xs)) := by
  have key : ∀ i, i ≤ xs.length → ∃ r : Int ⊕ Unit, Ev (fun k => slices_Index_int64_int64.l1 xs a k (i : Int)) r ∧ ((r = .inr () ∧ ¬ a ∈ xs.drop i) ∨ ∃ z : Nat, r = .inl (z : Int) ∧ a ∈ xs.drop i) := by
    refine upL ?_ ?_
    · exact ⟨.inr (), Ev.step (fun k => slices_Index_int64_int64.l1.eq_2 _ _ _ _) (Ev.neg (by omega) (Ev.const rfl)), .inl ⟨rfl, by simp⟩⟩
    · intro i hi ih
      by_cases e : a = xs[i]
      · exact ⟨.inl (i : Int), Ev.step (fun k => slices_Index_int64_int64.l1.eq_2 _ _ _ _) (Ev.pos (by omega) (Ev.bind (Ev.const (getI_nat hi)) (Ev.pos e (Ev.const rfl)))), .inr ⟨i, rfl, by rw [List.drop_eq_getElem_cons hi, e]; exact List.mem_cons_self ..⟩⟩
      · obtain ⟨r, r1, r2⟩ := ih
        rw [← wsucc hi (by omega)] at r1
        refine ⟨r, Ev.step (fun k => slices_Index_int64_int64.l1.eq_2 _ _ _ _) (Ev.pos (by omega) (Ev.bind (Ev.const (getI_nat hi)) (Ev.neg e r1))), ?_⟩
        rw [List.drop_eq_getElem_cons hi, List.mem_cons]
        rcases r2 with ⟨h1, h2⟩ | ⟨z, h1, h2⟩
        · exact .inl ⟨h1, fun h => h.elim e h2⟩
        · exact .inr ⟨z, h1, .inr h2⟩
  obtain ⟨r, r1, r2⟩ := key 0 (Nat.zero_le _)
  rw [List.drop_zero] at r2
  rcases r2 with ⟨rfl, h2⟩ | ⟨z, rfl, h2⟩
  · rw [decide_eq_false h2]
    exact Ev.bind (r1.bind (Ev.const rfl)) (Ev.const rfl)
  · rw [decide_eq_true h2]
    exact Ev.bind (r1.bind (Ev.const rfl)) (Ev.const (by rw [decide_eq_true (show (0 : Int) ≤ (z : Int) by omega)]))
def lefB (out : List Int) (k m : Nat) : Bool := !decide ((m : Int) = (k : Int)) && !decide ((m : Int) ∈ out)
theorem left_loop {Y out : List Int} (hn : Y.length ≤ 14) (ho : out.length ≤ 1048576) (k0 : Nat) : ∀ j, j ≤ Y.length → ∀ ys : List Int, ys.length ≤ j → Ev (fun k => impl_FitGroups.l3 Y out (k0 : Int) k ys (j : Int)) (ys ++ unt Y (lefB out k0) j (Y.length - j)) := by
  refine upL ?_ ?_
  · intro ys hy
    refine Ev.step (fun k => impl_FitGroups.l3.eq_2 _ _ _ _ _ _) (Ev.neg (by omega) (Ev.const ?_))
    rw [Nat.sub_self]; simp [unt]
  · intro j hj ih ys hy
    have ej : Y.getD j 0 = Y[j] := by simp [List.getD_eq_getElem?_getD, hj]
    refine Ev.step (fun k => impl_FitGroups.l3.eq_2 _ _ _ _ _ _) (Ev.pos (by omega) (Ev.bind (Ev.const (getI_nat hj)) ?_))
    rw [wsucc hj (by omega), unt_step _ _ hj, ej]
    unfold lefB at ih ⊢
    by_cases e : (j : Int) = (k0 : Int)
    · rw [decide_eq_true e]
      exact Ev.neg (by simp [e]) (by simpa using ih ys (by omega))
    · rw [decide_eq_false e]
      refine Ev.pos e ((contI_ev out ho (j : Int)).bind ?_)
      by_cases hm : (j : Int) ∈ out
      · rw [decide_eq_true hm]
        exact Ev.neg (by simp) (by simpa using ih ys (by omega))
      · rw [decide_eq_false hm]
        have := ih (ys ++ [Y[j]]) (by simp; omega)
        rw [List.append_assoc] at this
        exact Ev.pos rfl (Ev.bind (Ev.const (chkT (by simp; omega))) this)
def takenP (n : Nat) (T : Int) (out : List Int) : Prop := 0 ≤ T ∧ T ≤ 65535 ∧ ∀ j : Nat, j < n → bitN T j = decide ((j : Int) ∈ out)
theorem taken_put {n : Nat} (hn : n ≤ 14) {T : Int} {out : List Int} (h : takenP n T out) {j : Nat} (hj : j < n) : takenP n (orI .u16 T (shlI .u16 1 (j : Int))) (out ++ [(j : Int)]) := by
  obtain ⟨a, b⟩ := or_in T (shlI .u16 1 (j : Int))
  refine ⟨a, b, fun m hm => ?_⟩
  rw [bit_put h.1 h.2.1 (by omega) (by omega), h.2.2 m hm]
  rw [Bool.eq_iff_iff]
  simp only [Bool.or_eq_true, decide_eq_true_eq, List.mem_append, List.mem_singleton]
  constructor
  · rintro (h1 | h1)
    · exact .inl h1
    · exact .inr (by omega)
  · rintro (h1 | h1)
    · exact .inl h1
    · exact .inr (by omega)
theorem fit_in {N Y : List Int} (hY : Y.length ≤ 14) (hN : N.length ≤ 14) {i : Nat} (hi : i < N.length) {out : List Int} (ho : out.length ≤ 14) {T : Int} (ht : takenP Y.length T out) : ∀ j, j ≤ Y.length →
    ∃ (out' : List Int) (T' : Int), out'.length ≤ out.length + 1 ∧ takenP Y.length T' out' ∧ ((∃ q : Nat, j ≤ q ∧ Cand N Y T i q) → ∃ q : Nat, out' = out ++ [(q : Int)] ∧ Cand N Y T i q ∧ T' = orI .u16 T (shlI .u16 1 (q : Int))) ∧ Ev (fun k => spec_FitGroups.l4 Y N out T (i : Int) k (j : Int)) (out', T') ∧ Ev (fun k => impl_FitGroups.l2 Y (N, 0) out (i : Int) N[i] k (j : Int)) out' := by
  refine upL ?_ ?_
  · exact ⟨out, T, by omega, ht, (fun ⟨q, q1, q2⟩ => by have := q2.1; omega), Ev.step (fun k => spec_FitGroups.l4.eq_2 _ _ _ _ _ _ _) (Ev.neg (by omega) (Ev.const rfl)), Ev.step (fun k => impl_FitGroups.l2.eq_2 _ _ _ _ _ _ _) (Ev.neg (by omega) (Ev.const rfl))⟩
  · rintro j hj ⟨out', T', h1, h2, hC, h3, h4⟩
    rw [← wsucc hj (by omega)] at h3 h4
    have uj : IntKind.u64.wrap (j : Int) = (j : Int) := wu64 (by omega) (by omega)
    have hcu : chk (0 ≤ (IntKind.u64.wrap (j : Int))) = some () := chkT (by rw [uj]; omega)
    have hc := contI_ev out (by omega) (j : Int)
    have wi : IntKind.i64.wrap ((i : Int) + 1) = ((i + 1 : Nat) : Int) := by rw [w64 (by omega) (by omega)]; omega
    -- this one isn't taken
    have hC1 : ¬ Cand N Y T i j → (∃ q : Nat, j ≤ q ∧ Cand N Y T i q) → ∃ q : Nat, out' = out ++ [(q : Int)] ∧ Cand N Y T i q ∧ T' = orI .u16 T (shlI .u16 1 (q : Int)) := fun hno ⟨q, q1, q2⟩ => by
      rcases Nat.eq_or_lt_of_le q1 with rfl | q1
      · exact absurd q2 hno
      · exact hC ⟨q, q1, q2⟩
    have ejD : Y.getD j 0 = Y[j] := by simp [List.getD_eq_getElem?_getD, hj]
    have eiD : N.getD i 0 = N[i] := by simp [List.getD_eq_getElem?_getD, hi]
    -- both go on
    have goS : Ev (fun k => (chk (0 ≤ (IntKind.u64.wrap (j : Int)))).bind fun u37 => if (Int.tmod (shrI .u16 T (IntKind.u64.wrap (j : Int))) 2) = 0 then ((getI Y (j : Int)).bind fun t38 => (getI N (i : Int)).bind fun t39 => if t39 ≤ t38 then ((spec_l06Enough.f k N Y (IntKind.i64.wrap ((i : Int) + 1)) (orI .u16 T (shlI .u16 1 (IntKind.u64.wrap (j : Int))))).bind fun t40 => some t40) else (some false)) else (some false)) false → Ev (fun k => spec_FitGroups.l4 Y N out T (i : Int) k (j : Int)) (out', T') := fun hs =>
      Ev.step (fun k => spec_FitGroups.l4.eq_2 _ _ _ _ _ _ _) (Ev.pos (by omega) (Ev.bind (Ev.const hcu) (Ev.bind hs (Ev.neg (by simp) h3))))
    cases hb : bitN T j
    · have htest : Int.tmod (shrI .u16 T (IntKind.u64.wrap (j : Int))) 2 = 0 := by rw [uj]; exact (bit_test ht.1 ht.2.1 j).2 hb
      have hno : ¬ (j : Int) ∈ out := by
        have := ht.2.2 j hj
        rw [hb] at this
        exact of_decide_eq_false this.symm
      rw [decide_eq_false hno] at hc
      by_cases hle : N[i] ≤ Y[j]
      · have ht' := taken_put hY ht hj
        obtain ⟨b1, e1, e2⟩ := enough_ev (N := N) (Y := Y) hY hN (at_ := i + 1) (by omega) ht'.1 ht'.2.1
        have hl := left_loop hY (show out.length ≤ 1048576 by omega) j 0 (Nat.zero_le _) [] (by simp)
        rw [List.nil_append, Nat.sub_zero] at hl
        have hu : unt Y (fun m => !bitN (orI .u16 T (shlI .u16 1 (j : Int))) m) 0 Y.length = unt Y (lefB out j) 0 Y.length := unt_congr fun m _ hm => by
          rw [ht'.2.2 m (by omega)]
          unfold lefB
          rw [Bool.eq_iff_iff]
          simp only [List.mem_append, List.mem_singleton, Bool.not_eq_true', Bool.and_eq_true, decide_eq_false_iff_not]
          constructor
          · intro h; exact ⟨fun h1 => h (.inr h1), fun h1 => h (.inl h1)⟩
          · rintro ⟨h1, h2⟩ (h3 | h3)
            · exact h2 h3
            · exact h1 h3
        rw [hu] at e2
        have hll : (unt Y (lefB out j) 0 Y.length).length ≤ 1048576 := by
          unfold unt
          rw [List.length_map]
          exact Nat.le_trans (List.length_filter_le _ _) (by simp; omega)
        obtain ⟨b2, f1, f2⟩ := canFit_ev (a := N.drop (i + 1)) (b := unt Y (lefB out j) 0 Y.length) (by rw [List.length_drop]; omega) hll
        obtain rfl : b2 = b1 := by rw [Bool.eq_iff_iff, e2, f2]
        have ed : ((N.drop ((IntKind.i64.wrap ((i : Int) + 1)).toNat)).take (N.length - ((IntKind.i64.wrap ((i : Int) + 1)).toNat))) = N.drop (i + 1) := by
          rw [wi, Int.toNat_natCast]
          exact List.take_of_length_le (by rw [List.length_drop]; omega)
        have hck : chk ((0 : Int) ≤ (IntKind.i64.wrap ((i : Int) + 1)) ∧ (IntKind.i64.wrap ((i : Int) + 1)) ≤ (N.length : Int) ∧ (N.length : Int) ≤ (N.length : Int)) = some () := chkT (by rw [wi]; omega)
        have hco : chk (out.length + ([(j : Int)] : List Int).length ≤ 4294967296) = some () := chkT (by simp; omega)
        have hs : Ev (fun k => (chk (0 ≤ (IntKind.u64.wrap (j : Int)))).bind fun u37 => if (Int.tmod (shrI .u16 T (IntKind.u64.wrap (j : Int))) 2) = 0 then ((getI Y (j : Int)).bind fun t38 => (getI N (i : Int)).bind fun t39 => if t39 ≤ t38 then ((spec_l06Enough.f k N Y (IntKind.i64.wrap ((i : Int) + 1)) (orI .u16 T (shlI .u16 1 (IntKind.u64.wrap (j : Int))))).bind fun t40 => some t40) else (some false)) else (some false)) b2 := by
          refine Ev.bind (Ev.const hcu) (Ev.pos htest (Ev.bind (Ev.const (getI_nat hj)) (Ev.bind (Ev.const (getI_nat hi)) (Ev.pos hle (Ev.bind (a := b2) ?_ (Ev.const rfl))))))
          rw [wi, uj]; exact e1
        have hi1 : ∀ {q : (List Int) ⊕ Unit}, Ev (fun k => if b2 = true then ((chk (out.length + ([(j : Int)] : List Int).length ≤ 4294967296)).bind fun u43 => some (Sum.inl (out ++ ([(j : Int)] : List Int)))) else (some (Sum.inr ()))) q → ∀ {r}, Ev (fun k => (match q with | .inl r => some r | .inr _ => impl_FitGroups.l2 Y (N, 0) out (i : Int) N[i] k (IntKind.i64.wrap ((j : Int) + 1)))) r → Ev (fun k => impl_FitGroups.l2 Y (N, 0) out (i : Int) N[i] k (j : Int)) r := fun {q} hq {r} hr => by
          refine Ev.step (fun k => impl_FitGroups.l2.eq_2 _ _ _ _ _ _ _) (Ev.pos (by omega) (Ev.bind (a := q) ?_ hr))
          refine Ev.bind (Ev.const (getI_nat hj)) (Ev.bind (a := false) (hc.bind (Ev.neg (by simp) (Ev.const ?_))) (Ev.neg (by simp) (hl.bind (Ev.bind (Ev.const hck) (Ev.bind (a := b2) ?_ hq)))))
          · rw [decide_eq_false (by omega)]
          · show Ev (fun k => impl_canFit.f k ((N.drop ((IntKind.i64.wrap ((i : Int) + 1)).toNat)).take (N.length - ((IntKind.i64.wrap ((i : Int) + 1)).toNat))) (unt Y (lefB out j) 0 Y.length)) b2
            rw [ed]; exact f1
        have hcd : Cand N Y T i j ↔ b2 = true := by
          rw [f2, ← hu]
          exact ⟨fun h => h.2.2.2, fun h => ⟨hj, hb, by rw [ejD, eiD]; exact hle, h⟩⟩
        cases b2
        · exact ⟨out', T', h1, h2, hC1 (fun h => by cases hcd.1 h), goS hs, hi1 (Ev.neg (by simp) (Ev.const rfl)) h4⟩
        · refine ⟨out ++ [(j : Int)], orI .u16 T (shlI .u16 1 (j : Int)), by simp, ht', (fun _ => ⟨j, rfl, hcd.2 rfl, rfl⟩), Ev.step (fun k => spec_FitGroups.l4.eq_2 _ _ _ _ _ _ _) (Ev.pos (by omega) (Ev.bind (Ev.const hcu) (Ev.bind hs (Ev.pos rfl (Ev.bind (Ev.const hco) (Ev.const ?_)))))), hi1 (Ev.pos rfl (Ev.bind (Ev.const hco) (Ev.const rfl))) (Ev.const rfl)⟩
          rw [uj]
      · refine ⟨out', T', h1, h2, hC1 (fun h => hle (by have := h.2.2.1; rwa [ejD, eiD] at this)), goS (Ev.bind (Ev.const hcu) (Ev.pos htest (Ev.bind (Ev.const (getI_nat hj)) (Ev.bind (Ev.const (getI_nat hi)) (Ev.neg hle (Ev.const rfl)))))), Ev.step (fun k => impl_FitGroups.l2.eq_2 _ _ _ _ _ _ _) (Ev.pos (by omega) (Ev.bind (a := (Sum.inr () : (List Int) ⊕ Unit)) ?_ h4))⟩
        refine Ev.bind (Ev.const (getI_nat hj)) (Ev.bind (a := true) (hc.bind (Ev.neg (by simp) (Ev.const ?_))) (Ev.pos rfl (Ev.const rfl)))
        rw [decide_eq_true (by omega)]
    · have htest : ¬ Int.tmod (shrI .u16 T (IntKind.u64.wrap (j : Int))) 2 = 0 := by rw [uj, bit_test ht.1 ht.2.1 j, hb]; simp
      have hyes : (j : Int) ∈ out := by
        have := ht.2.2 j hj
        rw [hb] at this
        exact of_decide_eq_true this.symm
      rw [decide_eq_true hyes] at hc
      refine ⟨out', T', h1, h2, hC1 (fun h => by have := h.2.1; rw [hb] at this; cases this), goS (Ev.bind (Ev.const hcu) (Ev.neg htest (Ev.const rfl))), Ev.step (fun k => impl_FitGroups.l2.eq_2 _ _ _ _ _ _ _) (Ev.pos (by omega) (Ev.bind (a := (Sum.inr () : (List Int) ⊕ Unit)) ?_ h4))⟩
      exact Ev.bind (Ev.const (getI_nat hj)) (Ev.bind (a := true) (hc.bind (Ev.pos rfl (Ev.const rfl))) (Ev.pos rfl (Ev.const rfl)))

/-- Yards that have been found for the first groups. -/
def Ways (N Y out : List Int) : Prop := (∀ g (hg : g < out.length), ∃ q : Nat, out[g] = (q : Int) ∧ q < Y.length ∧ N.getD g 0 ≤ Y.getD q 0) ∧ out.Nodup
theorem fit_out {N Y : List Int} (hY : Y.length ≤ 14) (hN : N.length ≤ 14) : ∀ i, i ≤ N.length → ∀ (out : List Int) (T : Int), out.length = i → takenP Y.length T out → FitP (N.drop i) (unt Y (fun m => !bitN T m) 0 Y.length) → Ways N Y out →
    ∃ r : List Int, r.length = N.length ∧ Ways N Y r ∧ Ev (fun k => spec_FitGroups.l3 Y N k out T (i : Int)) r ∧ Ev (fun k => impl_FitGroups.l1 Y (N, 0) k out (i : Int)) r := by
  refine upL ?_ ?_
  · intro out T ho ht hf hw
    exact ⟨out, ho, hw, Ev.step (fun k => spec_FitGroups.l3.eq_2 _ _ _ _ _ _) (Ev.neg (by omega) (Ev.const rfl)), Ev.step (fun k => impl_FitGroups.l1.eq_2 _ _ _ _ _) (Ev.neg (by show ¬ (N.length : Int) < (N.length : Int); omega) (Ev.const rfl))⟩
  · intro i hi ih out T ho ht hf hw
    obtain ⟨out', T', h1, h2, hC, h3, h4⟩ := fit_in hY hN hi (by omega) ht 0 (Nat.zero_le _)
    have eiD : N.getD i 0 = N[i] := by simp [List.getD_eq_getElem?_getD, hi]
    rw [List.drop_eq_getElem_cons hi] at hf
    obtain ⟨j, j1, j2, j3, j4⟩ := fit_cand hf
    rw [Bool.not_eq_true'] at j2
    have hun : ∀ q : Nat, q < Y.length → unt Y (fun k => !bitN T k && !decide (q = k)) 0 Y.length = unt Y (fun m => !bitN (orI .u16 T (shlI .u16 1 (q : Int))) m) 0 Y.length := fun q hq => unt_congr fun m _ hm => by
      rw [bit_put ht.1 ht.2.1 (by omega) (by omega), Bool.not_or]
    obtain ⟨q, rfl, ⟨q1, q2, q3, q4⟩, rfl⟩ := hC ⟨j, Nat.zero_le _, j1, j2, by rw [eiD]; exact j3, by rw [← hun j j1]; exact j4⟩
    obtain ⟨r, r1, rw_, r2, r3⟩ := ih (out ++ [(q : Int)]) _ (by simp; omega) h2 q4 ⟨fun g hg => by
      rw [List.length_append, List.length_singleton] at hg
      by_cases hg2 : g < out.length
      · obtain ⟨z, z1, z2⟩ := hw.1 g hg2
        exact ⟨z, by rw [List.getElem_append_left hg2]; exact z1, z2⟩
      · obtain rfl : g = out.length := by omega
        exact ⟨q, by rw [List.getElem_append_right (by omega)]; simp, q1, by rw [ho]; exact q3⟩, by
      rw [List.nodup_append]
      refine ⟨hw.2, by simp, fun a ha b hb => ?_⟩
      rw [List.mem_singleton.1 hb]
      rintro rfl
      have := ht.2.2 q q1
      rw [q2] at this
      exact of_decide_eq_false this.symm ha⟩
    rw [← wsucc hi (by omega)] at r2 r3
    exact ⟨r, r1, rw_, Ev.step (fun k => spec_FitGroups.l3.eq_2 _ _ _ _ _ _) (Ev.pos (by omega) (Ev.bind (h3.bind (Ev.const rfl)) r2)), Ev.step (fun k => impl_FitGroups.l1.eq_2 _ _ _ _ _) (Ev.pos (by show (i : Int) < (N.length : Int); omega) (Ev.bind (Ev.bind (Ev.const (getI_nat hi)) (h4.bind (Ev.const rfl))) r3))⟩
/-! ### The yards' numbers -/
def yardB (x : Int) : Bool := decide (0 ≤ x ∧ x ≤ 1000000)
theorem range_stop (Y : List Int) (c : Int) (hc : c ≠ 0) (i : Int) : Ev (fun k => spec_FitGroups.l2 Y k c i) c := by
  refine Ev.step (fun k => spec_FitGroups.l2.eq_2 _ _ _ _) (Ev.bind (a := false) ?_ (Ev.neg (by simp) (Ev.const rfl)))
  by_cases h : i < (Y.length : Int)
  · exact Ev.pos h (Ev.const (by rw [decide_eq_false hc]))
  · exact Ev.neg h (Ev.const rfl)
theorem range_loop {Y : List Int} (hY : Y.length ≤ 14) : ∀ i, i ≤ Y.length → Ev (fun k => spec_FitGroups.l2 Y k 0 (i : Int)) (if (Y.drop i).all yardB = true then 0 else 2) := by
  refine upL ?_ ?_
  · refine Ev.step (fun k => spec_FitGroups.l2.eq_2 _ _ _ _) (Ev.bind (a := false) (Ev.neg (by omega) (Ev.const rfl)) (Ev.neg (by simp) (Ev.const ?_)))
    simp
  · intro i hi ih
    refine Ev.step (fun k => spec_FitGroups.l2.eq_2 _ _ _ _) (Ev.bind (a := true) (Ev.pos (by omega) (Ev.const rfl)) (Ev.pos rfl (Ev.bind (Ev.const (getI_nat hi)) (Ev.bind (Ev.const (l00In_eq _ _ _)) ?_))))
    rw [List.drop_eq_getElem_cons hi, List.all_cons, wsucc hi (by omega)]
    unfold yardB at ih ⊢
    by_cases h : 0 ≤ Y[i] ∧ Y[i] ≤ 1000000
    · rw [decide_eq_true h, Bool.true_and]
      exact Ev.neg (by simp) ih
    · rw [decide_eq_false h, Bool.false_and]
      exact Ev.pos rfl (range_stop Y 2 (by omega) _)
theorem bit_zero (j : Nat) : bitN 0 j = false := by
  unfold bitN shrI
  rw [Int.zero_fdiv]; rfl
theorem unt_full (Y : List Int) : unt Y (fun j => !bitN 0 j) 0 Y.length = Y := by
  have e : unt Y (fun j => !bitN 0 j) 0 Y.length = unt Y (fun _ => true) 0 Y.length := unt_congr fun j _ _ => by rw [bit_zero]; rfl
  rw [e]
  unfold unt
  rw [List.filter_eq_self.2 (fun _ _ => rfl)]
  apply List.ext_getElem
  · simp
  · intro i h1 h2
    simp [List.getD_eq_getElem?_getD, h2]

/-- Groups that fit into yards: what is told. -/
theorem fitF_ev {h : Herd} (v : VHerd h) (hv : vH h = true) {gs : List Int} {m : Int} (hF : Few h gs m) {N : List Int} (hN : (N.length : Int) = m) (hn1 : Ev (fun k => spec_l06Needs.f k h gs) N) (hn2 : Ev (fun k => impl_NeedsOf.f k h gs) (N, 0)) {Y : List Int} (hl : Y.length ≤ 14) (hy : Y.all yardB = true) :
    ∃ (r : List Int) (c : Int), (c = 0 ∨ c = 6) ∧ r.length ≤ 14 ∧ (c = 0 → r.length = N.length ∧ Ways N Y r) ∧ Ev (fun k => spec_FitGroups.f k h gs Y) (r, c) ∧ Ev (fun k => impl_FitGroups.f k h gs Y) (r, c) := by
  obtain ⟨n1, n2, n3⟩ := vH_len hv
  have hg := few_grps hv hF
  obtain ⟨f1, f2, f3, f4, f5, f6⟩ := hF
  have h1 := told_ev v gs (by omega)
  rw [hv, hg, if_neg (by simp), if_neg (by simp)] at h1
  have hr := range_loop hl 0 (Nat.zero_le _)
  rw [List.drop_zero] at hr
  have hw : ∀ x ∈ Y, impl_FitGroups_1.f x = some (!yardB x) := fun x _ => by
    unfold impl_FitGroups_1.f
    rw [within_eq]; rfl
  have hcf := containsI_ev Y hw (by omega)
  have hany : Y.any (fun x => !yardB x) = !Y.all yardB := by rw [List.not_all_eq_any_not]
  rw [hany] at hcf
  have hp : Ev (fun k => if (0 : Int) = 0 then (some (decide (14 < (Y.length : Int)))) else (some false)) false := Ev.pos rfl (Ev.const (by rw [decide_eq_false (by omega)]))
  rw [hy] at hr hcf
  obtain ⟨b1, e1, e2⟩ := enough_ev (N := N) (Y := Y) hl (by omega) (at_ := 0) (Nat.zero_le _) (T := 0) (Int.le_refl _) (by omega)
  rw [unt_full, List.drop_zero] at e2
  obtain ⟨b2, g1, g2⟩ := canFit_ev (a := N) (b := Y) (by omega) (by omega)
  obtain rfl : b2 = b1 := by rw [Bool.eq_iff_iff, e2, g2]
  cases b2
  · exact ⟨[], 6, .inr rfl, by simp, (fun h => by cases h), h1.bind (Ev.bind hp (Ev.neg (by simp) (hr.bind (Ev.neg (by simp) (hn1.bind (Ev.bind e1 (Ev.pos rfl (Ev.const rfl)))))))), hn2.bind (Ev.neg (by simp) (Ev.neg (by omega) (hcf.bind (Ev.neg (by simp) (Ev.bind g1 (Ev.pos rfl (Ev.const rfl)))))))⟩
  · obtain ⟨r, r1, rW, r2, r3⟩ := fit_out hl (show N.length ≤ 14 by omega) 0 (Nat.zero_le _) [] 0 rfl ⟨Int.le_refl _, by omega, fun j _ => by rw [bit_zero]; simp⟩ (by rw [unt_full, List.drop_zero]; exact e2.1 rfl) ⟨fun g hg => by simp at hg, by simp⟩
    exact ⟨r, 0, .inl rfl, by omega, fun _ => ⟨r1, rW⟩, h1.bind (Ev.bind hp (Ev.neg (by simp) (hr.bind (Ev.neg (by simp) (hn1.bind (Ev.bind e1 (Ev.neg (by simp) (r2.bind (Ev.const rfl))))))))), hn2.bind (Ev.neg (by simp) (Ev.neg (by omega) (hcf.bind (Ev.neg (by simp) (Ev.bind g1 (Ev.neg (by simp) (r3.bind (Ev.const rfl))))))))⟩
end Go.Proofs.YtonpnkppaflcbaaGreatDoor
