/-
  Plain law: peaceful groups: what a search tells, and that no fewer groups will do.
-/
import Derived.Test.YtonpnkppaflcbaaGreatDoorQT2
namespace Go.Proofs.YtonpnkppaflcbaaGreatDoor
open G
set_option linter.unusedVariables false
set_option linter.unusedSimpArgs false
/-! ### Colours -/
/-- Goats that are in one group are no foes. -/
def Col (h : Herd) (m : Int) (c : Nat → Int) : Prop := (∀ i, i < h.Names.length → 0 ≤ c i ∧ c i < m) ∧ ∀ i j, i < h.Names.length → j < h.Names.length → c i = c j → foeB h i j = false
def PreC (gs : List Int) (c : Nat → Int) : Prop := ∀ i (hi : i < gs.length), c i = gs[i]
def sw (a b x : Int) : Int := if x = a then b else if x = b then a else x
theorem sw_inj {a b x y : Int} (h : sw a b x = sw a b y) : x = y := by
  unfold sw at h
  split at h <;> split at h <;> (try split at h) <;> (try split at h) <;> omega
theorem Col.swap {h : Herd} {m : Int} {c : Nat → Int} (hc : Col h m c) {a b : Int} (ha : 0 ≤ a ∧ a < m) (hb : 0 ≤ b ∧ b < m) : Col h m (fun i => sw a b (c i)) := by
  refine ⟨fun i hi => ?_, fun i j hi hj e => hc.2 i j hi hj (sw_inj e)⟩
  have := hc.1 i hi
  simp only [sw]
  split
  · exact hb
  · split
    · exact ha
    · exact this
theorem foe_self {h : Herd} (hv : vH h = true) {i : Nat} (hi : i < h.Names.length) : foeB h i i = false := by
  have := (vH_ok hv hi).1
  unfold okI at this
  simp only [Bool.and_eq_true, Bool.not_eq_true'] at this
  exact this.2.2.2
def Calm (h : Herd) (gs : List Int) : Prop := ∀ i j (hi : i < gs.length) (hj : j < gs.length), gs[i] = gs[j] → foeB h i j = false
theorem calm_snoc {h : Herd} (hv : vH h = true) {gs : List Int} (hl : gs.length < h.Names.length) {g : Int} (hc : Calm h gs) (hf : upA (freeB h gs g) 0 gs.length = true) : Calm h (gs ++ [g]) := by
  rw [upA_iff] at hf
  have hfree : ∀ j (hj : j < gs.length), gs[j] = g → foeB h gs.length j = false := by
    intro j hj e
    have := hf j (Nat.zero_le _) (by omega)
    unfold freeB at this
    have hg : gs.getD j 0 = gs[j] := by simp [List.getD_eq_getElem?_getD, List.getElem?_eq_getElem hj]
    rw [hg, decide_eq_true e, Bool.true_and, Bool.not_eq_true'] at this
    exact this
  intro i j hi hj e
  rw [List.length_append, List.length_singleton] at hi hj
  by_cases h1 : i < gs.length
  · by_cases h2 : j < gs.length
    · rw [List.getElem_append_left h1, List.getElem_append_left h2] at e
      exact hc i j h1 h2 e
    · obtain rfl : j = gs.length := by omega
      rw [List.getElem_append_left h1, List.getElem_append_right (by omega)] at e
      rw [foe_sym hv (by omega) hl]
      exact hfree i h1 (by simpa using e)
  · obtain rfl : i = gs.length := by omega
    by_cases h2 : j < gs.length
    · rw [List.getElem_append_left h2, List.getElem_append_right (by omega)] at e
      exact hfree j h2 (by simpa using e.symm)
    · obtain rfl : j = gs.length := by omega
      exact foe_self hv hl
theorem cloneI_ev (xs : List Int) (hx : xs.length ≤ 1048576) : Ev (fun _ => slices_Clone_int64_int64.f xs) xs := by
  refine Ev.const ?_
  unfold slices_Clone_int64_int64.f
  rw [chkT (by simp; omega)]; rfl
theorem used_loop (S : Nat → Herd → List Int → Int → Int → Option (List Int × Bool)) (gs : List Int) (hl : gs.length ≤ 14) (hg : ∀ x ∈ gs, 0 ≤ x ∧ x ≤ 14) : ∀ i, i ≤ gs.length → ∀ a : Int, Ev2 (fun s k => spec_l06Colour.l1 (S s) gs (gs.length : Int) k a (i : Int)) (us (gs.drop i) a) := by
  refine upL ?_ ?_
  · intro a
    refine Ev2.step (fun s k => spec_l06Colour.l1.eq_2 _ _ _ _ _ _) (Ev2.neg (by omega) (Ev2.const ?_))
    rw [List.drop_length]; rfl
  · intro i hi ih a
    obtain ⟨g0, g1⟩ := hg _ (List.getElem_mem hi)
    refine Ev2.step (fun s k => spec_l06Colour.l1.eq_2 _ _ _ _ _ _) (Ev2.pos (by omega) (Ev2.bind (Ev2.const (getI_nat hi)) (Ev2.bind (Ev2.const (l00Max_eq _ _)) ?_)))
    have e : (if gs[i] + 1 < a then a else gs[i] + 1) = if a < gs[i] + 1 then gs[i] + 1 else a := by split <;> split <;> omega
    rw [wsucc hi (by omega), List.drop_eq_getElem_cons hi, w64 (by omega) (by omega), e]
    exact ih _
theorem us_mono (gs : List Int) : ∀ a : Int, a ≤ us gs a := by
  induction gs with
  | nil => intro a; exact Int.le_refl _
  | cons x xs ih =>
    intro a
    have := ih (if a < x + 1 then x + 1 else a)
    show a ≤ us xs (if a < x + 1 then x + 1 else a)
    split at this <;> simp only [*, if_true, if_false] <;> omega
/-- What a search tells. -/
def Told (h : Herd) (most : Int) (gs : List Int) (r : List Int × Bool) : Prop :=
  (r.2 = true → r.1.length = h.Names.length ∧ (∀ x ∈ r.1, 0 ≤ x ∧ x < most) ∧ Calm h r.1) ∧ ((∃ c, Col h most c ∧ PreC gs c) → r.2 = true)
theorem search_ev {h : Herd} (v : VHerd h) (hv : vH h = true) (most : Int) (h0 : 0 ≤ most) (h1 : most ≤ 1000) : ∀ (d : Nat) (gs : List Int), gs.length + d = h.Names.length → (∀ x ∈ gs, 0 ≤ x ∧ x < us gs 0) → us gs 0 ≤ gs.length → (∀ x ∈ gs, x < most) → Calm h gs →
    ∃ r : List Int × Bool, r.1.length ≤ 14 ∧ Told h most gs r ∧ Ev (fun k => spec_l06Colour.f k h gs (gs.length : Int) most) r ∧ Ev (fun k => impl_Herd_group.f k h most gs (us gs 0)) r
  | 0, gs, hd, hg, hu, hmo, hca => by
    obtain ⟨n1, n2, n3⟩ := vH_len hv
    have c1 : chk (([] : List Int).length + gs.length ≤ 4294967296) = some () := chkT (by simp; omega)
    refine ⟨(gs, true), by show gs.length ≤ 14; omega, ⟨fun _ => ⟨by simp only; omega, fun x hx => ⟨(hg x hx).1, hmo x hx⟩, hca⟩, fun _ => rfl⟩, Ev.step (fun k => spec_l06Colour.f.eq_2 _ _ _ _ _) (Ev.pos (by omega) (Ev.bind (Ev.const c1) (Ev.const rfl))), Ev.step (fun k => impl_Herd_group.f.eq_2 _ _ _ _ _) (Ev.pos (by omega) (Ev.const rfl))⟩
  | d + 1, gs, hd, hg, hu, hmo, hca => by
    obtain ⟨n1, n2, n3⟩ := vH_len hv
    have u0 := us_mono gs 0
    have key : ∀ i : Nat, i ≤ (if us gs 0 + 1 < most then us gs 0 + 1 else most).toNat → ∃ r : (List Int × Bool) ⊕ Unit, (∀ x, r = .inl x → x.1.length ≤ 14 ∧ x.2 = true ∧ x.1.length = h.Names.length ∧ (∀ z ∈ x.1, 0 ≤ z ∧ z < most) ∧ Calm h x.1) ∧ ((∃ c, Col h most c ∧ PreC gs c ∧ (i : Int) ≤ c gs.length ∧ c gs.length ≤ us gs 0) → r ≠ .inr ()) ∧
        Ev2 (fun s k => spec_l06Colour.l2 (spec_l06Colour.f s) h gs (gs.length : Int) most (us gs 0) k (i : Int)) r ∧ Ev2 (fun s k => impl_Herd_group.l1 (impl_Herd_group.f s) h most gs (us gs 0) k (i : Int)) r := by
      have w1 : IntKind.i64.wrap (us gs 0 + 1) = us gs 0 + 1 := w64 (by omega) (by omega)
      refine upL ?_ ?_
      · refine ⟨.inr (), (fun x hx => by cases hx), (fun ⟨c, c1, c2, c3, c4⟩ => ?_), ?_, ?_⟩
        · exfalso
          have := (c1.1 gs.length (by omega)).2
          split at c3 <;> omega
        · refine Ev2.step (fun s k => spec_l06Colour.l2.eq_2 _ _ _ _ _ _ _ _) (Ev2.bind (a := false) ?_ (Ev2.neg (by simp) (Ev2.const rfl)))
          by_cases hm : (((if us gs 0 + 1 < most then us gs 0 + 1 else most).toNat : Nat) : Int) < most
          · refine Ev2.pos hm (Ev2.const ?_)
            congr 1
            refine decide_eq_false ?_
            split at hm <;> split <;> omega
          · exact Ev2.neg hm (Ev2.const rfl)
        · refine Ev2.step (fun s k => impl_Herd_group.l1.eq_2 _ _ _ _ _ _ _) (Ev2.neg ?_ (Ev2.const rfl))
          rw [w1]
          split <;> split <;> omega
      · intro i hi ih
        have hi1 : (i : Int) < most := by split at hi <;> omega
        have hi2 : (i : Int) ≤ us gs 0 := by split at hi <;> omega
        have wi : IntKind.i64.wrap ((i : Int) + 1) = ((i + 1 : Nat) : Int) := by rw [w64 (by omega) (by omega)]; omega
        obtain ⟨M, m1, m2, m3, m4⟩ := ih
        -- this one
        have hfree := l3c_loop v spec_l06Colour.f (gs := gs) (by omega) (by omega) (i : Int) 0 (Nat.zero_le _) true
        rw [Bool.true_and, Nat.sub_zero] at hfree
        have hnot := notFree_ev v (gs := gs) (by omega) (by omega) (i : Int)
        have hlen : (gs ++ [(i : Int)]).length = gs.length + 1 := by simp
        have hus : us (gs ++ [(i : Int)]) 0 = if us gs 0 < (i : Int) + 1 then (i : Int) + 1 else us gs 0 := us_snoc _ _ _
        have hall : ∀ x ∈ gs ++ [(i : Int)], 0 ≤ x ∧ x < us (gs ++ [(i : Int)]) 0 := by
          intro x hx
          rw [hus]
          rcases List.mem_append.1 hx with hx | hx
          · obtain ⟨a, b⟩ := hg x hx
            split <;> omega
          · obtain rfl := List.mem_singleton.1 hx
            split <;> omega
        -- where a colouring gives it this group, it is free
        have hcol : ∀ c, Col h most c → PreC gs c → c gs.length = (i : Int) → upA (freeB h gs (i : Int)) 0 gs.length = true := by
          intro c c1 c2 c3
          rw [upA_iff]
          intro j _ hj
          have hjl : j < gs.length := by omega
          unfold freeB
          have hgj : gs.getD j 0 = gs[j] := by simp [List.getD_eq_getElem?_getD, List.getElem?_eq_getElem hjl]
          rw [hgj]
          by_cases e : gs[j] = (i : Int)
          · rw [c1.2 gs.length j (by omega) (by omega) (by rw [c3, c2 j hjl, e])]
            simp
          · rw [decide_eq_false e]; rfl
        have c1 : chk (([] : List Int).length + gs.length ≤ 4294967296) = some () := chkT (by simp; omega)
        have c2 : chk ((([] : List Int) ++ gs).length + ([(i : Int)] : List Int).length ≤ 4294967296) = some () := chkT (by simp; omega)
        have c3 : chk (gs.length + ([(i : Int)] : List Int).length ≤ 4294967296) = some () := chkT (by simp; omega)
        have wl : IntKind.i64.wrap ((gs.length : Int) + 1) = ((gs ++ [(i : Int)]).length : Int) := by rw [w64 (by omega) (by omega), hlen]; omega
        have es : ∀ {r : ((List Int × Bool) ⊕ Unit) ⊕ Unit}, Ev2 (fun s k => (if (!(upA (freeB h gs (i : Int)) 0 gs.length)) = true then (some (Sum.inr ())) else ((chk (([] : List Int).length + gs.length ≤ 4294967296)).bind fun u18 => (chk ((([] : List Int) ++ gs).length + ([(i : Int)] : List Int).length ≤ 4294967296)).bind fun u22 => (spec_l06Colour.f s h ((([] : List Int) ++ gs) ++ ([(i : Int)] : List Int)) (IntKind.i64.wrap ((gs.length : Int) + 1)) most).bind fun t25 => if t25.2 = true then (some (Sum.inl (Sum.inl (t25.1, true)))) else (some (Sum.inr ()))))) r →
            ∀ {q : (List Int × Bool) ⊕ Unit}, Ev2 (fun s k => (match r with | .inl x => some x | .inr _ => spec_l06Colour.l2 (spec_l06Colour.f s) h gs (gs.length : Int) most (us gs 0) k (IntKind.i64.wrap ((i : Int) + 1)))) q →
            Ev2 (fun s k => spec_l06Colour.l2 (spec_l06Colour.f s) h gs (gs.length : Int) most (us gs 0) k (i : Int)) q := fun {r} hr {q} hq =>
          Ev2.step (fun s k => spec_l06Colour.l2.eq_2 _ _ _ _ _ _ _ _) (Ev2.bind (a := true) (Ev2.pos hi1 (Ev2.const (by rw [decide_eq_true hi2]))) (Ev2.pos rfl (Ev2.bind (Ev2.bind hfree hr) hq)))
        have ei : ∀ {q}, Ev2 (fun s k => if (!(upA (freeB h gs (i : Int)) 0 gs.length)) = true then (impl_Herd_group.l1 (impl_Herd_group.f s) h most gs (us gs 0) k (IntKind.i64.wrap ((i : Int) + 1))) else ((slices_Clone_int64_int64.f gs).bind fun t11 => (chk (t11.length + ([(i : Int)] : List Int).length ≤ 4294967296)).bind fun u15 => (impl_Herd_group.f s h most (t11 ++ ([(i : Int)] : List Int)) (if us gs 0 < (IntKind.i64.wrap ((i : Int) + 1)) then (IntKind.i64.wrap ((i : Int) + 1)) else us gs 0)).bind fun t18 => if t18.2 = true then (some (Sum.inl (t18.1, true))) else (impl_Herd_group.l1 (impl_Herd_group.f s) h most gs (us gs 0) k (IntKind.i64.wrap ((i : Int) + 1))))) q →
            Ev2 (fun s k => impl_Herd_group.l1 (impl_Herd_group.f s) h most gs (us gs 0) k (i : Int)) q := fun {q} hq => by
          refine Ev2.step (fun s k => impl_Herd_group.l1.eq_2 _ _ _ _ _ _ _) (Ev2.pos ?_ (Ev2.bind (Ev2.const (foes_get (by omega))) (Ev2.bind (Ev2.const (chkT (by omega))) ?_)))
          · rw [w1]
            split at hi <;> split <;> omega
          · refine (Ev2.bind (g := fun s k (t10 : Bool) => if t10 = true then (impl_Herd_group.l1 (impl_Herd_group.f s) h most gs (us gs 0) k (IntKind.i64.wrap ((i : Int) + 1))) else ((slices_Clone_int64_int64.f gs).bind fun t11 => (chk (t11.length + ([(i : Int)] : List Int).length ≤ 4294967296)).bind fun u15 => (impl_Herd_group.f s h most (t11 ++ ([(i : Int)] : List Int)) (if us gs 0 < (IntKind.i64.wrap ((i : Int) + 1)) then (IntKind.i64.wrap ((i : Int) + 1)) else us gs 0)).bind fun t18 => if t18.2 = true then (some (Sum.inl (t18.1, true))) else (impl_Herd_group.l1 (impl_Herd_group.f s) h most gs (us gs 0) k (IntKind.i64.wrap ((i : Int) + 1))))) (Ev2.of2 hnot) hq).congr fun s k => ?_
            rw [Option.bind_assoc]
        rw [← wi] at m3 m4
        cases hf : upA (freeB h gs (i : Int)) 0 gs.length
        · rw [hf] at es ei
          refine ⟨M, m1, fun ⟨c, q1, q2, q3, q4⟩ => ?_, es (Ev2.pos rfl (Ev2.const rfl)) m3, ei (Ev2.pos rfl m4)⟩
          by_cases e : c gs.length = (i : Int)
          · have := hcol c q1 q2 e
            rw [hf] at this; cases this
          · exact m2 ⟨c, q1, q2, by omega, q4⟩
        · obtain ⟨R, r1, rT, r3, r4⟩ := search_ev v hv most h0 h1 d (gs ++ [(i : Int)]) (by omega) hall (by rw [hus, hlen]; split <;> omega) (by
            intro x hx
            rcases List.mem_append.1 hx with hx | hx
            · exact hmo x hx
            · obtain rfl := List.mem_singleton.1 hx; exact hi1) (calm_snoc hv (by omega) hca hf)
          rw [hf] at es ei
          have e1 : Ev2 (fun s k => spec_l06Colour.f s h ((([] : List Int) ++ gs) ++ ([(i : Int)] : List Int)) (IntKind.i64.wrap ((gs.length : Int) + 1)) most) R := by
            rw [wl]; exact Ev2.of1 r3
          have e2 : Ev2 (fun s k => impl_Herd_group.f s h most (gs ++ ([(i : Int)] : List Int)) (if us gs 0 < (IntKind.i64.wrap ((i : Int) + 1)) then (IntKind.i64.wrap ((i : Int) + 1)) else us gs 0)) R := by
            rw [w64 (by omega) (by omega), ← hus]; exact Ev2.of1 r4
          cases hR : R.2
          · refine ⟨M, m1, fun ⟨c, q1, q2, q3, q4⟩ => ?_, es (Ev2.neg (by simp) (Ev2.bind (Ev2.const c1) (Ev2.bind (Ev2.const c2) (Ev2.bind e1 (Ev2.neg (by rw [hR]; simp) (Ev2.const rfl)))))) m3, ei (Ev2.neg (by simp) (Ev2.bind (Ev2.of1 (cloneI_ev gs (by omega))) (Ev2.bind (Ev2.const c3) (Ev2.bind e2 (Ev2.neg (by rw [hR]; simp) m4)))))⟩
            by_cases e : c gs.length = (i : Int)
            · have := rT.2 ⟨c, q1, fun j hj => by
                rw [hlen] at hj
                by_cases hj2 : j < gs.length
                · rw [List.getElem_append_left hj2]; exact q2 j hj2
                · obtain rfl : j = gs.length := by omega
                  rw [e, List.getElem_append_right (by omega)]; simp⟩
              rw [hR] at this; cases this
            · exact m2 ⟨c, q1, q2, by omega, q4⟩
          · obtain ⟨t1, t2, t3⟩ := rT.1 hR
            refine ⟨.inl (R.1, true), (fun x hx => by cases hx; exact ⟨r1, rfl, t1, t2, t3⟩), (fun _ hx => by cases hx), es (Ev2.neg (by simp) (Ev2.bind (Ev2.const c1) (Ev2.bind (Ev2.const c2) (Ev2.bind e1 (Ev2.pos hR (Ev2.const rfl)))))) (Ev2.const rfl), ei (Ev2.neg (by simp) (Ev2.bind (Ev2.of1 (cloneI_ev gs (by omega))) (Ev2.bind (Ev2.const c3) (Ev2.bind e2 (Ev2.pos hR (Ev2.const rfl))))))⟩
    obtain ⟨r, k1, k2, k3, k4⟩ := key 0 (Nat.zero_le _)
    have hne : ¬ (gs.length : Int) = (h.Names.length : Int) := by omega
    have hused := used_loop spec_l06Colour.f gs (by omega) (fun x hx => ⟨(hg x hx).1, by have := (hg x hx).2; omega⟩) 0 (Nat.zero_le _) 0
    rw [List.drop_zero] at hused
    cases r with
    | inl x =>
      obtain ⟨x1, x2, x3, x4, x5⟩ := k1 x rfl
      exact ⟨x, x1, ⟨fun _ => ⟨x3, x4, x5⟩, fun _ => x2⟩, Ev.step (fun k => spec_l06Colour.f.eq_2 _ _ _ _ _) (Ev.neg hne (Ev.bind hused.diag (Ev.bind k3.diag (Ev.const rfl)))), Ev.step (fun k => impl_Herd_group.f.eq_2 _ _ _ _ _) (Ev.neg hne (Ev.bind k4.diag (Ev.const rfl)))⟩
    | inr x =>
      refine ⟨([], false), by simp, ⟨(fun e => by cases e), fun ⟨c, q1, q2⟩ => ?_⟩, Ev.step (fun k => spec_l06Colour.f.eq_2 _ _ _ _ _) (Ev.neg hne (Ev.bind hused.diag (Ev.bind k3.diag (Ev.const rfl)))), Ev.step (fun k => impl_Herd_group.f.eq_2 _ _ _ _ _) (Ev.neg hne (Ev.bind k4.diag (Ev.const rfl)))⟩
      exfalso
      obtain ⟨p0, p1⟩ := q1.1 gs.length (by omega)
      by_cases hle : c gs.length ≤ us gs 0
      · exact k2 ⟨c, q1, q2, by omega, hle⟩ rfl
      · refine k2 ⟨fun i => sw (us gs 0) (c gs.length) (c i), q1.swap ⟨u0, by omega⟩ ⟨p0, p1⟩, fun j hj => ?_, ?_, ?_⟩ rfl
        · have e := q2 j hj
          have hlt := (hg _ (List.getElem_mem hj)).2
          show sw _ _ (c j) = _
          rw [e]
          unfold sw
          rw [if_neg (by omega), if_neg (by omega)]
        · show _ ≤ sw _ _ (c gs.length)
          unfold sw
          rw [if_neg (by omega), if_pos rfl]
          omega
        · show sw _ _ (c gs.length) ≤ _
          unfold sw
          rw [if_neg (by omega), if_pos rfl]
          omega
/-! ### The fewest -/
theorem col_calm {h : Herd} {m : Int} {gs : List Int} (hl : gs.length = h.Names.length) (hb : ∀ x ∈ gs, 0 ≤ x ∧ x < m) (hc : Calm h gs) : Col h m (fun i => gs.getD i 0) := by
  have hg : ∀ i (hi : i < gs.length), gs.getD i 0 = gs[i] := fun i hi => by simp [List.getD_eq_getElem?_getD, List.getElem?_eq_getElem hi]
  refine ⟨fun i hi => ?_, fun i j hi hj e => ?_⟩
  · show 0 ≤ gs.getD i 0 ∧ gs.getD i 0 < m
    rw [hg i (by omega)]
    exact hb _ (List.getElem_mem _)
  · have e : gs.getD i 0 = gs.getD j 0 := e
    rw [hg i (by omega), hg j (by omega)] at e
    exact hc i j (by omega) (by omega) e
theorem col_id {h : Herd} (hv : vH h = true) : Col h (h.Names.length : Int) (fun i => (i : Int)) := by
  refine ⟨fun i hi => ⟨Int.natCast_nonneg _, by show (i : Int) < _; omega⟩, fun i j hi hj e => ?_⟩
  obtain rfl : i = j := by have e : (i : Int) = (j : Int) := e; omega
  exact foe_self hv hi
/-- Peaceful groups, and no fewer ones will do. -/
def Few (h : Herd) (gs : List Int) (m : Int) : Prop := gs.length = h.Names.length ∧ (∀ x ∈ gs, 0 ≤ x ∧ x < m) ∧ Calm h gs ∧ 0 ≤ m ∧ m ≤ h.Names.length ∧ ∀ m' c, Col h m' c → 0 ≤ m' → m ≤ m'
theorem fewest_loop {h : Herd} (v : VHerd h) (hv : vH h = true) : ∀ m, m ≤ h.Names.length → (∀ (m' : Nat) c, m' < m → ¬ Col h (m' : Int) c) → ∃ (gs : List Int) (f : Int), gs.length ≤ 14 ∧ Few h gs f ∧ Ev (fun k => spec_FewestGroups.l1 h k (m : Int)) (.inl (gs, f, 0)) ∧ Ev (fun k => impl_FewestGroups.l1 h k (m : Int)) (.inl (gs, f, 0)) := by
  obtain ⟨n1, n2, n3⟩ := vH_len hv
  have one : ∀ m : Nat, m ≤ h.Names.length → ∃ r : List Int × Bool, r.1.length ≤ 14 ∧ Told h (m : Int) [] r ∧ Ev (fun k => spec_l06Colour.f k h ([] : List Int) 0 (m : Int)) r ∧ Ev (fun k => impl_Herd_group.f k h (m : Int) ([] : List Int) 0) r := fun m hm =>
    search_ev v hv (m : Int) (by omega) (by omega) h.Names.length [] (by simp) (by simp) (by simp [us]) (by simp) (fun i j hi hj => by simp at hi)
  have fin : ∀ m : Nat, m ≤ h.Names.length → (∀ (m' : Nat) c, m' < m → ¬ Col h (m' : Int) c) → ∀ r : List Int × Bool, Told h (m : Int) [] r → r.2 = true → Few h r.1 (m : Int) := by
    intro m hm hno r hT hr
    obtain ⟨t1, t2, t3⟩ := hT.1 hr
    refine ⟨t1, t2, t3, by omega, by omega, fun m' c hc h0 => ?_⟩
    obtain ⟨q, rfl⟩ := Int.eq_ofNat_of_zero_le h0
    by_cases hlt : q < m
    · exact absurd hc (hno q c hlt)
    · omega
  refine upL ?_ ?_
  · intro hno
    obtain ⟨r, r1, r2, r3, r4⟩ := one _ (Nat.le_refl _)
    have rt := r2.2 ⟨_, col_id hv, fun i hi => by simp at hi⟩
    exact ⟨r.1, (h.Names.length : Int), r1, fin _ (Nat.le_refl _) hno r r2 rt, Ev.step (fun k => spec_FewestGroups.l1.eq_2 _ _ _) (r3.bind (Ev.pos rt (Ev.const rfl))), Ev.step (fun k => impl_FewestGroups.l1.eq_2 _ _ _) (r4.bind (Ev.pos rt (Ev.const rfl)))⟩
  · intro m hm ih hno
    obtain ⟨r, r1, r2, r3, r4⟩ := one m (by omega)
    cases e : r.2
    · obtain ⟨q, f, q1, qF, q2, q3⟩ := ih (fun m' c hlt hc => by
        by_cases hl : m' < m
        · exact hno m' c hl hc
        · obtain rfl : m' = m := by omega
          have := r2.2 ⟨c, hc, fun i hi => by simp at hi⟩
          rw [e] at this; cases this)
      rw [← wsucc hm (by omega)] at q2 q3
      exact ⟨q, f, q1, qF, Ev.step (fun k => spec_FewestGroups.l1.eq_2 _ _ _) (r3.bind (Ev.neg (by rw [e]; simp) q2)), Ev.step (fun k => impl_FewestGroups.l1.eq_2 _ _ _) (r4.bind (Ev.neg (by rw [e]; simp) q3))⟩
    · exact ⟨r.1, (m : Int), r1, fin m (by omega) hno r r2 e, Ev.step (fun k => spec_FewestGroups.l1.eq_2 _ _ _) (r3.bind (Ev.pos e (Ev.const rfl))), Ev.step (fun k => impl_FewestGroups.l1.eq_2 _ _ _) (r4.bind (Ev.pos e (Ev.const rfl)))⟩
theorem fewest_ev {h : Herd} (v : VHerd h) (hv : vH h = true) : ∃ (gs : List Int) (f : Int), gs.length ≤ 14 ∧ Few h gs f ∧ Ev (fun k => spec_FewestGroups.f k h) (gs, f, 0) ∧ Ev (fun k => impl_FewestGroups.f k h) (gs, f, 0) := by
  have h1 := specHerd_ev v
  have h2 := implHerd_ev v
  rw [hv] at h1 h2
  obtain ⟨gs, f, hr, hF, g1, g2⟩ := fewest_loop v hv 0 (Nat.zero_le _) (fun m' c hlt => by omega)
  exact ⟨gs, f, hr, hF, h1.bind (Ev.neg (by simp) (Ev.bind g1 (Ev.const rfl))), h2.bind (Ev.neg (by simp) (Ev.bind g2 (Ev.const rfl)))⟩
end Go.Proofs.YtonpnkppaflcbaaGreatDoor
