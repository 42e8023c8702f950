/-
  Plain law: groups that go on with a list: one search.
-/
import Derived.Test.YtimpcenflahchaaDoorQT2
namespace Go.Proofs.YtimpcenflahchaaDoor
open G
set_option linter.unusedVariables false
set_option linter.unusedSimpArgs false
theorem cloneI_ev (xs : List Int) (hx : xs.length ≤ 1048576) : Ev (fun _ => slices_Clone_int64_int64.f xs) xs := by
  refine Ev.const ?_
  unfold slices_Clone_int64_int64.f
  rw [chkT (by simp; omega)]; rfl
theorem used_loop (S : Nat → Herd → List Int → Int → Int → Option (List Int × Bool)) (gs : List Int) (hl : gs.length ≤ 14) (hg : ∀ x ∈ gs, 0 ≤ x ∧ x ≤ 14) : ∀ i, i ≤ gs.length → ∀ a : Int, Ev2 (fun s k => spec_l06Colour.l1 (S s) gs (gs.length : Int) k a (i : Int)) (us (gs.drop i) a) := by
  refine upL ?_ ?_
  · intro a
    refine Ev2.step (fun s k => spec_l06Colour.l1.eq_2 _ _ _ _ _ _) (Ev2.neg (by omega) (Ev2.const ?_))
    rw [List.drop_length]; rfl
  · intro i hi ih a
    obtain ⟨g0, g1⟩ := hg _ (List.getElem_mem hi)
    refine Ev2.step (fun s k => spec_l06Colour.l1.eq_2 _ _ _ _ _ _) (Ev2.pos (by omega) (Ev2.bind (Ev2.const (getI_nat hi)) (Ev2.bind (Ev2.const (l00Max_eq _ _)) ?_)))
    have e : (if gs[i] + 1 < a then a else gs[i] + 1) = if a < gs[i] + 1 then gs[i] + 1 else a := by split <;> split <;> omega
    rw [wsucc hi (by omega), List.drop_eq_getElem_cons hi, w64 (by omega) (by omega), e]
    exact ih _
theorem us_mono (gs : List Int) : ∀ a : Int, a ≤ us gs a := by
  induction gs with
  | nil => intro a; exact Int.le_refl _
  | cons x xs ih =>
    intro a
    have := ih (if a < x + 1 then x + 1 else a)
    show a ≤ us xs (if a < x + 1 then x + 1 else a)
    split at this <;> simp only [*, if_true, if_false] <;> omega
theorem search_ev {h : Herd} (v : VHerd h) (hv : vH h = true) (most : Int) (h0 : 0 ≤ most) (h1 : most ≤ 1000) : ∀ (d : Nat) (gs : List Int), gs.length + d = h.Names.length → (∀ x ∈ gs, 0 ≤ x ∧ x < us gs 0) → us gs 0 ≤ gs.length →
    ∃ r : List Int × Bool, r.1.length ≤ 14 ∧ ((h.Names.length : Int) ≤ most → r.2 = true) ∧ Ev (fun k => spec_l06Colour.f k h gs (gs.length : Int) most) r ∧ Ev (fun k => impl_Herd_group.f k h most gs (us gs 0)) r
  | 0, gs, hd, hg, hu => by
    obtain ⟨n1, n2, n3⟩ := vH_len hv
    have c1 : chk (([] : List Int).length + gs.length ≤ 4294967296) = some () := chkT (by simp; omega)
    refine ⟨(gs, true), by show gs.length ≤ 14; omega, fun _ => rfl, Ev.step (fun k => spec_l06Colour.f.eq_2 _ _ _ _ _) (Ev.pos (by omega) (Ev.bind (Ev.const c1) (Ev.const rfl))), Ev.step (fun k => impl_Herd_group.f.eq_2 _ _ _ _ _) (Ev.pos (by omega) (Ev.const rfl))⟩
  | d + 1, gs, hd, hg, hu => by
    obtain ⟨n1, n2, n3⟩ := vH_len hv
    have u0 := us_mono gs 0
    have key : ∀ i : Nat, i ≤ (if us gs 0 + 1 < most then us gs 0 + 1 else most).toNat → ∃ r : (List Int × Bool) ⊕ Unit, (∀ x, r = .inl x → x.1.length ≤ 14 ∧ x.2 = true) ∧ ((h.Names.length : Int) ≤ most → (i : Int) ≤ us gs 0 → r ≠ .inr ()) ∧
        Ev2 (fun s k => spec_l06Colour.l2 (spec_l06Colour.f s) h gs (gs.length : Int) most (us gs 0) k (i : Int)) r ∧ Ev2 (fun s k => impl_Herd_group.l1 (impl_Herd_group.f s) h most gs (us gs 0) k (i : Int)) r := by
      have w1 : IntKind.i64.wrap (us gs 0 + 1) = us gs 0 + 1 := w64 (by omega) (by omega)
      refine upL ?_ ?_
      · refine ⟨.inr (), (fun x hx => by cases hx), (fun hm hi => ?_), ?_, ?_⟩
        · exfalso
          split at hi <;> omega
        · refine Ev2.step (fun s k => spec_l06Colour.l2.eq_2 _ _ _ _ _ _ _ _) (Ev2.bind (a := false) ?_ (Ev2.neg (by simp) (Ev2.const rfl)))
          by_cases hm : (((if us gs 0 + 1 < most then us gs 0 + 1 else most).toNat : Nat) : Int) < most
          · refine Ev2.pos hm (Ev2.const ?_)
            congr 1
            refine decide_eq_false ?_
            split at hm <;> split <;> omega
          · exact Ev2.neg hm (Ev2.const rfl)
        · refine Ev2.step (fun s k => impl_Herd_group.l1.eq_2 _ _ _ _ _ _ _) (Ev2.neg ?_ (Ev2.const rfl))
          rw [w1]
          split <;> split <;> omega
      · intro i hi ih
        have hi1 : (i : Int) < most := by split at hi <;> omega
        have hi2 : (i : Int) ≤ us gs 0 := by split at hi <;> omega
        have wi : IntKind.i64.wrap ((i : Int) + 1) = ((i + 1 : Nat) : Int) := by rw [w64 (by omega) (by omega)]; omega
        obtain ⟨M, m1, m2, m3, m4⟩ := ih
        -- this one
        have hfree := l3c_loop v spec_l06Colour.f (gs := gs) (by omega) (by omega) (i : Int) 0 (Nat.zero_le _) true
        rw [Bool.true_and, Nat.sub_zero] at hfree
        have hnot := notFree_ev v (gs := gs) (by omega) (by omega) (i : Int)
        have hlen : (gs ++ [(i : Int)]).length = gs.length + 1 := by simp
        have hus : us (gs ++ [(i : Int)]) 0 = if us gs 0 < (i : Int) + 1 then (i : Int) + 1 else us gs 0 := us_snoc _ _ _
        have hall : ∀ x ∈ gs ++ [(i : Int)], 0 ≤ x ∧ x < us (gs ++ [(i : Int)]) 0 := by
          intro x hx
          rw [hus]
          rcases List.mem_append.1 hx with hx | hx
          · obtain ⟨a, b⟩ := hg x hx
            split <;> omega
          · obtain rfl := List.mem_singleton.1 hx
            split <;> omega
        obtain ⟨R, r1, r2, r3, r4⟩ := search_ev v hv most h0 h1 d (gs ++ [(i : Int)]) (by omega) hall (by rw [hus, hlen]; split <;> omega)
        have c1 : chk (([] : List Int).length + gs.length ≤ 4294967296) = some () := chkT (by simp; omega)
        have c2 : chk ((([] : List Int) ++ gs).length + ([(i : Int)] : List Int).length ≤ 4294967296) = some () := chkT (by simp; omega)
        have c3 : chk (gs.length + ([(i : Int)] : List Int).length ≤ 4294967296) = some () := chkT (by simp; omega)
        have wl : IntKind.i64.wrap ((gs.length : Int) + 1) = ((gs ++ [(i : Int)]).length : Int) := by rw [w64 (by omega) (by omega), hlen]; omega
        have es : ∀ {r : ((List Int × Bool) ⊕ Unit) ⊕ Unit}, Ev2 (fun s k => (if (!(upA (freeB h gs (i : Int)) 0 gs.length)) = true then (some (Sum.inr ())) else ((chk (([] : List Int).length + gs.length ≤ 4294967296)).bind fun u18 => (chk ((([] : List Int) ++ gs).length + ([(i : Int)] : List Int).length ≤ 4294967296)).bind fun u22 => (spec_l06Colour.f s h ((([] : List Int) ++ gs) ++ ([(i : Int)] : List Int)) (IntKind.i64.wrap ((gs.length : Int) + 1)) most).bind fun t25 => if t25.2 = true then (some (Sum.inl (Sum.inl (t25.1, true)))) else (some (Sum.inr ()))))) r →
            ∀ {q : (List Int × Bool) ⊕ Unit}, Ev2 (fun s k => (match r with | .inl x => some x | .inr _ => spec_l06Colour.l2 (spec_l06Colour.f s) h gs (gs.length : Int) most (us gs 0) k (IntKind.i64.wrap ((i : Int) + 1)))) q →
            Ev2 (fun s k => spec_l06Colour.l2 (spec_l06Colour.f s) h gs (gs.length : Int) most (us gs 0) k (i : Int)) q := fun {r} hr {q} hq =>
          Ev2.step (fun s k => spec_l06Colour.l2.eq_2 _ _ _ _ _ _ _ _) (Ev2.bind (a := true) (Ev2.pos hi1 (Ev2.const (by rw [decide_eq_true hi2]))) (Ev2.pos rfl (Ev2.bind (Ev2.bind hfree hr) hq)))
        have ei : ∀ {q}, Ev2 (fun s k => if (!(upA (freeB h gs (i : Int)) 0 gs.length)) = true then (impl_Herd_group.l1 (impl_Herd_group.f s) h most gs (us gs 0) k (IntKind.i64.wrap ((i : Int) + 1))) else ((slices_Clone_int64_int64.f gs).bind fun t11 => (chk (t11.length + ([(i : Int)] : List Int).length ≤ 4294967296)).bind fun u15 => (impl_Herd_group.f s h most (t11 ++ ([(i : Int)] : List Int)) (if us gs 0 < (IntKind.i64.wrap ((i : Int) + 1)) then (IntKind.i64.wrap ((i : Int) + 1)) else us gs 0)).bind fun t18 => if t18.2 = true then (some (Sum.inl (t18.1, true))) else (impl_Herd_group.l1 (impl_Herd_group.f s) h most gs (us gs 0) k (IntKind.i64.wrap ((i : Int) + 1))))) q →
            Ev2 (fun s k => impl_Herd_group.l1 (impl_Herd_group.f s) h most gs (us gs 0) k (i : Int)) q := fun {q} hq => by
          refine Ev2.step (fun s k => impl_Herd_group.l1.eq_2 _ _ _ _ _ _ _) (Ev2.pos ?_ (Ev2.bind (Ev2.const (foes_get (by omega))) (Ev2.bind (Ev2.const (chkT (by omega))) ?_)))
          · rw [w1]
            split at hi <;> split <;> omega
          · refine (Ev2.bind (g := fun s k (t10 : Bool) => if t10 = true then (impl_Herd_group.l1 (impl_Herd_group.f s) h most gs (us gs 0) k (IntKind.i64.wrap ((i : Int) + 1))) else ((slices_Clone_int64_int64.f gs).bind fun t11 => (chk (t11.length + ([(i : Int)] : List Int).length ≤ 4294967296)).bind fun u15 => (impl_Herd_group.f s h most (t11 ++ ([(i : Int)] : List Int)) (if us gs 0 < (IntKind.i64.wrap ((i : Int) + 1)) then (IntKind.i64.wrap ((i : Int) + 1)) else us gs 0)).bind fun t18 => if t18.2 = true then (some (Sum.inl (t18.1, true))) else (impl_Herd_group.l1 (impl_Herd_group.f s) h most gs (us gs 0) k (IntKind.i64.wrap ((i : Int) + 1))))) (Ev2.of2 hnot) hq).congr fun s k => ?_
            rw [Option.bind_assoc]
        rw [← wi] at m3 m4
        cases hf : upA (freeB h gs (i : Int)) 0 gs.length
        · rw [hf] at es ei
          refine ⟨M, m1, fun hm hx => m2 hm ?_, es (Ev2.pos rfl (Ev2.const rfl)) m3, ei (Ev2.pos rfl m4)⟩
          -- the greatest one is free
          refine Classical.byContradiction fun hge => ?_
          have hi3 : (i : Int) = us gs 0 := by omega
          rw [← Bool.not_eq_true, upA_iff] at hf
          refine hf fun j _ hj => ?_
          unfold freeB
          have hjl : j < gs.length := by omega
          have hne : ¬ gs.getD j 0 = (i : Int) := by
            have := (hg _ (List.getElem_mem hjl)).2
            simp only [List.getD_eq_getElem?_getD, List.getElem?_eq_getElem hjl, Option.getD_some]
            omega
          rw [decide_eq_false hne]; rfl
        · rw [hf] at es ei
          have e1 : Ev2 (fun s k => spec_l06Colour.f s h ((([] : List Int) ++ gs) ++ ([(i : Int)] : List Int)) (IntKind.i64.wrap ((gs.length : Int) + 1)) most) R := by
            rw [wl]; exact Ev2.of1 r3
          have e2 : Ev2 (fun s k => impl_Herd_group.f s h most (gs ++ ([(i : Int)] : List Int)) (if us gs 0 < (IntKind.i64.wrap ((i : Int) + 1)) then (IntKind.i64.wrap ((i : Int) + 1)) else us gs 0)) R := by
            rw [w64 (by omega) (by omega), ← hus]; exact Ev2.of1 r4
          cases hR : R.2
          · refine ⟨M, m1, fun hm hx => absurd (r2 hm) (by rw [hR]; simp), es (Ev2.neg (by simp) (Ev2.bind (Ev2.const c1) (Ev2.bind (Ev2.const c2) (Ev2.bind e1 (Ev2.neg (by rw [hR]; simp) (Ev2.const rfl)))))) m3, ei (Ev2.neg (by simp) (Ev2.bind (Ev2.of1 (cloneI_ev gs (by omega))) (Ev2.bind (Ev2.const c3) (Ev2.bind e2 (Ev2.neg (by rw [hR]; simp) m4)))))⟩
          · refine ⟨.inl (R.1, true), (fun x hx => by cases hx; exact ⟨r1, rfl⟩), (fun _ _ hx => by cases hx), es (Ev2.neg (by simp) (Ev2.bind (Ev2.const c1) (Ev2.bind (Ev2.const c2) (Ev2.bind e1 (Ev2.pos hR (Ev2.const rfl)))))) (Ev2.const rfl), ei (Ev2.neg (by simp) (Ev2.bind (Ev2.of1 (cloneI_ev gs (by omega))) (Ev2.bind (Ev2.const c3) (Ev2.bind e2 (Ev2.pos hR (Ev2.const rfl))))))⟩
    obtain ⟨r, k1, k2, k3, k4⟩ := key 0 (Nat.zero_le _)
    have hne : ¬ (gs.length : Int) = (h.Names.length : Int) := by omega
    have hused := used_loop spec_l06Colour.f gs (by omega) (fun x hx => ⟨(hg x hx).1, by have := (hg x hx).2; omega⟩) 0 (Nat.zero_le _) 0
    rw [List.drop_zero] at hused
    cases r with
    | inl x =>
      obtain ⟨x1, x2⟩ := k1 x rfl
      exact ⟨x, x1, fun _ => x2, Ev.step (fun k => spec_l06Colour.f.eq_2 _ _ _ _ _) (Ev.neg hne (Ev.bind hused.diag (Ev.bind k3.diag (Ev.const rfl)))), Ev.step (fun k => impl_Herd_group.f.eq_2 _ _ _ _ _) (Ev.neg hne (Ev.bind k4.diag (Ev.const rfl)))⟩
    | inr x =>
      exact ⟨([], false), by simp, fun hm => absurd rfl (k2 hm u0), Ev.step (fun k => spec_l06Colour.f.eq_2 _ _ _ _ _) (Ev.neg hne (Ev.bind hused.diag (Ev.bind k3.diag (Ev.const rfl)))), Ev.step (fun k => impl_Herd_group.f.eq_2 _ _ _ _ _) (Ev.neg hne (Ev.bind k4.diag (Ev.const rfl)))⟩
end Go.Proofs.YtimpcenflahchaaDoor
