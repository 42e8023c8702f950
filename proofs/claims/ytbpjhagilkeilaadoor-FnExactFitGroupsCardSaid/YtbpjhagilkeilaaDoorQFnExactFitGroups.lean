/-
  Plain law: FitGroups of the program and of the reference answer alike.
-/
import Derived.Test.YtbpjhagilkeilaaDoorQR2
import Derived.Test.YtbpjhagilkeilaaDoorQN0
import Derived.Test.YtbpjhagilkeilaaDoorQJ0
namespace Go.Proofs.YtbpjhagilkeilaaDoor
open G
set_option linter.unusedVariables false
set_option linter.unusedSimpArgs false
theorem contI_ev (xs : List Int) (hx : xs.length ≤ 1048576) (a : Int) : Ev (fun k => slices_Contains_int64_int64.f k xs a) (decide (a ∈ xs)) := by
  have key : ∀ i, i ≤ xs.length → ∃ r : Int ⊕ Unit, Ev (fun k => slices_Index_int64_int64.l1 xs a k (i : Int)) r ∧ ((r = .inr () ∧ ¬ a ∈ xs.drop i) ∨ ∃ z : Nat, r = .inl (z : Int) ∧ a ∈ xs.drop i) := by
    refine upL ?_ ?_
    · exact ⟨.inr (), Ev.step (fun k => slices_Index_int64_int64.l1.eq_2 _ _ _ _) (Ev.neg (by omega) (Ev.const rfl)), .inl ⟨rfl, by simp⟩⟩
    · intro i hi ih
      by_cases e : a = xs[i]
      · exact ⟨.inl (i : Int), Ev.step (fun k => slices_Index_int64_int64.l1.eq_2 _ _ _ _) (Ev.pos (by omega) (Ev.bind (Ev.const (getI_nat hi)) (Ev.pos e (Ev.const rfl)))), .inr ⟨i, rfl, by rw [List.drop_eq_getElem_cons hi, e]; exact List.mem_cons_self ..⟩⟩
      · obtain ⟨r, r1, r2⟩ := ih
        rw [← wsucc hi (by omega)] at r1
        refine ⟨r, Ev.step (fun k => slices_Index_int64_int64.l1.eq_2 _ _ _ _) (Ev.pos (by omega) (Ev.bind (Ev.const (getI_nat hi)) (Ev.neg e r1))), ?_⟩
        rw [List.drop_eq_getElem_cons hi, List.mem_cons]
        rcases r2 with ⟨h1, h2⟩ | ⟨z, h1, h2⟩
        · exact .inl ⟨h1, fun h => h.elim e h2⟩
        · exact .inr ⟨z, h1, .inr h2⟩
  obtain ⟨r, r1, r2⟩ := key 0 (Nat.zero_le _)
  rw [List.drop_zero] at r2
  rcases r2 with ⟨rfl, h2⟩ | ⟨z, rfl, h2⟩
  · rw [decide_eq_false h2]
    exact Ev.bind (r1.bind (Ev.const rfl)) (Ev.const rfl)
  · rw [decide_eq_true h2]
    exact Ev.bind (r1.bind (Ev.const rfl)) (Ev.const (by rw [decide_eq_true (show (0 : Int) ≤ (z : Int) by omega)]))
def lefB (out : List Int) (k m : Nat) : Bool := !decide ((m : Int) = (k : Int)) && !decide ((m : Int) ∈ out)
theorem left_loop {Y out : List Int} (hn : Y.length ≤ 14) (ho : out.length ≤ 1048576) (k0 : Nat) : ∀ j, j ≤ Y.length → ∀ ys : List Int, ys.length ≤ j → Ev (fun k => impl_FitGroups.l3 Y out (k0 : Int) k ys (j : Int)) (ys ++ unt Y (lefB out k0) j (Y.length - j)) := by
  refine upL ?_ ?_
  · intro ys hy
    refine Ev.step (fun k => impl_FitGroups.l3.eq_2 _ _ _ _ _ _) (Ev.neg (by omega) (Ev.const ?_))
    rw [Nat.sub_self]; simp [unt]
  · intro j hj ih ys hy
    have ej : Y.getD j 0 = Y[j] := by simp [List.getD_eq_getElem?_getD, hj]
    refine Ev.step (fun k => impl_FitGroups.l3.eq_2 _ _ _ _ _ _) (Ev.pos (by omega) (Ev.bind (Ev.const (getI_nat hj)) ?_))
    rw [wsucc hj (by omega), unt_step _ _ hj, ej]
    unfold lefB at ih ⊢
    by_cases e : (j : Int) = (k0 : Int)
    · rw [decide_eq_true e]
      exact Ev.neg (by simp [e]) (by simpa using ih ys (by omega))
    · rw [decide_eq_false e]
      refine Ev.pos e ((contI_ev out ho (j : Int)).bind ?_)
      by_cases hm : (j : Int) ∈ out
      · rw [decide_eq_true hm]
        exact Ev.neg (by simp) (by simpa using ih ys (by omega))
      · rw [decide_eq_false hm]
        have := ih (ys ++ [Y[j]]) (by simp; omega)
        rw [List.append_assoc] at this
        exact Ev.pos rfl (Ev.bind (Ev.const (chkT (by simp; omega))) this)
def takenP (n : Nat) (T : Int) (out : List Int) : Prop := 0 ≤ T ∧ T ≤ 65535 ∧ ∀ j : Nat, j < n → bitN T j = decide ((j : Int) ∈ out)
theorem taken_put {n : Nat} (hn : n ≤ 14) {T : Int} {out : List Int} (h : takenP n T out) {j : Nat} (hj : j < n) : takenP n (orI .u16 T (shlI .u16 1 (j : Int))) (out ++ [(j : Int)]) := by
  obtain ⟨a, b⟩ := or_in T (shlI .u16 1 (j : Int))
  refine ⟨a, b, fun m hm => ?_⟩
  rw [bit_put h.1 h.2.1 (by omega) (by omega), h.2.2 m hm]
  rw [Bool.eq_iff_iff]
  simp only [Bool.or_eq_true, decide_eq_true_eq, List.mem_append, List.mem_singleton]
  constructor
  · rintro (h1 | h1)
    · exact .inl h1
    · exact .inr (by omega)
  · rintro (h1 | h1)
    · exact .inl h1
    · exact .inr (by omega)
theorem fit_in {N Y : List Int} (hY : Y.length ≤ 14) (hN : N.length ≤ 14) {i : Nat} (hi : i < N.length) {out : List Int} (ho : out.length ≤ 14) {T : Int} (ht : takenP Y.length T out) : ∀ j, j ≤ Y.length →
    ∃ (out' : List Int) (T' : Int), out'.length ≤ out.length + 1 ∧ takenP Y.length T' out' ∧ Ev (fun k => spec_FitGroups.l4 Y N out T (i : Int) k (j : Int)) (out', T') ∧ Ev (fun k => impl_FitGroups.l2 Y (N, 0) out (i : Int) N[i] k (j : Int)) out' := by
  refine upL ?_ ?_
  · exact ⟨out, T, by omega, ht, Ev.step (fun k => spec_FitGroups.l4.eq_2 _ _ _ _ _ _ _) (Ev.neg (by omega) (Ev.const rfl)), Ev.step (fun k => impl_FitGroups.l2.eq_2 _ _ _ _ _ _ _) (Ev.neg (by omega) (Ev.const rfl))⟩
  · rintro j hj ⟨out', T', h1, h2, h3, h4⟩
    rw [← wsucc hj (by omega)] at h3 h4
    have uj : IntKind.u64.wrap (j : Int) = (j : Int) := wu64 (by omega) (by omega)
    have hcu : chk (0 ≤ (IntKind.u64.wrap (j : Int))) = some () := chkT (by rw [uj]; omega)
    have hc := contI_ev out (by omega) (j : Int)
    have wi : IntKind.i64.wrap ((i : Int) + 1) = ((i + 1 : Nat) : Int) := by rw [w64 (by omega) (by omega)]; omega
    -- both go on
    have goS : Ev (fun k => (chk (0 ≤ (IntKind.u64.wrap (j : Int)))).bind fun u37 => if (Int.tmod (shrI .u16 T (IntKind.u64.wrap (j : Int))) 2) = 0 then ((getI Y (j : Int)).bind fun t38 => (getI N (i : Int)).bind fun t39 => if t39 ≤ t38 then ((spec_l06Enough.f k N Y (IntKind.i64.wrap ((i : Int) + 1)) (orI .u16 T (shlI .u16 1 (IntKind.u64.wrap (j : Int))))).bind fun t40 => some t40) else (some false)) else (some false)) false → Ev (fun k => spec_FitGroups.l4 Y N out T (i : Int) k (j : Int)) (out', T') := fun hs =>
      Ev.step (fun k => spec_FitGroups.l4.eq_2 _ _ _ _ _ _ _) (Ev.pos (by omega) (Ev.bind (Ev.const hcu) (Ev.bind hs (Ev.neg (by simp) h3))))
    cases hb : bitN T j
    · have htest : Int.tmod (shrI .u16 T (IntKind.u64.wrap (j : Int))) 2 = 0 := by rw [uj]; exact (bit_test ht.1 ht.2.1 j).2 hb
      have hno : ¬ (j : Int) ∈ out := by
        have := ht.2.2 j hj
        rw [hb] at this
        exact of_decide_eq_false this.symm
      rw [decide_eq_false hno] at hc
      by_cases hle : N[i] ≤ Y[j]
      · have ht' := taken_put hY ht hj
        obtain ⟨b1, e1, e2⟩ := enough_ev (N := N) (Y := Y) hY hN (at_ := i + 1) (by omega) ht'.1 ht'.2.1
        have hl := left_loop hY (show out.length ≤ 1048576 by omega) j 0 (Nat.zero_le _) [] (by simp)
        rw [List.nil_append, Nat.sub_zero] at hl
        have hu : unt Y (fun m => !bitN (orI .u16 T (shlI .u16 1 (j : Int))) m) 0 Y.length = unt Y (lefB out j) 0 Y.length := unt_congr fun m _ hm => by
          rw [ht'.2.2 m (by omega)]
          unfold lefB
          rw [Bool.eq_iff_iff]
          simp only [List.mem_append, List.mem_singleton, Bool.not_eq_true', Bool.and_eq_true, decide_eq_false_iff_not]
          constructor
          · intro h; exact ⟨fun h1 => h (.inr h1), fun h1 => h (.inl h1)⟩
          · rintro ⟨h1, h2⟩ (h3 | h3)
            · exact h2 h3
            · exact h1 h3
        rw [hu] at e2
        have hll : (unt Y (lefB out j) 0 Y.length).length ≤ 1048576 := by
          unfold unt
          rw [List.length_map]
          exact Nat.le_trans (List.length_filter_le _ _) (by simp; omega)
        obtain ⟨b2, f1, f2⟩ := canFit_ev (a := N.drop (i + 1)) (b := unt Y (lefB out j) 0 Y.length) (by rw [List.length_drop]; omega) hll
        obtain rfl : b2 = b1 := by rw [Bool.eq_iff_iff, e2, f2]
        have ed : ((N.drop ((IntKind.i64.wrap ((i : Int) + 1)).toNat)).take (N.length - ((IntKind.i64.wrap ((i : Int) + 1)).toNat))) = N.drop (i + 1) := by
          rw [wi, Int.toNat_natCast]
          exact List.take_of_length_le (by rw [List.length_drop]; omega)
        have hck : chk ((0 : Int) ≤ (IntKind.i64.wrap ((i : Int) + 1)) ∧ (IntKind.i64.wrap ((i : Int) + 1)) ≤ (N.length : Int) ∧ (N.length : Int) ≤ (N.length : Int)) = some () := chkT (by rw [wi]; omega)
        have hco : chk (out.length + ([(j : Int)] : List Int).length ≤ 4294967296) = some () := chkT (by simp; omega)
        have hs : Ev (fun k => (chk (0 ≤ (IntKind.u64.wrap (j : Int)))).bind fun u37 => if (Int.tmod (shrI .u16 T (IntKind.u64.wrap (j : Int))) 2) = 0 then ((getI Y (j : Int)).bind fun t38 => (getI N (i : Int)).bind fun t39 => if t39 ≤ t38 then ((spec_l06Enough.f k N Y (IntKind.i64.wrap ((i : Int) + 1)) (orI .u16 T (shlI .u16 1 (IntKind.u64.wrap (j : Int))))).bind fun t40 => some t40) else (some false)) else (some false)) b2 := by
          refine Ev.bind (Ev.const hcu) (Ev.pos htest (Ev.bind (Ev.const (getI_nat hj)) (Ev.bind (Ev.const (getI_nat hi)) (Ev.pos hle (Ev.bind (a := b2) ?_ (Ev.const rfl))))))
          rw [wi, uj]; exact e1
        have hi1 : ∀ {q : (List Int) ⊕ Unit}, Ev (fun k => if b2 = true then ((chk (out.length + ([(j : Int)] : List Int).length ≤ 4294967296)).bind fun u43 => some (Sum.inl (out ++ ([(j : Int)] : List Int)))) else (some (Sum.inr ()))) q → ∀ {r}, Ev (fun k => (match q with | .inl r => some r | .inr _ => impl_FitGroups.l2 Y (N, 0) out (i : Int) N[i] k (IntKind.i64.wrap ((j : Int) + 1)))) r → Ev (fun k => impl_FitGroups.l2 Y (N, 0) out (i : Int) N[i] k (j : Int)) r := fun {q} hq {r} hr => by
          refine Ev.step (fun k => impl_FitGroups.l2.eq_2 _ _ _ _ _ _ _) (Ev.pos (by omega) (Ev.bind (a := q) ?_ hr))
          refine Ev.bind (Ev.const (getI_nat hj)) (Ev.bind (a := false) (hc.bind (Ev.neg (by simp) (Ev.const ?_))) (Ev.neg (by simp) (hl.bind (Ev.bind (Ev.const hck) (Ev.bind (a := b2) ?_ hq)))))
          · rw [decide_eq_false (by omega)]
          · show Ev (fun k => impl_canFit.f k ((N.drop ((IntKind.i64.wrap ((i : Int) + 1)).toNat)).take (N.length - ((IntKind.i64.wrap ((i : Int) + 1)).toNat))) (unt Y (lefB out j) 0 Y.length)) b2
            rw [ed]; exact f1
        cases b2
        · exact ⟨out', T', h1, h2, goS hs, hi1 (Ev.neg (by simp) (Ev.const rfl)) h4⟩
        · refine ⟨out ++ [(j : Int)], orI .u16 T (shlI .u16 1 (j : Int)), by simp, ht', Ev.step (fun k => spec_FitGroups.l4.eq_2 _ _ _ _ _ _ _) (Ev.pos (by omega) (Ev.bind (Ev.const hcu) (Ev.bind hs (Ev.pos rfl (Ev.bind (Ev.const hco) (Ev.const ?_)))))), hi1 (Ev.pos rfl (Ev.bind (Ev.const hco) (Ev.const rfl))) (Ev.const rfl)⟩
          rw [uj]
      · refine ⟨out', T', h1, h2, goS (Ev.bind (Ev.const hcu) (Ev.pos htest (Ev.bind (Ev.const (getI_nat hj)) (Ev.bind (Ev.const (getI_nat hi)) (Ev.neg hle (Ev.const rfl)))))), Ev.step (fun k => impl_FitGroups.l2.eq_2 _ _ _ _ _ _ _) (Ev.pos (by omega) (Ev.bind (a := (Sum.inr () : (List Int) ⊕ Unit)) ?_ h4))⟩
        refine Ev.bind (Ev.const (getI_nat hj)) (Ev.bind (a := true) (hc.bind (Ev.neg (by simp) (Ev.const ?_))) (Ev.pos rfl (Ev.const rfl)))
        rw [decide_eq_true (by omega)]
    · have htest : ¬ Int.tmod (shrI .u16 T (IntKind.u64.wrap (j : Int))) 2 = 0 := by rw [uj, bit_test ht.1 ht.2.1 j, hb]; simp
      have hyes : (j : Int) ∈ out := by
        have := ht.2.2 j hj
        rw [hb] at this
        exact of_decide_eq_true this.symm
      rw [decide_eq_true hyes] at hc
      refine ⟨out', T', h1, h2, goS (Ev.bind (Ev.const hcu) (Ev.neg htest (Ev.const rfl))), Ev.step (fun k => impl_FitGroups.l2.eq_2 _ _ _ _ _ _ _) (Ev.pos (by omega) (Ev.bind (a := (Sum.inr () : (List Int) ⊕ Unit)) ?_ h4))⟩
      exact Ev.bind (Ev.const (getI_nat hj)) (Ev.bind (a := true) (hc.bind (Ev.pos rfl (Ev.const rfl))) (Ev.pos rfl (Ev.const rfl)))
theorem fit_out {N Y : List Int} (hY : Y.length ≤ 14) (hN : N.length ≤ 14) : ∀ i, i ≤ N.length → ∀ (out : List Int) (T : Int), out.length ≤ i → takenP Y.length T out →
    ∃ r : List Int, r.length ≤ N.length ∧ Ev (fun k => spec_FitGroups.l3 Y N k out T (i : Int)) r ∧ Ev (fun k => impl_FitGroups.l1 Y (N, 0) k out (i : Int)) r := by
  refine upL ?_ ?_
  · intro out T ho ht
    exact ⟨out, ho, Ev.step (fun k => spec_FitGroups.l3.eq_2 _ _ _ _ _ _) (Ev.neg (by omega) (Ev.const rfl)), Ev.step (fun k => impl_FitGroups.l1.eq_2 _ _ _ _ _) (Ev.neg (by show ¬ (N.length : Int) < (N.length : Int); omega) (Ev.const rfl))⟩
  · intro i hi ih out T ho ht
    obtain ⟨out', T', h1, h2, h3, h4⟩ := fit_in hY hN hi (by omega) ht 0 (Nat.zero_le _)
    obtain ⟨r, r1, r2, r3⟩ := ih out' T' (by omega) h2
    rw [← wsucc hi (by omega)] at r2 r3
    exact ⟨r, r1, Ev.step (fun k => spec_FitGroups.l3.eq_2 _ _ _ _ _ _) (Ev.pos (by omega) (Ev.bind (h3.bind (Ev.const rfl)) r2)), Ev.step (fun k => impl_FitGroups.l1.eq_2 _ _ _ _ _) (Ev.pos (by show (i : Int) < (N.length : Int); omega) (Ev.bind (Ev.bind (Ev.const (getI_nat hi)) (h4.bind (Ev.const rfl))) r3))⟩
/-! ### The yards' numbers -/
def yardB (x : Int) : Bool := decide (0 ≤ x ∧ x ≤ 1000000)
theorem range_stop (Y : List Int) (c : Int) (hc : c ≠ 0) (i : Int) : Ev (fun k => spec_FitGroups.l2 Y k c i) c := by
  refine Ev.step (fun k => spec_FitGroups.l2.eq_2 _ _ _ _) (Ev.bind (a := false) ?_ (Ev.neg (by simp) (Ev.const rfl)))
  by_cases h : i < (Y.length : Int)
  · exact Ev.pos h (Ev.const (by rw [decide_eq_false hc]))
  · exact Ev.neg h (Ev.const rfl)
theorem range_loop {Y : List Int} (hY : Y.length ≤ 14) : ∀ i, i ≤ Y.length → Ev (fun k => spec_FitGroups.l2 Y k 0 (i : Int)) (if (Y.drop i).all yardB = true then 0 else 2) := by
  refine upL ?_ ?_
  · refine Ev.step (fun k => spec_FitGroups.l2.eq_2 _ _ _ _) (Ev.bind (a := false) (Ev.neg (by omega) (Ev.const rfl)) (Ev.neg (by simp) (Ev.const ?_)))
    simp
  · intro i hi ih
    refine Ev.step (fun k => spec_FitGroups.l2.eq_2 _ _ _ _) (Ev.bind (a := true) (Ev.pos (by omega) (Ev.const rfl)) (Ev.pos rfl (Ev.bind (Ev.const (getI_nat hi)) (Ev.bind (Ev.const (l00In_eq _ _ _)) ?_))))
    rw [List.drop_eq_getElem_cons hi, List.all_cons, wsucc hi (by omega)]
    unfold yardB at ih ⊢
    by_cases h : 0 ≤ Y[i] ∧ Y[i] ≤ 1000000
    · rw [decide_eq_true h, Bool.true_and]
      exact Ev.neg (by simp) ih
    · rw [decide_eq_false h, Bool.false_and]
      exact Ev.pos rfl (range_stop Y 2 (by omega) _)
theorem bit_zero (j : Nat) : bitN 0 j = false := by
  unfold bitN shrI
  rw [Int.zero_fdiv]; rfl
theorem unt_full (Y : List Int) : unt Y (fun j => !bitN 0 j) 0 Y.length = Y := by
  have e : unt Y (fun j => !bitN 0 j) 0 Y.length = unt Y (fun _ => true) 0 Y.length := unt_congr fun j _ _ => by rw [bit_zero]; rfl
  rw [e]
  unfold unt
  rw [List.filter_eq_self.2 (fun _ _ => rfl)]
  apply List.ext_getElem
  · simp
  · intro i h1 h2
    simp [List.getD_eq_getElem?_getD, h2]
theorem fitGroups_ev {h : Herd} (v : VHerd h) (gs : List Int) (hx : gs.length ≤ 1048576) (Y : List Int) (hy : Y.length ≤ 1048576) : ∃ r : List Int × Int, r.1.length ≤ 14 ∧ Ev (fun k => spec_FitGroups.f k h gs Y) r ∧ Ev (fun k => impl_FitGroups.f k h gs Y) r := by
  have h1 := told_ev v gs hx
  by_cases hc : (if vH h = false then (1 : Int) else if grpsB h gs = false then 4 else 0) = 0
  · rw [hc] at h1
    have hv : vH h = true := by
      cases e : vH h
      · rw [e] at hc; simp at hc
      · rfl
    have hg : grpsB h gs = true := by
      cases e : grpsB h gs
      · rw [hv, e] at hc; simp at hc
      · rfl
    obtain ⟨N, hN, n1, n2⟩ := needs2_ev v gs hx hv hg
    by_cases hl : Y.length ≤ 14
    · have hr := range_loop hl 0 (Nat.zero_le _)
      rw [List.drop_zero] at hr
      have hw : ∀ x ∈ Y, impl_FitGroups_1.f x = some (!yardB x) := fun x _ => by
        unfold impl_FitGroups_1.f
        rw [within_eq]; rfl
      have hcf := containsI_ev Y hw (by omega)
      have hany : Y.any (fun x => !yardB x) = !Y.all yardB := by rw [List.not_all_eq_any_not]
      rw [hany] at hcf
      have hp : Ev (fun k => if (0 : Int) = 0 then (some (decide (14 < (Y.length : Int)))) else (some false)) false := Ev.pos rfl (Ev.const (by rw [decide_eq_false (by omega)]))
      cases ha : Y.all yardB
      · rw [ha] at hr hcf
        exact ⟨([], 2), by simp, h1.bind (Ev.bind hp (Ev.neg (by simp) (hr.bind (Ev.pos (by simp) (Ev.const rfl))))), n2.bind (Ev.neg (by simp) (Ev.neg (by omega) (hcf.bind (Ev.pos rfl (Ev.const rfl)))))⟩
      · rw [ha] at hr hcf
        obtain ⟨b1, e1, e2⟩ := enough_ev (N := N) (Y := Y) hl hN (at_ := 0) (Nat.zero_le _) (T := 0) (Int.le_refl _) (by omega)
        rw [unt_full, List.drop_zero] at e2
        obtain ⟨b2, f1, f2⟩ := canFit_ev (a := N) (b := Y) (by omega) hy
        obtain rfl : b2 = b1 := by rw [Bool.eq_iff_iff, e2, f2]
        cases b2
        · exact ⟨([], 6), by simp, h1.bind (Ev.bind hp (Ev.neg (by simp) (hr.bind (Ev.neg (by simp) (n1.bind (Ev.bind e1 (Ev.pos rfl (Ev.const rfl)))))))), n2.bind (Ev.neg (by simp) (Ev.neg (by omega) (hcf.bind (Ev.neg (by simp) (Ev.bind f1 (Ev.pos rfl (Ev.const rfl)))))))⟩
        · obtain ⟨r, r1, r2, r3⟩ := fit_out hl hN 0 (Nat.zero_le _) [] 0 (by simp) ⟨Int.le_refl _, by omega, fun j _ => by rw [bit_zero]; simp⟩
          exact ⟨(r, 0), by show r.length ≤ 14; omega, h1.bind (Ev.bind hp (Ev.neg (by simp) (hr.bind (Ev.neg (by simp) (n1.bind (Ev.bind e1 (Ev.neg (by simp) (r2.bind (Ev.const rfl))))))))), n2.bind (Ev.neg (by simp) (Ev.neg (by omega) (hcf.bind (Ev.neg (by simp) (Ev.bind f1 (Ev.neg (by simp) (r3.bind (Ev.const rfl))))))))⟩
    · have hl1 : Ev (fun k => spec_FitGroups.l1 Y k) () := Ev.step (fun k => spec_FitGroups.l1.eq_2 _ _) (Ev.bind (a := ()) (Ev.pos (by omega) (Ev.const rfl)) (Ev.const rfl))
      exact ⟨([], 3), by simp, h1.bind (Ev.bind (a := true) (Ev.pos rfl (Ev.const (by rw [decide_eq_true (by omega)]))) (Ev.pos rfl (hl1.bind (Ev.const rfl)))), n2.bind (Ev.neg (by simp) (Ev.pos (by omega) (Ev.const rfl)))⟩
  · have hn := needsBad_ev v gs hx _ rfl hc
    exact ⟨([], _), by simp, h1.bind (Ev.bind (a := false) (Ev.neg hc (Ev.const rfl)) (Ev.neg (by simp) ((range_stop Y _ hc 0).bind (Ev.pos hc (Ev.const rfl))))), hn.bind (Ev.pos hc (Ev.const rfl))⟩
theorem FnExactFitGroups.pure (x0 : Herd) (hv0 : VHerd x0) (x1 : List Int) (hv1 : ∀ x ∈ x1, (inI .i64) x) (hb1 : x1.length * 8 ≤ 140737488351232) (x2 : List Int) (hv2 : ∀ x ∈ x2, (inI .i64) x) (hb2 : x2.length * 8 ≤ 140737488351232) : ∃ k, laws_FnExactFitGroups.f k x0 x1 x2 = some true := by
  refine Ev.get (r := true) ?_
  by_cases hx : 1048576 < (x1.length : Int)
  · exact Ev.pos hx (Ev.const rfl)
  refine Ev.neg hx ?_
  by_cases hx2 : 1048576 < (x2.length : Int)
  · exact Ev.pos hx2 (Ev.const rfl)
  refine Ev.neg hx2 ?_
  obtain ⟨r, hr, h⟩ := szHerd_ev x0 hv0 1048576 (by omega) (by omega)
  refine hr.bind ?_
  rcases h with rfl | ⟨a, c⟩
  · exact Ev.pos (by omega) (Ev.const rfl)
  · have hs : smallH x0 := ⟨by omega, by omega, by omega⟩
    have ht := toHerd_ev x0 hs
    have he := eqHerd_ev x0 x0 hs
    rw [decide_eq_true rfl] at he
    have hti := laws_toInt64S_ev x1 (by omega)
    have hei := laws_eqInt64S_ev x1 x1 (by omega)
    rw [decide_eq_true rfl] at hei
    have htj := laws_toInt64S_ev x2 (by omega)
    have hej := laws_eqInt64S_ev x2 x2 (by omega)
    rw [decide_eq_true rfl] at hej
    obtain ⟨⟨g, c⟩, hl, h1, h2⟩ := fitGroups_ev hv0 x1 (by omega) x2 (by omega)
    have hl : g.length ≤ 14 := hl
    have hq := same_ev g c (by omega)
    have hm := markH_ev x0 hs 1 (by omega) (by omega)
    have hm2 := laws_markInt64S_ev x1 (1 + x0.Names.length + x0.Eats.length + x0.Foes.length) (by omega) (by have := hs.1; have := hs.2.1; have := hs.2.2; omega)
    have hm3 := laws_markInt64S_ev x2 (1 + x0.Names.length + x0.Eats.length + x0.Foes.length + x1.length) (by omega) (by have := hs.1; have := hs.2.1; have := hs.2.2; omega)
    have hk := laws_markInt64S_ev g 1 (by omega) (by omega)
    have hd := laws_heldInt64S_ev g.length 1 (by omega) (by omega)
    exact Ev.neg (by omega) (ht.bind (hti.bind (htj.bind (h1.bind (ht.bind (hti.bind (htj.bind (h2.bind (Ev.bind hq (Ev.neg (by simp) (ht.bind (he.bind (Ev.neg (by simp) (hti.bind (hei.bind (Ev.neg (by simp) (htj.bind (hej.bind (Ev.neg (by simp) (hm.bind (Ev.bind hm2 (Ev.bind hm3 (Ev.bind (Ev.neg (by show ¬ (1 + (x0.Names.length : Int) + x0.Eats.length + x0.Foes.length + x1.length + x2.length) < 0; omega) hq) (Ev.neg (by simp) (hk.bind (hd.bind (Ev.neg (by omega) (Ev.neg (by simp) (ht.bind (hti.bind (htj.bind (h2.bind (Ev.bind hq (Ev.neg (by simp) (hd.bind (Ev.neg (by omega) (Ev.neg (by simp) (Ev.const rfl))))))))))))))))))))))))))))))))))))))
end Go.Proofs.YtbpjhagilkeilaaDoor
