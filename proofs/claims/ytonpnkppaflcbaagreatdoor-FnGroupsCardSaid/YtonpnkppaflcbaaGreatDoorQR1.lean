
/-
  Plain law: when needs fit into yards: for each number no more needs than yards that have as much.
-/
import Derived.Test.YtonpnkppaflcbaaGreatDoorQI
namespace Go.Proofs.YtonpnkppaflcbaaGreatDoor
open G
set_option linter.unusedVariables false
set_option linter.unusedSimpArgs false
def cge (l : List Int) (v : Int) : Nat := l.countP fun x => decide (v ≤ x)
def FitP (a b : List Int) : Prop := ∀ v, cge a v ≤ cge b v
theorem cge_cons (x : Int) (l : List Int) (v : Int) : cge (x :: l) v = cge l v + if v ≤ x then 1 else 0 := by
  unfold cge
  rw [List.countP_cons]; simp
theorem cge_app (a b : List Int) (v : Int) : cge (a ++ b) v = cge a v + cge b v := List.countP_append
theorem cge_le (l : List Int) (v : Int) : cge l v ≤ l.length := List.countP_le_length
theorem cge_all {l : List Int} {v : Int} (h : ∀ x ∈ l, v ≤ x) : cge l v = l.length := List.countP_eq_length.2 fun x hx => by simpa using h x hx
theorem cge_none {l : List Int} {v : Int} (h : ∀ x ∈ l, x < v) : cge l v = 0 := List.countP_eq_zero.2 fun x hx => by have := h x hx; simp; omega
theorem cge_perm {a b : List Int} (h : a.Perm b) (v : Int) : cge a v = cge b v := h.countP_eq _
theorem cge_mid (a b : List Int) (x v : Int) : cge (a ++ x :: b) v = cge (a ++ b) v + if v ≤ x then 1 else 0 := by
  rw [cge_app, cge_cons, cge_app]; omega
theorem cge_anti (l : List Int) {u v : Int} (h : u ≤ v) : cge l v ≤ cge l u := by
  induction l with
  | nil => exact Nat.le_refl _
  | cons x l ih =>
    rw [cge_cons, cge_cons]
    by_cases h1 : v ≤ x
    · rw [if_pos h1, if_pos (by omega)]; omega
    · rw [if_neg h1]; split <;> omega
theorem fit_nil (b : List Int) : FitP [] b := fun v => Nat.zero_le _
theorem fit_empty {a : List Int} : FitP a [] ↔ a = [] := by
  constructor
  · intro h
    cases a with
    | nil => rfl
    | cons x a =>
      have := h x
      rw [cge_cons, if_pos (Int.le_refl _)] at this
      have h0 : cge [] x = 0 := rfl
      omega
  · rintro rfl; exact fit_nil _
theorem fit_perm {a a' b b' : List Int} (ha : a.Perm a') (hb : b.Perm b') : FitP a b ↔ FitP a' b' := by
  unfold FitP
  constructor <;> intro h v <;> have := h v <;> rw [cge_perm ha, cge_perm hb] at * <;> exact this
theorem fit_take {a a' b b' : List Int} {x y : Int} (ha : ∀ v, cge a v = cge a' v + if v ≤ x then 1 else 0) (hb : ∀ v, cge b v = cge b' v + if v ≤ y then 1 else 0) (hla : a.length = a'.length + 1)
    (hx : ∀ z ∈ a, x ≤ z) (hy : ∀ z ∈ b, y ≤ z) (hxy : x ≤ y) : FitP a b ↔ FitP a' b' := by
  constructor
  · intro h v
    have h1 := h v
    rw [ha, hb] at h1
    by_cases h2 : v ≤ x
    · rw [if_pos h2, if_pos (by omega)] at h1; omega
    · rw [if_neg h2] at h1
      by_cases h3 : v ≤ y
      · have h4 := h x
        rw [cge_all hx] at h4
        have h5 := cge_le b x
        have h6 : cge b v = b.length := cge_all fun z hz => by have := hy z hz; omega
        rw [hb, if_pos h3] at h6
        have h7 := cge_le a' v
        omega
      · rw [if_neg h3] at h1; omega
  · intro h v
    have h1 := h v
    rw [ha, hb]
    by_cases h2 : v ≤ x
    · rw [if_pos h2, if_pos (by omega)]; omega
    · rw [if_neg h2]; split <;> omega
theorem fit_drop {a b b' : List Int} {x y : Int} (hb : ∀ v, cge b v = cge b' v + if v ≤ y then 1 else 0) (hx : ∀ z ∈ a, x ≤ z) (hxy : y < x) : FitP a b ↔ FitP a b' := by
  constructor
  · intro h v
    by_cases h2 : v ≤ y
    · have h3 := h x
      rw [cge_all hx, hb, if_neg (by omega)] at h3
      have h4 := cge_anti b' (show v ≤ x by omega)
      have h5 := cge_le a v
      omega
    · have h1 := h v
      rw [hb, if_neg h2] at h1; omega
  · intro h v
    have h1 := h v
    rw [hb]; omega
/-! ### Sorted lists, place by place -/
theorem cge_point (v : Int) : ∀ a b : List Int, a.length = b.length → (∀ i (h1 : i < a.length) (h2 : i < b.length), a[i] ≤ b[i]) → cge a v ≤ cge b v
  | [], b, hl, _ => Nat.zero_le _
  | x :: a, [], hl, _ => by simp at hl
  | x :: a, y :: b, hl, h => by
    have h0 : x ≤ y := h 0 (by simp) (by simp)
    have ih := cge_point v a b (by simpa using hl) fun i h1 h2 => by
      have := h (i + 1) (by simp; omega) (by simp; omega)
      simpa using this
    rw [cge_cons, cge_cons]
    by_cases h1 : v ≤ x
    · rw [if_pos h1, if_pos (by omega)]; omega
    · rw [if_neg h1]; split <;> omega
theorem sorted_le {s : List Int} (hs : s.Pairwise (· ≤ ·)) {i j : Nat} (hij : i ≤ j) (hj : j < s.length) : s[i] ≤ s[j] := by
  rcases Nat.lt_or_eq_of_le hij with h | h
  · exact (List.pairwise_iff_getElem.1 hs) i j (by omega) hj h
  · subst h; exact Int.le_refl _
theorem fit_sorted {a b : List Int} (sa : a.Pairwise (· ≤ ·)) (sb : b.Pairwise (· ≤ ·)) : FitP a b ↔ (a.length ≤ b.length ∧ ∀ i, i < a.length → a.getD i 0 ≤ b.getD (b.length - a.length + i) 0) := by
  constructor
  · intro h
    have hl : a.length ≤ b.length := by
      cases a with
      | nil => simp
      | cons x a =>
        have h1 := h x
        rw [cge_all (fun z hz => by
          obtain ⟨i, hi, rfl⟩ := List.mem_iff_getElem.1 hz
          exact sorted_le sa (Nat.zero_le i) hi)] at h1
        exact Nat.le_trans h1 (cge_le _ _)
    refine ⟨hl, fun i hi => ?_⟩
    have hk : b.length - a.length + i < b.length := by omega
    have e1 : a.getD i 0 = a[i] := by simp [List.getD_eq_getElem?_getD, hi]
    have e2 : b.getD (b.length - a.length + i) 0 = b[b.length - a.length + i] := by simp [List.getD_eq_getElem?_getD, hk]
    rw [e1, e2]
    refine Classical.byContradiction fun hno => ?_
    have h1 := h a[i]
    have h2 : cge a a[i] = cge (a.take i) a[i] + cge (a.drop i) a[i] := by rw [← cge_app, List.take_append_drop]
    have h3 : cge (a.drop i) a[i] = (a.drop i).length := cge_all fun z hz => by
      obtain ⟨j, hj, rfl⟩ := List.mem_iff_getElem.1 hz
      rw [List.getElem_drop]
      exact sorted_le sa (by omega) _
    have h4 : cge b a[i] = cge (b.take (b.length - a.length + i + 1)) a[i] + cge (b.drop (b.length - a.length + i + 1)) a[i] := by rw [← cge_app, List.take_append_drop]
    have h5 : cge (b.take (b.length - a.length + i + 1)) a[i] = 0 := cge_none fun z hz => by
      obtain ⟨j, hj, rfl⟩ := List.mem_iff_getElem.1 hz
      rw [List.length_take] at hj
      rw [List.getElem_take]
      have := sorted_le sb (show j ≤ b.length - a.length + i by omega) hk
      omega
    have h6 := cge_le (b.drop (b.length - a.length + i + 1)) a[i]
    rw [List.length_drop] at h3 h6
    omega
  · rintro ⟨hl, h⟩ v
    have h1 : cge a v ≤ cge (b.drop (b.length - a.length)) v := by
      refine cge_point v a _ (by rw [List.length_drop]; omega) fun i h1 h2 => ?_
      have := h i h1
      rw [List.length_drop] at h2
      rw [List.getElem_drop]
      have hk : b.length - a.length + i < b.length := by omega
      have e1 : a.getD i 0 = a[i] := by simp [List.getD_eq_getElem?_getD, h1]
      have e2 : b.getD (b.length - a.length + i) 0 = b[b.length - a.length + i] := by simp [List.getD_eq_getElem?_getD, hk]
      rw [e1, e2] at this
      exact this
    have h2 : cge b v = cge (b.take (b.length - a.length)) v + cge (b.drop (b.length - a.length)) v := by rw [← cge_app, List.take_append_drop]
    omega
/-! ### The program's look -/
theorem canFit_loop {a b : List Int} (hl : a.length ≤ b.length) (hb : b.length ≤ 1048576) : ∀ i, i ≤ a.length → ∃ r : Bool ⊕ Unit, Ev (fun k => impl_canFit.l1 a b k (i : Int)) r ∧ (r = .inr () ∨ r = .inl false) ∧ (r = .inr () ↔ ∀ j, i ≤ j → j < a.length → a.getD j 0 ≤ b.getD (b.length - a.length + j) 0) := by
  have hw : (IntKind.i64.wrap ((b.length : Int) - (a.length : Int))).toNat = b.length - a.length := by rw [w64 (by omega) (by omega)]; omega
  refine upL ?_ ?_
  · exact ⟨.inr (), Ev.step (fun k => impl_canFit.l1.eq_2 _ _ _ _) (Ev.neg (by omega) (Ev.const rfl)), .inl rfl, ⟨fun _ j h1 h2 => by omega, fun _ => rfl⟩⟩
  · intro i hi ih
    have hk : b.length - a.length + i < b.length := by omega
    have e1 : a.getD i 0 = a[i] := by simp [List.getD_eq_getElem?_getD, hi]
    have e2 : b.getD (b.length - a.length + i) 0 = b[b.length - a.length + i] := by simp [List.getD_eq_getElem?_getD, hk]
    have g2 : getI ((b.drop ((IntKind.i64.wrap ((b.length : Int) - (a.length : Int))).toNat)).take (b.length - ((IntKind.i64.wrap ((b.length : Int) - (a.length : Int))).toNat))) (i : Int) = some b[b.length - a.length + i] := by
      rw [hw, getI_nat (by simp; omega), List.getElem_take, List.getElem_drop]
    obtain ⟨r, r1, r2, r3⟩ := ih
    rw [← wsucc hi (by omega)] at r1
    by_cases h : b[b.length - a.length + i] < a[i]
    · refine ⟨.inl false, Ev.step (fun k => impl_canFit.l1.eq_2 _ _ _ _) (Ev.pos (by omega) (Ev.bind (Ev.const (getI_nat hi)) (Ev.bind (Ev.const g2) (Ev.pos h (Ev.const rfl))))), .inr rfl, ⟨(fun h => by cases h), fun hall => ?_⟩⟩
      have := hall i (Nat.le_refl _) hi
      rw [e1, e2] at this
      omega
    · refine ⟨r, Ev.step (fun k => impl_canFit.l1.eq_2 _ _ _ _) (Ev.pos (by omega) (Ev.bind (Ev.const (getI_nat hi)) (Ev.bind (Ev.const g2) (Ev.neg h r1)))), r2, ?_⟩
      rw [r3]
      constructor
      · intro hall j h1 h2
        rcases Nat.lt_or_eq_of_le h1 with h3 | h3
        · exact hall j h3 h2
        · subst h3; rw [e1, e2]; omega
      · intro hall j h1 h2
        exact hall j (by omega) h2
theorem canFit_ev {a b : List Int} (ha : a.length ≤ 1048576) (hb : b.length ≤ 1048576) : ∃ r : Bool, Ev (fun k => impl_canFit.f k a b) r ∧ (r = true ↔ FitP a b) := by
  have hp := fit_perm (sortI_perm a) (sortI_perm b)
  have hs := fit_sorted (sortI_sorted a) (sortI_sorted b)
  have la := sortI_len a
  have lb := sortI_len b
  have c1 : Ev (fun _ => slices_Clone_int64_int64.f a) a := Ev.const (by unfold slices_Clone_int64_int64.f; rw [chkT (by simp; omega)]; rfl)
  have c2 : Ev (fun _ => slices_Clone_int64_int64.f b) b := Ev.const (by unfold slices_Clone_int64_int64.f; rw [chkT (by simp; omega)]; rfl)
  have s1 : Ev (fun _ => slices_Sort_int64_int64.f a) (sortI a) := Ev.const (by unfold slices_Sort_int64_int64.f; rw [chkT (by omega)]; rfl)
  have s2 : Ev (fun _ => slices_Sort_int64_int64.f b) (sortI b) := Ev.const (by unfold slices_Sort_int64_int64.f; rw [chkT (by omega)]; rfl)
  by_cases hl : (sortI a).length ≤ (sortI b).length
  · obtain ⟨r, r1, r2, r3⟩ := canFit_loop hl (by omega) 0 (Nat.zero_le _)
    have cc : chk ((0 : Int) ≤ (IntKind.i64.wrap (((sortI b).length : Int) - ((sortI a).length : Int))) ∧ (IntKind.i64.wrap (((sortI b).length : Int) - ((sortI a).length : Int))) ≤ ((sortI b).length : Int) ∧ ((sortI b).length : Int) ≤ ((sortI b).length : Int)) = some () := chkT (by rw [w64 (by omega) (by omega)]; omega)
    have main : ∀ q, Ev (fun k => (impl_canFit.l1 (sortI a) (sortI b) k 0).bind fun s123 => match s123 with | .inl r => some r | .inr _ => some true) q → Ev (fun k => impl_canFit.f k a b) q := fun q hq => c1.bind (c2.bind (s1.bind (s2.bind (Ev.neg (by omega) (Ev.bind (Ev.const cc) hq)))))
    rcases r2 with rfl | rfl
    · exact ⟨true, main _ (r1.bind (Ev.const rfl)), ⟨fun _ => hp.1 (hs.2 ⟨hl, fun i hi => (r3.1 rfl) i (Nat.zero_le _) hi⟩), fun _ => rfl⟩⟩
    · refine ⟨false, main _ (r1.bind (Ev.const rfl)), ⟨(fun h => by cases h), fun h => ?_⟩⟩
      have := r3.2 fun j _ hj => (hs.1 (hp.2 h)).2 j hj
      cases this
  · refine ⟨false, c1.bind (c2.bind (s1.bind (s2.bind (Ev.pos (by omega) (Ev.const rfl))))), ⟨(fun h => by cases h), fun h => ?_⟩⟩
    exact absurd (hs.1 (hp.2 h)).1 hl
end Go.Proofs.YtonpnkppaflcbaaGreatDoor
