/-
  Plain laws: marks in meadows; a day's grass.
-/
import Derived.Test.YtfdfchbcenoabaaQD
namespace Go.Proofs.Ytfdfchbcenoabaa
open G
set_option linter.unusedVariables false
set_option linter.unusedSimpArgs false

def numbM (m : Int) (n : Nat) : List Meadow := (List.range n).map fun j : Nat => ⟨IntKind.i16.wrap (m + 3 * (j : Int)), IntKind.i16.wrap (m + 3 * (j : Int) + 1), IntKind.i16.wrap (m + 3 * (j : Int) + 2)⟩
theorem numbM_len (m : Int) (n : Nat) : (numbM m n).length = n := by simp [numbM]
theorem getI_set {α : Type} {xs : List α} {i : Nat} (h : i < xs.length) (x : α) : getI (xs.set i x) (i : Int) = some x := by
  rw [getI_nat (by simpa using h)]; simp
theorem take_set_succ {α : Type} {xs : List α} {i : Nat} (h : i < xs.length) (x : α) : (xs.set i x).take (i + 1) = xs.take i ++ [x] := by
  rw [List.set_eq_take_append_cons_drop, if_pos h, List.take_append, List.length_take, Nat.min_eq_left (by omega), show i + 1 - i = 1 by omega, List.take_of_length_le (by rw [List.length_take]; omega)]
  simp
theorem drop_set_succ {α : Type} {xs : List α} {i : Nat} (h : i < xs.length) (x : α) : (xs.set i x).drop (i + 1) = xs.drop (i + 1) := by
  rw [List.set_eq_take_append_cons_drop, if_pos h, List.drop_append, List.length_take, Nat.min_eq_left (by omega), show i + 1 - i = 1 by omega, List.drop_of_length_le (by rw [List.length_take]; omega)]
  simp
theorem take_succ_get {α : Type} {xs : List α} {i : Nat} (h : i < xs.length) : xs.take (i + 1) = xs.take i ++ [xs[i]] := by
  rw [List.take_add_one, List.getElem?_eq_getElem h]; rfl
theorem markMeadowS_ev (xs : List Meadow) (m : Int) (h0 : 0 ≤ m) (hm : m + 3 * (xs.length : Int) ≤ 4294967296) : Ev (fun k => laws_markMeadowS.f k xs m) (m + 3 * (xs.length : Int), numbM m xs.length) := by
  have hnl := numbM_len m xs.length
  have key : ∀ i, i ≤ xs.length → ∀ ys : List Meadow, ys.length = xs.length → ys.take i = (numbM m xs.length).take i → Ev (fun k => laws_markMeadowS.l1 xs k ys (m + 3 * (i : Int)) (i : Int)) (numbM m xs.length, m + 3 * (xs.length : Int)) := by
    refine upL ?_ ?_
    · intro ys hl ht
      refine Ev.step (fun k => laws_markMeadowS.l1.eq_2 _ _ _ _ _) ?_
      refine Ev.neg (by omega) (Ev.const ?_)
      rw [List.take_of_length_le (by omega), List.take_of_length_le (by omega)] at ht
      rw [ht]
    · intro i hi ih ys hl ht
      have hil : i < ys.length := by omega
      refine Ev.step (fun k => laws_markMeadowS.l1.eq_2 _ _ _ _ _) ?_
      refine Ev.pos (by omega) ?_
      simp only [getI_nat hil, Option.bind_some, Int.toNat_natCast, getI_set hil, List.set_set, wsucc hi (by omega), w64 (show -9223372036854775808 ≤ m + 3 * (i : Int) + 1 by omega) (by omega),
        w64 (show -9223372036854775808 ≤ m + 3 * (i : Int) + 1 + 1 by omega) (by omega), w64 (show -9223372036854775808 ≤ m + 3 * (i : Int) + 1 + 1 + 1 by omega) (by omega)]
      have := ih (ys.set i ⟨IntKind.i16.wrap (m + 3 * (i : Int)), IntKind.i16.wrap (m + 3 * (i : Int) + 1), IntKind.i16.wrap (m + 3 * (i : Int) + 1 + 1)⟩) (by simpa using hl) (by
        rw [take_set_succ hil, take_succ_get (by omega), ht]
        simp [numbM, Int.add_assoc])
      rw [show m + 3 * ((i + 1 : Nat) : Int) = m + 3 * (i : Int) + 1 + 1 + 1 by omega] at this
      exact this
  have := key 0 (Nat.zero_le _) xs rfl (by simp)
  simp only [Int.natCast_zero, Int.mul_zero, Int.add_zero] at this
  exact this.bind (Ev.const rfl)
theorem heldMeadowS_ev (n : Nat) (m : Int) (h0 : 0 ≤ m) (hm : m + 3 * (n : Int) ≤ 4294967296) : Ev (fun k => laws_heldMeadowS.f k (numbM m n) m) (m + 3 * (n : Int)) := by
  have hl := numbM_len m n
  have key : ∀ i, i ≤ n → Ev (fun k => laws_heldMeadowS.l1 (numbM m n) k (m + 3 * (i : Int)) (i : Int)) (.inr (m + 3 * (n : Int))) := by
    refine upL ?_ ?_
    · refine Ev.step (fun k => laws_heldMeadowS.l1.eq_2 _ _ _ _) ?_
      exact Ev.neg (by omega) (Ev.const rfl)
    · intro i hi ih
      have hil : i < (numbM m n).length := by omega
      have e : (numbM m n)[i] = ⟨IntKind.i16.wrap (m + 3 * (i : Int)), IntKind.i16.wrap (m + 3 * (i : Int) + 1), IntKind.i16.wrap (m + 3 * (i : Int) + 2)⟩ := by simp [numbM]
      refine Ev.step (fun k => laws_heldMeadowS.l1.eq_2 _ _ _ _) ?_
      refine Ev.pos (by omega) ?_
      simp only [getI_nat hil, Option.bind_some, e, wsucc hi (by omega), w64 (show -9223372036854775808 ≤ m + 3 * (i : Int) + 1 by omega) (by omega),
        w64 (show -9223372036854775808 ≤ m + 3 * (i : Int) + 1 + 1 by omega) (by omega), w64 (show -9223372036854775808 ≤ m + 3 * (i : Int) + 1 + 1 + 1 by omega) (by omega)]
      refine Ev.neg (by simp) (Ev.neg (by simp) (Ev.neg (by simp [Int.add_assoc]) ?_))
      rw [show m + 3 * ((i + 1 : Nat) : Int) = m + 3 * (i : Int) + 1 + 1 + 1 by omega] at ih
      exact ih
  have := key 0 (Nat.zero_le _)
  simp only [Int.natCast_zero, Int.mul_zero, Int.add_zero] at this
  exact this.bind (Ev.const rfl)

/-! ### A day -/
def dayM (x : Meadow) : Meadow := ⟨if x.Most < x.Grass + x.Grows then x.Most else x.Grass + x.Grows, x.Grows, x.Most⟩
theorem dayM_ok {x : Meadow} (h : okM x = true) : okM (dayM x) = true := by
  obtain ⟨a, b, c⟩ := okM_parts h
  unfold okM dayM
  simp only [Bool.and_eq_true, decide_eq_true_eq]
  refine ⟨a, ?_, c⟩
  split <;> omega
/-- What is eaten at place i, then a day's growth. -/
def eatM (xs : List Meadow) (i : Nat) (a : Int) : List Meadow := match xs[i]? with
  | some x => xs.set i ⟨x.Grass - a, x.Grows, x.Most⟩
  | none => xs
def dayL (xs : List Meadow) (i : Nat) (a : Int) : List Meadow := (eatM xs i a).map dayM
theorem eatM_len (xs : List Meadow) (i : Nat) (a : Int) : (eatM xs i a).length = xs.length := by unfold eatM; split <;> simp
theorem dayL_len (xs : List Meadow) (i : Nat) (a : Int) : (dayL xs i a).length = xs.length := by unfold dayL; rw [List.length_map, eatM_len]
theorem eatM_at {xs : List Meadow} {i : Nat} (hi : i < xs.length) (a : Int) : eatM xs i a = xs.set i ⟨xs[i].Grass - a, xs[i].Grows, xs[i].Most⟩ := by unfold eatM; rw [List.getElem?_eq_getElem hi]
theorem eatM_ok {xs : List Meadow} (hok : ∀ x ∈ xs, okM x = true) {i : Nat} (hi : i < xs.length) {a : Int} (h0 : 0 ≤ a) (ha : a ≤ xs[i].Grass) : ∀ x ∈ eatM xs i a, okM x = true := by
  rw [eatM_at hi]
  intro x hx
  rcases List.mem_or_eq_of_mem_set hx with hx | rfl
  · exact hok x hx
  · obtain ⟨a1, b1, c1⟩ := okM_parts (hok _ (List.getElem_mem hi))
    unfold okM
    simp only [Bool.and_eq_true, decide_eq_true_eq]
    exact ⟨a1, ⟨by omega, by omega⟩, c1⟩
theorem dayL_ok {xs : List Meadow} (hok : ∀ x ∈ xs, okM x = true) {i : Nat} (hi : i < xs.length) {a : Int} (h0 : 0 ≤ a) (ha : a ≤ xs[i].Grass) : ∀ x ∈ dayL xs i a, okM x = true := by
  intro x hx
  obtain ⟨y, hy, rfl⟩ := List.mem_map.1 hx
  exact dayM_ok (eatM_ok hok hi h0 ha y hy)
theorem okM_i64 {x : Meadow} (h : okM x = true) : IntKind.i64.wrap x.Most = x.Most ∧ IntKind.i64.wrap x.Grass = x.Grass ∧ IntKind.i64.wrap x.Grows = x.Grows ∧ IntKind.i64.wrap (x.Grass + x.Grows) = x.Grass + x.Grows ∧ IntKind.i16.wrap (x.Grass + x.Grows) = x.Grass + x.Grows := by
  obtain ⟨a, b, c⟩ := okM_parts h
  refine ⟨w64 (by omega) (by omega), w64 (by omega) (by omega), w64 (by omega) (by omega), w64 (by omega) (by omega), w16 (by omega) (by omega)⟩
theorem daySpec_loop (n : Nat) (hn : n ≤ 1048576) : ∀ i, i ≤ n → ∀ ys : List Meadow, ys.length = n → (∀ y ∈ ys.drop i, okM y = true) → Ev (fun k => spec_l07Day.l1 k ys (i : Int)) (ys.take i ++ (ys.drop i).map dayM) := by
  refine upL ?_ ?_
  · intro ys hl hok
    refine Ev.step (fun k => spec_l07Day.l1.eq_2 _ _ _) (Ev.neg (by omega) (Ev.const ?_))
    rw [List.take_of_length_le (by omega), List.drop_of_length_le (by omega)]; simp
  · intro i hi ih ys hl hok
    have hil : i < ys.length := by omega
    rw [List.drop_eq_getElem_cons hil] at hok
    have ho := hok ys[i] List.mem_cons_self
    obtain ⟨a, b, c⟩ := okM_parts ho
    obtain ⟨e1, e2, e3, e4, e5⟩ := okM_i64 ho
    refine Ev.step (fun k => spec_l07Day.l1.eq_2 _ _ _) (Ev.pos (by omega) ?_)
    have hmin : spec_l00Min.f ys[i].Most (ys[i].Grass + ys[i].Grows) = some (dayM ys[i]).Grass := by
      unfold spec_l00Min.f dayM
      simp only
      split <;> rfl
    have hw : IntKind.i16.wrap (dayM ys[i]).Grass = (dayM ys[i]).Grass := by
      obtain ⟨a', b', c'⟩ := okM_parts (dayM_ok ho)
      have : (dayM ys[i]).Most = ys[i].Most := rfl
      exact w16 (by omega) (by omega)
    simp only [getI_nat hil, Option.bind_some, e1, e2, e3, e4, hmin, hw, Int.toNat_natCast, wsucc hi (by omega)]
    have := ih (ys.set i (dayM ys[i])) (by simpa using hl) (by rw [drop_set_succ hil]; exact fun y hy => hok y (List.mem_cons_of_mem _ hy))
    rw [take_set_succ hil, drop_set_succ hil] at this
    rw [List.drop_eq_getElem_cons hil, List.map_cons]
    rw [List.append_assoc] at this
    exact this
theorem l07Day_ev {xs : List Meadow} (hok : ∀ x ∈ xs, okM x = true) (hx : xs.length ≤ 1048576) {i : Nat} (hi : i < xs.length) {a : Int} (h0 : 0 ≤ a) (ha : a ≤ xs[i].Grass) : Ev (fun k => spec_l07Day.f k xs a (i : Int)) (dayL xs i a) := by
  obtain ⟨p, q, r⟩ := okM_parts (hok _ (List.getElem_mem hi))
  have e1 : IntKind.i16.wrap a = a := w16 (by omega) (by omega)
  have e2 : IntKind.i16.wrap (xs[i].Grass - a) = xs[i].Grass - a := w16 (by omega) (by omega)
  have hl := daySpec_loop xs.length hx 0 (Nat.zero_le _) (eatM xs i a) (eatM_len _ _ _) (by rw [List.drop_zero]; exact eatM_ok hok hi h0 ha)
  rw [List.take_zero, List.drop_zero, List.nil_append, eatM_at hi] at hl
  refine Ev.bind (Ev.const (chk_t (by simp; omega))) ?_
  simp only [List.nil_append, getI_nat hi, Option.bind_some, e1, e2, Int.toNat_natCast]
  refine Ev.bind hl (Ev.const ?_)
  unfold dayL
  rw [eatM_at hi]
theorem dayImpl_loop (a1 a2 : Int) (t2 : List Meadow) (t5 t6 : Meadow) (n : Nat) (hn : n ≤ 1048576) (ht : t2.length = n) : ∀ i, i ≤ n → ∀ ys : List Meadow, ys.length = n → (∀ y ∈ ys.drop i, okM y = true) → Ev (fun k => impl_behind.l1 a1 a2 t2 t5 t6 k ys (i : Int)) (ys.take i ++ (ys.drop i).map dayM) := by
  refine upL ?_ ?_
  · intro ys hl hok
    refine Ev.step (fun k => impl_behind.l1.eq_2 _ _ _ _ _ _ _ _) (Ev.neg (by simp; omega) (Ev.const ?_))
    rw [List.take_of_length_le (by omega), List.drop_of_length_le (by omega)]; simp
  · intro i hi ih ys hl hok
    have hil : i < ys.length := by omega
    rw [List.drop_eq_getElem_cons hil] at hok
    have ho := hok ys[i] List.mem_cons_self
    obtain ⟨e1, e2, e3, e4, e5⟩ := okM_i64 ho
    refine Ev.step (fun k => impl_behind.l1.eq_2 _ _ _ _ _ _ _ _) (Ev.pos (by simp; omega) ?_)
    simp only [getI_nat hil, Option.bind_some, e5, Int.toNat_natCast, wsucc hi (by omega)]
    have := ih (ys.set i (dayM ys[i])) (by simpa using hl) (by rw [drop_set_succ hil]; exact fun y hy => hok y (List.mem_cons_of_mem _ hy))
    rw [take_set_succ hil, drop_set_succ hil] at this
    rw [List.drop_eq_getElem_cons hil, List.map_cons]
    rw [List.append_assoc] at this
    exact this
theorem behind_ev {xs : List Meadow} (hok : ∀ x ∈ xs, okM x = true) (hx : xs.length ≤ 1048576) {i : Nat} (hi : i < xs.length) {a : Int} (h0 : 0 ≤ a) (ha : a ≤ xs[i].Grass) : Ev (fun k => impl_behind.f k xs a (i : Int)) (dayL xs i a, true) := by
  obtain ⟨p, q, r⟩ := okM_parts (hok _ (List.getElem_mem hi))
  have e1 : IntKind.i16.wrap a = a := w16 (by omega) (by omega)
  have e2 : IntKind.i16.wrap (xs[i].Grass - a) = xs[i].Grass - a := w16 (by omega) (by omega)
  have e3 : IntKind.i64.wrap xs[i].Grass = xs[i].Grass := w64 (by omega) (by omega)
  have hl := dayImpl_loop a (i : Int) xs xs[i] xs[i] xs.length hx rfl 0 (Nat.zero_le _) (eatM xs i a) (eatM_len _ _ _) (by rw [List.drop_zero]; exact eatM_ok hok hi h0 ha)
  rw [List.take_zero, List.drop_zero, List.nil_append, eatM_at hi] at hl
  refine Ev.bind (Ev.const (getI_nat hi)) ?_
  rw [e3]
  refine Ev.neg (by omega) ?_
  have hcl : slices_Clone_impl_Meadow_impl_Meadow.f xs = some xs := by
    unfold slices_Clone_impl_Meadow_impl_Meadow.f
    rw [chk_t (by simp; omega)]; rfl
  simp only [hcl, getI_nat hi, Option.bind_some, e1, e2, Int.toNat_natCast]
  refine Ev.bind hl (Ev.const ?_)
  unfold dayL
  rw [eatM_at hi]
theorem behind_no {xs : List Meadow} (hok : ∀ x ∈ xs, okM x = true) {i : Nat} (hi : i < xs.length) {a : Int} (ha : xs[i].Grass < a) : Ev (fun k => impl_behind.f k xs a (i : Int)) ([], false) := by
  obtain ⟨p, q, r⟩ := okM_parts (hok _ (List.getElem_mem hi))
  have e3 : IntKind.i64.wrap xs[i].Grass = xs[i].Grass := w64 (by omega) (by omega)
  refine Ev.bind (Ev.const (getI_nat hi)) ?_
  rw [e3]
  exact Ev.pos ha (Ev.const rfl)

end Go.Proofs.Ytfdfchbcenoabaa
