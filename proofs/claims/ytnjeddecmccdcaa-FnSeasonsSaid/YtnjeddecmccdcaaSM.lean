/-
  Plain laws: meadows: when they are in order, the codes of what is asked, days.
-/
import Derived.Test.YtnjeddecmccdcaaQO
namespace Go.Proofs.Ytnjeddecmccdcaa
open G
set_option linter.unusedVariables false
set_option linter.unusedSimpArgs false

def VMeadow (x : Meadow) : Prop := (inI .i16) x.Grass ∧ (inI .i16) x.Grows ∧ (inI .i16) x.Most


theorem i16_64 {x : Int} (h : inI .i16 x) : IntKind.i64.wrap x = x := by
  have h1 : IntKind.i16.min = -32768 := by decide
  have h2 : IntKind.i16.max = 32767 := by decide
  obtain ⟨a, b⟩ := h
  rw [h1] at a; rw [h2] at b
  exact w64 (by omega) (by omega)
def okM (x : Meadow) : Bool := decide (0 ≤ x.Most ∧ x.Most ≤ 1000) && (decide (0 ≤ x.Grass ∧ x.Grass ≤ x.Most) && decide (0 ≤ x.Grows ∧ x.Grows ≤ x.Most))
theorem l07Ok_loop (xs : List Meadow) (hv : ∀ x ∈ xs, VMeadow x) (hx : xs.length ≤ 9223372036854775806) : ∀ i, i ≤ xs.length → Ev (fun k => spec_l07Ok.l1 xs k (i : Int)) (if (xs.drop i).all okM = true then .inr () else .inl false) := by
  refine upL ?_ ?_
  · refine Ev.step (fun k => spec_l07Ok.l1.eq_2 _ _ _) ?_
    refine Ev.neg (by omega) (Ev.const ?_)
    simp
  · intro i hi ih
    refine Ev.step (fun k => spec_l07Ok.l1.eq_2 _ _ _) ?_
    refine Ev.pos (by omega) ?_
    obtain ⟨v1, v2, v3⟩ := hv _ (List.getElem_mem hi)
    simp only [getI_nat hi, Option.bind_some, spec_l01Grass.f, l00In_eq, i16_64 v1, i16_64 v2, i16_64 v3, wsucc hi (by omega), List.drop_eq_getElem_cons hi, List.all_cons]
    by_cases h1 : 0 ≤ xs[i].Most ∧ xs[i].Most ≤ 1000
    · by_cases h2 : 0 ≤ xs[i].Grass ∧ xs[i].Grass ≤ xs[i].Most
      · by_cases h3 : 0 ≤ xs[i].Grows ∧ xs[i].Grows ≤ xs[i].Most
        · simpa [okM, h1, h2, h3] using ih
        · simp [okM, h1, h2, h3]; exact Ev.const rfl
      · simp [okM, h1, h2]; exact Ev.const rfl
    · simp [okM, h1]; exact Ev.const rfl
theorem l07Ok_ev (xs : List Meadow) (hv : ∀ x ∈ xs, VMeadow x) (hx : xs.length ≤ 9223372036854775806) : Ev (fun k => spec_l07Ok.f k xs) (xs.all okM && decide (1 ≤ xs.length ∧ xs.length ≤ 6)) := by
  refine Ev.bind (l07Ok_loop xs hv hx 0 (Nat.zero_le _)) ?_
  rw [List.drop_zero]
  cases xs.all okM
  · exact Ev.const rfl
  · refine Ev.const ?_
    simp only [if_true, l00In_eq, Option.bind_some, Bool.true_and]
    congr 2
    simp only [eq_iff_iff]
    omega
theorem indexM_loop (xs : List Meadow) {g : Meadow → Option Bool} {p : Meadow → Bool} (hg : ∀ x ∈ xs, g x = some (p x)) (hx : xs.length ≤ 9223372036854775806) : ∀ i, i ≤ xs.length → ∃ r, Ev (fun k => slices_IndexFunc_impl_Meadow_impl_Meadow.l1 xs g k (i : Int)) r ∧
    ((r = .inr () ∧ (xs.drop i).any p = false) ∨ ∃ j : Int, 0 ≤ j ∧ r = .inl j ∧ (xs.drop i).any p = true) := by
  refine upL ?_ ?_
  · refine ⟨.inr (), Ev.step (fun k => slices_IndexFunc_impl_Meadow_impl_Meadow.l1.eq_2 _ _ _ _) ?_, .inl ⟨rfl, by simp⟩⟩
    exact Ev.neg (by omega) (Ev.const rfl)
  · rintro i hi ⟨r, ih, h⟩
    by_cases hb : p xs[i] = true
    · refine ⟨.inl (i : Int), Ev.step (fun k => slices_IndexFunc_impl_Meadow_impl_Meadow.l1.eq_2 _ _ _ _) ?_, .inr ⟨i, by omega, rfl, ?_⟩⟩
      · refine Ev.pos (by omega) ?_
        simp only [getI_nat hi, Option.bind_some, hg _ (List.getElem_mem hi), hb, if_true]
        exact Ev.const rfl
      · rw [List.drop_eq_getElem_cons hi, List.any_cons, hb, Bool.true_or]
    · refine ⟨r, Ev.step (fun k => slices_IndexFunc_impl_Meadow_impl_Meadow.l1.eq_2 _ _ _ _) ?_, ?_⟩
      · refine Ev.pos (by omega) ?_
        simp only [getI_nat hi, Option.bind_some, hg _ (List.getElem_mem hi), wsucc hi (by omega)]
        exact Ev.neg hb ih
      · rw [List.drop_eq_getElem_cons hi, List.any_cons]
        simp only [Bool.not_eq_true] at hb
        rw [hb, Bool.false_or]
        exact h
theorem containsM_ev (xs : List Meadow) {g : Meadow → Option Bool} {p : Meadow → Bool} (hg : ∀ x ∈ xs, g x = some (p x)) (hx : xs.length ≤ 9223372036854775806) : Ev (fun k => slices_ContainsFunc_impl_Meadow_impl_Meadow.f k xs g) (xs.any p) := by
  obtain ⟨r, hr, h⟩ := indexM_loop xs hg hx 0 (Nat.zero_le _)
  rw [List.drop_zero] at h
  rcases h with ⟨rfl, h⟩ | ⟨j, hj, rfl, h⟩
  · rw [h]; exact Ev.bind (Ev.bind hr (Ev.const rfl)) (Ev.const rfl)
  · rw [h]; exact Ev.bind (Ev.bind hr (Ev.const rfl)) (Ev.const (by simp [hj]))
theorem validIn_eq (x : Meadow) (v : VMeadow x) : impl_ValidMeadows_1.f x = some (!okM x) := by
  obtain ⟨v1, v2, v3⟩ := v
  unfold impl_ValidMeadows_1.f
  simp only [within_eq, i16_64 v1, i16_64 v2, i16_64 v3, Option.bind_some]
  by_cases h1 : 0 ≤ x.Most ∧ x.Most ≤ 1000
  · by_cases h2 : 0 ≤ x.Grass ∧ x.Grass ≤ x.Most
    · by_cases h3 : 0 ≤ x.Grows ∧ x.Grows ≤ x.Most <;> simp [okM, h1, h2, h3]
    · simp [okM, h1, h2]
  · simp [okM, h1]
theorem implValid_ev (xs : List Meadow) (hv : ∀ x ∈ xs, VMeadow x) (hx : xs.length ≤ 9223372036854775806) : Ev (fun k => impl_ValidMeadows.f k xs) (xs.all okM && decide (1 ≤ xs.length ∧ xs.length ≤ 6)) := by
  have h1 : ((1 : Int) ≤ (xs.length : Int) ∧ (xs.length : Int) ≤ 6) ↔ (1 ≤ xs.length ∧ xs.length ≤ 6) := by omega
  refine Ev.congr (f := fun k => if decide (1 ≤ xs.length ∧ xs.length ≤ 6) = true then ((slices_ContainsFunc_impl_Meadow_impl_Meadow.f k xs impl_ValidMeadows_1.f).bind fun t3 => some (!t3)) else some false) ?_ (fun k => by
    unfold impl_ValidMeadows.f impl_size_impl_Meadow.f
    simp only [Option.bind_some, within_eq, h1])
  have ha : xs.any (fun x => !okM x) = !xs.all okM := by rw [List.not_all_eq_any_not]
  cases hd : decide (1 ≤ xs.length ∧ xs.length ≤ 6)
  · rw [Bool.and_false]; exact Ev.const rfl
  · refine Ev.pos rfl (Ev.bind (containsM_ev xs (fun x hx => validIn_eq x (hv x hx)) hx) (Ev.const ?_))
    rw [ha, Bool.not_not, Bool.and_true]



theorem indexI_loop (xs : List Int) {g : Int → Option Bool} {p : Int → Bool} (hg : ∀ x ∈ xs, g x = some (p x)) (hx : xs.length ≤ 9223372036854775806) : ∀ i, i ≤ xs.length → ∃ r, Ev (fun k => slices_IndexFunc_int64_int64.l1 xs g k (i : Int)) r ∧
    ((r = .inr () ∧ (xs.drop i).any p = false) ∨ ∃ j : Int, 0 ≤ j ∧ r = .inl j ∧ (xs.drop i).any p = true) := by
  refine upL ?_ ?_
  · refine ⟨.inr (), Ev.step (fun k => slices_IndexFunc_int64_int64.l1.eq_2 _ _ _ _) ?_, .inl ⟨rfl, by simp⟩⟩
    exact Ev.neg (by omega) (Ev.const rfl)
  · rintro i hi ⟨r, ih, h⟩
    by_cases hb : p xs[i] = true
    · refine ⟨.inl (i : Int), Ev.step (fun k => slices_IndexFunc_int64_int64.l1.eq_2 _ _ _ _) ?_, .inr ⟨i, by omega, rfl, ?_⟩⟩
      · refine Ev.pos (by omega) ?_
        simp only [getI_nat hi, Option.bind_some, hg _ (List.getElem_mem hi), hb, if_true]
        exact Ev.const rfl
      · rw [List.drop_eq_getElem_cons hi, List.any_cons, hb, Bool.true_or]
    · refine ⟨r, Ev.step (fun k => slices_IndexFunc_int64_int64.l1.eq_2 _ _ _ _) ?_, ?_⟩
      · refine Ev.pos (by omega) ?_
        simp only [getI_nat hi, Option.bind_some, hg _ (List.getElem_mem hi), wsucc hi (by omega)]
        exact Ev.neg hb ih
      · rw [List.drop_eq_getElem_cons hi, List.any_cons]
        simp only [Bool.not_eq_true] at hb
        rw [hb, Bool.false_or]
        exact h
theorem containsI_ev (xs : List Int) {g : Int → Option Bool} {p : Int → Bool} (hg : ∀ x ∈ xs, g x = some (p x)) (hx : xs.length ≤ 9223372036854775806) : Ev (fun k => slices_ContainsFunc_int64_int64.f k xs g) (xs.any p) := by
  obtain ⟨r, hr, h⟩ := indexI_loop xs hg hx 0 (Nat.zero_le _)
  rw [List.drop_zero] at h
  rcases h with ⟨rfl, h⟩ | ⟨j, hj, rfl, h⟩
  · rw [h]; exact Ev.bind (Ev.bind hr (Ev.const rfl)) (Ev.const rfl)
  · rw [h]; exact Ev.bind (Ev.bind hr (Ev.const rfl)) (Ev.const (by simp [hj]))

def vM (xs : List Meadow) : Bool := xs.all okM && decide (1 ≤ xs.length ∧ xs.length ≤ 6)
def askC (xs : List Meadow) (a : Int) (b : Bool) : Int := if vM xs = false then 1 else if ¬ (1 ≤ a ∧ a ≤ 1000) then 2 else if b = false then 2 else 0
theorem asked_ev (xs : List Meadow) (hv : ∀ x ∈ xs, VMeadow x) (hx : xs.length ≤ 1048576) (a : Int) (b : Bool) : Ev (fun k => spec_l07Asked.f k xs a b) (askC xs a b) := by
  refine Ev.bind (l07Ok_ev xs hv (by omega)) ?_
  unfold askC vM
  cases (xs.all okM && decide (1 ≤ xs.length ∧ xs.length ≤ 6))
  · exact Ev.const rfl
  · refine Ev.const ?_
    simp only [l00In_eq, Option.bind_some]
    by_cases h : 1 ≤ a ∧ a ≤ 1000
    · cases b <;> simp [h]
    · simp [h]
/-- The place of a meadow. -/
def inM (xs : List Meadow) (y : Int) : Bool := decide (0 ≤ y ∧ y ≤ (xs.length : Int) - 1)
theorem meadowCode1_eq (xs : List Meadow) (hx : xs.length ≤ 1048576) (y : Int) : impl_meadowCode_1.f xs y = some (!inM xs y) := by
  unfold impl_meadowCode_1.f impl_size_impl_Meadow.f
  simp only [Option.bind_some, within_eq]
  rw [w64 (by omega) (by omega)]
  rfl
theorem meadowCode_ev (xs : List Meadow) (hv : ∀ x ∈ xs, VMeadow x) (hx : xs.length ≤ 1048576) (a : Int) (ys : List Int) (hy : ys.length ≤ 1048576) : Ev (fun k => impl_meadowCode.f k xs a ys) (askC xs a (ys.all (inM xs))) := by
  refine Ev.bind (implValid_ev xs hv (by omega)) ?_
  unfold askC vM
  cases (xs.all okM && decide (1 ≤ xs.length ∧ xs.length ≤ 6))
  · exact Ev.const rfl
  · refine Ev.neg (by simp) (Ev.bind (containsI_ev ys (fun y _ => meadowCode1_eq xs hx y) (by omega)) (Ev.const ?_))
    have ha : ys.any (fun y => !inM xs y) = !ys.all (inM xs) := by rw [List.not_all_eq_any_not]
    rw [ha]
    simp only [within_eq, Option.bind_some, impl_unless.f]
    by_cases h : 1 ≤ a ∧ a ≤ 1000
    · cases ys.all (inM xs) <;> simp [h]
    · simp [h]
theorem firstOf_ev (a b : Int) : Ev (fun k => impl_firstOf.f k [a, b]) (if a ≠ 0 then a else b) := by
  have w1 : IntKind.i64.wrap (0 + 1) = 1 := by rw [w64 (by omega) (by omega)]; rfl
  have w2 : IntKind.i64.wrap (1 + 1) = 2 := by rw [w64 (by omega) (by omega)]; rfl
  by_cases ha : a = 0
  · by_cases hb : b = 0
    · refine Ev.bind (a := .inr ()) ?_ (Ev.const (by simp [ha, hb]))
      refine Ev.step (fun k => impl_firstOf.l1.eq_2 _ _ _) (Ev.pos (by simp) (Ev.bind (Ev.const (show getI [a, b] 0 = some a from rfl)) (Ev.neg (by simp [ha]) ?_)))
      simp only [w1]
      refine Ev.step (fun k => impl_firstOf.l1.eq_2 _ _ _) (Ev.pos (by simp) (Ev.bind (Ev.const (show getI [a, b] 1 = some b from rfl)) (Ev.neg (by simp [hb]) ?_)))
      simp only [w2]
      exact Ev.step (fun k => impl_firstOf.l1.eq_2 _ _ _) (Ev.neg (by simp) (Ev.const rfl))
    · refine Ev.bind (a := .inl b) ?_ (Ev.const (by simp [ha]))
      refine Ev.step (fun k => impl_firstOf.l1.eq_2 _ _ _) (Ev.pos (by simp) (Ev.bind (Ev.const (show getI [a, b] 0 = some a from rfl)) (Ev.neg (by simp [ha]) ?_)))
      simp only [w1]
      exact Ev.step (fun k => impl_firstOf.l1.eq_2 _ _ _) (Ev.pos (by simp) (Ev.bind (Ev.const (show getI [a, b] 1 = some b from rfl)) (Ev.pos hb (Ev.const rfl))))
  · refine Ev.bind (a := .inl a) ?_ (Ev.const (by simp [ha]))
    exact Ev.step (fun k => impl_firstOf.l1.eq_2 _ _ _) (Ev.pos (by simp) (Ev.bind (Ev.const (show getI [a, b] 0 = some a from rfl)) (Ev.pos ha (Ev.const rfl))))
theorem spanCode_ev (xs : List Meadow) (hv : ∀ x ∈ xs, VMeadow x) (hx : xs.length ≤ 1048576) (a d : Int) : Ev (fun k => impl_spanCode.f k xs a d 0) (askC xs a (decide (0 ≤ d ∧ d ≤ 30))) := by
  refine Ev.bind (meadowCode_ev xs hv hx a [] (by simp)) ?_
  simp only [List.all_nil, within_eq, Option.bind_some, impl_unless.f]
  by_cases h : 0 ≤ d ∧ d ≤ 30
  · refine Ev.pos (by simp [h]) ?_
    rw [show (if (decide ((0 : Int) ≤ 0 ∧ (0 : Int) ≤ 20000)) = true then some (0 : Int) else some 2) = some 0 from by simp]
    simp only [Option.bind_some]
    refine Ev.bind (firstOf_ev _ _) (Ev.const ?_)
    rw [decide_eq_true h]
    congr 1
    by_cases e : askC xs a true = 0 <;> simp [e]
  · refine Ev.neg (by simp [h]) ?_
    rw [show (if false = true then some (0 : Int) else some 2) = some 2 from rfl]
    simp only [Option.bind_some]
    refine Ev.bind (firstOf_ev _ _) (Ev.const ?_)
    rw [decide_eq_false h]
    congr 1
    unfold askC
    cases vM xs
    · rfl
    · by_cases h1 : 1 ≤ a ∧ a ≤ 1000 <;> simp [h1]
/-- What is asked is in order. -/
theorem askC_zero {xs : List Meadow} {a : Int} {b : Bool} (h : askC xs a b = 0) : vM xs = true ∧ (1 ≤ a ∧ a ≤ 1000) ∧ b = true := by
  unfold askC at h
  split at h
  · cases h
  · split at h
    · cases h
    · split at h
      · cases h
      · rename_i h1 h2 h3
        exact ⟨by simpa using h1, Classical.byContradiction h2, by simpa using h3⟩
theorem vM_parts {xs : List Meadow} (h : vM xs = true) : (∀ x ∈ xs, okM x = true) ∧ 1 ≤ xs.length ∧ xs.length ≤ 6 := by
  unfold vM at h
  rw [Bool.and_eq_true, decide_eq_true_eq, List.all_eq_true] at h
  exact h
theorem okM_parts {x : Meadow} (h : okM x = true) : (0 ≤ x.Most ∧ x.Most ≤ 1000) ∧ (0 ≤ x.Grass ∧ x.Grass ≤ x.Most) ∧ (0 ≤ x.Grows ∧ x.Grows ≤ x.Most) := by
  unfold okM at h
  simpa [Bool.and_eq_true, decide_eq_true_eq] using h



def numbM (m : Int) (n : Nat) : List Meadow := (List.range n).map fun j : Nat => ⟨IntKind.i16.wrap (m + 3 * (j : Int)), IntKind.i16.wrap (m + 3 * (j : Int) + 1), IntKind.i16.wrap (m + 3 * (j : Int) + 2)⟩
theorem numbM_len (m : Int) (n : Nat) : (numbM m n).length = n := by simp [numbM]
theorem getI_set {α : Type} {xs : List α} {i : Nat} (h : i < xs.length) (x : α) : getI (xs.set i x) (i : Int) = some x := by
  rw [getI_nat (by simpa using h)]; simp
theorem take_set_succ {α : Type} {xs : List α} {i : Nat} (h : i < xs.length) (x : α) : (xs.set i x).take (i + 1) = xs.take i ++ [x] := by
  rw [List.set_eq_take_append_cons_drop, if_pos h, List.take_append, List.length_take, Nat.min_eq_left (by omega), show i + 1 - i = 1 by omega, List.take_of_length_le (by rw [List.length_take]; omega)]
  simp
theorem drop_set_succ {α : Type} {xs : List α} {i : Nat} (h : i < xs.length) (x : α) : (xs.set i x).drop (i + 1) = xs.drop (i + 1) := by
  rw [List.set_eq_take_append_cons_drop, if_pos h, List.drop_append, List.length_take, Nat.min_eq_left (by omega), show i + 1 - i = 1 by omega, List.drop_of_length_le (by rw [List.length_take]; omega)]
  simp
theorem take_succ_get {α : Type} {xs : List α} {i : Nat} (h : i < xs.length) : xs.take (i + 1) = xs.take i ++ [xs[i]] := by
  rw [List.take_add_one, List.getElem?_eq_getElem h]; rfl
/-! ### A day -/
def dayM (x : Meadow) : Meadow := ⟨if x.Most < x.Grass + x.Grows then x.Most else x.Grass + x.Grows, x.Grows, x.Most⟩
theorem dayM_ok {x : Meadow} (h : okM x = true) : okM (dayM x) = true := by
  obtain ⟨a, b, c⟩ := okM_parts h
  unfold okM dayM
  simp only [Bool.and_eq_true, decide_eq_true_eq]
  refine ⟨a, ?_, c⟩
  split <;> omega
/-- What is eaten at place i, then a day's growth. -/
def eatM (xs : List Meadow) (i : Nat) (a : Int) : List Meadow := match xs[i]? with
  | some x => xs.set i ⟨x.Grass - a, x.Grows, x.Most⟩
  | none => xs
def dayL (xs : List Meadow) (i : Nat) (a : Int) : List Meadow := (eatM xs i a).map dayM
theorem eatM_len (xs : List Meadow) (i : Nat) (a : Int) : (eatM xs i a).length = xs.length := by unfold eatM; split <;> simp
theorem dayL_len (xs : List Meadow) (i : Nat) (a : Int) : (dayL xs i a).length = xs.length := by unfold dayL; rw [List.length_map, eatM_len]
theorem eatM_at {xs : List Meadow} {i : Nat} (hi : i < xs.length) (a : Int) : eatM xs i a = xs.set i ⟨xs[i].Grass - a, xs[i].Grows, xs[i].Most⟩ := by unfold eatM; rw [List.getElem?_eq_getElem hi]
theorem eatM_ok {xs : List Meadow} (hok : ∀ x ∈ xs, okM x = true) {i : Nat} (hi : i < xs.length) {a : Int} (h0 : 0 ≤ a) (ha : a ≤ xs[i].Grass) : ∀ x ∈ eatM xs i a, okM x = true := by
  rw [eatM_at hi]
  intro x hx
  rcases List.mem_or_eq_of_mem_set hx with hx | rfl
  · exact hok x hx
  · obtain ⟨a1, b1, c1⟩ := okM_parts (hok _ (List.getElem_mem hi))
    unfold okM
    simp only [Bool.and_eq_true, decide_eq_true_eq]
    exact ⟨a1, ⟨by omega, by omega⟩, c1⟩
theorem dayL_ok {xs : List Meadow} (hok : ∀ x ∈ xs, okM x = true) {i : Nat} (hi : i < xs.length) {a : Int} (h0 : 0 ≤ a) (ha : a ≤ xs[i].Grass) : ∀ x ∈ dayL xs i a, okM x = true := by
  intro x hx
  obtain ⟨y, hy, rfl⟩ := List.mem_map.1 hx
  exact dayM_ok (eatM_ok hok hi h0 ha y hy)
theorem okM_i64 {x : Meadow} (h : okM x = true) : IntKind.i64.wrap x.Most = x.Most ∧ IntKind.i64.wrap x.Grass = x.Grass ∧ IntKind.i64.wrap x.Grows = x.Grows ∧ IntKind.i64.wrap (x.Grass + x.Grows) = x.Grass + x.Grows ∧ IntKind.i16.wrap (x.Grass + x.Grows) = x.Grass + x.Grows := by
  obtain ⟨a, b, c⟩ := okM_parts h
  refine ⟨w64 (by omega) (by omega), w64 (by omega) (by omega), w64 (by omega) (by omega), w64 (by omega) (by omega), w16 (by omega) (by omega)⟩
theorem daySpec_loop (n : Nat) (hn : n ≤ 1048576) : ∀ i, i ≤ n → ∀ ys : List Meadow, ys.length = n → (∀ y ∈ ys.drop i, okM y = true) → Ev (fun k => spec_l07Day.l1 k ys (i : Int)) (ys.take i ++ (ys.drop i).map dayM) := by
  refine upL ?_ ?_
  · intro ys hl hok
    refine Ev.step (fun k => spec_l07Day.l1.eq_2 _ _ _) (Ev.neg (by omega) (Ev.const ?_))
    rw [List.take_of_length_le (by omega), List.drop_of_length_le (by omega)]; simp
  · intro i hi ih ys hl hok
    have hil : i < ys.length := by omega
    rw [List.drop_eq_getElem_cons hil] at hok
    have ho := hok ys[i] List.mem_cons_self
    obtain ⟨a, b, c⟩ := okM_parts ho
    obtain ⟨e1, e2, e3, e4, e5⟩ := okM_i64 ho
    refine Ev.step (fun k => spec_l07Day.l1.eq_2 _ _ _) (Ev.pos (by omega) ?_)
    have hmin : spec_l00Min.f ys[i].Most (ys[i].Grass + ys[i].Grows) = some (dayM ys[i]).Grass := by
      unfold spec_l00Min.f dayM
      simp only
      split <;> rfl
    have hw : IntKind.i16.wrap (dayM ys[i]).Grass = (dayM ys[i]).Grass := by
      obtain ⟨a', b', c'⟩ := okM_parts (dayM_ok ho)
      have : (dayM ys[i]).Most = ys[i].Most := rfl
      exact w16 (by omega) (by omega)
    simp only [getI_nat hil, Option.bind_some, e1, e2, e3, e4, hmin, hw, Int.toNat_natCast, wsucc hi (by omega)]
    have := ih (ys.set i (dayM ys[i])) (by simpa using hl) (by rw [drop_set_succ hil]; exact fun y hy => hok y (List.mem_cons_of_mem _ hy))
    rw [take_set_succ hil, drop_set_succ hil] at this
    rw [List.drop_eq_getElem_cons hil, List.map_cons]
    rw [List.append_assoc] at this
    exact this
theorem l07Day_ev {xs : List Meadow} (hok : ∀ x ∈ xs, okM x = true) (hx : xs.length ≤ 1048576) {i : Nat} (hi : i < xs.length) {a : Int} (h0 : 0 ≤ a) (ha : a ≤ xs[i].Grass) : Ev (fun k => spec_l07Day.f k xs a (i : Int)) (dayL xs i a) := by
  obtain ⟨p, q, r⟩ := okM_parts (hok _ (List.getElem_mem hi))
  have e1 : IntKind.i16.wrap a = a := w16 (by omega) (by omega)
  have e2 : IntKind.i16.wrap (xs[i].Grass - a) = xs[i].Grass - a := w16 (by omega) (by omega)
  have hl := daySpec_loop xs.length hx 0 (Nat.zero_le _) (eatM xs i a) (eatM_len _ _ _) (by rw [List.drop_zero]; exact eatM_ok hok hi h0 ha)
  rw [List.take_zero, List.drop_zero, List.nil_append, eatM_at hi] at hl
  refine Ev.bind (Ev.const (chk_t (by simp; omega))) ?_
  simp only [List.nil_append, getI_nat hi, Option.bind_some, e1, e2, Int.toNat_natCast]
  refine Ev.bind hl (Ev.const ?_)
  unfold dayL
  rw [eatM_at hi]
theorem dayImpl_loop (a1 a2 : Int) (t2 : List Meadow) (t5 t6 : Meadow) (n : Nat) (hn : n ≤ 1048576) (ht : t2.length = n) : ∀ i, i ≤ n → ∀ ys : List Meadow, ys.length = n → (∀ y ∈ ys.drop i, okM y = true) → Ev (fun k => impl_behind.l1 a1 a2 t2 t5 t6 k ys (i : Int)) (ys.take i ++ (ys.drop i).map dayM) := by
  refine upL ?_ ?_
  · intro ys hl hok
    refine Ev.step (fun k => impl_behind.l1.eq_2 _ _ _ _ _ _ _ _) (Ev.neg (by simp; omega) (Ev.const ?_))
    rw [List.take_of_length_le (by omega), List.drop_of_length_le (by omega)]; simp
  · intro i hi ih ys hl hok
    have hil : i < ys.length := by omega
    rw [List.drop_eq_getElem_cons hil] at hok
    have ho := hok ys[i] List.mem_cons_self
    obtain ⟨e1, e2, e3, e4, e5⟩ := okM_i64 ho
    refine Ev.step (fun k => impl_behind.l1.eq_2 _ _ _ _ _ _ _ _) (Ev.pos (by simp; omega) ?_)
    simp only [getI_nat hil, Option.bind_some, e5, Int.toNat_natCast, wsucc hi (by omega)]
    have := ih (ys.set i (dayM ys[i])) (by simpa using hl) (by rw [drop_set_succ hil]; exact fun y hy => hok y (List.mem_cons_of_mem _ hy))
    rw [take_set_succ hil, drop_set_succ hil] at this
    rw [List.drop_eq_getElem_cons hil, List.map_cons]
    rw [List.append_assoc] at this
    exact this
theorem behind_ev {xs : List Meadow} (hok : ∀ x ∈ xs, okM x = true) (hx : xs.length ≤ 1048576) {i : Nat} (hi : i < xs.length) {a : Int} (h0 : 0 ≤ a) (ha : a ≤ xs[i].Grass) : Ev (fun k => impl_behind.f k xs a (i : Int)) (dayL xs i a, true) := by
  obtain ⟨p, q, r⟩ := okM_parts (hok _ (List.getElem_mem hi))
  have e1 : IntKind.i16.wrap a = a := w16 (by omega) (by omega)
  have e2 : IntKind.i16.wrap (xs[i].Grass - a) = xs[i].Grass - a := w16 (by omega) (by omega)
  have e3 : IntKind.i64.wrap xs[i].Grass = xs[i].Grass := w64 (by omega) (by omega)
  have hl := dayImpl_loop a (i : Int) xs xs[i] xs[i] xs.length hx rfl 0 (Nat.zero_le _) (eatM xs i a) (eatM_len _ _ _) (by rw [List.drop_zero]; exact eatM_ok hok hi h0 ha)
  rw [List.take_zero, List.drop_zero, List.nil_append, eatM_at hi] at hl
  refine Ev.bind (Ev.const (getI_nat hi)) ?_
  rw [e3]
  refine Ev.neg (by omega) ?_
  have hcl : slices_Clone_impl_Meadow_impl_Meadow.f xs = some xs := by
    unfold slices_Clone_impl_Meadow_impl_Meadow.f
    rw [chk_t (by simp; omega)]; rfl
  simp only [hcl, getI_nat hi, Option.bind_some, e1, e2, Int.toNat_natCast]
  refine Ev.bind hl (Ev.const ?_)
  unfold dayL
  rw [eatM_at hi]
theorem behind_no {xs : List Meadow} (hok : ∀ x ∈ xs, okM x = true) {i : Nat} (hi : i < xs.length) {a : Int} (ha : xs[i].Grass < a) : Ev (fun k => impl_behind.f k xs a (i : Int)) ([], false) := by
  obtain ⟨p, q, r⟩ := okM_parts (hok _ (List.getElem_mem hi))
  have e3 : IntKind.i64.wrap xs[i].Grass = xs[i].Grass := w64 (by omega) (by omega)
  refine Ev.bind (Ev.const (getI_nat hi)) ?_
  rw [e3]
  exact Ev.pos ha (Ev.const rfl)



theorem l07Index_eq (xs : List Meadow) (hx : xs.length ≤ 1048576) (y : Int) : spec_l07Index.f xs y = some (inM xs y) := by
  unfold spec_l07Index.f inM
  rw [l00In_eq, w64 (by omega) (by omega)]
  rfl
theorem inM_nat {xs : List Meadow} {y : Int} (h : inM xs y = true) : ∃ i : Nat, i < xs.length ∧ y = (i : Int) := by
  have h := of_decide_eq_true h
  exact ⟨y.toNat, by omega, by omega⟩

theorem okM_V {x : Meadow} (h : okM x = true) : VMeadow x := by
  have h1 : IntKind.i16.min = -32768 := by decide
  have h2 : IntKind.i16.max = 32767 := by decide
  obtain ⟨a, b, c⟩ := okM_parts h
  unfold VMeadow inI
  rw [h1, h2]
  omega
end Go.Proofs.Ytnjeddecmccdcaa
