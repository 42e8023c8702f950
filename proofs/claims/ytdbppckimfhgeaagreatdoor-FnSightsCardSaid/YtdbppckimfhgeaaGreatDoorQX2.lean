
/-
  Plain laws: the program's text of sights.
-/
import Derived.Test.YtdbppckimfhgeaaGreatDoorQX0
import Derived.Test.YtdbppckimfhgeaaGreatDoorQO0
namespace Go.Proofs.YtdbppckimfhgeaaGreatDoor.T
open G
set_option linter.unusedVariables false
set_option linter.unusedSimpArgs false
def VSpot (x : Spot) : Prop := inI .i8 x.X ∧ inI .i8 x.Y
def VSight (x : Sight) : Prop := inI .i16 x.Day ∧ VSpot x.At
def dayOk (xs : List Sight) (i : Nat) : Bool := match xs[i]? with
  | none => false
  | some s => decide (0 ≤ s.Day ∧ s.Day ≤ 1000) && (decide (i = 0) || match xs[i - 1]? with
    | none => false
    | some t => decide (t.Day ≤ s.Day))
theorem dayOk_eq {xs : List Sight} {i : Nat} (h : i < xs.length) : dayOk xs i = (decide (0 ≤ xs[i].Day ∧ xs[i].Day ≤ 1000) && (decide (i = 0) || decide ((xs[i - 1]'(by omega)).Day ≤ xs[i].Day))) := by
  unfold dayOk
  rw [List.getElem?_eq_getElem h, List.getElem?_eq_getElem (show i - 1 < xs.length by omega)]
theorem seen_loop (xs : List Sight) (hv : ∀ s ∈ xs, VSight s) (hx : xs.length ≤ 1048577) : ∀ i : Nat, i ≤ xs.length → Ev (fun k => spec_l07Seen.l1 xs k (i : Int)) (if upA (dayOk xs) i (xs.length - i) = true then .inr () else .inl false) := by
  refine upL ?_ ?_
  · rw [Nat.sub_self]
    exact Ev.step (fun k => spec_l07Seen.l1.eq_2 _ _ _) (Ev.neg (by omega) (Ev.const rfl))
  · intro i hi ih
    have b := i16b (hv _ (List.getElem_mem hi)).1
    refine Ev.step (fun k => spec_l07Seen.l1.eq_2 _ _ _) (Ev.pos (by omega) ?_)
    rw [upA_step _ hi, dayOk_eq hi]
    simp only [getI_nat hi, Option.bind_some, spec_l01Grass.f, l00In_eq, w64 (show -9223372036854775808 ≤ xs[i].Day by omega) (by omega), wsucc hi (by omega)]
    by_cases h1 : 0 ≤ xs[i].Day ∧ xs[i].Day ≤ 1000
    · refine Ev.neg (by simp [h1]) ?_
      cases i with
      | zero =>
        refine Ev.neg (by omega) ?_
        simpa [h1] using ih
      | succ i =>
        have e : IntKind.i64.wrap (((i + 1 : Nat) : Int) - 1) = ((i : Nat) : Int) := by rw [w64 (by omega) (by omega)]; omega
        refine Ev.pos (by omega) ?_
        simp only [e, getI_nat (show i < xs.length by omega), Option.bind_some]
        by_cases h2 : xs[i + 1].Day < xs[i].Day
        · refine Ev.pos h2 (Ev.const ?_)
          simp [h1, show ¬ xs[i].Day ≤ xs[i + 1].Day by omega]
        · refine Ev.neg h2 ?_
          simpa [h1, show xs[i].Day ≤ xs[i + 1].Day by omega] using ih
    · refine Ev.pos (by simp [h1]) (Ev.const ?_)
      simp [h1]
def seenB (xs : List Sight) : Bool := upA (dayOk xs) 0 xs.length && decide (xs.length ≤ 40)
theorem seen_ev (xs : List Sight) (hv : ∀ s ∈ xs, VSight s) (hx : xs.length ≤ 1048577) : Ev (fun k => spec_l07Seen.f k xs) (seenB xs) := by
  have h := seen_loop xs hv hx 0 (Nat.zero_le _)
  rw [Nat.sub_zero] at h
  refine h.bind ?_
  unfold seenB
  cases upA (dayOk xs) 0 xs.length
  · exact Ev.const rfl
  · refine Ev.const ?_
    simp only [if_true, Bool.true_and]
    congr 2
    simp only [eq_iff_iff]; omega
def spotB (s : Spot) : Bool := decide (0 ≤ s.X ∧ s.X ≤ 9) && decide (0 ≤ s.Y ∧ s.Y ≤ 9)
def plOk (xs : List Sight) (i : Nat) : Bool := match xs[i]? with
  | none => false
  | some s => spotB s.At
theorem plOk_eq {xs : List Sight} {i : Nat} (h : i < xs.length) : plOk xs i = spotB xs[i].At := by
  unfold plOk
  rw [List.getElem?_eq_getElem h]
abbrev mostP : Pasture := (⟨10, 10, (Arr.mk' (Arr.mk' 0 : Arr 10 Int) : Arr 10 (Arr 10 Int)), (Arr.mk' 0 : Arr 10 Int), (Arr.mk' 0 : Arr 10 Int)⟩ : Pasture)
theorem cell_eq {s : Spot} (v : VSpot s) : impl_Pasture_isCell.f mostP s = some (spotB s) := by
  have b1 := i8b v.1
  have b2 := i8b v.2
  unfold impl_Pasture_isCell.f spotB
  have e : IntKind.i64.wrap ((if (10 : Int) < (IntKind.i64.wrap mostP.Wide) then 10 else (IntKind.i64.wrap mostP.Wide)) - 1) = 9 := by decide
  have e' : IntKind.i64.wrap ((if (10 : Int) < (IntKind.i64.wrap mostP.High) then 10 else (IntKind.i64.wrap mostP.High)) - 1) = 9 := by decide
  rw [e, w64 (by omega) (by omega), w64 (by omega) (by omega), within_eq, within_eq]
  by_cases h : 0 ≤ s.X ∧ s.X ≤ 9
  · simp [h]
  · simp [h]
theorem are_loop (xs : List Sight) (hv : ∀ s ∈ xs, VSight s) (hx : xs.length ≤ 1048577) : ∀ i : Nat, i ≤ xs.length → Ev (fun k => impl_Pasture_areSights.l1 mostP xs k (i : Int)) (if upA (fun j => dayOk xs j && plOk xs j) i (xs.length - i) = true then .inr () else .inl false) := by
  refine upL ?_ ?_
  · rw [Nat.sub_self]
    exact Ev.step (fun k => impl_Pasture_areSights.l1.eq_2 _ _ _ _) (Ev.neg (by omega) (Ev.const rfl))
  · intro i hi ih
    have b := i16b (hv _ (List.getElem_mem hi)).1
    refine Ev.step (fun k => impl_Pasture_areSights.l1.eq_2 _ _ _ _) (Ev.pos (by omega) ?_)
    rw [upA_step _ hi]
    simp only [getI_nat hi, Option.bind_some, within_eq, w64 (show -9223372036854775808 ≤ xs[i].Day by omega) (by omega), cell_eq (hv _ (List.getElem_mem hi)).2, wsucc hi (by omega), dayOk_eq hi, plOk_eq hi]
    by_cases h1 : 0 ≤ xs[i].Day ∧ xs[i].Day ≤ 1000
    · refine Ev.neg (by simp [h1]) ?_
      cases hc : spotB xs[i].At
      · refine Ev.pos rfl (Ev.const ?_)
        simp
      · refine Ev.neg (by simp) ?_
        cases i with
        | zero =>
          refine Ev.neg (by omega) ?_
          simpa [h1] using ih
        | succ i =>
          have e : IntKind.i64.wrap (((i + 1 : Nat) : Int) - 1) = ((i : Nat) : Int) := by rw [w64 (by omega) (by omega)]; omega
          refine Ev.pos (by omega) ?_
          simp only [e, getI_nat (show i < xs.length by omega), Option.bind_some]
          by_cases h2 : xs[i + 1].Day < xs[i].Day
          · refine Ev.pos h2 (Ev.const ?_)
            simp [h1, show ¬ xs[i].Day ≤ xs[i + 1].Day by omega]
          · refine Ev.neg h2 ?_
            simpa [h1, show xs[i].Day ≤ xs[i + 1].Day by omega] using ih
    · refine Ev.pos (by simp [h1]) (Ev.const ?_)
      simp [h1]
def dot : ByteArray := ⟨#[58]⟩
def com : ByteArray := ⟨#[44]⟩
def spc : ByteArray := ⟨#[32]⟩
def wordB (s : Sight) : ByteArray := (((itoaB s.Day ++ dot) ++ itoaB s.At.X) ++ com) ++ itoaB s.At.Y
theorem itoa_ok {n : Int} {d : Nat} (h0 : 0 ≤ n) (h1 : n < 10 ^ (d + 1)) : (itoaB n).size ≤ d + 1 := by
  obtain ⟨z, rfl⟩ := Int.eq_ofNat_of_zero_le h0
  exact itoa_size (by exact_mod_cast h1)
def goodS (s : Sight) : Prop := (0 ≤ s.Day ∧ s.Day ≤ 1000) ∧ (0 ≤ s.At.X ∧ s.At.X ≤ 9) ∧ (0 ≤ s.At.Y ∧ s.At.Y ≤ 9)
theorem goodS_of {xs : List Sight} (h1 : upA (dayOk xs) 0 xs.length = true) (h2 : upA (plOk xs) 0 xs.length = true) : ∀ s ∈ xs, goodS s := by
  intro s hs
  obtain ⟨i, hi, rfl⟩ := List.mem_iff_getElem.1 hs
  have a := (upA_iff _ _ _).1 h1 i (Nat.zero_le _) (by omega)
  have b := (upA_iff _ _ _).1 h2 i (Nat.zero_le _) (by omega)
  rw [dayOk_eq hi] at a
  rw [plOk_eq hi] at b
  unfold spotB at b
  simp only [Bool.and_eq_true, decide_eq_true_eq] at a b
  exact ⟨a.1, b.1, b.2⟩
theorem word_size {s : Sight} (h : goodS s) : (itoaB s.Day).size ≤ 4 ∧ (itoaB s.At.X).size ≤ 1 ∧ (itoaB s.At.Y).size ≤ 1 ∧ (wordB s).size ≤ 8 := by
  obtain ⟨⟨a, b⟩, ⟨c, d⟩, e, f⟩ := h
  have h1 : (itoaB s.Day).size ≤ 4 := itoa_ok (d := 3) a (by omega)
  have h2 : (itoaB s.At.X).size ≤ 1 := itoa_ok (d := 0) c (by omega)
  have h3 : (itoaB s.At.Y).size ≤ 1 := itoa_ok (d := 0) e (by omega)
  have d1 : dot.size = 1 := rfl
  have d2 : com.size = 1 := rfl
  refine ⟨h1, h2, h3, ?_⟩
  unfold wordB
  rw [ByteArray.size_append, ByteArray.size_append, ByteArray.size_append, ByteArray.size_append, d1, d2]
  omega
theorem spot_text {s : Sight} (h : goodS s) : impl_Spot_text.f s.At = some ((itoaB s.At.X ++ com) ++ itoaB s.At.Y) := by
  obtain ⟨w1, w2, w3, w4⟩ := word_size h
  obtain ⟨⟨a, b⟩, ⟨c, d⟩, e, f⟩ := h
  have d2 : com.size = 1 := rfl
  have c1 : chk ((itoaB s.At.X).size + (⟨#[44]⟩ : ByteArray).size ≤ 4294967296) = some () := chkX (by show (itoaB s.At.X).size + com.size ≤ _; omega)
  have c2 : chk ((itoaB s.At.X ++ (⟨#[44]⟩ : ByteArray)).size + (itoaB s.At.Y).size ≤ 4294967296) = some () := chkX (by show (itoaB s.At.X ++ com).size + _ ≤ _; rw [ByteArray.size_append]; omega)
  unfold impl_Spot_text.f
  rw [w64 (by omega) (by omega), decimal_eq c (by omega), Option.bind_some, c1, Option.bind_some, w64 (by omega) (by omega), decimal_eq e (by omega), Option.bind_some, c2]
  rfl
theorem impl_words {xs : List Sight} (hl : xs.length ≤ 40) (hg : ∀ s ∈ xs, goodS s) : ∀ i, i ≤ xs.length → ∀ ws : List ByteArray, ws.length ≤ i → Ev (fun k => impl_SightsText.l1 xs k ws (i : Int)) (ws ++ (xs.drop i).map wordB) := by
  refine upL ?_ ?_
  · intro ws hw
    refine Ev.step (fun k => impl_SightsText.l1.eq_2 _ _ _ _) (Ev.neg (by omega) (Ev.const ?_))
    rw [List.drop_length]; simp
  · intro i hi ih ws hw
    have g := hg _ (List.getElem_mem hi)
    obtain ⟨w1, w2, w3, w4⟩ := word_size g
    have d1 : dot.size = 1 := rfl
    have d2 : com.size = 1 := rfl
    have hd : impl_decimal.f (IntKind.i64.wrap xs[i].Day) = some (itoaB xs[i].Day) := by rw [w64 (by have := g.1; omega) (by have := g.1; omega)]; exact decimal_eq g.1.1 (by have := g.1.2; omega)
    have ew : (itoaB xs[i].Day ++ (⟨#[58]⟩ : ByteArray)) ++ ((itoaB xs[i].At.X ++ com) ++ itoaB xs[i].At.Y) = wordB xs[i] := by
      unfold wordB
      rw [← ByteArray.append_assoc, ← ByteArray.append_assoc]; rfl
    have c1 : chk ((itoaB xs[i].Day).size + (⟨#[58]⟩ : ByteArray).size ≤ 4294967296) = some () := chkX (by show (itoaB xs[i].Day).size + dot.size ≤ _; omega)
    have c2 : chk ((itoaB xs[i].Day ++ (⟨#[58]⟩ : ByteArray)).size + ((itoaB xs[i].At.X ++ com) ++ itoaB xs[i].At.Y).size ≤ 4294967296) = some () := chkX (by show (itoaB xs[i].Day ++ dot).size + _ ≤ _; rw [ByteArray.size_append, ByteArray.size_append, ByteArray.size_append]; omega)
    have hh := ih (ws ++ [wordB xs[i]]) (by simp; omega)
    rw [← wsucc hi (by omega), List.append_assoc] at hh
    refine Ev.step (fun k => impl_SightsText.l1.eq_2 _ _ _ _) (Ev.pos (by omega) (Ev.bind (Ev.const (getI_nat hi)) (Ev.bind (Ev.const hd) (Ev.bind (Ev.const c1) (Ev.bind (Ev.const (spot_text g)) (Ev.bind (Ev.const c2) (Ev.bind (Ev.const (chkX (by simp; omega))) ?_)))))))
    rw [ew, List.drop_eq_getElem_cons hi, List.map_cons]
    exact hh
theorem implText_ev (xs : List Sight) (hv : ∀ s ∈ xs, VSight s) (hx : xs.length ≤ 1048577) (hp : upA (plOk xs) 0 xs.length = true) : Ev (fun k => impl_SightsText.f k xs) (if seenB xs = true then joinB (xs.map wordB) spc else ByteArray.empty) := by
  have p3 := are_loop xs hv hx 0 (Nat.zero_le _)
  rw [Nat.sub_zero] at p3
  rw [upA_and, hp, Bool.and_true] at p3
  have ar : Ev (fun k => impl_Pasture_areSights.f k mostP xs) (seenB xs) := by
    refine p3.bind ?_
    unfold seenB
    cases upA (dayOk xs) 0 xs.length
    · exact Ev.const rfl
    · refine Ev.const ?_
      simp only [if_true, Bool.true_and]
      congr 2
      simp only [eq_iff_iff]; omega
  cases e1 : seenB xs
  · rw [e1] at ar
    exact ar.bind (Ev.pos rfl (Ev.const rfl))
  · rw [e1] at ar
    have e1' := e1
    unfold seenB at e1'
    rw [Bool.and_eq_true, decide_eq_true_eq] at e1'
    have hg := goodS_of e1'.1 hp
    have s2 := impl_words e1'.2 hg 0 (Nat.zero_le _) [] (by simp)
    rw [List.drop_zero] at s2
    rw [List.nil_append] at s2
    rw [if_pos rfl]
    refine ar.bind (Ev.neg (by simp) (s2.bind ?_))
    cases xs with
    | nil =>
      refine Ev.bind (a := (ByteArray.empty, [])) (Ev.const ?_) (Ev.const rfl)
      unfold strings_Join.f
      have hz : joinB [] (⟨#[32]⟩ : ByteArray) = ByteArray.empty := rfl
      show (chk (([] : List ByteArray).length ≤ 4294967296 ∧ (joinB [] (⟨#[32]⟩ : ByteArray)).size ≤ 4294967296)).bind _ = _
      rw [hz, chkX ⟨by simp, by simp⟩]; rfl
    | cons x xs =>
      have hsz := catB_size spc 8 (xs.map wordB) (wordB x) (fun z hz => by
        obtain ⟨q, hq, rfl⟩ := List.mem_map.1 hz
        exact (word_size (hg q (List.mem_cons_of_mem _ hq))).2.2.2)
      have hx8 := (word_size (hg x (List.mem_cons_self ..))).2.2.2
      have hlx : xs.length ≤ 39 := by have := e1'.2; simp at this; omega
      have hs1 : spc.size = 1 := rfl
      rw [List.length_map, hs1] at hsz
      have hm : (1 + 8) * xs.length ≤ 351 := by omega
      have hj := join_eq (wordB x) (xs.map wordB) spc (by simp; omega) (by omega)
      rw [List.map_cons, joinB_cons]
      exact Ev.bind (Ev.const hj) (Ev.const rfl)
end Go.Proofs.YtdbppckimfhgeaaGreatDoor.T
