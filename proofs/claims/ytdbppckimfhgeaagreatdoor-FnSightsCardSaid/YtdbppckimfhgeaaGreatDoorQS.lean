
/-
  Plain laws: sights.
-/
import Derived.Test.YtdbppckimfhgeaaGreatDoorQP
namespace Go.Proofs.YtdbppckimfhgeaaGreatDoor
open G
set_option linter.unusedVariables false
set_option linter.unusedSimpArgs false

def dayOk (xs : List Sight) (i : Nat) : Bool := match xs[i]? with
  | none => false
  | some s => decide (0 ≤ s.Day ∧ s.Day ≤ 1000) && (decide (i = 0) || match xs[i - 1]? with
    | none => false
    | some t => decide (t.Day ≤ s.Day))
def atOk (p : Pasture) (xs : List Sight) (i : Nat) : Bool := match xs[i]? with
  | none => false
  | some s => cellB p s.At.X s.At.Y
theorem dayOk_eq {xs : List Sight} {i : Nat} (h : i < xs.length) : dayOk xs i = (decide (0 ≤ xs[i].Day ∧ xs[i].Day ≤ 1000) && (decide (i = 0) || decide ((xs[i - 1]'(by omega)).Day ≤ xs[i].Day))) := by
  unfold dayOk
  rw [List.getElem?_eq_getElem h, List.getElem?_eq_getElem (show i - 1 < xs.length by omega)]
theorem atOk_eq (p : Pasture) {xs : List Sight} {i : Nat} (h : i < xs.length) : atOk p xs i = cellB p xs[i].At.X xs[i].At.Y := by
  unfold atOk
  rw [List.getElem?_eq_getElem h]
theorem seen_loop (xs : List Sight) (hv : ∀ s ∈ xs, VSight s) (hx : xs.length ≤ 1048576) : ∀ i : Nat, i ≤ xs.length → Ev (fun k => spec_l07Seen.l1 xs k (i : Int)) (if upA (dayOk xs) i (xs.length - i) = true then .inr () else .inl false) := by
  refine upL ?_ ?_
  · rw [Nat.sub_self]
    exact Ev.step (fun k => spec_l07Seen.l1.eq_2 _ _ _) (Ev.neg (by omega) (Ev.const rfl))
  · intro i hi ih
    have b := i16b (hv _ (List.getElem_mem hi)).1
    refine Ev.step (fun k => spec_l07Seen.l1.eq_2 _ _ _) (Ev.pos (by omega) ?_)
    rw [upA_step _ hi, dayOk_eq hi]
    simp only [getI_nat hi, Option.bind_some, spec_l01Grass.f, l00In_eq, w64 (show -9223372036854775808 ≤ xs[i].Day by omega) (by omega), wsucc hi (by omega)]
    by_cases h1 : 0 ≤ xs[i].Day ∧ xs[i].Day ≤ 1000
    · refine Ev.neg (by simp [h1]) ?_
      cases i with
      | zero =>
        refine Ev.neg (by omega) ?_
        simpa [h1] using ih
      | succ i =>
        have e : IntKind.i64.wrap (((i + 1 : Nat) : Int) - 1) = ((i : Nat) : Int) := by rw [w64 (by omega) (by omega)]; omega
        refine Ev.pos (by omega) ?_
        simp only [e, getI_nat (show i < xs.length by omega), Option.bind_some]
        by_cases h2 : xs[i + 1].Day < xs[i].Day
        · refine Ev.pos h2 (Ev.const ?_)
          simp [h1, show ¬ xs[i].Day ≤ xs[i + 1].Day by omega]
        · refine Ev.neg h2 ?_
          simpa [h1, show xs[i].Day ≤ xs[i + 1].Day by omega] using ih
    · refine Ev.pos (by simp [h1]) (Ev.const ?_)
      simp [h1]
theorem at_loop {p : Pasture} (v : VPasture p) (xs : List Sight) (hv : ∀ s ∈ xs, VSight s) (hx : xs.length ≤ 1048576) : ∀ i : Nat, i ≤ xs.length → Ev (fun k => spec_l07Sights.l1 p xs k (i : Int)) (if upA (atOk p xs) i (xs.length - i) = true then .inr () else .inl false) := by
  refine upL ?_ ?_
  · rw [Nat.sub_self]
    exact Ev.step (fun k => spec_l07Sights.l1.eq_2 _ _ _ _) (Ev.neg (by omega) (Ev.const rfl))
  · intro i hi ih
    refine Ev.step (fun k => spec_l07Sights.l1.eq_2 _ _ _ _) (Ev.pos (by omega) ?_)
    rw [upA_step _ hi, atOk_eq p hi]
    simp only [getI_nat hi, Option.bind_some, l01Is_eq v _ (hv _ (List.getElem_mem hi)).2, wsucc hi (by omega)]
    cases h : cellB p xs[i].At.X xs[i].At.Y
    · exact Ev.pos rfl (Ev.const rfl)
    · refine Ev.neg (by simp) ?_
      simpa using ih
theorem are_loop {p : Pasture} (v : VPasture p) (hw : okW p = true) (xs : List Sight) (hv : ∀ s ∈ xs, VSight s) (hx : xs.length ≤ 1048576) : ∀ i : Nat, i ≤ xs.length → Ev (fun k => impl_Pasture_areSights.l1 p xs k (i : Int)) (if upA (fun j => dayOk xs j && atOk p xs j) i (xs.length - i) = true then .inr () else .inl false) := by
  refine upL ?_ ?_
  · rw [Nat.sub_self]
    exact Ev.step (fun k => impl_Pasture_areSights.l1.eq_2 _ _ _ _) (Ev.neg (by omega) (Ev.const rfl))
  · intro i hi ih
    have b := i16b (hv _ (List.getElem_mem hi)).1
    refine Ev.step (fun k => impl_Pasture_areSights.l1.eq_2 _ _ _ _) (Ev.pos (by omega) ?_)
    rw [upA_step _ hi]
    simp only [getI_nat hi, Option.bind_some, within_eq, w64 (show -9223372036854775808 ≤ xs[i].Day by omega) (by omega), isCell_eq v hw _ (hv _ (List.getElem_mem hi)).2, wsucc hi (by omega), dayOk_eq hi, atOk_eq p hi]
    by_cases h1 : 0 ≤ xs[i].Day ∧ xs[i].Day ≤ 1000
    · refine Ev.neg (by simp [h1]) ?_
      cases hc : cellB p xs[i].At.X xs[i].At.Y
      · refine Ev.pos rfl (Ev.const ?_)
        simp
      · refine Ev.neg (by simp) ?_
        cases i with
        | zero =>
          refine Ev.neg (by omega) ?_
          simpa [h1] using ih
        | succ i =>
          have e : IntKind.i64.wrap (((i + 1 : Nat) : Int) - 1) = ((i : Nat) : Int) := by rw [w64 (by omega) (by omega)]; omega
          refine Ev.pos (by omega) ?_
          simp only [e, getI_nat (show i < xs.length by omega), Option.bind_some]
          by_cases h2 : xs[i + 1].Day < xs[i].Day
          · refine Ev.pos h2 (Ev.const ?_)
            simp [h1, show ¬ xs[i].Day ≤ xs[i + 1].Day by omega]
          · refine Ev.neg h2 ?_
            simpa [h1, show xs[i].Day ≤ xs[i + 1].Day by omega] using ih
    · refine Ev.pos (by simp [h1]) (Ev.const ?_)
      simp [h1]
def seenB (xs : List Sight) : Bool := upA (dayOk xs) 0 xs.length && decide (xs.length ≤ 40)
def sightsB (p : Pasture) (xs : List Sight) : Bool := vP p && (seenB xs && upA (atOk p xs) 0 xs.length)
theorem seen_ev (xs : List Sight) (hv : ∀ s ∈ xs, VSight s) (hx : xs.length ≤ 1048576) : Ev (fun k => spec_l07Seen.f k xs) (seenB xs) := by
  have h := seen_loop xs hv hx 0 (Nat.zero_le _)
  rw [Nat.sub_zero] at h
  refine h.bind ?_
  unfold seenB
  cases upA (dayOk xs) 0 xs.length
  · exact Ev.const rfl
  · refine Ev.const ?_
    simp only [if_true, Bool.true_and]
    congr 2
    simp only [eq_iff_iff]; omega
theorem l07Sights_ev {p : Pasture} (v : VPasture p) (xs : List Sight) (hv : ∀ s ∈ xs, VSight s) (hx : xs.length ≤ 1048576) : Ev (fun k => spec_l07Sights.f k p xs) (sightsB p xs) := by
  have h2 := at_loop v xs hv hx 0 (Nat.zero_le _)
  rw [Nat.sub_zero] at h2
  unfold sightsB
  cases h : vP p
  · refine Ev.bind (a := true) ((specOk_ev v).bind ?_) (Ev.const rfl)
    rw [h]; exact Ev.const rfl
  · refine Ev.bind (a := !seenB xs) ((specOk_ev v).bind ?_) ?_
    · rw [h]; exact Ev.neg (by simp) ((seen_ev xs hv hx).bind (Ev.const rfl))
    · cases seenB xs
      · exact Ev.const rfl
      · refine Ev.neg (by simp) (h2.bind ?_)
        cases upA (atOk p xs) 0 xs.length <;> exact Ev.const rfl
theorem implSights_ev {p : Pasture} (v : VPasture p) (xs : List Sight) (hv : ∀ s ∈ xs, VSight s) (hx : xs.length ≤ 1048576) : Ev (fun k => impl_ValidSights.f k p xs) (sightsB p xs) := by
  unfold sightsB
  refine (implOk_ev v).bind ?_
  cases h : vP p
  · exact Ev.const rfl
  · have h2 := are_loop v (vP_okW h) xs hv hx 0 (Nat.zero_le _)
    rw [Nat.sub_zero, upA_and] at h2
    refine Ev.pos rfl (Ev.bind (Ev.bind h2 (Ev.const (show _ = some (seenB xs && upA (atOk p xs) 0 xs.length) from ?_))) (Ev.const rfl))
    unfold seenB
    have e : (decide ((xs.length : Int) ≤ 40)) = decide (xs.length ≤ 40) := by congr 1; simp only [eq_iff_iff]; omega
    rw [e]
    cases upA (dayOk xs) 0 xs.length <;> cases upA (atOk p xs) 0 xs.length <;> first | rfl | (cases decide (xs.length ≤ 40) <;> rfl)
end Go.Proofs.YtdbppckimfhgeaaGreatDoor
