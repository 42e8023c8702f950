
/-
  Plain law: what slices.DeleteFunc leaves.
-/
import Derived.Test.YtokanemjghfadaaGreatDoorD2
namespace Go.Proofs.YtokanemjghfadaaGreatDoor
open G
set_option linter.unusedVariables false
set_option linter.unusedSimpArgs false
theorem evAllS {xs : List Spot} {g : Nat → Spot → Option Bool} {p : Spot → Bool} (h : ∀ x ∈ xs, Ev (fun k => g k x) (p x)) : ∃ J, ∀ j, J ≤ j → ∀ x ∈ xs, g j x = some (p x) := by
  induction xs with
  | nil => exact ⟨0, fun j _ x hx => by simp at hx⟩
  | cons y ys ih =>
    obtain ⟨J, hJ⟩ := ih fun x hx => h x (List.mem_cons_of_mem _ hx)
    obtain ⟨K, hK⟩ := h y (List.mem_cons_self ..)
    refine ⟨J + K, fun j hj x hx => ?_⟩
    rcases List.mem_cons.1 hx with rfl | hx
    · exact hK j (by omega)
    · exact hJ j (by omega) x hx
theorem take_setS {ys : List Spot} {w : Nat} (hw : w < ys.length) (a : Spot) : (ys.set w a).take (w + 1) = ys.take w ++ [a] := by
 rw [List.take_add_one, List.getElem?_set_self hw]
 congr 1
 apply List.ext_getElem?
 intro j
 simp only [List.getElem?_take, List.getElem?_set]
 split
 ·rw [if_neg (by omega)]
 rfl
theorem drop_setS' {ys : List Spot} {w j : Nat} (hw : w < j) (a : Spot) : (ys.set w a).drop j = ys.drop j := by
 apply List.ext_getElem?
 intro i
 rw [List.getElem?_drop, List.getElem?_drop, List.getElem?_set_ne (by omega)]
theorem take_keepS {xs : List Spot} {j : Nat} (hj : j < xs.length) (f : Spot → Bool) : (xs.take (j + 1)).filter f = (xs.take j).filter f ++ (if f xs[j] = true then [xs[j]] else []) := by
 rw [List.take_add_one, List.getElem?_eq_getElem hj, List.filter_append]
 congr 1
 simp only [Option.toList, List.filter_cons, List.filter_nil]
theorem delS_loop (xs : List Spot) (dl : Spot → Bool) (hn : xs.length ≤ 1048576) : ∀ (d j w : Nat) (ys : List Spot), j + d = xs.length → w ≤ j → ys.length = xs.length → ys.take w = (xs.take j).filter (fun h => !dl h) → ys.drop j = xs.drop j →
 ∃ (ys' : List Spot) (w' : Nat), ys'.length = xs.length ∧ w' ≤ xs.length ∧ ys'.take w' = xs.filter (fun h => !dl h) ∧ ∀ g : Spot → Option Bool, (∀ h ∈ xs, g h = some (dl h)) → ∀ k, d < k → slices_DeleteFunc_impl_Spot_impl_Spot.l1 g k ys (w : Int) (j : Int) = some (ys', (w' : Int))
  | 0, j, w, ys, hj, hw, hl, ht, hd => by
    refine ⟨ys, w, hl, by omega, ?_, fun g hg k hk => ?_⟩
    · rw [ht, List.take_of_length_le (by omega)]
    · obtain ⟨k, rfl⟩ : ∃ z, k = z + 1 := ⟨k - 1, by omega⟩
      rw [slices_DeleteFunc_impl_Spot_impl_Spot.l1, if_neg (by omega)]
  | d + 1, j, w, ys, hj, hw, hl, ht, hd => by
    have hjx : j < xs.length := by omega
    have hjy : j < ys.length := by omega
    have e : ys[j] = xs[j] := by
      have := congrArg (fun l => l[0]?) hd
      simp only [List.getElem?_drop, Nat.add_zero, List.getElem?_eq_getElem hjy, List.getElem?_eq_getElem hjx] at this
      exact Option.some.inj this
    have hg0 : getI ys (j : Int) = some xs[j] := by rw [getI_nat hjy, e]
    have hd1 : ys.drop (j + 1) = xs.drop (j + 1) := by
      have := congrArg (fun l => l.drop 1) hd
      simpa [List.drop_drop] using this
    cases hc : dl xs[j]
    · obtain ⟨ys', w', h1, h2, h3, h4⟩ := delS_loop xs dl hn d (j + 1) (w + 1) (ys.set w xs[j]) (by omega) (by omega) (by simpa using hl) (by rw [take_setS (by omega), ht, take_keepS hjx, hc]; rfl) (by rw [drop_setS' (by omega), hd1])
      refine ⟨ys', w', h1, h2, h3, fun g hg k hk => ?_⟩
      obtain ⟨k, rfl⟩ : ∃ z, k = z + 1 := ⟨k - 1, by omega⟩
      rw [slices_DeleteFunc_impl_Spot_impl_Spot.l1, if_pos (by omega), hg0, Option.bind_some, hg _ (List.getElem_mem hjx), Option.bind_some, hc, if_pos (by rfl), getI_nat (show w < ys.length by omega), Option.bind_some, Int.toNat_natCast, wsucc hjx (by omega), wsucc (show w < xs.length by omega) (by omega)]
      exact h4 g hg k (by omega)
    · obtain ⟨ys', w', h1, h2, h3, h4⟩ := delS_loop xs dl hn d (j + 1) w ys (by omega) (by omega) hl (by rw [ht, take_keepS hjx, hc]; simp) hd1
      refine ⟨ys', w', h1, h2, h3, fun g hg k hk => ?_⟩
      obtain ⟨k, rfl⟩ : ∃ z, k = z + 1 := ⟨k - 1, by omega⟩
      rw [slices_DeleteFunc_impl_Spot_impl_Spot.l1, if_pos (by omega), hg0, Option.bind_some, hg _ (List.getElem_mem hjx), Option.bind_some, hc, if_neg (by simp), wsucc hjx (by omega)]
      exact h4 g hg k (by omega)
theorem idxZ_loop (xs : List Spot) (dl : Spot → Bool) (hx : xs.length ≤ 1048576) : ∀ i : Nat, i ≤ xs.length → ∃ r : Int ⊕ Unit, (∀ g : Spot → Option Bool, (∀ x ∈ xs, g x = some (dl x)) → ∀ k, xs.length - i < k → slices_IndexFunc_impl_Spot_impl_Spot.l1 xs g k (i : Int) = some r) ∧
 ((r = .inr () ∧ ∀ h ∈ xs.drop i, dl h = false) ∨ ∃ (j : Nat) (hj : j < xs.length), i ≤ j ∧ r = .inl (j : Int) ∧ dl xs[j] = true ∧ ∀ h ∈ (xs.drop i).take (j - i), dl h = false) := by
 refine upL ?_ ?_
 ·refine ⟨.inr (), fun g hg k hk => ?_, .inl ⟨rfl, by simp⟩⟩
  obtain ⟨k, rfl⟩ : ∃ j, k = j + 1 := ⟨k - 1, by omega⟩
  rw [slices_IndexFunc_impl_Spot_impl_Spot.l1, if_neg (by omega)]
 rintro i hi ⟨r, ih, h⟩
 cases hb : dl xs[i]
 ·refine ⟨r, fun g hg k hk => ?_, ?_⟩
  ·obtain ⟨k, rfl⟩ : ∃ j, k = j + 1 := ⟨k - 1, by omega⟩
   rw [slices_IndexFunc_impl_Spot_impl_Spot.l1, if_pos (by omega), getI_nat hi, Option.bind_some, hg _ (List.getElem_mem hi), Option.bind_some, hb, if_neg (by simp), wsucc hi (by omega)]
   exact ih g hg k (by omega)
  rcases h with ⟨h1, h2⟩ | ⟨j, hj, h1, h2, h3, h4⟩
  ·refine .inl ⟨h1, fun z hz => ?_⟩
   rw [List.drop_eq_getElem_cons hi] at hz
   rcases List.mem_cons.1 hz with rfl | hz
   ·exact hb
   exact h2 z hz
  refine .inr ⟨j, hj, by omega, h2, h3, fun z hz => ?_⟩
  rw [List.drop_eq_getElem_cons hi, show j - i = (j - (i + 1)) + 1 by omega, List.take_succ_cons] at hz
  rcases List.mem_cons.1 hz with rfl | hz
  ·exact hb
  exact h4 z hz
 refine ⟨.inl (i : Int), fun g hg k hk => ?_, .inr ⟨i, hi, Nat.le_refl _, rfl, hb, by simp⟩⟩
 obtain ⟨k, rfl⟩ : ∃ j, k = j + 1 := ⟨k - 1, by omega⟩
 rw [slices_IndexFunc_impl_Spot_impl_Spot.l1, if_pos (by omega), getI_nat hi, Option.bind_some, hg _ (List.getElem_mem hi), Option.bind_some, hb, if_pos rfl]
theorem deleteS_ev (xs : List Spot) {g : Nat → Spot → Option Bool} {dl : Spot → Bool} (hg : ∀ x ∈ xs, Ev (fun k => g k x) (dl x)) (hx : xs.length ≤ 1048576) : Ev (fun k => slices_DeleteFunc_impl_Spot_impl_Spot.f k xs (g k)) (xs.filter fun h => !dl h) := by
 obtain ⟨J, hJ⟩ := evAllS hg
 obtain ⟨r, hr, h⟩ := idxZ_loop xs dl hx 0 (Nat.zero_le _)
 rcases h with ⟨rfl, h⟩ | ⟨j, hj, _, rfl, h3, h4⟩
 ·refine ⟨J + xs.length + 1, fun k hk => ?_⟩
  have e : slices_IndexFunc_impl_Spot_impl_Spot.l1 xs (g k) k 0 = some (.inr ()) := hr (g k) (hJ k (by omega)) k (by omega)
  show slices_DeleteFunc_impl_Spot_impl_Spot.f k xs (g k) = _
  unfold slices_DeleteFunc_impl_Spot_impl_Spot.f slices_IndexFunc_impl_Spot_impl_Spot.f
  rw [e]
  simp only [Option.bind_some, if_true]
  congr 1
  symm
  rw [List.filter_eq_self]
  intro z hz
  rw [List.drop_zero] at h
  rw [h z hz]; rfl
 rw [List.drop_zero, Nat.sub_zero] at h4
 have hk : xs.take j = (xs.take (j + 1)).filter (fun h => !dl h) := by
   rw [take_keepS hj, h3, Bool.not_true, if_neg (by simp), List.append_nil]
   symm
   rw [List.filter_eq_self]
   intro z hz
   rw [h4 z hz]; rfl
 obtain ⟨ys', w', q1, q2, q3, q4⟩ := delS_loop xs dl hx (xs.length - (j + 1)) (j + 1) j xs (by omega) (by omega) rfl hk rfl
 refine ⟨J + xs.length + 1, fun k hk => ?_⟩
 have e : slices_IndexFunc_impl_Spot_impl_Spot.l1 xs (g k) k 0 = some (.inl (j : Int)) := hr (g k) (hJ k (by omega)) k (by omega)
 have e2 := q4 (g k) (hJ k (by omega)) k (by omega)
 rw [← wsucc hj (by omega)] at e2
 show slices_DeleteFunc_impl_Spot_impl_Spot.f k xs (g k) = _
 unfold slices_DeleteFunc_impl_Spot_impl_Spot.f slices_IndexFunc_impl_Spot_impl_Spot.f
 rw [e]
 simp only [Option.bind_some]
 rw [if_neg (by omega), e2]
 simp only [Option.bind_some, Int.toNat_natCast]
 rw [chkT (by omega), Option.bind_some, chkT (by simp; omega), Option.bind_some, q3.symm]
 congr 1
 rw [List.take_append_of_le_length (by simp; omega), List.take_take, Nat.min_self]
end Go.Proofs.YtokanemjghfadaaGreatDoor
