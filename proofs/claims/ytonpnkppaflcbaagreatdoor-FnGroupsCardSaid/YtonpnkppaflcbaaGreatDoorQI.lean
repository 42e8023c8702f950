
/-
  Plain law: all numbers of a list are different: sorted, no two neighbours are alike.
-/
import Derived.Test.YtonpnkppaflcbaaGreatDoorQH3
namespace Go.Proofs.YtonpnkppaflcbaaGreatDoor
open G
set_option linter.unusedVariables false
set_option linter.unusedSimpArgs false
theorem cmp_full (xs : List Int) : (cmpI xs).length = xs.length ↔ ∀ j, j < xs.length → Go.Lib.keeps xs.toArray j = true := by
  unfold cmpI Go.Lib.compact Go.Lib.compactUpTo
  rw [List.length_map]
  constructor
  · intro h j hj
    have hl : ((List.range xs.length).filter (Go.Lib.keeps xs.toArray)).length = (List.range xs.length).length := by rw [h]; simp
    exact (List.length_filter_eq_length_iff.1 hl) j (List.mem_range.2 hj)
  · intro h
    rw [List.filter_eq_self.2 (fun j hj => h j (List.mem_range.1 hj)), List.length_range]
theorem sortI_perm (xs : List Int) : (sortI xs).Perm xs := List.mergeSort_perm xs _
theorem sortI_sorted (xs : List Int) : (sortI xs).Pairwise (· ≤ ·) := by
  have := List.pairwise_mergeSort (le := fun x y : Int => decide (x ≤ y)) (by intro a b c h1 h2; simp only [decide_eq_true_eq] at *; omega) (by intro a b; simp only [Bool.or_eq_true, decide_eq_true_eq]; omega) xs
  exact this.imp fun h => by simpa using h
theorem each_iff (xs : List Int) : (cmpI (sortI xs)).length = xs.length ↔ xs.Nodup := by
  have hl : (sortI xs).length = xs.length := sortI_len xs
  rw [← (sortI_perm xs).nodup_iff, ← hl, cmp_full]
  have hs := sortI_sorted xs
  generalize sortI xs = s at hs
  constructor
  · intro h
    unfold List.Nodup
    rw [List.pairwise_iff_getElem]
    intro i j hi hj hij e
    have hle : ∀ m, ∀ (hm : m < s.length), i ≤ m → s[i] ≤ s[m] := fun m hm him => by
      rcases Nat.lt_or_eq_of_le him with h1 | h1
      · exact (List.pairwise_iff_getElem.1 hs) i m hi hm h1
      · subst h1; exact Int.le_refl _
    have hk := h j hj
    unfold Go.Lib.keeps at hk
    rw [decide_eq_true_eq] at hk
    rcases hk with h0 | h0
    · omega
    · refine h0 ?_
      rw [getElem!_pos _ _ (by simpa using hj), getElem!_pos _ _ (by simp; omega)]
      simp only [List.getElem_toArray]
      have h1 := hle (j - 1) (by omega) (by omega)
      have h2 := (List.pairwise_iff_getElem.1 hs) (j - 1) j (by omega) hj (by omega)
      omega
  · intro h j hj
    unfold Go.Lib.keeps
    rw [decide_eq_true_eq]
    by_cases h0 : j = 0
    · exact .inl h0
    · refine .inr fun e => ?_
      rw [getElem!_pos _ _ (by simpa using hj), getElem!_pos _ _ (by simp; omega)] at e
      simp only [List.getElem_toArray] at e
      unfold List.Nodup at h
      exact (List.pairwise_iff_getElem.1 h) (j - 1) j (by omega) hj (by omega) e.symm
theorem isEach_eq (xs : List Int) (hx : xs.length ≤ 1048576) : impl_isEach.f xs = some (decide xs.Nodup) := by
  unfold impl_isEach.f slices_Clone_int64_int64.f slices_Sort_int64_int64.f slices_Compact_int64_int64.f
  rw [chkT (by simp; omega), Option.bind_some, Option.bind_some, chkT (by omega), Option.bind_some, Option.bind_some, chkT (by rw [sortI_len]; omega), Option.bind_some, Option.bind_some]
  congr 1
  rw [Bool.eq_iff_iff, decide_eq_true_eq, decide_eq_true_eq, ← each_iff]
  omega
end Go.Proofs.YtonpnkppaflcbaaGreatDoor
