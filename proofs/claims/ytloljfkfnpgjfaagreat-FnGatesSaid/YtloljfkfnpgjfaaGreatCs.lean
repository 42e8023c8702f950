/-
  What is sorted by a comparator.
-/
import Derived.Test.YtloljfkfnpgjfaaGreatGT
import Derived.Deep.Draws
import Derived.BigFrame
import Derived.Tactics2
import Derived.IntWalk
namespace Go.Proofs.YtloljfkfnpgjfaaGreat
open G Go.RowKit Go.Sort
set_option maxHeartbeats 4000000
set_option maxRecDepth 100000
set_option linter.unusedVariables false
theorem wr64 (n : Int) (h : -9223372036854775808 ≤ n ∧ n ≤ 9223372036854775807) : wrap64 n = n := by unfold wrap64; omega
def cmpSpot (x y : Spot) : Int := if x.Y ≠ y.Y then wrap64 (wrap64 x.Y - wrap64 y.Y) else wrap64 (wrap64 x.X - wrap64 y.X)
def okSpot (s : Spot) : Bool := decide (-128 ≤ s.X ∧ s.X ≤ 127) && decide (-128 ≤ s.Y ∧ s.Y ≤ 127)
def leSpot (x y : Spot) : Bool := decide (x.Y < y.Y ∨ (x.Y = y.Y ∧ x.X ≤ y.X))
theorem cmpSpot_calls (x y : Spot) (W : World) : Calls Tryz.prog 90 #[.agg #[.int .i8 x.X, .int .i8 x.Y], .agg #[.int .i8 y.X, .int .i8 y.Y]] W fun e w' => e = .returned (.int .i64 (cmpSpot x y)) ∧ ∃ q os', w' = Go.Sort.grow (W.drewN q) os' := by
  go_enter Tryz.func90, Tryz.ntmps90
  go_wp2
  · rename_i h
    go_ret
    refine ⟨?_, 0, #[_, _], by rw [Go.Sort.alloc_eq_grow, Go.Sort.alloc_eq_grow, Go.Sort.grow_grow]; rfl⟩
    have h : x.Y ≠ y.Y := by simpa using h
    unfold cmpSpot
    rw [if_pos h]; rfl
  · rename_i h
    go_ret
    refine ⟨?_, 0, #[_, _], by rw [Go.Sort.alloc_eq_grow, Go.Sort.alloc_eq_grow, Go.Sort.grow_grow]; rfl⟩
    have h : x.Y = y.Y := by simpa using h
    unfold cmpSpot
    rw [if_neg (by simp [h])]; rfl
theorem okSpot_iff {s : Spot} : okSpot s = true ↔ (-128 ≤ s.X ∧ s.X ≤ 127) ∧ (-128 ≤ s.Y ∧ s.Y ≤ 127) := by
  unfold okSpot; simp
theorem ltSpot {x y : Spot} (hx : okSpot x = true) (hy : okSpot y = true) : decide (cmpSpot x y < 0) = decide (x.Y < y.Y ∨ (x.Y = y.Y ∧ x.X < y.X)) := by
  obtain ⟨a, b⟩ := okSpot_iff.1 hx
  obtain ⟨c, d⟩ := okSpot_iff.1 hy
  rw [decide_eq_decide]
  unfold cmpSpot
  by_cases h : x.Y = y.Y
  · rw [if_neg (by simp [h]), wr64 x.X (by omega), wr64 y.X (by omega), wr64 _ (by omega)]; omega
  · rw [if_pos h, wr64 x.Y (by omega), wr64 y.Y (by omega), wr64 _ (by omega)]; omega
instance : Inhabited {x : Spot // okSpot x = true} := ⟨⟨⟨0, 0⟩, by decide⟩⟩
theorem sortSpot_calls (blk off cap : Nat) (d : Array {x : Spot // okSpot x = true}) (w : World) (h1 : Go.Sort.HoldsK (fun x : {x : Spot // okSpot x = true} => cSpot.enc x.1) cSpot.sz w blk off d) (h2 : blk < w.heap.size) (h3 : d.size < 4611686018427387904) :
    Calls Tryz.prog 89 #[.slice (some ⟨blk, off, none⟩) d.size cap, .func (.func 90) #[] #[]] w fun e w' => e = .returned (.tuple #[]) ∧ ∃ n os, w' = sortWorldK (fun x : {x : Spot // okSpot x = true} => cSpot.enc x.1) cSpot.sz w blk off n (d.toList.mergeSort fun x y => leSpot x.1 y.1).toArray os := by
  have e : (fun x y : {x : Spot // okSpot x = true} => !(ltOf fun x y : {x : Spot // okSpot x = true} => cmpSpot x.1 y.1) y x) = fun x y => leSpot x.1 y.1 := by
    funext x y
    unfold ltOf leSpot
    rw [ltSpot y.2 x.2, ← decide_not, decide_eq_decide]
    omega
  rw [← e]
  have eg : ∀ args w, (callFunc 90 args).run Tryz.prog w = .ok (.enter 90 args) w := enters_of Tryz.func90 (by kernel_rfl) rfl
  refine AnyQ.slices_SortFunc_total laySortSpot 2 (fun w => (run_isAgg (d := .struct #[{ name := "X", type := 24, offset := 0, embedded := false, tag := "", pkgPath := "", byteOffset := 0 }, { name := "Y", type := 24, offset := 1, embedded := false, tag := "", pkgPath := "", byteOffset := 1 }]) (by kernel_rfl) w).trans rfl) (fun w => ?_) (fun x : {x : Spot // okSpot x = true} => cSpot.enc x.1) (fun x => rfl) (fun x v hv => cSpot.one x.1 v hv) (fun x y => cmpSpot x.1 y.1) ⟨fun x => ?_, fun x y z => ?_, fun x y z => ?_⟩ 90 #[] blk off cap d w eg (fun m os dk hs x y => ?_) h1 h2 h3 (fun x y h h' => ?_)
  · obtain ⟨i, hi⟩ := info_of_underlying (P := Tryz.prog) (t := 45) (d := .struct #[{ name := "X", type := 24, offset := 0, embedded := false, tag := "", pkgPath := "", byteOffset := 0 }, { name := "Y", type := 24, offset := 1, embedded := false, tag := "", pkgPath := "", byteOffset := 1 }]) (by kernel_rfl)
    exact (run_sizeOf w hi).trans (by kernel_rfl)
  · unfold ltOf; rw [ltSpot x.2 x.2]; simp
  · unfold ltOf; rw [ltSpot x.2 y.2, ltSpot y.2 z.2, ltSpot x.2 z.2]; simp only [decide_eq_true_eq]; omega
  · unfold ltOf; rw [ltSpot x.2 y.2, ltSpot y.2 z.2, ltSpot x.2 z.2]; simp only [decide_eq_false_iff_not]; omega
  · exact cmpSpot_calls x.1 y.1 _
  · unfold ltOf at h h'
    rw [ltSpot x.2 y.2, decide_eq_false_iff_not] at h
    rw [ltSpot y.2 x.2, decide_eq_false_iff_not] at h'
    apply Subtype.ext
    obtain ⟨⟨a, b⟩, _⟩ := x
    obtain ⟨⟨c, d⟩, _⟩ := y
    simp only at h h'
    simp only [Spot.mk.injEq]
    omega
end Go.Proofs.YtloljfkfnpgjfaaGreat
