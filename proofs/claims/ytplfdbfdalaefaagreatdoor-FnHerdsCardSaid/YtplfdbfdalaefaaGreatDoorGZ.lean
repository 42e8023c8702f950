/-
  The library's sort, on a row that is the call's own or handed over to be written: by the shelf's contract.
-/
import Derived.Test.YtplfdbfdalaefaaGreatDoorGN
import Derived.Test.YtplfdbfdalaefaaGreatDoorGS
import Derived.Sort.Grow
import Derived.Lib.SlicesCompact
namespace Go.Proofs.YtplfdbfdalaefaaGreatDoor
namespace G
set_option linter.unusedVariables false
set_option linter.unusedSimpArgs false
variable {P : Program} {w w' : World} {X : Nat → Prop} {L R : List Chunk}
theorem flat_ci (k : IntKind) : ∀ xs : List Int, flat (ci k) xs = xs.map (Value.int k)
  | [] => rfl
  | x :: xs => by
    show (ci k).enc x ++ flat (ci k) xs = _
    rw [flat_ci k xs]; rfl
theorem sort_world {g T : Nat} {cur : Array Value} {xs ys : List Int} (hb : w.heap[g]? = some (.cells cur T (0, 0))) (hs : xs.length ≤ cur.size) (hl : ys.length = xs.length) (n : Nat) (os : Array Obj) :
 Chg (fun k => k = g) w (Go.Sort.grow (Go.Sort.putRow (Value.int .i64) (Go.Sort.ahead w n) g 0 ys.toArray) os) ∧
 ∃ cur' : Array Value, (Go.Sort.grow (Go.Sort.putRow (Value.int .i64) (Go.Sort.ahead w n) g 0 ys.toArray) os).heap[g]? = some (.cells cur' T (0, 0)) ∧ cur'.size = cur.size ∧ cur'.toList.take ys.length = flat (ci .i64) ys := by
 have hg := (Array.getElem?_eq_some_iff.1 hb).1
 have hsz : (Go.Sort.putRow (Value.int .i64) (Go.Sort.ahead w n) g 0 ys.toArray).heap.size = w.heap.size := by
   simp [Go.Sort.putRow, Go.Sort.mapBlock, Go.Sort.ahead]
 refine ⟨⟨rfl, rfl, rfl, by rw [Go.Sort.size_grow, hsz]; omega, fun k hk hne => ?_⟩, Go.Sort.putCells (Value.int .i64) 0 ys.toArray cur, ?_, by simp [Go.Sort.putCells], ?_⟩
 ·rw [Go.Sort.heap_grow_old _ _ (by rw [hsz]; exact hk)]
  show (w.heap.modify g _)[k]? = _
  rw [Array.getElem?_modify, if_neg (fun e => hne e.symm)]
 ·rw [Go.Sort.heap_grow_old _ _ (by rw [hsz]; exact hg)]
  show (w.heap.modify g _)[g]? = _
  rw [Array.getElem?_modify, if_pos rfl, hb]
  rfl
 rw [flat_ci]
 apply List.ext_getElem?
 intro k
 rw [List.getElem?_take]
 by_cases hk : k < ys.length
 ·rw [if_pos hk, Array.getElem?_toList]
  simp only [Go.Sort.putCells, Array.getElem?_mapIdx, List.size_toArray]
  rw [Array.getElem?_eq_getElem (by omega), Option.map_some, if_pos ⟨Nat.zero_le _, by omega⟩, Nat.sub_zero, getElem!_pos _ _ (by simpa using hk)]
  simp [hk]
 rw [if_neg hk, List.getElem?_map, List.getElem?_eq_none (by omega)]; rfl
def sortI (xs : List Int) : List Int := xs.mergeSort fun x y => decide (x ≤ y)
theorem sortI_len (xs : List Int) : (sortI xs).length = xs.length := List.length_mergeSort xs
theorem sort_cv {f : FuncId} {A : Option Addr} {c T : Nat} {xs : List Int} (hin : St w (fpU [rowC (ci .i64) A c T xs]) w [rowC (ci .i64) A c T xs] [])
 (hs : ∀ (blk off cap : Nat) (zs : List Int) (w : World), Go.Sort.Holds (Value.int .i64) w blk off zs.toArray → blk < w.heap.size → zs.length < 4611686018427387904 →
 Calls P f #[.slice (some ⟨blk, off, none⟩) zs.length cap] w fun e w' => e = .returned (.tuple #[]) ∧ ∃ n os, w' = Go.Sort.grow (Go.Sort.putRow (Value.int .i64) (Go.Sort.ahead w n) blk off (zs.mergeSort fun x y => decide (x ≤ y)).toArray) os)
 (hn : ∀ (p : Option Addr) (cap : Nat) (w : World), Calls P f #[.slice p 0 cap] w fun e w' => e = .returned (.tuple #[]) ∧ w' = w) (hlen : xs.length ≤ 4294967296) :
 CV P f [.slice A xs.length c].toArray w fun v w' => v = .tuple #[] ∧ St w (fpU [rowC (ci .i64) A c T xs]) w' [rowC (ci .i64) A c T (sortI xs)] [] ∧ (sortI xs).length = xs.length := by
  have hr : RowAt w A c T (ci .i64).sz xs.length (flat (ci .i64) xs) := hin.at_ (i := 0) rfl
  have hl : (sortI xs).length = xs.length := sortI_len xs
  cases xs with
  | nil =>
    refine Calls.mono (hn A c w) fun e w' ⟨he, hw⟩ => ⟨_, he, rfl, ?_, hl⟩
    subst hw
    rw [show sortI [] = [] from List.length_eq_zero_iff.1 hl]
    exact hin
  | cons x xs =>
    have hle : (x :: xs).length ≤ c := hr.le
    obtain ⟨g, cur, rfl, hb, hsz, ht⟩ := hr.arr.resolve_left (by simp at hle; omega)
    have hsz : cur.size = c * 1 := hsz
    have ht : cur.toList.take ((x :: xs).length * 1) = flat (ci .i64) (x :: xs) := ht
    rw [Nat.mul_one] at hsz ht
    have hg := (Array.getElem?_eq_some_iff.1 hb).1
    have hH : Go.Sort.Holds (Value.int .i64) w g 0 (x :: xs).toArray := by
      intro j hj
      have hj : j < (x :: xs).length := by simpa using hj
      refine ⟨?_, ?_⟩
      · rw [Nat.zero_add, cell_of_row w g j _ T _ hb]
        have := congrArg (fun l => l[j]?) ht
        simp only [List.getElem?_take, flat_ci, List.getElem?_map, if_pos hj, Array.getElem?_toList] at this
        rw [this, List.getElem?_eq_getElem hj, getElem!_pos _ _ (by simpa using hj)]
        simp
      · unfold World.frozen?
        show (match w.heap[g]? with | some (.cells _ _ (lo, hi)) => decide (lo ≤ 0 + j) && decide (0 + j < hi) | _ => false) = false
        rw [hb]; simp
    refine Calls.mono (hs g 0 c (x :: xs) w hH hg (by omega)) fun e w' ⟨he, n, os, hw⟩ => ⟨_, he, rfl, ?_, hl⟩
    subst hw
    obtain ⟨hc, cur', h1, h2, h3⟩ := sort_world (xs := x :: xs) (ys := sortI (x :: xs)) hb (by omega) hl n os
    refine hin.rowSet (i := 0) (C := ci .i64) rfl (hc.mono fun k _ hk => ?_) ⟨flat_len _ _, by rw [hl]; exact hle, hr.cap, .inr ⟨g, cur', rfl, h1, ?_, ?_⟩⟩
    · subst hk
      exact ⟨by simp at hle; omega, rfl⟩
    · show cur'.size = c * 1
      omega
    · show cur'.toList.take ((sortI (x :: xs)).length * 1) = _
      rw [Nat.mul_one]; exact h3
def cmpI (xs : List Int) : List Int := Go.Lib.compact xs
theorem cmpI_len (xs : List Int) : (cmpI xs).length ≤ xs.length := by
 unfold cmpI Go.Lib.compact Go.Lib.compactUpTo
 rw [List.length_map]
 exact Nat.le_trans (List.length_filter_le _ _) (by simp)
theorem compact_cv {f : FuncId} {A : Option Addr} {c T : Nat} {xs : List Int} (hin : St w (fpU [rowC (ci .i64) A c T xs]) w [rowC (ci .i64) A c T xs] [])
 (hs : ∀ (blk off cap : Nat) (zs : List Int) (w : World), Go.Sort.Holds (Value.int .i64) w blk off zs.toArray → zs.length ≤ 9223372036854775807 → zs.length ≤ cap →
 Calls P f #[.slice (some ⟨blk, off, none⟩) zs.length cap] w fun e w' => e = .returned (.slice (some ⟨blk, off, none⟩) (Go.Lib.compact zs).length cap) ∧ ∃ q, w' = Go.Sort.putRow (Value.int .i64) (Go.Sort.ahead w q) blk off (Go.Lib.compact zs ++ List.replicate (zs.length - (Go.Lib.compact zs).length) 0).toArray)
 (hn : ∀ (p : Option Addr) (cap : Nat) (w : World), Calls P f #[.slice p 0 cap] w fun e w' => e = .returned (.slice p 0 cap) ∧ w' = w) (hlen : xs.length ≤ 4294967296) :
 CV P f [.slice A xs.length c].toArray w fun v w' => ∃ (A0 : Option Addr) (c0 : Nat), v = .slice A0 (cmpI xs).length c0 ∧ St w (fpU [rowC (ci .i64) A c T xs]) w' [rowC (ci .i64) A0 c0 T (cmpI xs)] [] := by
  have hr : RowAt w A c T (ci .i64).sz xs.length (flat (ci .i64) xs) := hin.at_ (i := 0) rfl
  have hl : (cmpI xs).length ≤ xs.length := cmpI_len xs
  cases xs with
  | nil =>
    refine Calls.mono (hn A c w) fun e w' ⟨he, hw⟩ => ⟨_, he, A, c, ?_, ?_⟩
    · rw [show cmpI [] = [] from List.length_eq_zero_iff.1 (by simpa using hl)]; rfl
    · subst hw
      rw [show cmpI [] = [] from List.length_eq_zero_iff.1 (by simpa using hl)]
      exact hin
  | cons x xs =>
    have hle : (x :: xs).length ≤ c := hr.le
    obtain ⟨g, cur, rfl, hb, hsz, ht⟩ := hr.arr.resolve_left (by simp at hle; omega)
    have hsz : cur.size = c * 1 := hsz
    have ht : cur.toList.take ((x :: xs).length * 1) = flat (ci .i64) (x :: xs) := ht
    rw [Nat.mul_one] at hsz ht
    have hg := (Array.getElem?_eq_some_iff.1 hb).1
    have hH : Go.Sort.Holds (Value.int .i64) w g 0 (x :: xs).toArray := by
      intro j hj
      have hj : j < (x :: xs).length := by simpa using hj
      refine ⟨?_, ?_⟩
      · rw [Nat.zero_add, cell_of_row w g j _ T _ hb]
        have := congrArg (fun l => l[j]?) ht
        simp only [List.getElem?_take, flat_ci, List.getElem?_map, if_pos hj, Array.getElem?_toList] at this
        rw [this, List.getElem?_eq_getElem hj, getElem!_pos _ _ (by simpa using hj)]
        simp
      · unfold World.frozen?
        show (match w.heap[g]? with | some (.cells _ _ (lo, hi)) => decide (lo ≤ 0 + j) && decide (0 + j < hi) | _ => false) = false
        rw [hb]; simp
    refine Calls.mono (hs g 0 c (x :: xs) w hH (by omega) hle) fun e w' ⟨he, n, hw⟩ => ⟨_, he, some ⟨g, 0, none⟩, c, rfl, ?_⟩
    subst hw
    have hy : (cmpI (x :: xs) ++ List.replicate ((x :: xs).length - (cmpI (x :: xs)).length) 0).length = (x :: xs).length := by rw [List.length_append, List.length_replicate]; omega
    obtain ⟨hc, cur', h1, h2, h3⟩ := sort_world (xs := x :: xs) (ys := cmpI (x :: xs) ++ List.replicate ((x :: xs).length - (cmpI (x :: xs)).length) 0) hb (by omega) hy n #[]
    rw [Go.Sort.grow_empty] at hc h1
    have h4 := hin.rowSet (i := 0) (C := ci .i64) (xs' := cmpI (x :: xs) ++ List.replicate ((x :: xs).length - (cmpI (x :: xs)).length) 0) rfl (hc.mono fun k _ hk => ?_) ⟨flat_len _ _, by rw [hy]; exact hle, hr.cap, .inr ⟨g, cur', rfl, h1, ?_, ?_⟩⟩
    · have h5 := h4.shrink (i := 0) (m := (cmpI (x :: xs)).length) rfl (by rw [hy]; exact hl)
      rw [List.take_left'] at h5
      · exact h5
      · rfl
    · subst hk
      exact ⟨by simp at hle; omega, rfl⟩
    · show cur'.size = c * 1
      omega
    · show cur'.toList.take (_ * 1) = _
      rw [Nat.mul_one]; exact h3
end G
end Go.Proofs.YtplfdbfdalaefaaGreatDoor
