/-
  The library's sort by a comparator, on a row of structs that is written: by the shelf's contract.
-/
import Derived.Test.YtegibnmfiogebaaGreatDoorGN
import Derived.Test.YtegibnmfiogebaaGreatDoorGS
import Derived.Sort.Grow
import Derived.Shelf.GgSortFunc.InsertionK
namespace Go.Proofs.YtegibnmfiogebaaGreatDoor
namespace G
set_option linter.unusedVariables false
set_option linter.unusedSimpArgs false
variable {P : Program} {w w' : World} {X : Nat → Prop} {L R : List Chunk}
theorem flatK_cons {β : Type} [Inhabited β] {enc : β → List Value} {k : Nat} (hk : ∀ x, (enc x).length = k) (x : β) (xs : List β) : (Go.Sort.flatK enc k (x :: xs).toArray).toList = enc x ++ (Go.Sort.flatK enc k xs.toArray).toList := by
 apply List.ext_getElem?
 intro t
 have hmul : (xs.length + 1) * k = k + xs.length * k := by rw [Nat.add_mul, Nat.one_mul, Nat.add_comm]
 simp only [Go.Sort.flatK, Array.toList_map, Array.toList_range, List.getElem?_map, List.size_toArray, List.length_cons]
 by_cases h : t < k
 ·have h0 : t / k = 0 := Nat.div_eq_of_lt h
  have h1 : t % k = t := Nat.mod_eq_of_lt h
  rw [List.getElem?_append_left (by rw [hk]; exact h), List.getElem?_range (by omega), Option.map_some, h0, h1]
  simp [hk, h]
 have hk0 : 0 < k ∨ k = 0 := by omega
 rcases hk0 with hk0 | hk0
 ·obtain ⟨s, rfl⟩ : ∃ s, t = k + s := ⟨t - k, by omega⟩
  rw [List.getElem?_append_right (by rw [hk]; omega), hk, Nat.add_sub_cancel_left, List.getElem?_map]
  have h0 : (k + s) / k = s / k + 1 := by rw [Nat.add_comm, Nat.add_div_right _ hk0]
  have h1 : (k + s) % k = s % k := Nat.add_mod_left _ _
  by_cases hs : s < xs.length * k
  ·rw [List.getElem?_range (by omega), List.getElem?_range hs, Option.map_some, Option.map_some, h0, h1]
   have : s / k < xs.length := Nat.div_lt_of_lt_mul (by rw [Nat.mul_comm]; exact hs)
   simp [this]
  rw [List.getElem?_eq_none (by simp; omega), List.getElem?_eq_none (by simp; omega)]; rfl
 subst hk0
 have : enc x = [] := List.eq_nil_of_length_eq_zero (hk x)
 simp [this]
theorem flatK_flat {β : Type} [Inhabited β] {enc : β → List Value} {k : Nat} (hk : ∀ x, (enc x).length = k) : ∀ xs : List β, (Go.Sort.flatK enc k xs.toArray).toList = (xs.map enc).flatten
  | [] => by simp [Go.Sort.flatK]
  | x :: xs => by rw [flatK_cons hk, flatK_flat hk xs]; rfl
theorem flat_flatten {α : Type} (C : Cd α) : ∀ xs : List α, flat C xs = (xs.map C.enc).flatten
  | [] => rfl
  | x :: xs => by
    show C.enc x ++ flat C xs = _
    rw [flat_flatten C xs]; rfl
theorem sort_worldK {g T : Nat} {cur F : Array Value} (hb : w.heap[g]? = some (.cells cur T (0, 0))) (hs : F.size ≤ cur.size) (n : Nat) (os : Array Obj) :
 Chg (fun k => k = g) w (Go.Sort.grow (Go.Sort.putRow id (Go.Sort.ahead w n) g 0 F) os) ∧
 ∃ cur' : Array Value, (Go.Sort.grow (Go.Sort.putRow id (Go.Sort.ahead w n) g 0 F) os).heap[g]? = some (.cells cur' T (0, 0)) ∧ cur'.size = cur.size ∧ cur'.toList.take F.size = F.toList := by
 have hg := (Array.getElem?_eq_some_iff.1 hb).1
 have hsz : (Go.Sort.putRow id (Go.Sort.ahead w n) g 0 F).heap.size = w.heap.size := by
   simp [Go.Sort.putRow, Go.Sort.mapBlock, Go.Sort.ahead]
 refine ⟨⟨rfl, rfl, rfl, by rw [Go.Sort.size_grow, hsz]; omega, fun k hk hne => ?_⟩, Go.Sort.putCells id 0 F cur, ?_, by simp [Go.Sort.putCells], ?_⟩
 ·rw [Go.Sort.heap_grow_old _ _ (by rw [hsz]; exact hk)]
  show (w.heap.modify g _)[k]? = _
  rw [Array.getElem?_modify, if_neg (fun e => hne e.symm)]
 ·rw [Go.Sort.heap_grow_old _ _ (by rw [hsz]; exact hg)]
  show (w.heap.modify g _)[g]? = _
  rw [Array.getElem?_modify, if_pos rfl, hb]
  rfl
 apply List.ext_getElem?
 intro k
 rw [List.getElem?_take]
 by_cases hk : k < F.size
 ·rw [if_pos hk, Array.getElem?_toList, Array.getElem?_toList]
  simp only [Go.Sort.putCells, Array.getElem?_mapIdx]
  rw [Array.getElem?_eq_getElem (by omega), Option.map_some, if_pos ⟨Nat.zero_le _, by omega⟩, Nat.sub_zero, getElem!_pos F k hk, Array.getElem?_eq_getElem hk]
  rfl
 rw [if_neg hk, Array.getElem?_toList, Array.getElem?_eq_none (by omega)]
theorem attW {α : Type} {V : α → Prop} {xs : List α} (hV : ∀ x ∈ xs, V x) : (xs.attachWith V hV).map Subtype.val = xs := by simp
theorem sortf_cv {α : Type} {C : Cd α} {V : α → Prop} [Inhabited {x // V x}] {f g : FuncId} {A : Option Addr} {c T : Nat} {xs : List α} (le : α → α → Bool) (hV : ∀ x ∈ xs, V x) (hin : St w (fpU [rowC C A c T xs]) w [rowC C A c T xs] [])
 (hs : ∀ (blk off cap : Nat) (d : Array {x // V x}) (w : World), Go.Sort.HoldsK (fun x : {x // V x} => C.enc x.1) C.sz w blk off d → blk < w.heap.size → d.size < 4611686018427387904 →
 Calls P f #[.slice (some ⟨blk, off, none⟩) d.size cap, .func (.func g) #[] #[]] w fun e w' => e = .returned (.tuple #[]) ∧ ∃ n os, w' = sortWorldK (fun x : {x // V x} => C.enc x.1) C.sz w blk off n (d.toList.mergeSort fun x y => le x.1 y.1).toArray os)
 (hn : ∀ (p : Option Addr) (cap : Nat) (w : World), Calls P f #[.slice p 0 cap, .func (.func g) #[] #[]] w fun e w' => e = .returned (.tuple #[]) ∧ w' = w) (hlen : xs.length ≤ 4294967296) :
 CV P f [.slice A xs.length c, .func (.func g) #[] #[]].toArray w fun v w' => v = .tuple #[] ∧ St w (fpU [rowC C A c T xs]) w' [rowC C A c T (xs.mergeSort le)] [] ∧ (xs.mergeSort le).length = xs.length := by
  have hr : RowAt w A c T C.sz xs.length (flat C xs) := hin.at_ (i := 0) rfl
  have hl : (xs.mergeSort le).length = xs.length := List.length_mergeSort xs
  cases hxs : xs with
  | nil =>
    subst hxs
    refine Calls.mono (hn A c w) fun e w' ⟨he, hw⟩ => ⟨_, he, rfl, ?_, hl⟩
    subst hw
    rw [show ([] : List α).mergeSort le = [] from List.length_eq_zero_iff.1 hl]
    exact hin
  | cons x0 xs0 =>
    rw [← hxs]
    have hpos : 0 < xs.length := by rw [hxs]; simp
    have hle : xs.length ≤ c := hr.le
    obtain ⟨g', cur, rfl, hb, hsz, ht⟩ := hr.arr.resolve_left (by omega)
    have hg := (Array.getElem?_eq_some_iff.1 hb).1
    have hk : ∀ x : {x // V x}, (C.enc x.1).length = C.sz := fun x => C.len x.1
    have hF : (Go.Sort.flatK (fun x : {x // V x} => C.enc x.1) C.sz (xs.attachWith V hV).toArray).toList = flat C xs := by
      rw [flatK_flat hk, flat_flatten]
      congr 1
      show (xs.attachWith V hV).map (fun x => C.enc x.1) = _
      rw [show (fun x : {x // V x} => C.enc x.1) = C.enc ∘ Subtype.val from rfl, ← List.map_map, attW hV]
    have hFs : (Go.Sort.flatK (fun x : {x // V x} => C.enc x.1) C.sz (xs.attachWith V hV).toArray).size = xs.length * C.sz := by
      simp
    have hH : Go.Sort.HoldsK (fun x : {x // V x} => C.enc x.1) C.sz w g' 0 (xs.attachWith V hV).toArray := by
      intro j hj
      have hj' : j < xs.length * C.sz := by rw [hFs] at hj; exact hj
      refine ⟨?_, ?_⟩
      · rw [Nat.zero_add, cell_of_row w g' j _ T _ hb]
        have e1 := congrArg (fun l => l[j]?) ht
        simp only [List.getElem?_take, if_pos hj', Array.getElem?_toList] at e1
        have e2 := congrArg (fun l => l[j]?) hF
        simp only [Array.getElem?_toList] at e2
        rw [e1, ← e2, Array.getElem?_eq_getElem hj]
        exact congrArg some (getElem!_pos _ j hj).symm
      · unfold World.frozen?
        show (match w.heap[g']? with | some (.cells _ _ (lo, hi)) => decide (lo ≤ 0 + j) && decide (0 + j < hi) | _ => false) = false
        rw [hb]; simp
    have hds : (xs.attachWith V hV).toArray.size = xs.length := by simp
    have hcall := hs g' 0 c (xs.attachWith V hV).toArray w hH hg (by rw [hds]; omega)
    rw [hds] at hcall
    refine Calls.mono hcall fun e w' ⟨he, n, os, hw⟩ => ⟨_, he, rfl, ?_, hl⟩
    subst hw
    have hm : ((xs.attachWith V hV).mergeSort fun x y => le x.1 y.1).map Subtype.val = xs.mergeSort le := by
      rw [List.map_mergeSort (s := le) (fun _ _ _ _ => rfl), attW hV]
    have hY : (Go.Sort.flatK (fun x : {x // V x} => C.enc x.1) C.sz ((xs.attachWith V hV).mergeSort fun x y => le x.1 y.1).toArray).toList = flat C (xs.mergeSort le) := by
      rw [flatK_flat hk, flat_flatten, ← hm, List.map_map]
      rfl
    have hYs : (Go.Sort.flatK (fun x : {x // V x} => C.enc x.1) C.sz ((xs.attachWith V hV).mergeSort fun x y => le x.1 y.1).toArray).size = xs.length * C.sz := by
      simp
    have hcs : xs.length * C.sz ≤ cur.size := by rw [hsz]; exact Nat.mul_le_mul_right _ hle
    obtain ⟨hc, cur', h1, h2, h3⟩ := sort_worldK (F := Go.Sort.flatK (fun x : {x // V x} => C.enc x.1) C.sz ((xs.attachWith V hV).mergeSort fun x y => le x.1 y.1).toArray) hb (by rw [hYs]; exact hcs) n os
    refine hin.rowSet (i := 0) (C := C) rfl (hc.mono fun k _ hk => ?_) ⟨flat_len _ _, by rw [hl]; exact hle, hr.cap, .inr ⟨g', cur', rfl, h1, ?_, ?_⟩⟩
    · subst hk
      exact ⟨by omega, rfl⟩
    · rw [h2]; exact hsz
    · rw [hl, ← hYs, h3, hY]
end G
end Go.Proofs.YtegibnmfiogebaaGreatDoor
