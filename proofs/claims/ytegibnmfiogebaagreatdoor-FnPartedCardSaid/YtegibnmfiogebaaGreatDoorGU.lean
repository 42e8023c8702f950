/-
  Texts: numbers as texts and texts that are joined, by the shelf's contracts; a table that the library reads.
-/
import Derived.Test.YtegibnmfiogebaaGreatDoorGN
import Derived.Lib.LaidTab
import Derived.Lib.ItoaNum
import Derived.Lib.Join
import Derived.Sort.Grow
import Derived.Below
import Derived.Deep.Draws
namespace Go.Proofs.YtegibnmfiogebaaGreatDoor
namespace G
open Go.RowKit Go.Sort
set_option linter.unusedVariables false
set_option linter.unusedSimpArgs false
variable {P : Program} {w w' w0 : World} {X : Nat → Prop} {L R : List Chunk}
def tabC (P : Program) : Chunk where
  fp := fun k => P.globalNamed "internal/strconv.uint64pow10" = some k
  holds := fun w => Go.Lib.TabIs P w "internal/strconv.uint64pow10" .u64 Go.Lib.pow10Tab
  stable := fun {w w'} h hs => by
    unfold Go.Lib.TabIs World.var? at *
    cases hg : P.globalNamed "internal/strconv.uint64pow10" with
    | none => rw [hg] at h; cases h
    | some g =>
      rw [hg, Option.bind_some] at h
      rw [Option.bind_some, hs g hg]
      exact h
  lt := fun {w} h k hk => by
    unfold Go.Lib.TabIs World.var? at h
    rw [hk, Option.bind_some] at h
    cases hb : w.heap[k]? with
    | none => rw [hb] at h; cases h
    | some o => exact (Array.getElem?_eq_some_iff.1 hb).1
theorem St.paramT {w : World} {R : List Chunk} (h : St w no w [] R) (c : Chunk) (hc : c.holds w) : St w no w [] (R ++ [c]) := h.read c hc (by simp)
theorem ext_grow (w : World) (k : Nat) (os : Array Obj) : Ext w (Go.Sort.grow (w.drewN k) os) :=
  ⟨rfl, rfl, rfl, by rw [Go.Sort.size_grow]; exact Nat.le_add_right _ _, fun i hi _ => Go.Sort.heap_grow_old _ _ hi⟩
def itoaB (n : Int) : ByteArray := ⟨(Go.Lib.itoa n).toArray⟩
theorem fmt_cv {f : FuncId} {n : Int} (hT : (tabC P).holds w) (h0 : -9223372036854775808 ≤ n) (h1 : n ≤ 9223372036854775807)
 (hs : ∀ (n : Int) (_ : -9223372036854775808 ≤ n) (_ : n ≤ 9223372036854775807) (w : World) (_ : Go.Lib.TabIs P w "internal/strconv.uint64pow10" .u64 Go.Lib.pow10Tab),
 Calls P f #[.int .i64 n, .int .i64 10] w fun e w' => e = .returned (.string ⟨(Go.Lib.itoa n).toArray⟩) ∧ ∃ k os, w' = Go.Sort.grow (w.drewN k) os) :
 CV P f [.int .i64 n, .int .i64 10].toArray w fun v w' => v = .string (itoaB n) ∧ Ext w w' :=
  Calls.mono (hs n h0 h1 w hT) fun e w' ⟨he, k, os, hw⟩ => ⟨_, he, rfl, by subst hw; exact ext_grow w k os⟩
theorem below_ext {w w' : World} (h : Below w.heap.size w w') : Ext w w' := ⟨h.os, h.tape, h.output, h.size, fun k hk _ => h.block k hk⟩
def joinB (xs : List ByteArray) (sep : ByteArray) : ByteArray := ⟨(Go.Lib.join (xs.map (·.data.toList)) sep.data.toList).toArray⟩
theorem flat_cs : ∀ xs : List ByteArray, flat G.cs xs = xs.map Value.string
  | [] => rfl
  | x :: xs => by
    show G.cs.enc x ++ flat G.cs xs = _
    rw [flat_cs xs]; rfl
theorem join_cv {f : FuncId} {A : Option Addr} {c T : Nat} {xs : List ByteArray} {sep : ByteArray} (hin : St w (fpU [rowC G.cs A c T xs]) w [rowC G.cs A c T xs] [])
 (hn : ∀ (a : Option Addr) (c : Nat) (sep : ByteArray) (w : World), Calls P f #[.slice a 0 c, .string sep] w fun e w' => e = .returned (.string ⟨#[]⟩) ∧ w' = w)
 (hs : ∀ (bk o c : Nat) (xs : List ByteArray) (sep : ByteArray) (w : World), (∀ (j : Nat) x, xs[j]? = some x → w.cell? ⟨bk, o + j, none⟩ = some (.string x)) → bk < w.heap.size → xs.length ≤ 140737488355328 → xs.length ≤ c →
 (Go.Lib.join (xs.map (·.data.toList)) sep.data.toList).length ≤ 140737488355328 →
 Calls P f #[.slice (some ⟨bk, o, none⟩) xs.length c, .string sep] w fun e w' => e = .returned (.string ⟨(Go.Lib.join (xs.map (·.data.toList)) sep.data.toList).toArray⟩) ∧ Below w.heap.size w w')
 (h1 : xs.length ≤ 4294967296) (h2 : (joinB xs sep).size ≤ 4294967296) :
 CV P f [.slice A xs.length c, .string sep].toArray w fun v w' => v = .string (joinB xs sep) ∧ St w (fpU [rowC G.cs A c T xs]) w' [rowC G.cs A c T xs] [] ∧ xs.length = xs.length := by
  have hr : RowAt w A c T G.cs.sz xs.length (flat G.cs xs) := hin.at_ (i := 0) rfl
  cases xs with
  | nil =>
    refine Calls.mono (hn A c sep w) fun e w' ⟨he, hw⟩ => ⟨_, he, rfl, ?_, rfl⟩
    subst hw
    exact hin
  | cons x xs =>
    have hle : (x :: xs).length ≤ c := hr.le
    obtain ⟨g, cur, rfl, hb, hsz, ht⟩ := hr.arr.resolve_left (by simp at hle; omega)
    have ht : cur.toList.take ((x :: xs).length * 1) = flat G.cs (x :: xs) := ht
    rw [Nat.mul_one] at ht
    have hg := (Array.getElem?_eq_some_iff.1 hb).1
    refine Calls.mono (hs g 0 c (x :: xs) sep w (fun j y hy => ?_) hg (by omega) hle (by have : (joinB (x :: xs) sep).size = (Go.Lib.join ((x :: xs).map (·.data.toList)) sep.data.toList).length := by simp [joinB, ByteArray.size]
                                                                                         omega)) fun e w' ⟨he, hw⟩ => ⟨_, he, rfl, hin.grow (below_ext hw), rfl⟩
    obtain ⟨hj, rfl⟩ := List.getElem?_eq_some_iff.1 hy
    rw [Nat.zero_add, cell_of_row w g j _ T _ hb]
    have := congrArg (fun l => l[j]?) ht
    simp only [List.getElem?_take, flat_cs, List.getElem?_map, if_pos hj, Array.getElem?_toList] at this
    rw [this, List.getElem?_eq_getElem hj]
    rfl
end G
end Go.Proofs.YtegibnmfiogebaaGreatDoor
