/-
  Step lemmas: what the builtin copy does to a row that is the call's own.
-/
import Derived.Test.YtegibnmfiogebaaGreatDoorGS
import Derived.Laws.CopyRow
import Derived.Laws.IdiomCopy
namespace Go.Proofs.YtegibnmfiogebaaGreatDoor
namespace G
set_option linter.unusedVariables false
set_option linter.unusedSimpArgs false
variable {P : Program} {F : Fm} {o : Oper} {w w' w0 : World} {X : Nat → Prop} {L R : List Chunk} {α : Type} {C : Cd α}
theorem Rd.take {A : Option Addr} {xs : List α} (h : Rd C w A xs) (n : Nat) : Rd C w A (xs.take n) :=
  ⟨fun h0 => h.some_ (by rw [List.length_take] at h0; omega), fun ad e j v hv => h.cells ad e j v (by
    have hx : flat C xs = flat C (xs.take n) ++ flat C (xs.drop n) := by rw [← flat_app, List.take_append_drop]
    rw [hx, List.getElem?_append_left (List.getElem?_eq_some_iff.1 hv).1]
    exact hv)⟩
theorem Rd.part {A : Option Addr} {xs : List α} (h : Rd C w A xs) {c lo : Nat} (h2 : lo ≤ xs.length) (hc : xs.length ≤ c) : Rd C w (cutA A c lo C.sz) (xs.drop lo) := by
 have := h.cut' (c := c) (lo := lo) (hi := xs.length) h2 (Nat.le_refl _) hc
 rwa [List.take_of_length_le (by rw [List.length_drop]; omega)] at this
end G
end Go.Proofs.YtegibnmfiogebaaGreatDoor
