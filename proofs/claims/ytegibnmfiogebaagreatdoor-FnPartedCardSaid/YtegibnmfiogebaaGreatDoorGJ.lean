/-
  Sets: maps whose values are all 'true', of the call's own.
-/
import Derived.Test.YtegibnmfiogebaaGreatDoorGN
import Derived.MapKept
import Derived.WideMake
import Derived.WideKeyRuns
import Derived.ChangeKeysEq
namespace Go.Proofs.YtegibnmfiogebaaGreatDoor
namespace G
open Go.RowKit
set_option linter.unusedVariables false
set_option linter.unusedSimpArgs false
variable {P : Program} {o : Oper} {F : Fm} {w w' w0 : World} {X : Nat → Prop} {L R : List Chunk} {α : Type} {C : Cd α}
abbrev keyV (C : Cd α) (k : α) : Value := .agg (C.enc k).toArray
def mapC (C : Cd α) (b : Nat) (ks : List α) : Chunk where
  fp := fun k => k = b
  holds := fun w => ∃ es clock, w.heap[b]? = some (.map es clock) ∧ es.toList.map (·.key) = ks.map (keyV C) ∧ ∀ e ∈ es.toList, e.val = .bool true
  stable := fun {w w'} h hs => by
    obtain ⟨es, clock, h1, h2, h3⟩ := h
    exact ⟨es, clock, by rw [hs b rfl]; exact h1, h2, h3⟩
  lt := fun {w} h k hk => by
    obtain ⟨es, clock, h1, h2, h3⟩ := h
    subst hk
    exact (Array.getElem?_eq_some_iff.1 h1).1
def addS [DecidableEq α] (ks : List α) (k : α) : List α := if k ∈ ks then ks else ks ++ [k]
theorem zero_of {UI : List (Nat × TI)} {E : TypeId} {ti : TI} {v : Value} (hI : okI P UI) (hT : lkT UI E = some ti) (hz : ti.zero = v) : ∀ w, (zeroValue E).run P w = .ok v w := by
 intro w
 obtain ⟨i, hi, hz', _⟩ := hI.at_ hT
 simp [zeroValue, typeInfo, hi, hz', hz]
theorem Ef.makeMap {T : TypeId} (hS : St w0 X w L R) (ho : o.op = .makeMap T none) (C : Cd α) : Ef P F w o fun v w' => ∃ b, v = .map (some b) ∧ St w0 X w' (L ++ [mapC C b []]) R := by
 refine ⟨.map (some w.heap.size), w.alloc (.map #[] 0), fun ρ hρ => ?_, Chg.alloc _ _ _, w.heap.size, rfl, hS.add (Chg.alloc _ _ _) _ ⟨#[], 0, heap_alloc_new w _, rfl, by simp⟩ fun b hb => by rw [show b = w.heap.size from hb]; exact Nat.le_refl _⟩
 unfold execOp
 simp only [ho, Option.map_none, Sem.run_bind, run_makeMap_plain, Result.andThen_ok, Sem.run_pure]
structure KeyOk (P : Program) (K : TypeId) (C : Cd α) [DecidableEq α] : Prop where
  wide : (match P.underlying K with | some (.array _ _) | some (.struct _) => true | _ => false) = true
  check : ∀ (e : Bool) (x : α) (w : World), (Instr.checkKey e 10000 K (keyV C x)).run P w = .ok () w
  eq : ∀ (x y : α) (w : World), (Op.equal K (keyV C x) (keyV C y)).run P w = .ok (decide (x = y)) w
  bits : ∀ (x : α), Instr.sameBits 10000 (keyV C x) (keyV C x) = true
theorem run_find [DecidableEq α] {K : TypeId} (hk : KeyOk P K C) (x : α) (w : World) : ∀ (es : List MapEntry) (ks : List α) (i : Nat), es.map (·.key) = ks.map (keyV C) →
 (x ∉ ks ∧ (Instr.findAsking K (keyV C x) es i).run P w = .ok none w) ∨ (x ∈ ks ∧ ∃ j e, (Instr.findAsking K (keyV C x) es i).run P w = .ok (some (i + j, e.val)) w ∧ es[j]? = some e ∧ e.key = keyV C x)
  | [], ks, i, h => by
    have : ks = [] := by simpa using h.symm
    subst this
    exact .inl ⟨by simp, by simp [Instr.findAsking]⟩
  | e :: es, [], i, h => by simp at h
  | e :: es, y :: ks, i, h => by
    rw [List.map_cons, List.map_cons, List.cons.injEq] at h
    have hq := hk.eq x y w
    by_cases hxy : x = y
    · subst hxy
      rw [decide_eq_true rfl] at hq
      exact .inr ⟨by simp, 0, e, by simp [Instr.findAsking, h.1, hq], rfl, h.1⟩
    · rw [decide_eq_false hxy] at hq
      rcases run_find hk x w es ks (i + 1) h.2 with ⟨h1, h2⟩ | ⟨h1, j, e', h2, h3, h4⟩
      · exact .inl ⟨by simp [hxy, h1], by simp [Instr.findAsking, h.1, hq, h2]⟩
      · exact .inr ⟨by simp [h1], j + 1, e', by simp [Instr.findAsking, h.1, hq, h2, Nat.add_assoc, Nat.add_comm 1 j], by simpa using h3, h4⟩
theorem SR.lookup [DecidableEq α] {T K E : TypeId} {b i : Nat} {ks : List α} {k : α} {x y : Operand} (hk : KeyOk P K C) (hT : P.underlying T = some (.map K E)) (hE : P.underlying E = some .bool) (hz : ∀ w, (zeroValue E).run P w = .ok (.bool false) w)
 (hS : St w0 X w L R) (hi : L[i]? = some (mapC C b ks)) (ho : o.op = .lookup T x y false) (hx : evO F x = some (.map (some b))) (hy : evO F y = some (keyV C k)) : SR P F w o (.bool (decide (k ∈ ks))) := by
 intro w' hx' ρ hρ
 have hh : (mapC C b ks).holds w := hS.at_ hi
 have hh' : (mapC C b ks).holds w' := (mapC C b ks).stable hh fun j hj => hx'.block j ((mapC C b ks).lt hh j hj) (fun h => h)
 obtain ⟨es, clock, h1, h2, h3⟩ := hh'
 have hg : (getObj b).run P w' = .ok (.map es clock) w' := by simp [getObj, Sem.run, h1]
 have hc := hk.check es.isEmpty k w'
 have hf := run_findKey_eq (P := P) (w := w') hk.wide (keyV C k) es.toList
 unfold execOp
 simp only [ho, hρ _ _ hx, hρ _ _ hy, Instr.lookup, Sem.run_bind, run_underlying hT, Result.andThen_ok, hg, hc, hf, Sem.run_pure]
 rcases run_find hk k w' es.toList ks 0 h2 with ⟨m1, m2⟩ | ⟨m1, j, e, m2, m3, m4⟩
 ·rw [m2]
  simp [hz, m1]
 rw [m2]
 have := h3 e (List.mem_of_getElem? m3)
 simp [this, m1]
theorem Es.mapUpdate [DecidableEq α] {T K E : TypeId} {b i : Nat} {ks : List α} {k : α} {x y z : Operand} (hk : KeyOk P K C) (hT : P.underlying T = some (.map K E))
 (hS : St w0 X w L R) (hi : L[i]? = some (mapC C b ks)) (ho : o.op = .mapUpdate T x y z) (hx : evO F x = some (.map (some b))) (hy : evO F y = some (keyV C k)) (hz : evO F z = some (.bool true)) :
 Es P F w o fun w' => St w0 X w' (L.set i (mapC C b (addS ks k))) R := by
 unfold addS
 have hh : (mapC C b ks).holds w := hS.at_ hi
 obtain ⟨es, clock, h1, h2, h3⟩ := hh
 have hb := (Array.getElem?_eq_some_iff.1 h1).1
 have hg : (getObj b).run P w = .ok (.map es clock) w := by simp [getObj, Sem.run, h1]
 have hc := hk.check false k w
 have hf := run_findKey_eq (P := P) (w := w) hk.wide (keyV C k) es.toList
 have chg : ∀ ob : Obj, Chg (mapC C b ks).fp w { w with heap := w.heap.setIfInBounds b ob } := fun ob => ⟨rfl, rfl, rfl, by simp, fun j hj hn => by
   have : b ≠ j := fun e => hn e.symm
   simp [Array.getElem?_setIfInBounds, this]⟩
 have new : ∀ ob : Obj, ({ w with heap := w.heap.setIfInBounds b ob } : World).heap[b]? = some ob := fun ob => by simp [Array.getElem?_setIfInBounds, hb]
 rcases run_find hk k w es.toList ks 0 h2 with ⟨m1, m2⟩ | ⟨m1, j, e, m2, m3, m4⟩
 ·refine ⟨{ w with heap := w.heap.setIfInBounds b (.map (es.push { key := keyV C k, val := .bool true, born := clock }) (clock + 1)) }, fun ρ hρ => ?_, hS.upd hi _ (chg _) ⟨_, _, new _, ?_, ?_⟩ fun q hq => .inl hq⟩
  ·have hs : (setObj b (.map (es.push { key := keyV C k, val := .bool true, born := clock }) (clock + 1))).run P w = .ok () { w with heap := w.heap.setIfInBounds b (.map (es.push { key := keyV C k, val := .bool true, born := clock }) (clock + 1)) } := by simp [setObj, Sem.run, h1]
   unfold execOp
   simp only [ho, hρ _ _ hx, hρ _ _ hy, hρ _ _ hz, Instr.mapUpdate, Sem.run_bind, run_underlying hT, Result.andThen_ok, hg, hc, hf, m2, hs, Sem.run_pure]
  ·rw [if_neg m1]
   simp [h2]
  intro q hq
  simp only [Array.toList_push, List.mem_append, List.mem_singleton] at hq
  rcases hq with hq | rfl
  ·exact h3 q hq
  rfl
 rw [Nat.zero_add] at m2
 have hjlt : j < es.size := by have := (List.getElem?_eq_some_iff.1 m3).1; simpa using this
 have hje : es[j]? = some e := by rw [← Array.getElem?_toList]; exact m3
 refine ⟨{ w with heap := w.heap.setIfInBounds b (.map (es.modify j fun e => { e with key := keyV C k, val := .bool true }) clock) }, fun ρ hρ => ?_, hS.upd hi _ (chg _) ⟨_, _, new _, ?_, ?_⟩ fun q hq => .inl hq⟩
 ·have hs : (setObj b (.map (es.modify j fun e => { e with key := keyV C k, val := .bool true }) clock)).run P w = .ok () { w with heap := w.heap.setIfInBounds b (.map (es.modify j fun e => { e with key := keyV C k, val := .bool true }) clock) } := by simp [setObj, Sem.run, h1]
  have hks : (Instr.keyThatStays (keyV C k) (keyV C k)).run P w = .ok (keyV C k) w := by
    unfold Instr.keyThatStays
    rw [if_pos (hk.bits k)]; rfl
  unfold execOp
  simp only [ho, hρ _ _ hx, hρ _ _ hy, hρ _ _ hz, Instr.mapUpdate, Sem.run_bind, run_underlying hT, Result.andThen_ok, hg, hc, hf, m2, hje, Option.map_some, Option.getD_some, m4, hks, hs, Sem.run_pure]
 ·rw [if_pos m1, ← h2]
  apply List.ext_getElem?
  intro q
  simp only [List.getElem?_map, Array.getElem?_toList, Array.getElem?_modify]
  by_cases hq : j = q
  ·subst hq
   simp [hje, m4]
  simp [hq]
 intro q hq
 obtain ⟨n, hn, rfl⟩ := List.mem_iff_getElem.1 hq
 simp only [Array.getElem_toList, Array.getElem_modify]
 split
 ·rfl
 exact h3 _ (by simp)
end G
end Go.Proofs.YtegibnmfiogebaaGreatDoor
