/-
  Sets, once more: keys of any kind (texts too), and a member that goes.
-/
import Derived.Test.YtegibnmfiogebaaGreatDoorGJ
namespace Go.Proofs.YtegibnmfiogebaaGreatDoor
namespace G
open Go.RowKit
set_option linter.unusedVariables false
set_option linter.unusedSimpArgs false
variable {P : Program} {o : Oper} {F : Fm} {w w' w0 : World} {X : Nat → Prop} {L R : List Chunk} {α : Type} {C : Cd α} {kv : α → Value}
/-- A set in block b: its members, in the order in which they came. -/
def mapK (kv : α → Value) (b : Nat) (ks : List α) : Chunk where
  fp := fun k => k = b
  holds := fun w => ∃ es clock, w.heap[b]? = some (.map es clock) ∧ es.toList.map (·.key) = ks.map kv ∧ ∀ e ∈ es.toList, e.val = .bool true
  stable := fun {w w'} h hs => by
    obtain ⟨es, clock, h1, h2, h3⟩ := h
    exact ⟨es, clock, by rw [hs b rfl]; exact h1, h2, h3⟩
  lt := fun {w} h k hk => by
    obtain ⟨es, clock, h1, h2, h3⟩ := h
    subst hk
    exact (Array.getElem?_eq_some_iff.1 h1).1
theorem Ef.makeMapK {T : TypeId} (hS : St w0 X w L R) (ho : o.op = .makeMap T none) (kv : α → Value) : Ef P F w o fun v w' => ∃ b, v = .map (some b) ∧ St w0 X w' (L ++ [mapK kv b []]) R := by
  refine ⟨.map (some w.heap.size), w.alloc (.map #[] 0), fun ρ hρ => ?_, Chg.alloc _ _ _, w.heap.size, rfl, hS.add (Chg.alloc _ _ _) _ ⟨#[], 0, heap_alloc_new w _, rfl, by simp⟩ fun b hb => by rw [show b = w.heap.size from hb]; exact Nat.le_refl _⟩
  unfold execOp
  simp only [ho, Option.map_none, Sem.run_bind, run_makeMap_plain, Result.andThen_ok, Sem.run_pure]
/-- Keys of one type: how the model finds them. -/
structure KeyK (P : Program) (K : TypeId) (kv : α → Value) [DecidableEq α] : Prop where
  check : ∀ (e : Bool) (x : α) (w : World), (Instr.checkKey e 10000 K (kv x)).run P w = .ok () w
  find : ∀ (x : α) (w : World) (es : List MapEntry) (ks : List α), es.map (·.key) = ks.map kv →
    (x ∉ ks ∧ (Instr.findKey K (kv x) es).run P w = .ok none w) ∨ (x ∈ ks ∧ ∃ j e, (Instr.findKey K (kv x) es).run P w = .ok (some (j, e.val)) w ∧ es[j]? = some e ∧ e.key = kv x)
  bits : ∀ (x : α), Instr.sameBits 10000 (kv x) (kv x) = true
theorem KeyOk.k [DecidableEq α] {K : TypeId} (h : KeyOk P K C) : KeyK P K (keyV C) where
  check := h.check
  bits := h.bits
  find := fun x w es ks he => by
    rw [run_findKey_eq w h.wide]
    rcases run_find h x w es ks 0 he with h1 | ⟨h1, j, e, h2, h3, h4⟩
    · exact .inl h1
    · exact .inr ⟨h1, j, e, by rw [Nat.zero_add] at h2; exact h2, h3, h4⟩
theorem beqB (x y : ByteArray) : (x == y) = decide (x = y) := by
  rw [Bool.eq_iff_iff, decide_eq_true_eq]; exact Go.MapKept.bytes_beq x y
theorem findNow_str (x : ByteArray) : ∀ (es : List MapEntry) (ks : List ByteArray) (i : Nat), es.map (·.key) = ks.map Value.string →
    (x ∉ ks ∧ Instr.findNow .string (.string x) es i = some none) ∨ (x ∈ ks ∧ ∃ j e, Instr.findNow .string (.string x) es i = some (some (i + j, e.val)) ∧ es[j]? = some e ∧ e.key = .string x)
  | [], ks, i, h => by
    have : ks = [] := by simpa using h.symm
    subst this
    exact .inl ⟨by simp, rfl⟩
  | e :: es, [], i, h => by simp at h
  | e :: es, y :: ks, i, h => by
    rw [List.map_cons, List.map_cons, List.cons.injEq] at h
    by_cases hxy : x = y
    · subst hxy
      exact .inr ⟨by simp, 0, e, by simp [Instr.findNow, Instr.sameNow, h.1, beqB], rfl, h.1⟩
    · rcases findNow_str x es ks (i + 1) h.2 with ⟨h1, h2⟩ | ⟨h1, j, e', h2, h3, h4⟩
      · exact .inl ⟨by simp [hxy, h1], by simp [Instr.findNow, Instr.sameNow, h.1, beqB, hxy, h2]⟩
      · exact .inr ⟨by simp [h1], j + 1, e', by simp [Instr.findNow, Instr.sameNow, h.1, beqB, hxy, h2, Nat.add_assoc, Nat.add_comm 1 j], by simpa using h3, h4⟩
theorem KeyK.str {K : TypeId} (hK : P.underlying K = some .string) : KeyK P K Value.string where
  check := fun e x w => by
    generalize hn : (9999 : Nat) = n
    rw [show (10000 : Nat) = n + 1 by rw [← hn]]
    simp [Instr.checkKey, run_underlying hK]
  bits := fun x => by unfold Instr.sameBits; rw [beqB]; simp
  find := fun x w es ks he => by
    rcases findNow_str x es ks 0 he with ⟨h1, h2⟩ | ⟨h1, j, e, h2, h3, h4⟩
    · exact .inl ⟨h1, by simp [Instr.findKey, run_underlying hK, h2]⟩
    · exact .inr ⟨h1, j, e, by rw [Nat.zero_add] at h2; simp [Instr.findKey, run_underlying hK, h2], h3, h4⟩
def hasK [DecidableEq α] (ks : List α) (k : α) : Bool := decide (k ∈ ks)
theorem SR.lookupK [DecidableEq α] {T K E : TypeId} {b : Nat} {ks : List α} {k : α} {x y : Operand} (hk : KeyK P K kv) (hT : P.underlying T = some (.map K E)) (hE : P.underlying E = some .bool) (hz : ∀ w, (zeroValue E).run P w = .ok (.bool false) w)
    (hh : (mapK kv b ks).holds w) (ho : o.op = .lookup T x y false) (hx : evO F x = some (.map (some b))) (hy : evO F y = some (kv k)) : SR P F w o (.bool (hasK ks k)) := by
  unfold hasK
  intro w' hx' ρ hρ
  have hh' : (mapK kv b ks).holds w' := (mapK kv b ks).stable hh fun j hj => hx'.block j ((mapK kv b ks).lt hh j hj) (fun h => h)
  obtain ⟨es, clock, h1, h2, h3⟩ := hh'
  have hg : (getObj b).run P w' = .ok (.map es clock) w' := by simp [getObj, Sem.run, h1]
  have hc := hk.check es.isEmpty k w'
  unfold execOp
  simp only [ho, hρ _ _ hx, hρ _ _ hy, Instr.lookup, Sem.run_bind, run_underlying hT, Result.andThen_ok, hg, hc, Sem.run_pure]
  rcases hk.find k w' es.toList ks h2 with ⟨m1, m2⟩ | ⟨m1, j, e, m2, m3, m4⟩
  · rw [m2]
    simp [hz, m1]
  · rw [m2]
    have := h3 e (List.mem_of_getElem? m3)
    simp [this, m1]
theorem Es.mapUpdateK [DecidableEq α] {T K E : TypeId} {b i : Nat} {ks : List α} {k : α} {x y z : Operand} (hk : KeyK P K kv) (hT : P.underlying T = some (.map K E))
    (hS : St w0 X w L R) (hi : L[i]? = some (mapK kv b ks)) (ho : o.op = .mapUpdate T x y z) (hx : evO F x = some (.map (some b))) (hy : evO F y = some (kv k)) (hz : evO F z = some (.bool true)) :
    Es P F w o fun w' => St w0 X w' (L.set i (mapK kv b (addS ks k))) R := by
  unfold addS
  have hh : (mapK kv b ks).holds w := hS.at_ hi
  obtain ⟨es, clock, h1, h2, h3⟩ := hh
  have hb := (Array.getElem?_eq_some_iff.1 h1).1
  have hg : (getObj b).run P w = .ok (.map es clock) w := by simp [getObj, Sem.run, h1]
  have hc := hk.check false k w
  have chg : ∀ ob : Obj, Chg (mapK kv b ks).fp w { w with heap := w.heap.setIfInBounds b ob } := fun ob => ⟨rfl, rfl, rfl, by simp, fun j hj hn => by
    have : b ≠ j := fun e => hn e.symm
    simp [Array.getElem?_setIfInBounds, this]⟩
  have new : ∀ ob : Obj, ({ w with heap := w.heap.setIfInBounds b ob } : World).heap[b]? = some ob := fun ob => by simp [Array.getElem?_setIfInBounds, hb]
  rcases hk.find k w es.toList ks h2 with ⟨m1, m2⟩ | ⟨m1, j, e, m2, m3, m4⟩
  · refine ⟨{ w with heap := w.heap.setIfInBounds b (.map (es.push { key := kv k, val := .bool true, born := clock }) (clock + 1)) }, fun ρ hρ => ?_, hS.upd hi _ (chg _) ⟨_, _, new _, ?_, ?_⟩ fun q hq => .inl hq⟩
    · have hs : (setObj b (.map (es.push { key := kv k, val := .bool true, born := clock }) (clock + 1))).run P w = .ok () { w with heap := w.heap.setIfInBounds b (.map (es.push { key := kv k, val := .bool true, born := clock }) (clock + 1)) } := by simp [setObj, Sem.run, h1]
      unfold execOp
      simp only [ho, hρ _ _ hx, hρ _ _ hy, hρ _ _ hz, Instr.mapUpdate, Sem.run_bind, run_underlying hT, Result.andThen_ok, hg, hc, m2, hs, Sem.run_pure]
    · rw [if_neg m1]
      simp [h2]
    · intro q hq
      simp only [Array.toList_push, List.mem_append, List.mem_singleton] at hq
      rcases hq with hq | rfl
      · exact h3 q hq
      · rfl
  · have hjlt : j < es.size := by have := (List.getElem?_eq_some_iff.1 m3).1; simpa using this
    have hje : es[j]? = some e := by rw [← Array.getElem?_toList]; exact m3
    refine ⟨{ w with heap := w.heap.setIfInBounds b (.map (es.modify j fun e => { e with key := kv k, val := .bool true }) clock) }, fun ρ hρ => ?_, hS.upd hi _ (chg _) ⟨_, _, new _, ?_, ?_⟩ fun q hq => .inl hq⟩
    · have hs : (setObj b (.map (es.modify j fun e => { e with key := kv k, val := .bool true }) clock)).run P w = .ok () { w with heap := w.heap.setIfInBounds b (.map (es.modify j fun e => { e with key := kv k, val := .bool true }) clock) } := by simp [setObj, Sem.run, h1]
      have hks : (Instr.keyThatStays (kv k) (kv k)).run P w = .ok (kv k) w := by
        unfold Instr.keyThatStays
        rw [if_pos (hk.bits k)]; rfl
      unfold execOp
      simp only [ho, hρ _ _ hx, hρ _ _ hy, hρ _ _ hz, Instr.mapUpdate, Sem.run_bind, run_underlying hT, Result.andThen_ok, hg, hc, m2, hje, Option.map_some, Option.getD_some, m4, hks, hs, Sem.run_pure]
    · rw [if_pos m1, ← h2]
      apply List.ext_getElem?
      intro q
      simp only [List.getElem?_map, Array.getElem?_toList, Array.getElem?_modify]
      by_cases hq : j = q
      · subst hq
        simp [hje, m4]
      · simp [hq]
    · intro q hq
      obtain ⟨n, hn, rfl⟩ := List.mem_iff_getElem.1 hq
      simp only [Array.getElem_toList, Array.getElem_modify]
      split
      · rfl
      · exact h3 _ (by simp)
end G
end Go.Proofs.YtegibnmfiogebaaGreatDoor
