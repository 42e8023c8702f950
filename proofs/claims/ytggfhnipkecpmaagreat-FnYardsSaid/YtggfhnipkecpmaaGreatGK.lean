/-
  Maps whose values are whole numbers, of the call's own, and such that are read.
-/
import Derived.Test.YtggfhnipkecpmaaGreatGJ
namespace Go.Proofs.YtggfhnipkecpmaaGreat
namespace G
open Go.RowKit
set_option linter.unusedVariables false
set_option linter.unusedSimpArgs false
variable {P : Program} {o : Oper} {F : Fm} {w w' w0 : World} {X : Nat → Prop} {L R : List Chunk} {α : Type} {C : Cd α}
def getV [DecidableEq α] : List (α × Int) → α → Int
  | [], _ => 0
  | (a, v) :: r, k => if k = a then v else getV r k
def setV [DecidableEq α] : List (α × Int) → α → Int → List (α × Int)
  | [], k, u => [(k, u)]
  | (a, v) :: r, k, u => if k = a then (a, u) :: r else (a, v) :: setV r k u
def entV (C : Cd α) (z : α × Int) : Value × Value := (keyV C z.1, .int .i64 z.2)
/-- A map in block b. -/
def mapV (C : Cd α) (b : Nat) (ks : List (α × Int)) : Chunk where
  fp := fun k => k = b
  holds := fun w => ∃ es clock, w.heap[b]? = some (.map es clock) ∧ es.toList.map (fun e => (e.key, e.val)) = ks.map (entV C)
  stable := fun {w w'} h hs => by
    obtain ⟨es, clock, h1, h2⟩ := h
    exact ⟨es, clock, by rw [hs b rfl]; exact h1, h2⟩
  lt := fun {w} h k hk => by
    obtain ⟨es, clock, h1, h2⟩ := h
    subst hk
    exact (Array.getElem?_eq_some_iff.1 h1).1
theorem Ef.makeMapV {T : TypeId} (hS : St w0 X w L R) (ho : o.op = .makeMap T none) (C : Cd α) : Ef P F w o fun v w' => ∃ b, v = .map (some b) ∧ St w0 X w' (L ++ [mapV C b []]) R := by
  refine ⟨.map (some w.heap.size), w.alloc (.map #[] 0), fun ρ hρ => ?_, Chg.alloc _ _ _, w.heap.size, rfl, hS.add (Chg.alloc _ _ _) _ ⟨#[], 0, heap_alloc_new w _, rfl⟩ fun b hb => by rw [show b = w.heap.size from hb]; exact Nat.le_refl _⟩
  unfold execOp
  simp only [ho, Option.map_none, Sem.run_bind, run_makeMap_plain, Result.andThen_ok, Sem.run_pure]
theorem run_findV [DecidableEq α] {K : TypeId} (hk : KeyOk P K C) (x : α) (u : Int) (w : World) : ∀ (es : List MapEntry) (ks : List (α × Int)) (i : Nat), es.map (fun e => (e.key, e.val)) = ks.map (entV C) →
    ((Instr.findAsking K (keyV C x) es i).run P w = .ok none w ∧ getV ks x = 0 ∧ setV ks x u = ks ++ [(x, u)]) ∨
    (∃ j e, (Instr.findAsking K (keyV C x) es i).run P w = .ok (some (i + j, e.val)) w ∧ es[j]? = some e ∧ e.key = keyV C x ∧ e.val = .int .i64 (getV ks x) ∧ setV ks x u = ks.set j (x, u))
  | [], ks, i, h => by
    have : ks = [] := by simpa using h.symm
    subst this
    exact .inl ⟨by simp [Instr.findAsking], rfl, rfl⟩
  | e :: es, [], i, h => by simp at h
  | e :: es, (y, v) :: ks, i, h => by
    rw [List.map_cons, List.map_cons, List.cons.injEq] at h
    have hq := hk.eq x y w
    have h1 := (Prod.mk.injEq _ _ _ _ ▸ h.1 : e.key = keyV C y ∧ e.val = .int .i64 v)
    by_cases hxy : x = y
    · subst hxy
      rw [decide_eq_true rfl] at hq
      exact .inr ⟨0, e, by simp [Instr.findAsking, h1.1, hq], rfl, h1.1, by rw [h1.2, getV, if_pos rfl], by rw [setV, if_pos rfl]; rfl⟩
    · rw [decide_eq_false hxy] at hq
      rcases run_findV hk x u w es ks (i + 1) h.2 with ⟨h2, h3, h4⟩ | ⟨j, e', h2, h3, h4, h5, h6⟩
      · exact .inl ⟨by simp [Instr.findAsking, h1.1, hq, h2], by rw [getV, if_neg hxy, h3], by rw [setV, if_neg hxy, h4]; rfl⟩
      · exact .inr ⟨j + 1, e', by simp [Instr.findAsking, h1.1, hq, h2, Nat.add_assoc, Nat.add_comm 1 j], by simpa using h3, h4, by rw [getV, if_neg hxy, h5], by rw [setV, if_neg hxy, h6]; rfl⟩
theorem SR.lookupV [DecidableEq α] {T K E : TypeId} {b : Nat} {ks : List (α × Int)} {k : α} {x y : Operand} (hk : KeyOk P K C) (hT : P.underlying T = some (.map K E)) (hE : P.underlying E = some (.int .i64)) (hz : ∀ w, (zeroValue E).run P w = .ok (.int .i64 0) w)
    (hh : (mapV C b ks).holds w) (ho : o.op = .lookup T x y false) (hx : evO F x = some (.map (some b))) (hy : evO F y = some (keyV C k)) : SR P F w o (.int .i64 (getV ks k)) := by
  intro w' hx' ρ hρ
  have hh' : (mapV C b ks).holds w' := (mapV C b ks).stable hh fun j hj => hx'.block j ((mapV C b ks).lt hh j hj) (fun h => h)
  obtain ⟨es, clock, h1, h2⟩ := hh'
  have hg : (getObj b).run P w' = .ok (.map es clock) w' := by simp [getObj, Sem.run, h1]
  have hc := hk.check es.isEmpty k w'
  have hf := run_findKey_eq (P := P) (w := w') hk.wide (keyV C k) es.toList
  unfold execOp
  simp only [ho, hρ _ _ hx, hρ _ _ hy, Instr.lookup, Sem.run_bind, run_underlying hT, Result.andThen_ok, hg, hc, hf, Sem.run_pure]
  rcases run_findV hk k 0 w' es.toList ks 0 h2 with ⟨m1, m2, _⟩ | ⟨j, e, m2, m3, m4, m5, _⟩
  · rw [m1]
    simp [hz, m2]
  · rw [m2]
    simp [m5]
theorem Es.mapUpdateV [DecidableEq α] {T K E : TypeId} {b i : Nat} {ks : List (α × Int)} {k : α} {u : Int} {x y z : Operand} (hk : KeyOk P K C) (hT : P.underlying T = some (.map K E))
    (hS : St w0 X w L R) (hi : L[i]? = some (mapV C b ks)) (ho : o.op = .mapUpdate T x y z) (hx : evO F x = some (.map (some b))) (hy : evO F y = some (keyV C k)) (hz : evO F z = some (.int .i64 u)) :
    Es P F w o fun w' => St w0 X w' (L.set i (mapV C b (setV ks k u))) R := by
  have hh : (mapV C b ks).holds w := hS.at_ hi
  obtain ⟨es, clock, h1, h2⟩ := hh
  have hb := (Array.getElem?_eq_some_iff.1 h1).1
  have hg : (getObj b).run P w = .ok (.map es clock) w := by simp [getObj, Sem.run, h1]
  have hc := hk.check false k w
  have hf := run_findKey_eq (P := P) (w := w) hk.wide (keyV C k) es.toList
  have chg : ∀ ob : Obj, Chg (mapV C b ks).fp w { w with heap := w.heap.setIfInBounds b ob } := fun ob => ⟨rfl, rfl, rfl, by simp, fun j hj hn => by
    have : b ≠ j := fun e => hn e.symm
    simp [Array.getElem?_setIfInBounds, this]⟩
  have new : ∀ ob : Obj, ({ w with heap := w.heap.setIfInBounds b ob } : World).heap[b]? = some ob := fun ob => by simp [Array.getElem?_setIfInBounds, hb]
  rcases run_findV hk k u w es.toList ks 0 h2 with ⟨m2, _, m1⟩ | ⟨j, e, m2, m3, m4, m5, m1⟩
  · refine ⟨{ w with heap := w.heap.setIfInBounds b (.map (es.push { key := keyV C k, val := .int .i64 u, born := clock }) (clock + 1)) }, fun ρ hρ => ?_, hS.upd hi _ (chg _) ⟨_, _, new _, ?_⟩ fun q hq => .inl hq⟩
    · have hs : (setObj b (.map (es.push { key := keyV C k, val := .int .i64 u, born := clock }) (clock + 1))).run P w = .ok () { w with heap := w.heap.setIfInBounds b (.map (es.push { key := keyV C k, val := .int .i64 u, born := clock }) (clock + 1)) } := by simp [setObj, Sem.run, h1]
      unfold execOp
      simp only [ho, hρ _ _ hx, hρ _ _ hy, hρ _ _ hz, Instr.mapUpdate, Sem.run_bind, run_underlying hT, Result.andThen_ok, hg, hc, hf, m2, hs, Sem.run_pure]
    · rw [m1]
      simp [h2, entV]
  · rw [Nat.zero_add] at m2
    have hjlt : j < es.size := by have := (List.getElem?_eq_some_iff.1 m3).1; simpa using this
    have hje : es[j]? = some e := by rw [← Array.getElem?_toList]; exact m3
    refine ⟨{ w with heap := w.heap.setIfInBounds b (.map (es.modify j fun e => { e with key := keyV C k, val := .int .i64 u }) clock) }, fun ρ hρ => ?_, hS.upd hi _ (chg _) ⟨_, _, new _, ?_⟩ fun q hq => .inl hq⟩
    · have hs : (setObj b (.map (es.modify j fun e => { e with key := keyV C k, val := .int .i64 u }) clock)).run P w = .ok () { w with heap := w.heap.setIfInBounds b (.map (es.modify j fun e => { e with key := keyV C k, val := .int .i64 u }) clock) } := by simp [setObj, Sem.run, h1]
      have hks : (Instr.keyThatStays (keyV C k) (keyV C k)).run P w = .ok (keyV C k) w := by
        unfold Instr.keyThatStays
        rw [if_pos (hk.bits k)]; rfl
      unfold execOp
      simp only [ho, hρ _ _ hx, hρ _ _ hy, hρ _ _ hz, Instr.mapUpdate, Sem.run_bind, run_underlying hT, Result.andThen_ok, hg, hc, hf, m2, hje, Option.map_some, Option.getD_some, m4, hks, hs, Sem.run_pure]
    · rw [m1, List.map_set, ← h2]
      apply List.ext_getElem?
      intro q
      simp only [List.getElem?_map, Array.getElem?_toList, Array.getElem?_modify, List.getElem?_set, List.length_map, Array.length_toList]
      by_cases hq : j = q
      · subst hq
        simp [hje, hjlt, entV]
      · simp [hq]
end G
end Go.Proofs.YtggfhnipkecpmaaGreat
