/-
  Step lemmas for walks whose frame is told as a list of slots. Part S: arrays that are built; 'clear'; slices that become shorter; what stays where a call writes.
-/
import Derived.Test.YtloljfkfnpgjfaaGreatGR
import Derived.Laws.BytesString
namespace Go.Proofs.YtloljfkfnpgjfaaGreat
namespace G
set_option linter.unusedVariables false
set_option linter.unusedSimpArgs false
variable {P : Program} {ops : Array Oper} {Q : Exit → Act → World → Prop} {n : Nat} {l : List Oper} {o : Oper} {F : Fm} {w w' w0 : World} {X : Nat → Prop} {L R : List Chunk} {α β : Type} {C : Cd α}

theorem SR.buildA {U : List (Nat × TypeDesc)} (hU : okU P U) {UI : List (Nat × TI)} (hI : okI P UI) {T e len : Nat} {ti te : TI} {ps : Array (Nat × Operand)} {vs : List Value} {zs : List Value} (ho : o.op = .build T ps) (hT : lkT U T = some (.array len e)) (hti : lkT UI T = some ti) (hte : lkT UI e = some te)
    (hz : ti.zero.cells = zs.toArray) (hvs : allV (ps.toList.map fun p => evO F p.2) = some vs) (out : List Value) (hfill : fillL (fun i => some (i * te.size, te.size)) zs ((ps.toList.map (·.1)).zip vs) = some out) : SR P F w o (.agg out.toArray) := by
  intro w' hx' ρ hρ
  obtain ⟨i, hi, hiz, hs, hby⟩ := hI.at_ hti
  have hf := fillL_fill _ _ _ _ hfill
  have e1 : ps.toList.map (fun p => ρ p.2) = vs := by
    have := allV_map hρ (ps.toList.map (·.2)) (l := vs) (by rw [List.map_map]; exact hvs)
    rw [← this, List.map_map]; rfl
  have e2 : (ps.map fun p => (p.1, ρ p.2)).toList = (ps.toList.map (·.1)).zip vs := by rw [Array.toList_map, ← e1, List.zip_map']
  unfold execOp
  simp only [ho, Instr.build, Sem.run_bind, zeroValue, typeInfo, run_program, Result.andThen_ok, hi, Sem.run_pure, hiz, run_underlying (hU.at_ hT), run_elem hI hte, hz, e2, hf]

/-! ### What stays where a call writes -/
theorem box.ca {b : Nat} {cs : List Value} {T : TypeId} (h : (box b cs T).holds w) : CA w ⟨b, 0, none⟩ cs := fun j v hv => by
  have hb : w.heap[b]? = some (.cells cs.toArray T (0, 0)) := h
  rw [add_lit, Nat.zero_add, cell_of_row w b j _ T _ hb]
  simpa using hv
theorem roP.ca {ad : Addr} {cs : List Value} (h : (roP ad cs).holds w) : CA w ad cs := h
theorem rowC.rd {A : Option Addr} {c T : Nat} {xs : List α} (h : (rowC C A c T xs).holds w) : Rd C w A xs := RowAt.rd h
theorem rowC.le {A : Option Addr} {c T : Nat} {xs : List α} (h : (rowC C A c T xs).holds w) : xs.length ≤ c := (h : RowAt w A c T C.sz xs.length (flat C xs)).le
theorem roC.rd {A : Option Addr} {c : Nat} {xs : List α} (h : (roC C A c xs).holds w) : Rd C w A xs := (h : _ ∧ _).1
theorem roC.le {A : Option Addr} {c : Nat} {xs : List α} (h : (roC C A c xs).holds w) : xs.length ≤ c := (h : _ ∧ _).2
theorem roO.rd {O : Nat → Prop} {A : Option Addr} {c : Nat} {xs : List α} (h : (roO O C A c xs).holds w) : Rd C w A xs := ((h : _ ∧ _).1 : _ ∧ _).1
theorem roO.le {O : Nat → Prop} {A : Option Addr} {c : Nat} {xs : List α} (h : (roO O C A c xs).holds w) : xs.length ≤ c := ((h : _ ∧ _).1 : _ ∧ _).2
/-! ### Slices that become shorter -/
end G
end Go.Proofs.YtloljfkfnpgjfaaGreat
