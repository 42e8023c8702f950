/-
  Step lemmas for walks whose frame is told as a list of slots. Part S: arrays that are built; 'clear'; slices that become shorter; what stays where a call writes.
-/
import Derived.Test.YtegibnmfiogebaaGreatDoorGR
import Derived.Laws.BytesString
namespace Go.Proofs.YtegibnmfiogebaaGreatDoor
namespace G
set_option linter.unusedVariables false
set_option linter.unusedSimpArgs false
variable {P : Program} {ops : Array Oper} {Q : Exit → Act → World → Prop} {n : Md} {l : List Oper} {o : Oper} {F : Fm} {w w' w0 : World} {X : Nat → Prop} {L R : List Chunk} {α β : Type} {C : Cd α}

theorem SR.buildA {U : List (Nat × TypeDesc)} (hU : okU P U) {UI : List (Nat × TI)} (hI : okI P UI) {T e len : Nat} {ti te : TI} {ps : Array (Nat × Operand)} {vs : List Value} {zs : List Value} (ho : o.op = .build T ps) (hT : lkT U T = some (.array len e)) (hti : lkT UI T = some ti) (hte : lkT UI e = some te)
 (hz : ti.zero.cells = zs.toArray) (hvs : allV (ps.toList.map fun p => evO F p.2) = some vs) (out : List Value) (hfill : fillL (fun i => some (i * te.size, te.size)) zs ((ps.toList.map (·.1)).zip vs) = some out) : SR P F w o (.agg out.toArray) := by
 intro w' hx' ρ hρ
 obtain ⟨i, hi, hiz, hs, hby⟩ := hI.at_ hti
 have hf := fillL_fill _ _ _ _ hfill
 have e1 : ps.toList.map (fun p => ρ p.2) = vs := by
   have := allV_map hρ (ps.toList.map (·.2)) (l := vs) (by rw [List.map_map]; exact hvs)
   rw [← this, List.map_map]; rfl
 have e2 : (ps.map fun p => (p.1, ρ p.2)).toList = (ps.toList.map (·.1)).zip vs := by rw [Array.toList_map, ← e1, List.zip_map']
 unfold execOp
 simp only [ho, Instr.build, Sem.run_bind, zeroValue, typeInfo, run_program, Result.andThen_ok, hi, Sem.run_pure, hiz, run_underlying (hU.at_ hT), run_elem hI hte, hz, e2, hf]

theorem OJ.ewn {R : Value → World → Prop} (hg : gd ops F o = some true) (hd : o.dst = none) (h : Ew P F w o R) (k : ∀ v w', R v w' → OJ P ops Q n l F w') : OJ P ops Q n (o :: l) F w := by
 intro a ha
 have hw := gd_wanted hg ha
 obtain ⟨v, w', hr, hR⟩ := h
 refine wlR_value hw (hr a.eval (fun x u hx => ha.ev hx)) ?_
 rw [hd]
 exact k v w' hR a ha

theorem St.stayL (h : St w0 X w L R) (ix : List Nat) (hx : Chg (fpU (pickL L ix)) w w') {j : Nat} {c : Chunk} (hj : L[j]? = some c) (hn : ix.contains j = false) : c.holds w' := by
 refine c.stable (h.at_ hj) fun b hb => hx.block b (c.lt (h.at_ hj) b hb) ?_
 rintro ⟨d, hd, hdb⟩
 obtain ⟨i, hi, e⟩ := mem_pickL hd
 have hij : ¬ i = j := by
   rintro rfl
   have : ix.contains i = true := by simpa using hi
   rw [this] at hn; cases hn
 obtain ⟨h1, rfl⟩ := List.getElem?_eq_some_iff.1 e
 obtain ⟨h2, rfl⟩ := List.getElem?_eq_some_iff.1 hj
 rcases Nat.lt_or_gt_of_ne hij with hlt | hlt
 ·exact List.pairwise_iff_getElem.1 h.apart i j h1 h2 hlt b hdb hb
 exact List.pairwise_iff_getElem.1 h.apart j i h2 h1 hlt b hb hdb
theorem St.stayR (h : St w0 X w L R) (ix : List Nat) (hx : Chg (fpU (pickL L ix)) w w') {j : Nat} {c : Chunk} (hj : R[j]? = some c) : c.holds w' := by
 refine c.stable (h.ro hj) fun b hb => hx.block b (c.lt (h.ro hj) b hb) ?_
 rintro ⟨d, hd, hdb⟩
 obtain ⟨i, hi, e⟩ := mem_pickL hd
 exact h.away _ (List.mem_of_getElem? hj) d (List.mem_of_getElem? e) b hb hdb
theorem box.ca {b : Nat} {cs : List Value} {T : TypeId} (h : (box b cs T).holds w) : CA w ⟨b, 0, none⟩ cs := fun j v hv => by
  have hb : w.heap[b]? = some (.cells cs.toArray T (0, 0)) := h
  rw [add_lit, Nat.zero_add, cell_of_row w b j _ T _ hb]
  simpa using hv
theorem roP.ca {ad : Addr} {cs : List Value} (h : (roP ad cs).holds w) : CA w ad cs := h
theorem rowC.rd {A : Option Addr} {c T : Nat} {xs : List α} (h : (rowC C A c T xs).holds w) : Rd C w A xs := RowAt.rd h
theorem rowC.le {A : Option Addr} {c T : Nat} {xs : List α} (h : (rowC C A c T xs).holds w) : xs.length ≤ c := (h : RowAt w A c T C.sz xs.length (flat C xs)).le
theorem roC.rd {A : Option Addr} {c : Nat} {xs : List α} (h : (roC C A c xs).holds w) : Rd C w A xs := (h : _ ∧ _).1
theorem roC.le {A : Option Addr} {c : Nat} {xs : List α} (h : (roC C A c xs).holds w) : xs.length ≤ c := (h : _ ∧ _).2
theorem roO.rd {O : Nat → Prop} {A : Option Addr} {c : Nat} {xs : List α} (h : (roO O C A c xs).holds w) : Rd C w A xs := ((h : _ ∧ _).1 : _ ∧ _).1
theorem roO.le {O : Nat → Prop} {A : Option Addr} {c : Nat} {xs : List α} (h : (roO O C A c xs).holds w) : xs.length ≤ c := ((h : _ ∧ _).1 : _ ∧ _).2
theorem SR.cut0 {U : List (Nat × TypeDesc)} {UI : List (Nat × TI)} (hU : okU P U) (hI : okI P UI) {t e len c : Nat} {ti : TI} {x y : Operand} {k : IntKind} {i : Int} {A : Option Addr}
 (ho : o.op = .slice t x none (some y) none) (ht : lkT U t = some (.slice e)) (hti : lkT UI e = some ti) (hx : evO F x = some (.slice A len c)) (hy : evO F y = some (.int k i)) (h0 : 0 ≤ i) (hc : i.toNat ≤ c) : SR P F w o (.slice A i.toNat c) := by
 have h := SR.cutS (P := P) (w := w) hU hI (a := 0) (b := i.toNat) ho ht hti hx (vlo := none) (vhi := some (.int k i)) rfl (by simp [optE, hy]) (.inl ⟨rfl, rfl⟩) (.inr ⟨k, i, rfl, h0, rfl⟩) (Nat.zero_le _) hc
 have e1 : cutA A c 0 ti.size = A := by
   unfold cutA
   split
   · rfl
   · rw [Nat.zero_mul]
     cases A <;> rfl
 rwa [e1, Nat.sub_zero, Nat.sub_zero] at h
theorem St.shrink {A : Option Addr} {c T i m : Nat} {xs : List α} (h : St w0 X w L R) (hi : L[i]? = some (rowC C A c T xs)) (hm : m ≤ xs.length) : St w0 X w (L.set i (rowC C A c T (xs.take m))) R := by
 have hrow : RowAt w A c T C.sz xs.length (flat C xs) := h.at_ hi
 refine h.upd hi (rowC C A c T (xs.take m)) (Chg.refl _ _) ?_ fun b hb => .inl hb
 have hl : (xs.take m).length = m := by rw [List.length_take, Nat.min_eq_left hm]
 refine (show RowAt _ _ _ _ _ _ _ from ⟨flat_len C _, by rw [hl]; have := hrow.le; omega, hrow.cap, ?_⟩)
 rcases hrow.arr with h0 | ⟨g, cur, e, hg, hs, ht⟩
 ·exact .inl h0
 refine .inr ⟨g, cur, e, hg, hs, ?_⟩
 rw [hl, ← flat_take C xs m hm, ← ht, List.take_take, Nat.min_eq_left (Nat.mul_le_mul_right _ hm)]
theorem zeroCells_flat (C : Cd α) (z : α) (zv : Array Value) (hz : zv = (C.enc z).toArray) (h1 : 0 < C.sz) (k : Nat) : (Builtin.zeroCells zv k).toList = flat C (List.replicate k z) := by
 have hzs : zv.size = C.sz := by rw [hz, List.size_toArray, C.len]
 apply List.ext_getElem?
 intro j
 by_cases hj : j < k * C.sz
 ·rw [flat_replicate, flatten_replicate_at (C.enc z) (by rw [C.len]; exact h1) k j (by rw [C.len]; exact hj)]
  have hlt : j % (C.enc z).length < (C.enc z).length := Nat.mod_lt _ (by rw [C.len]; exact h1)
  rw [C.len] at hlt ⊢
  have hlt' : j % C.sz < (C.enc z).length := by rw [C.len]; exact hlt
  have e0 : (Builtin.zeroCells zv k).toList[j]? = some (zv[j % zv.size]!) := by
    unfold Builtin.zeroCells
    simp [hzs, hj]
  rw [e0, hzs, List.getElem?_eq_getElem hlt']
  subst hz
  simp [hlt']
 rw [List.getElem?_eq_none (by simp [Builtin.zeroCells, hzs]; omega), List.getElem?_eq_none (by rw [flat_len, List.length_replicate]; omega)]
theorem Ew.clear {U : List (Nat × TypeDesc)} {UI : List (Nat × TI)} (hU : okU P U) (hI : okI P UI) {t e i c lo : Nat} {ti : TI} {x : Operand} {cl : Call} {A : Option Addr} {xs : List α} (hS : St w0 X w L R) (hi : L[i]? = some (rowC C A c e xs))
 (ho : o.op = .call cl) (hcl : cl.callee = .builtin .clear) (hca : cl.args = #[x]) (hct : cl.argTypes = #[t])
 (ht : lkT U t = some (.slice e)) (hti : lkT UI e = some ti) (hC : C.sz = ti.size) (hsz : Nat.ble 1 ti.size = true) (z : α) (hz : ti.zero.cells = (C.enc z).toArray) (hlo : lo ≤ xs.length)
 (hx : evO F x = some (.slice (cutA A c lo C.sz) (xs.length - lo) (c - lo))) :
 Ew P F w o fun v w' => v = .tuple #[] ∧ St w0 X w' (L.set i (rowC C A c e (xs.take lo ++ List.replicate (xs.length - lo) z))) R := by
 obtain ⟨ii, hii, hiz, hs, hby⟩ := hI.at_ hti
 have hu := hU.at_ ht
 have h1 : 0 < C.sz := by rw [hC]; exact Nat.le_of_ble_eq_true hsz
 have hrow : RowAt w A c e C.sz xs.length (flat C xs) := hS.at_ hi
 have run : ∀ {w' : World}, (Builtin.clear_ #[t] o.type #[.slice (cutA A c lo C.sz) (xs.length - lo) (c - lo)]).run P w = .ok (.tuple #[]) w' → ∀ ρ, Has F ρ → (execOp ρ o).run P w = .ok (.value (.tuple #[])) w' := by
   intro w' hr ρ hρ
   unfold execOp
   simp only [ho, resolve, hcl, hca, hct, Sem.run_bind, Sem.run_pure, Result.andThen_ok, invoke, builtin, List.map_toArray, List.map_cons, List.map_nil, hρ _ _ hx, hr]
 rcases Nat.eq_zero_or_pos (xs.length - lo) with h0 | h0
 ·refine ⟨_, w, run ?_, rfl, ?_⟩
  ·rw [h0]
   cases cutA A c lo C.sz <;> simp [Builtin.clear_, run_underlying hu]
  rw [h0, List.replicate_zero, List.append_nil, List.take_of_length_le (by omega), set_same hi]
  exact hS
 rcases hrow.arr with hc | ⟨g, cur, rfl, hgc, hcs, htake⟩
 ·have := hrow.le; omega
 have hcl' : cutA (some ⟨g, 0, none⟩) c lo C.sz = some ⟨g, lo * C.sz, none⟩ := by
   unfold cutA
   rw [if_neg (by have := hrow.le; omega), Option.map_some, add_lit, Nat.zero_add]
 have hzl := zeroCells_flat C z ti.zero.cells hz h1 (xs.length - lo)
 have hlen : (flat C (List.replicate (xs.length - lo) z)).length = (xs.length - lo) * C.sz := by rw [flat_len, List.length_replicate]
 have hmul : lo * C.sz + (xs.length - lo) * C.sz = xs.length * C.sz := by rw [← Nat.add_mul]; congr 1; omega
 have hmul2 : xs.length * C.sz ≤ c * C.sz := Nat.mul_le_mul_right _ hrow.le
 have hcl2 : cur.size = cur.toList.length := by simp
 have hr := run_storeCells_at (P := P) g (lo * C.sz) e (flat C (List.replicate (xs.length - lo) z)) 0 cur w hgc (by rw [hlen]; omega) (flat_mem C _)
 rw [Nat.add_zero] at hr
 refine ⟨_, _, run (w' := w.setRow g (cur.toList.take (lo * C.sz) ++ flat C (List.replicate (xs.length - lo) z) ++ cur.toList.drop (lo * C.sz + (flat C (List.replicate (xs.length - lo) z)).length)).toArray) ?_, rfl, hS.upd hi _ ?_ ?_ ?_⟩
 ·obtain ⟨m, hm⟩ : ∃ m, xs.length - lo = m + 1 := ⟨xs.length - lo - 1, by omega⟩
  rw [hcl', hm]
  simp only [Builtin.clear_, List.getElem?_toArray, List.getElem?_cons_zero, Sem.run_bind, run_underlying hu, Result.andThen_ok, zeroValue, typeInfo, run_program, hii, hiz, Sem.run_pure]
  rw [← hm, hzl, hr]
  rfl
 ·refine ⟨rfl, rfl, rfl, by simp [World.setRow], fun b hb hnb => setRow_other w g b _ ?_⟩
  rintro rfl
  exact hnb ⟨by have := hrow.le; omega, rfl⟩
 ·have hl : (xs.take lo ++ List.replicate (xs.length - lo) z).length = xs.length := by
    simp only [List.length_append, List.length_take, List.length_replicate]; omega
  refine (show RowAt _ _ _ _ _ _ _ from ⟨flat_len C _, by rw [hl]; exact hrow.le, hrow.cap, .inr ⟨g, _, rfl, setRow_heap w g cur _ e _ hgc, ?_, ?_⟩⟩)
  ·simp only [List.size_toArray, List.length_append, List.length_take, List.length_drop, hlen, ← hcl2, hcs]
   omega
  rw [hl, flat_app, ← flat_take C xs lo (by omega), ← htake, List.take_take, Nat.min_eq_left (by omega)]
  have hl2 : (cur.toList.take (lo * C.sz) ++ flat C (List.replicate (xs.length - lo) z)).length = xs.length * C.sz := by
    rw [List.length_append, List.length_take, hlen, ← hcl2, hcs]; omega
  rw [List.take_append_of_le_length (by rw [hl2]; exact Nat.le_refl _), List.take_of_length_le (by rw [hl2]; exact Nat.le_refl _)]
 exact fun b hb => .inl hb

end G
end Go.Proofs.YtegibnmfiogebaaGreatDoor
