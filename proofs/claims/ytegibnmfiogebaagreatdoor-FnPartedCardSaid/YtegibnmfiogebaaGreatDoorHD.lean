/-
  Sets: a member that goes.
-/
import Derived.Test.YtegibnmfiogebaaGreatDoorHJ
import Derived.Test.YtegibnmfiogebaaGreatDoorGQ
namespace Go.Proofs.YtegibnmfiogebaaGreatDoor
namespace G
open Go.RowKit
set_option linter.unusedVariables false
set_option linter.unusedSimpArgs false
variable {P : Program} {o : Oper} {F : Fm} {w w' w0 : World} {X : Nat → Prop} {L R : List Chunk} {α : Type} {C : Cd α} {kv : α → Value}
def delS [DecidableEq α] : List α → α → List α
  | [], _ => []
  | y :: l, k => if k = y then l else y :: delS l k
theorem delS_none [DecidableEq α] {k : α} : ∀ {ks : List α}, k ∉ ks → delS ks k = ks
  | [], _ => rfl
  | y :: l, h => by
    rw [delS, if_neg (fun e => h (by rw [e]; exact List.mem_cons_self ..)), delS_none fun e => h (List.mem_cons_of_mem _ e)]
structure KeyD (P : Program) (K : TypeId) (kv : α → Value) [DecidableEq α] : Prop where
  find : ∀ (x : α) (w : World) (es : List MapEntry) (ks : List α), es.map (·.key) = ks.map kv →
    (x ∉ ks ∧ (Instr.findKey K (kv x) es).run P w = .ok none w) ∨ ∃ j e, (Instr.findKey K (kv x) es).run P w = .ok (some (j, e)) w ∧ (es.eraseIdx j).map (·.key) = (delS ks x).map kv
theorem run_findD [DecidableEq α] {K : TypeId} (hk : KeyOk P K C) (x : α) (w : World) : ∀ (es : List MapEntry) (ks : List α) (i : Nat), es.map (·.key) = ks.map (keyV C) →
 (x ∉ ks ∧ (Instr.findAsking K (keyV C x) es i).run P w = .ok none w) ∨ (∃ j e, (Instr.findAsking K (keyV C x) es i).run P w = .ok (some (i + j, e)) w ∧ (es.eraseIdx j).map (·.key) = (delS ks x).map (keyV C))
  | [], ks, i, h => by
    have : ks = [] := by simpa using h.symm
    subst this
    exact .inl ⟨by simp, by simp [Instr.findAsking]⟩
  | e :: es, [], i, h => by simp at h
  | e :: es, y :: ks, i, h => by
    rw [List.map_cons, List.map_cons, List.cons.injEq] at h
    have hq := hk.eq x y w
    by_cases hxy : x = y
    · subst hxy
      rw [decide_eq_true rfl] at hq
      refine .inr ⟨0, e.val, by simp [Instr.findAsking, h.1, hq], ?_⟩
      rw [delS, if_pos rfl]
      exact h.2
    · rw [decide_eq_false hxy] at hq
      rcases run_findD hk x w es ks (i + 1) h.2 with ⟨h1, h2⟩ | ⟨j, e', h2, h3⟩
      · exact .inl ⟨by simp [hxy, h1], by simp [Instr.findAsking, h.1, hq, h2]⟩
      · refine .inr ⟨j + 1, e', by simp [Instr.findAsking, h.1, hq, h2, Nat.add_assoc, Nat.add_comm 1 j], ?_⟩
        rw [delS, if_neg hxy, List.eraseIdx_cons_succ, List.map_cons, List.map_cons, h3, h.1]
theorem KeyOk.d [DecidableEq α] {K : TypeId} (h : KeyOk P K C) : KeyD P K (keyV C) where
 find := fun x w es ks he => by
    rw [run_findKey_eq w h.wide]
    rcases run_findD h x w es ks 0 he with h1 | ⟨j, e, h2, h3⟩
    · exact .inl h1
    · exact .inr ⟨j, e, by rw [Nat.zero_add] at h2; exact h2, h3⟩
theorem Ew.mapDeleteK [DecidableEq α] {T K E : TypeId} {b i : Nat} {ks : List α} {k : α} {x y : Operand} {cl : Call} (hk : KeyK P K kv) (hd : KeyD P K kv) (hT : P.underlying T = some (.map K E))
 (hS : St w0 X w L R) (hi : L[i]? = some (mapK kv b ks)) (ho : o.op = .call cl) (hcl : cl.callee = .builtin .delete) (hca : cl.args = #[x, y]) (hct : cl.argTypes = #[T, K]) (hx : evO F x = some (.map (some b))) (hy : evO F y = some (kv k)) :
 Ew P F w o fun v w' => v = .tuple #[] ∧ St w0 X w' (L.set i (mapK kv b (delS ks k))) R := by
 have hh : (mapK kv b ks).holds w := hS.at_ hi
 obtain ⟨es, clock, h1, h2, h3⟩ := hh
 have hb := (Array.getElem?_eq_some_iff.1 h1).1
 have hg : (getObj b).run P w = .ok (.map es clock) w := by simp [getObj, Sem.run, h1]
 have hc := hk.check es.isEmpty k w
 have chg : ∀ ob : Obj, Chg (mapK kv b ks).fp w { w with heap := w.heap.setIfInBounds b ob } := fun ob => ⟨rfl, rfl, rfl, by simp, fun j hj hn => by
   have : b ≠ j := fun e => hn e.symm
   simp [Array.getElem?_setIfInBounds, this]⟩
 have new : ∀ ob : Obj, ({ w with heap := w.heap.setIfInBounds b ob } : World).heap[b]? = some ob := fun ob => by simp [Array.getElem?_setIfInBounds, hb]
 have go : ∀ es' : Array MapEntry, es'.toList.map (·.key) = (delS ks k).map kv → (∀ e ∈ es'.toList, e.val = .bool true) →
     (Builtin.delete_ #[T, K] o.type #[.map (some b), kv k]).run P w = .ok (.tuple #[]) { w with heap := w.heap.setIfInBounds b (.map es' clock) } → Ew P F w o fun v w' => v = .tuple #[] ∧ St w0 X w' (L.set i (mapK kv b (delS ks k))) R := fun es' a1 a2 a3 => by
   refine ⟨.tuple #[], { w with heap := w.heap.setIfInBounds b (.map es' clock) }, fun ρ hρ => ?_, rfl, hS.upd hi _ (chg _) ⟨_, _, new _, a1, a2⟩ fun q hq => .inl hq⟩
   unfold execOp
   simp only [ho, resolve, hcl, hca, hct, Sem.run_bind, Sem.run_pure, Result.andThen_ok, invoke, builtin, List.map_toArray, List.map_cons, List.map_nil, hρ _ _ hx, hρ _ _ hy, a3]
 have hs : ∀ ob, (setObj b ob).run P w = .ok () { w with heap := w.heap.setIfInBounds b ob } := fun ob => by simp [setObj, Sem.run, h1]
 rcases hd.find k w es.toList ks h2 with ⟨m1, m2⟩ | ⟨j, e, m2, m3⟩
 ·refine go es (by rw [delS_none m1]; exact h2) h3 ?_
  simp [Builtin.delete_, run_underlying hT, hg, hc, m2, hs, Result.andThen_ok]
 refine go (es.eraseIdxIfInBounds j) (by rw [Array.toList_eraseIdxIfInBounds]; exact m3) (fun q hq => by
   rw [Array.toList_eraseIdxIfInBounds] at hq
   exact h3 q (List.mem_of_mem_eraseIdx hq)) ?_
 simp [Builtin.delete_, run_underlying hT, hg, hc, m2, hs, Result.andThen_ok]
theorem ck_loop {n : Nat} {e : TypeId} {b : Bool} {cs : Array Value} {sz : Nat} (hs : ∀ w, (sizeOf e).run P w = .ok sz w) (w : World) : ∀ (l : List Nat), (∀ i ∈ l, ∃ v, (part e cs (i * sz)).run P w = .ok v w ∧ (Instr.checkKey b n e v).run P w = .ok () w) →
 (forIn (m := Sem) l PUnit.unit fun i _ => do
      Instr.checkKey b n e (← part e cs (i * (← sizeOf e)))
      pure (ForInStep.yield PUnit.unit)).run P w = .ok PUnit.unit w
  | [], _ => by simp
  | i :: l, h => by
    obtain ⟨v, h1, h2⟩ := h i (List.mem_cons_self ..)
    have ih := ck_loop hs w l fun j hj => h j (List.mem_cons_of_mem _ hj)
    rw [List.forIn_cons]
    simp only [Sem.run_bind, hs, Result.andThen_ok, h1, h2, Sem.run_pure]
    exact ih
theorem ck_arr {T e n len : Nat} {b : Bool} {x : Arr len α} {w : World} (hT : P.underlying T = some (.array len e)) (hs : ∀ w, (sizeOf e).run P w = .ok C.sz w)
 (hp : ∀ (xs : List α) (j : Nat) (x : α) (w : World), xs[j]? = some x → (part e (flat C xs).toArray (j * C.sz)).run P w = .ok (keyV C x) w)
 (he : ∀ (x : α), (Instr.checkKey b n e (keyV C x)).run P w = .ok () w) : (Instr.checkKey b (n + 1) T (keyV (carr len C) x)).run P w = .ok () w := by
 unfold Instr.checkKey
 simp only [Sem.run_bind, run_underlying hT, Result.andThen_ok, keyV]
 rw [Std.Legacy.Range.forIn_eq_forIn_range']
 rw [ck_loop hs w _ fun i hi => ?_]
 ·rfl
 have hi : i < len := by simpa [List.mem_range'] using hi
 have hx : x.l[i]? = some (x.l[i]'(by rw [x.len]; exact hi)) := List.getElem?_eq_getElem _
 exact ⟨_, hp x.l i _ w hx, he _⟩
theorem flat_in {u : Value} : ∀ {xs : List α}, u ∈ flat C xs → ∃ y ∈ xs, u ∈ C.enc y
  | [], h => by simp [flat] at h
  | x :: xs, h => by
    rw [flat] at h
    rcases List.mem_append.1 h with h | h
    · exact ⟨x, List.mem_cons_self .., h⟩
    · obtain ⟨y, h1, h2⟩ := flat_in h
      exact ⟨y, List.mem_cons_of_mem _ h1, h2⟩
theorem sb_self {n : Nat} : ∀ cs : List Value, (∀ c ∈ cs, Instr.sameBits n c c = true) → (cs.zip cs).all (fun (x, y) => Instr.sameBits n x y) = true
  | [], _ => rfl
  | c :: cs, h => by
    simp only [List.zip_cons_cons, List.all_cons, Bool.and_eq_true]
    exact ⟨h c (List.mem_cons_self ..), sb_self cs fun d hd => h d (List.mem_cons_of_mem _ hd)⟩
theorem sb_arr {n len : Nat} {x : Arr len α} (h : ∀ (y : α) (u : Value), u ∈ C.enc y → Instr.sameBits n u u = true) : Instr.sameBits (n + 1) (keyV (carr len C) x) (keyV (carr len C) x) = true := by
 unfold Instr.sameBits
 simp only [keyV, beq_self_eq_true, Bool.true_and]
 refine sb_self _ fun c hc => ?_
 obtain ⟨y, _, hy⟩ := flat_in (show c ∈ flat C x.l from hc)
 exact h y c hy
theorem mapK_ext {b : Nat} {ks : List α} (h : (mapK kv b ks).holds w) (hx : Ext w w') : (mapK kv b ks).holds w' := (mapK kv b ks).stable h fun j hj => hx.block j ((mapK kv b ks).lt h j hj) (fun h => h)
end G
end Go.Proofs.YtegibnmfiogebaaGreatDoor
