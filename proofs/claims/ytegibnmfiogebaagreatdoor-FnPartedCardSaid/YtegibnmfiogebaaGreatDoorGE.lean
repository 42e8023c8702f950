/-
  Step lemmas for walks whose frame is told as a list of slots. Part E: slices that are made, cut, stored into; strings; structs.
-/
import Derived.Test.YtegibnmfiogebaaGreatDoorGD
namespace Go.Proofs.YtegibnmfiogebaaGreatDoor
namespace G
set_option linter.unusedVariables false
set_option linter.unusedSimpArgs false
variable {P : Program} {ops : Array Oper} {Q : Exit → Act → World → Prop} {n : Md} {l : List Oper} {o : Oper} {F : Fm} {w w' w0 : World} {X : Nat → Prop} {L R : List Chunk} {α : Type} {C : Cd α}

theorem flat_replicate (C : Cd α) (z : α) : ∀ k : Nat, flat C (List.replicate k z) = (List.replicate k (C.enc z)).flatten
  | 0 => rfl
  | k + 1 => by rw [List.replicate_succ, List.replicate_succ, List.flatten_cons]; simp only [flat]; rw [flat_replicate C z k]
theorem flatten_replicate_at (zs : List Value) (hz : 0 < zs.length) : ∀ (k j : Nat), j < k * zs.length → ((List.replicate k zs).flatten)[j]? = zs[j % zs.length]?
  | 0, j, h => by omega
  | k + 1, j, h => by
    rw [List.replicate_succ, List.flatten_cons]
    by_cases hj : j < zs.length
    · rw [List.getElem?_append_left hj, Nat.mod_eq_of_lt hj]
    · rw [List.getElem?_append_right (by omega), flatten_replicate_at zs hz k (j - zs.length) (by rw [Nat.add_mul, Nat.one_mul] at h; omega), ← Nat.mod_eq_sub_mod (by omega)]

theorem foldl_set (cs : List Value) : ∀ (off k : Nat) (arr : Array Value), off + k + cs.length ≤ arr.size →
 ((cs.zipIdx k).foldl (fun (a : Array Value) (p : Value × Nat) => a.setIfInBounds (off + p.2) p.1) arr).toList = arr.toList.take (off + k) ++ cs ++ arr.toList.drop (off + k + cs.length) := by
  induction cs with
  | nil => intro off k arr h; simp
  | cons c cs ih =>
    intro off k arr h
    simp only [List.zipIdx_cons, List.foldl_cons, List.length_cons] at h ⊢
    rw [ih off (k + 1) _ (by simp; omega)]
    have e := list_seg_step arr.toList (off + k) c cs (by rw [Array.length_toList]; omega)
    simp only [Array.toList_setIfInBounds]
    rw [show off + (k + 1) = off + k + 1 by omega, show off + k + 1 + cs.length = off + k + (cs.length + 1) by omega]
    rw [show off + k + 1 + cs.length = off + k + (cs.length + 1) by omega] at e
    exact e
theorem fill_all (sz : Nat) : ∀ (vs : List Value) (k : Nat) (arr : Array Value), (∀ v ∈ vs, v.cells.size = sz) → (k + vs.length) * sz ≤ arr.size →
 ∃ out, Instr.fill (fun i => some (i * sz, sz)) arr ((List.range' k vs.length).zip vs) = some out ∧ out.toList = arr.toList.take (k * sz) ++ (vs.map fun v => v.cells.toList).flatten ++ arr.toList.drop ((k + vs.length) * sz)
  | [], k, arr, _, _ => ⟨arr, by simp [Instr.fill], by simp⟩
  | v :: vs, k, arr, hv, hl => by
    have hsz : v.cells.size = sz := hv v (by simp)
    simp only [List.length_cons, List.range'_succ, List.zip_cons_cons, Instr.fill]
    have hmul : (k + (vs.length + 1)) * sz = k * sz + (vs.length * sz + sz) := by rw [Nat.add_mul, Nat.add_mul, Nat.one_mul]
    rw [List.length_cons, hmul] at hl
    have hfold : (v.cells.zipIdx.foldl (fun (cs : Array Value) (p : Value × Nat) => cs.setIfInBounds (k * sz + p.2) p.1) arr).toList = arr.toList.take (k * sz) ++ v.cells.toList ++ arr.toList.drop (k * sz + v.cells.toList.length) := by
      have := foldl_set v.cells.toList (k * sz) 0 arr (by rw [Array.length_toList, hsz]; omega)
      rw [Nat.add_zero] at this
      rw [← this]
      congr 1
      rw [← Array.foldl_toList, Array.toList_zipIdx]
    have hif : ¬ ((v.cells.size ≠ sz || k * sz + v.cells.size > arr.size) = true) := by
      simp only [hsz, ne_eq, not_true_eq_false, decide_false, Bool.false_or, decide_eq_true_eq]; omega
    rw [if_neg hif]
    generalize hA : v.cells.zipIdx.foldl (fun (cs : Array Value) (p : Value × Nat) => cs.setIfInBounds (k * sz + p.2) p.1) arr = A at hfold
    have hAs : A.size = arr.size := by
      rw [← Array.length_toList, hfold]
      simp only [List.length_append, List.length_take, List.length_drop, Array.length_toList, hsz]
      omega
    obtain ⟨out, ho, hol⟩ := fill_all sz vs (k + 1) A (fun u hu => hv u (by simp [hu])) (by rw [hAs, Nat.add_mul, Nat.add_mul, Nat.one_mul]; omega)
    refine ⟨out, ?_, ?_⟩
    · rw [← ho, ← hA]
    · rw [hol, hfold]
      simp only [Array.length_toList, hsz, List.map_cons, List.flatten_cons]
      have h1 : (k + 1) * sz = k * sz + sz := by rw [Nat.add_mul, Nat.one_mul]
      have hl2 : (arr.toList.take (k * sz) ++ v.cells.toList).length = k * sz + sz := by
        simp only [List.length_append, List.length_take, Array.length_toList, hsz]; omega
      rw [h1, List.take_append_of_le_length (by rw [hl2]; exact Nat.le_refl _), List.take_of_length_le (by rw [hl2]; exact Nat.le_refl _)]
      rw [show (k + 1 + vs.length) * sz = k * sz + (vs.length * sz + sz) by rw [Nat.add_mul, Nat.add_mul, Nat.one_mul]; omega, hmul]
      rw [List.drop_append, List.drop_of_length_le (by rw [hl2]; omega), hl2, List.nil_append, List.drop_drop]
      simp only [List.append_assoc]
      congr 4
      omega

theorem Ef.litA {U : List (Nat × TypeDesc)} {UI : List (Nat × TI)} (hU : okU P U) (hI : okI P UI) {t e len : Nat} {ti : TI} {ps : Array (Nat × Operand)} (hS : St w0 X w L R)
 (ho : o.op = .buildSlice t len ps) (ht : lkT U t = some (.slice e)) (hti : lkT UI e = some ti) (hC : C.sz = ti.size)
 {vs : List Value} (hvs : allV (ps.toList.map fun p => evO F p.2) = some vs) (hidx : ps.toList.map (·.1) = List.range' 0 len) (xs : List α) (hlen : xs.length = len) (hsmall : Nat.ble (len * ti.size) 16777216 = true) (hsz : Nat.ble 1 ti.size = true)
 (hcells : vs.map (fun v => v.cells.toList) = xs.map C.enc) :
 Ef P F w o fun v w' => (∃ A', v = .slice A' xs.length xs.length ∧ St w0 X w' (L ++ [rowC C A' xs.length e xs]) R) ∧ ∃ ob, w' = w.alloc ob := by
 obtain ⟨i, hi, hiz, hs, hby⟩ := hI.at_ hti
 have hu := hU.at_ ht
 have hsm := Nat.le_of_ble_eq_true hsmall
 have hs1 := Nat.le_of_ble_eq_true hsz
 have hvl : vs.length = len := by rw [← hlen, ← List.length_map (f := C.enc) (as := xs), ← hcells, List.length_map]
 have hfl : (xs.map C.enc).flatten = flat C xs := by
   clear hcells hlen
   induction xs with
   | nil => rfl
   | cons x xs ih => simp only [List.map_cons, List.flatten_cons, flat, ih]
 have hrow : RowAt (w.alloc (.cells (flat C xs).toArray e)) (some ⟨w.heap.size, 0, none⟩) xs.length e C.sz xs.length (flat C xs) := by
   refine ⟨flat_len C _, Nat.le_refl _, ?_, ?_⟩
   · have := Nat.le_mul_of_pos_right xs.length hs1
     rw [hlen] at this ⊢; omega
   · exact .inr ⟨_, _, rfl, heap_alloc_new w _, by simp [flat_len], by rw [← flat_len]; simp⟩
 have hargs : ∀ ρ : Operand → Value, (∀ x u, evO F x = some u → ρ x = u) → (ps.map fun p => (p.1, ρ p.2)).toList = (List.range' 0 vs.length).zip vs := by
   intro ρ hρ
   have e1 : ps.toList.map (fun p => ρ p.2) = vs := by
     have := allV_map hρ (ps.toList.map (·.2)) (l := vs) (by rw [List.map_map]; exact hvs)
     rw [← this, List.map_map]; rfl
   rw [Array.toList_map, hvl, ← hidx, ← e1, List.zip_map']
 have hvsz : ∀ v ∈ vs, v.cells.size = ti.size := by
   intro v hv
   have hm : v.cells.toList ∈ vs.map (fun v => v.cells.toList) := List.mem_map.2 ⟨v, hv, rfl⟩
   rw [hcells] at hm
   obtain ⟨x, _, hx⟩ := List.mem_map.1 hm
   rw [← Array.length_toList, ← hx, C.len, hC]
 have hfillA : ∀ arr : Array Value, arr.size = len * ti.size → Instr.fill (fun i => some (i * ti.size, ti.size)) arr ((List.range' 0 vs.length).zip vs) = some (flat C xs).toArray := by
   intro arr harr
   obtain ⟨out, ho, hol⟩ := fill_all ti.size vs 0 arr hvsz (by rw [harr, hvl]; simp)
   rw [ho]
   congr 1
   apply Array.ext'
   rw [hol, hcells, hfl, Nat.zero_mul, List.take_zero, List.nil_append, List.drop_of_length_le (by rw [Array.length_toList, harr, hvl]; simp), List.append_nil]
 refine ⟨.slice (some ⟨w.heap.size, 0, none⟩) xs.length xs.length, w.alloc (.cells (flat C xs).toArray e), fun ρ hρ => ?_, Chg.alloc _ _ _, ⟨_, rfl, hS.add (Chg.alloc _ _ _) _ hrow fun b hb => ?_⟩, _, rfl⟩
 ·unfold execOp
  have hbig : ¬ (len * ti.size > 2 ^ 24) := by omega
  have hpr := hargs ρ hρ
  simp only [ho, Instr.buildSlice, Sem.run_bind, run_underlying hu, Result.andThen_ok, run_elem hI hti]
  rw [if_neg hbig]
  by_cases h0 : len * ti.size = 0
  ·simp only [h0, if_true, Sem.run_bind, Sem.run_pure, Result.andThen_ok]
   rw [hpr, hfillA _ (by simp [h0])]
   simp [newRow, hlen]
  simp only [h0, if_false, Sem.run_bind, zeroValue, typeInfo, run_program, Result.andThen_ok, hi, Sem.run_pure, hiz]
  rw [hpr, hfillA _ (by simp)]
  simp [newRow, hlen]
 have := hb.2; simp at this; omega
theorem Ef.lit {U : List (Nat × TypeDesc)} {UI : List (Nat × TI)} (hU : okU P U) (hI : okI P UI) {t e len : Nat} {ti : TI} {ps : Array (Nat × Operand)} (hS : St w0 X w L R)
 (ho : o.op = .buildSlice t len ps) (ht : lkT U t = some (.slice e)) (hti : lkT UI e = some ti) (hC : C.sz = ti.size)
 {vs : List Value} (hvs : allV (ps.toList.map fun p => evO F p.2) = some vs) (hidx : ps.toList.map (·.1) = List.range' 0 len) (xs : List α) (hlen : xs.length = len) (hsmall : Nat.ble (len * ti.size) 16777216 = true) (hsz : Nat.ble 1 ti.size = true)
 (hcells : vs.map (fun v => v.cells.toList) = xs.map C.enc) :
 Ef P F w o fun v w' => ∃ A', v = .slice A' xs.length xs.length ∧ St w0 X w' (L ++ [rowC C A' xs.length e xs]) R :=
  (Ef.litA hU hI hS ho ht hti hC hvs hidx xs hlen hsmall hsz hcells).mono fun _ _ h => h.1

theorem Es.storeR {UI : List (Nat × TI)} (hI : okI P UI) {T e c i : Nat} {k : Int} {ti : TI} {v : Value} {vs : List Value} {x y : Operand} {ad ad0 : Addr} {A : Option Addr} {xs : List α} {t : α} {off : Nat} (hS : St w0 X w L R) (hi : L[i]? = some (rowC C A c e xs)) (ho : o.op = .store T x y)
 (hk : getI xs k = some t) (hA : A = some ad0) (hx : evO F x = some (.pointer (some ad))) (had : ad = ad0.add (k.toNat * C.sz + off)) (hy : evO F y = some v) (hti : lkT UI T = some ti) (hv : v.cells = vs.toArray) (hl : vs.length = ti.size) (h1 : ∀ u ∈ vs, u.oneCell' = true) (hfit : off + vs.length ≤ C.sz)
 (t' : α) (ht' : (C.enc t).take off ++ vs ++ (C.enc t).drop (off + vs.length) = C.enc t') : Es P F w o fun w' => St w0 X w' (L.set i (rowC C A c e (xs.set k.toNat t'))) R := by
 obtain ⟨⟨h0, h1'⟩, hxk⟩ := getI_some hk
 have hrow : RowAt w A c e C.sz xs.length (flat C xs) := hS.at_ hi
 have hlt : k.toNat < xs.length := (List.getElem?_eq_some_iff.1 hxk).1
 rcases hrow.arr with hc | ⟨g, cur, e1, hgc, hcs, htake⟩
 ·have := hrow.le; omega
 rw [e1] at hA
 obtain rfl := Option.some.inj hA
 rw [add_lit, Nat.zero_add] at had
 have hcl : cur.size = cur.toList.length := by simp
 have hmul : (k.toNat + 1) * C.sz ≤ xs.length * C.sz := Nat.mul_le_mul_right _ hlt
 have hmul2 : xs.length * C.sz ≤ c * C.sz := Nat.mul_le_mul_right _ hrow.le
 rw [Nat.add_mul, Nat.one_mul] at hmul
 have hr := run_storeVar (P := P) (off := k.toNat * C.sz + off) (cs := cur.toList) hI hti (by rw [Array.toArray_toList]; exact hgc) hv hl h1 (by rw [← hcl, hcs]; omega)
 subst had
 have hnew : (cur.toList.take (k.toNat * C.sz + off) ++ vs ++ cur.toList.drop (k.toNat * C.sz + off + vs.length)).take (xs.length * C.sz) = flat C (xs.set k.toNat t') := by
   have hset := flat_set C hlt t'
   rw [← hset, ← ht']
   have hel := flat_elem C hxk
   -- the row's cells around the element
   have hlf : (flat C xs).length = xs.length * C.sz := flat_len C xs
   apply List.ext_getElem?
   intro j
   have helt : (C.enc t).length = C.sz := C.len t
   have hcurj : ∀ j, j < xs.length * C.sz → cur.toList[j]? = (flat C xs)[j]? := fun j hj => by rw [← htake, List.getElem?_take, if_pos hj]
   have hench : ∀ j, j < C.sz → (flat C xs)[k.toNat * C.sz + j]? = (C.enc t)[j]? := fun j hj => by
     rw [← hel, List.getElem?_take, if_pos hj, List.getElem?_drop]
   have hlen1 : (cur.toList.take (k.toNat * C.sz + off)).length = k.toNat * C.sz + off := by rw [List.length_take, ← hcl, hcs]; omega
   have hlen2 : ((flat C xs).take (k.toNat * C.sz)).length = k.toNat * C.sz := by rw [List.length_take, hlf]; omega
   have hlen3 : ((C.enc t).take off).length = off := by rw [List.length_take, helt]; omega
   by_cases hj : j < xs.length * C.sz
   · rw [List.getElem?_take, if_pos hj]
     simp only [List.getElem?_append, hlen1, hlen2, List.length_append, hlen3, List.getElem?_take, List.getElem?_drop, List.length_drop, helt]
     by_cases j1 : j < k.toNat * C.sz
     · rw [if_pos (by omega), if_pos (by omega), if_pos (by omega), if_pos (by omega), if_pos j1, if_pos j1]
       exact hcurj j hj
     · by_cases j2 : j < k.toNat * C.sz + off
       · rw [if_pos (by omega), if_pos j2, if_pos j2, if_pos (by omega), if_neg j1, if_pos (by omega), if_pos (by omega), if_pos (by omega)]
         rw [hcurj j hj, ← hench (j - k.toNat * C.sz) (by omega)]
         congr 1; omega
       · by_cases j3 : j < k.toNat * C.sz + off + vs.length
         · rw [if_pos j3, if_neg j2, if_pos (by omega), if_neg j1, if_pos (by omega), if_neg (by omega)]
           congr 1; omega
         · by_cases j4 : j < k.toNat * C.sz + C.sz
           · rw [if_neg j3, if_pos (by omega), if_neg j1, if_neg (by omega)]
             rw [hcurj _ (by omega), show k.toNat * C.sz + off + vs.length + (j - (k.toNat * C.sz + off + vs.length)) = k.toNat * C.sz + (j - k.toNat * C.sz) by omega, hench _ (by omega)]
             congr 1; omega
           · rw [if_neg j3, if_neg (by omega)]
             rw [hcurj _ (by omega)]
             congr 1; omega
   · rw [List.getElem?_eq_none (by rw [List.length_take]; omega), List.getElem?_eq_none]
     simp only [List.length_append, List.length_take, List.length_drop, helt, hlf]
     omega
 refine ⟨w.setRow g (cur.toList.take (k.toNat * C.sz + off) ++ vs ++ cur.toList.drop (k.toNat * C.sz + off + vs.length)).toArray, fun ρ hρ => ?_, hS.upd hi _ ?_ ?_ ?_⟩
 ·unfold execOp
  simp only [ho, Instr.storeAt, hρ _ _ hx, hρ _ _ hy, Instr.sureAddr]
  simp [hr]
 ·refine ⟨rfl, rfl, rfl, by simp [World.setRow], fun b hb hnb => setRow_other w g b _ ?_⟩
  rintro rfl
  exact hnb ⟨by have := hrow.le; omega, by rw [e1]; rfl⟩
 ·refine (show RowAt _ _ _ _ _ _ _ from ⟨flat_len C _, by rw [List.length_set]; exact hrow.le, hrow.cap, .inr ⟨g, _, e1, setRow_heap w g cur _ e _ hgc, ?_, ?_⟩⟩)
  ·simp only [List.size_toArray, List.length_append, List.length_take, List.length_drop, ← hcl, hcs]
   omega
  rw [List.length_set]; exact hnew
 intro b hb
 exact .inl hb

theorem bound_run {v : Value} {k : IntKind} {i : Int} {y : Nat} (c : BoundsCode) (hv : v = .int k i) (hi : 0 ≤ i ∧ i ≤ y) (w : World) : (Instr.sliceBound v y c).run P w = .ok i.toNat w := by
 subst hv
 simp [Instr.sliceBound, asIntOf, hi]

def cutA (A : Option Addr) (c lo sz : Nat) : Option Addr := if c = lo then A else A.map (·.add (lo * sz))
theorem Rd.cut' {A : Option Addr} {xs : List α} (h : Rd C w A xs) {c lo hi : Nat} (h1 : lo ≤ hi) (h2 : hi ≤ xs.length) (hc : xs.length ≤ c) : Rd C w (cutA A c lo C.sz) ((xs.drop lo).take (hi - lo)) := h.cut h1 h2 hc

def optE (F : Fm) : Option Operand → Option (Option Value)
  | none => some none
  | some x => match evO F x with
    | some v => some (some v)
    | none => none
theorem optE_run {ρ : Operand → Value} (hρ : ∀ x u, evO F x = some u → ρ x = u) {x : Option Operand} {v : Option Value} (h : optE F x = some v) : x.map ρ = v := by
  cases x with
  | none => simpa [optE] using h
  | some x =>
    simp only [optE] at h
    cases hx : evO F x with
    | none => rw [hx] at h; simp at h
    | some u => rw [hx] at h; simp only [Option.some.injEq] at h; subst h; simp [hρ _ _ hx]

theorem SR.cutS {U : List (Nat × TypeDesc)} {UI : List (Nat × TI)} (hU : okU P U) (hI : okI P UI) {t e len c : Nat} {ti : TI} {x : Operand} {lo hi : Option Operand} {vlo vhi : Option Value} {A : Option Addr} (a b : Nat)
 (ho : o.op = .slice t x lo hi none) (ht : lkT U t = some (.slice e)) (hti : lkT UI e = some ti) (hx : evO F x = some (.slice A len c))
 (hlo : optE F lo = some vlo) (hhi : optE F hi = some vhi) (hla : (vlo = none ∧ a = 0) ∨ ∃ k i, vlo = some (.int k i) ∧ 0 ≤ i ∧ i.toNat = a) (hlb : (vhi = none ∧ b = len) ∨ ∃ k i, vhi = some (.int k i) ∧ 0 ≤ i ∧ i.toNat = b)
 (hab : a ≤ b) (hbc : b ≤ c) : SR P F w o (.slice (cutA A c a ti.size) (b - a) (c - a)) := by
 intro w' hx' ρ hρ
 have e1 := optE_run hρ hlo
 have e2 := optE_run hρ hhi
 have hb : (Instr.sliceBounds true len c vlo vhi none).run P w' = .ok (a, b, c) w' := by
   unfold Instr.sliceBounds
   rcases hla with ⟨rfl, rfl⟩ | ⟨k, i, rfl, h0, rfl⟩ <;> rcases hlb with ⟨rfl, rfl⟩ | ⟨k', i', rfl, h0', rfl⟩
   · simp
   · simp [bound_run (P := P) _ rfl (show 0 ≤ i' ∧ i' ≤ (c : Int) by omega)]
   · simp [bound_run (P := P) _ rfl (show 0 ≤ i ∧ i ≤ (b : Int) by omega)]
   · simp only [Sem.run_bind, Sem.run_pure, Result.andThen_ok, bound_run (P := P) _ rfl (show 0 ≤ i' ∧ i' ≤ (c : Int) by omega), bound_run (P := P) _ rfl (show 0 ≤ i ∧ i ≤ (i'.toNat : Int) by omega)]
 unfold execOp
 simp only [ho, hρ _ _ hx, e1, e2, Option.map_none, Instr.sliceAt, Instr.slice, Sem.run_bind, run_underlying (hU.at_ ht), Result.andThen_ok, hb, run_elem hI hti, Sem.run_pure]
 rfl

theorem SR.cutStr {U : List (Nat × TypeDesc)} (hU : okU P U) {t : Nat} {x : Operand} {lo hi : Option Operand} {vlo vhi : Option Value} {s : ByteArray} (a b : Nat)
 (ho : o.op = .slice t x lo hi none) (ht : lkT U t = some .string) (hx : evO F x = some (.string s))
 (hlo : optE F lo = some vlo) (hhi : optE F hi = some vhi) (hla : (vlo = none ∧ a = 0) ∨ ∃ k i, vlo = some (.int k i) ∧ 0 ≤ i ∧ i.toNat = a) (hlb : (vhi = none ∧ b = s.size) ∨ ∃ k i, vhi = some (.int k i) ∧ 0 ≤ i ∧ i.toNat = b)
 (hab : a ≤ b) (hbc : b ≤ s.size) : SR P F w o (.string (s.extract a b)) := by
 intro w' hx' ρ hρ
 have e1 := optE_run hρ hlo
 have e2 := optE_run hρ hhi
 have hb : (Instr.sliceBounds false s.size s.size vlo vhi none).run P w' = .ok (a, b, s.size) w' := by
   unfold Instr.sliceBounds
   rcases hla with ⟨rfl, rfl⟩ | ⟨k, i, rfl, h0, rfl⟩ <;> rcases hlb with ⟨rfl, rfl⟩ | ⟨k', i', rfl, h0', rfl⟩
   · simp
   · simp [bound_run (P := P) _ rfl (show 0 ≤ i' ∧ i' ≤ (s.size : Int) by omega)]
   · simp [bound_run (P := P) _ rfl (show 0 ≤ i ∧ i ≤ (s.size : Int) by omega)]
   · simp only [Sem.run_bind, Sem.run_pure, Result.andThen_ok, bound_run (P := P) _ rfl (show 0 ≤ i' ∧ i' ≤ (s.size : Int) by omega), bound_run (P := P) _ rfl (show 0 ≤ i ∧ i ≤ (i'.toNat : Int) by omega)]
 unfold execOp
 simp only [ho, hρ _ _ hx, e1, e2, Option.map_none, Instr.sliceAt, Instr.slice, Sem.run_bind, run_underlying (hU.at_ ht), Result.andThen_ok]
 simp [hb]

theorem SR.concat {t yt : Nat} {x y : Operand} {s r : ByteArray} (ho : o.op = .binOp .add t x y yt)
 (hx : evO F x = some (.string s)) (hy : evO F y = some (.string r)) (hl : s.size + r.size ≤ 4294967296) : SR P F w o (.string (s ++ r)) := by
 intro w' hx' ρ hρ
 have hm : ¬ (((s.size + r.size : Nat) : Int) > IntKind.i64.max) := by
   have : IntKind.i64.max = 9223372036854775807 := by decide
   omega
 unfold execOp
 simp only [ho, hρ _ _ hx, hρ _ _ hy, eqGuard, binOp, Op.stringOp]
 rw [if_neg hm]
 simp

theorem run_part {U : List (Nat × TypeDesc)} {UI : List (Nat × TI)} (hU : okU P U) (hI : okI P UI) {T : Nat} {d : TypeDesc} {ti : TI} (hT : lkT U T = some d) (hti : lkT UI T = some ti) {cs : Array Value} {off : Nat} {v : Value}
 (hv : (isAggD d = false ∧ cs.toList[off]? = some v) ∨ (isAggD d = true ∧ v = .agg ((cs.toList.drop off).take ti.size).toArray)) (w : World) : (part T cs off).run P w = .ok v w := by
 unfold part
 simp only [Sem.run_bind, run_isAgg (hU.at_ hT), Result.andThen_ok]
 rcases hv with ⟨hd, hv⟩ | ⟨hd, rfl⟩
 ·have : cs[off]? = some v := by rw [← Array.getElem?_toList]; exact hv
  simp [hd, this]
 have : cs.extract off (off + ti.size) = ((cs.toList.drop off).take ti.size).toArray := by
   apply Array.ext'
   rw [Array.toList_extract, List.extract_eq_take_drop]
   simp
 simp [hd, run_elem hI hti, this]
theorem SR.field {U : List (Nat × TypeDesc)} {UI : List (Nat × TI)} (hU : okU P U) (hI : okI P UI) {T k : Nat} {fs : Array Field} {fl : Field} {ti : TI} {dd : TypeDesc} {x : Operand} {cs : Array Value} {v : Value}
 (ho : o.op = .field T x k) (hT : lkT U T = some (.struct fs)) (hk : fs[k]? = some fl) (hti : lkT UI fl.type = some ti) (hdd : lkT U fl.type = some dd) (hx : evO F x = some (.agg cs))
 (hv : (isAggD dd = false ∧ cs.toList[fl.offset]? = some v) ∨ (isAggD dd = true ∧ v = .agg ((cs.toList.drop fl.offset).take ti.size).toArray)) : SR P F w o (v) := by
 intro w' hx' ρ hρ
 unfold execOp
 simp only [ho, Instr.field, hρ _ _ hx, Sem.run_bind]
 simp [run_underlying (hU.at_ hT), hk, asAgg, run_part (P := P) hU hI hdd hti hv w']
end G
end Go.Proofs.YtegibnmfiogebaaGreatDoor
