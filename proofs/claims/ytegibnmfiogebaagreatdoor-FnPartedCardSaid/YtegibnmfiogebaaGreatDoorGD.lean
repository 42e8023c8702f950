/-
  Step lemmas for walks whose frame is told as a list of slots. Part D: slices.
-/
import Derived.Test.YtegibnmfiogebaaGreatDoorGC
namespace Go.Proofs.YtegibnmfiogebaaGreatDoor
namespace G
set_option linter.unusedVariables false
set_option linter.unusedSimpArgs false
variable {P : Program} {ops : Array Oper} {Q : Exit → Act → World → Prop} {n : Md} {l : List Oper} {o : Oper} {F : Fm} {w w' w0 : World} {X : Nat → Prop} {L R : List Chunk}

structure Cd (α : Type) where
  sz : Nat
  enc : α → List Value
  len : ∀ x, (enc x).length = sz
  one : ∀ x, ∀ u ∈ enc x, u.oneCell' = true
def ci (k : IntKind) : Cd Int := ⟨1, fun x => [.int k x], fun _ => rfl, fun x u hu => by obtain rfl := List.mem_singleton.1 hu; rfl⟩
def cb : Cd Bool := ⟨1, fun x => [.bool x], fun _ => rfl, fun x u hu => by obtain rfl := List.mem_singleton.1 hu; rfl⟩
def cs : Cd ByteArray := ⟨1, fun x => [.string x], fun _ => rfl, fun x u hu => by obtain rfl := List.mem_singleton.1 hu; rfl⟩

variable {α : Type} {C : Cd α}
def flat (C : Cd α) : List α → List Value
  | [] => []
  | x :: xs => C.enc x ++ flat C xs
theorem flat_len (C : Cd α) : ∀ xs : List α, (flat C xs).length = xs.length * C.sz
  | [] => by simp [flat]
  | x :: xs => by simp only [flat, List.length_append, C.len, flat_len C xs, List.length_cons, Nat.add_mul, Nat.one_mul]; omega
theorem flat_app (C : Cd α) : ∀ xs ys : List α, flat C (xs ++ ys) = flat C xs ++ flat C ys
  | [], ys => rfl
  | x :: xs, ys => by simp only [List.cons_append, flat, flat_app C xs ys, List.append_assoc]
theorem flat_one (C : Cd α) (x : α) : flat C [x] = C.enc x := by simp [flat]
theorem flat_mem (C : Cd α) : ∀ xs : List α, ∀ u ∈ flat C xs, u.oneCell' = true
  | [], u, h => by simp [flat] at h
  | x :: xs, u, h => by
    simp only [flat, List.mem_append] at h
    rcases h with h | h
    · exact C.one x u h
    · exact flat_mem C xs u h
theorem flat_take (C : Cd α) (xs : List α) (k : Nat) (hk : k ≤ xs.length) : (flat C xs).take (k * C.sz) = flat C (xs.take k) := by
 have h : flat C xs = flat C (xs.take k) ++ flat C (xs.drop k) := by rw [← flat_app, List.take_append_drop]
 rw [h, List.take_append_of_le_length (by rw [flat_len, List.length_take, Nat.min_eq_left hk]; exact Nat.le_refl _), List.take_of_length_le (by rw [flat_len, List.length_take, Nat.min_eq_left hk]; exact Nat.le_refl _)]
theorem flat_drop (C : Cd α) (xs : List α) (k : Nat) (hk : k ≤ xs.length) : (flat C xs).drop (k * C.sz) = flat C (xs.drop k) := by
 have h : flat C xs = flat C (xs.take k) ++ flat C (xs.drop k) := by rw [← flat_app, List.take_append_drop]
 have hl : (flat C (xs.take k)).length = k * C.sz := by rw [flat_len, List.length_take, Nat.min_eq_left hk]
 conv => lhs; rw [h, ← hl]
 rw [List.drop_append_of_le_length (Nat.le_refl _), List.drop_length, List.nil_append]
theorem drop_cons_of {xs : List α} {i : Nat} {x : α} (h : xs[i]? = some x) : xs.drop i = x :: xs.drop (i + 1) := by
 obtain ⟨hi, rfl⟩ := List.getElem?_eq_some_iff.1 h
 exact List.drop_eq_getElem_cons hi
theorem flat_elem (C : Cd α) {xs : List α} {i : Nat} {x : α} (h : xs[i]? = some x) : ((flat C xs).drop (i * C.sz)).take C.sz = C.enc x := by
 have hi := (List.getElem?_eq_some_iff.1 h).1
 rw [flat_drop C xs i (Nat.le_of_lt hi), drop_cons_of h]
 simp only [flat]
 rw [List.take_append_of_le_length (by rw [C.len]; exact Nat.le_refl _), List.take_of_length_le (by rw [C.len]; exact Nat.le_refl _)]
theorem flat_set (C : Cd α) {xs : List α} {i : Nat} (h : i < xs.length) (y : α) : (flat C xs).take (i * C.sz) ++ C.enc y ++ (flat C xs).drop (i * C.sz + C.sz) = flat C (xs.set i y) := by
 rw [show i * C.sz + C.sz = (i + 1) * C.sz by rw [Nat.add_mul, Nat.one_mul], flat_take C xs i (Nat.le_of_lt h), flat_drop C xs (i + 1) h]
 have : xs.set i y = xs.take i ++ [y] ++ xs.drop (i + 1) := by
   rw [List.set_eq_take_append_cons_drop, if_pos h]; simp
 rw [this, flat_app, flat_app, flat_one]

def getI (xs : List α) (i : Int) : Option α := if 0 ≤ i then xs[i.toNat]? else none
theorem getI_some {xs : List α} {i : Int} {x : α} (h : getI xs i = some x) : (0 ≤ i ∧ i < (xs.length : Int)) ∧ xs[i.toNat]? = some x := by
 unfold getI at h
 split at h
 ·rename_i h0
  have := (List.getElem?_eq_some_iff.1 h).1
  exact ⟨⟨h0, by omega⟩, h⟩
 simp at h

structure Rd (C : Cd α) (w : World) (A : Option Addr) (xs : List α) : Prop where
  some_ : 0 < xs.length → ∃ ad, A = some ad
  cells : ∀ ad, A = some ad → CA w ad (flat C xs)
theorem Rd.ext {A : Option Addr} {xs : List α} (h : Rd C w A xs) (hx : Ext w w') : Rd C w' A xs := ⟨h.some_, fun ad e => (h.cells ad e).ext hx⟩
theorem Rd.nil (C : Cd α) (w : World) (A : Option Addr) : Rd C w A [] := ⟨fun h => by simp at h, fun ad _ j v hv => by simp [flat] at hv⟩
theorem Rd.cut {A : Option Addr} {xs : List α} (h : Rd C w A xs) {c lo hi : Nat} (h1 : lo ≤ hi) (h2 : hi ≤ xs.length) (hc : xs.length ≤ c) : Rd C w (if c = lo then A else A.map (·.add (lo * C.sz))) ((xs.drop lo).take (hi - lo)) := by
  refine ⟨fun hp => ?_, fun ad e => ?_⟩
  · simp only [List.length_take, List.length_drop] at hp
    obtain ⟨ad, rfl⟩ := h.some_ (by omega)
    split
    · exact ⟨_, rfl⟩
    exact ⟨_, rfl⟩
  by_cases hcl : c = lo
  · have : (xs.drop lo).take (hi - lo) = [] := by
      apply List.eq_nil_of_length_eq_zero
      simp only [List.length_take, List.length_drop]; omega
    rw [this]
    intro j v hv
    simp [flat] at hv
  rw [if_neg hcl] at e
  cases A with
  | none => simp at e
  | some a0 =>
    simp only [Option.map_some, Option.some.injEq] at e
    subst e
    have := ((h.cells a0 rfl).sub (lo * C.sz)).take ((hi - lo) * C.sz)
    rwa [flat_drop C xs lo (by omega), flat_take C _ _ (by rw [List.length_drop]; omega)] at this

abbrev rowC (C : Cd α) (A : Option Addr) (c T : Nat) (xs : List α) : Chunk := row A c T C.sz xs.length (flat C xs)
theorem RowAt.rd {A : Option Addr} {c T : Nat} {xs : List α} (h : RowAt w A c T C.sz xs.length (flat C xs)) : Rd C w A xs := by
 refine ⟨fun hp => ?_, fun ad e => ?_⟩
 ·rcases h.arr with h0 | ⟨g, cur, e, _⟩
  ·have := h.le; omega
  exact ⟨_, e⟩
 rcases h.arr with h0 | ⟨g, cur, e', hg, hs, ht⟩
 ·have hl : xs.length = 0 := by have := h.le; omega
  obtain rfl := List.eq_nil_of_length_eq_zero hl
  intro j v hv
  simp [flat] at hv
 rw [e'] at e
 obtain rfl := Option.some.inj e
 intro j v hv
 rw [add_lit, Nat.zero_add, cell_of_row w g j cur T (0, 0) hg]
 rw [← ht, List.getElem?_take] at hv
 split at hv
 ·simpa using hv
 simp at hv
theorem St.rd {A : Option Addr} {c T i : Nat} {xs : List α} (h : St w0 X w L R) (hi : L[i]? = some (rowC C A c T xs)) : Rd C w A xs := RowAt.rd (h.at_ hi)
theorem St.le {A : Option Addr} {c T i : Nat} {xs : List α} (h : St w0 X w L R) (hi : L[i]? = some (rowC C A c T xs)) : xs.length ≤ c := (h.at_ hi : RowAt w A c T C.sz xs.length (flat C xs)).le
theorem St.addNil (h : St w0 X w L R) (C : Cd α) (T : Nat) (A : Option Addr) : St w0 X w (L ++ [rowC C A 0 T []]) R :=
  h.add (Chg.refl _ _) _ (show RowAt _ _ _ _ _ _ _ from ⟨by simp [flat], Nat.le_refl _, by omega, .inl rfl⟩) fun b hb => absurd hb.1 (by omega)

def roC (C : Cd α) (A : Option Addr) (c : Nat) (xs : List α) : Chunk where
  fp := fun k => flat C xs ≠ [] ∧ A.map (·.block) = some k
  holds := fun w => Rd C w A xs ∧ xs.length ≤ c
  stable := fun {w w'} h hs => by
    refine ⟨⟨h.1.some_, fun ad e j v hv => ?_⟩, h.2⟩
    have h0 := h.1.cells ad e j v hv
    rw [World.cell?_of_block (w := w) (hs _ ⟨fun e0 => by rw [e0] at hv; simp at hv, by rw [e, add_blk]; rfl⟩)]
    exact h0
  lt := fun {w} h k hk => by
    obtain ⟨hne, hb⟩ := hk
    obtain ⟨ad, rfl, rfl⟩ := Option.map_eq_some_iff.1 hb
    cases hx : flat C xs with
    | nil => exact absurd hx hne
    | cons v vs =>
      have := h.1.cells ad rfl 0 v (by rw [hx]; rfl)
      exact World.block_lt_of_cell? w _ this
theorem St.rd' {A : Option Addr} {c i : Nat} {xs : List α} (h : St w0 X w L R) (hi : R[i]? = some (roC C A c xs)) : Rd C w A xs := (h.ro hi : _ ∧ _).1
theorem St.le' {A : Option Addr} {c i : Nat} {xs : List α} (h : St w0 X w L R) (hi : R[i]? = some (roC C A c xs)) : xs.length ≤ c := (h.ro hi : _ ∧ _).2
theorem St.param {w : World} {R : List Chunk} (h : St w no w [] R) (C : Cd α) (A : Option Addr) (c : Nat) (xs : List α) (hr : Rd C w A xs) (hc : xs.length ≤ c) : St w no w [] (R ++ [roC C A c xs]) :=
  h.read _ ⟨hr, hc⟩ (by simp)
theorem St.freezeR {A : Option Addr} {c T i : Nat} {xs : List α} (h : St w0 X w L R) (hi : L[i]? = some (rowC C A c T xs)) : St w0 X w (L.eraseIdx i) (R ++ [roC C A c xs]) :=
  h.freeze hi _ (fun hr => ⟨RowAt.rd hr, (hr : RowAt w A c T C.sz xs.length (flat C xs)).le⟩) fun b hb => by
    have hr : RowAt w A c T C.sz xs.length (flat C xs) := h.at_ hi
    refine ⟨?_, hb.2⟩
    rcases Nat.eq_zero_or_pos c with h0 | h0
    · exfalso
      have := hr.le
      have hx : xs = [] := List.eq_nil_of_length_eq_zero (by omega)
      subst hx
      exact hb.1 rfl
    · exact h0
theorem St.cutR {A : Option Addr} {c i lo hi : Nat} {xs : List α} (h : St w0 X w L R) (hi' : R[i]? = some (roC C A c xs)) (h1 : lo ≤ hi) (h2 : hi ≤ xs.length) : St w0 X w L (R ++ [roC C (if c = lo then A else A.map (·.add (lo * C.sz))) (c - lo) ((xs.drop lo).take (hi - lo))]) := by
 have hr := h.ro hi'
 refine h.read _ ⟨hr.1.cut h1 h2 hr.2, ?_⟩ fun d hd b hb hb' => ?_
 ·have := hr.2
  simp only [List.length_take, List.length_drop]; omega
 refine h.away _ (List.mem_of_getElem? hi') d hd b ⟨fun e => ?_, ?_⟩ hb'
 ·refine hb.1 ?_
  have : ((xs.drop lo).take (hi - lo)) = [] ∨ C.sz = 0 := by
    have hl : (flat C xs).length = 0 := by rw [e]; rfl
    rw [flat_len] at hl
    rcases Nat.mul_eq_zero.1 hl with h0 | h0
    · left
      apply List.eq_nil_of_length_eq_zero
      simp only [List.length_take, List.length_drop]; omega
    · exact .inr h0
  rcases this with h0 | h0
  ·rw [h0]; rfl
  exact List.eq_nil_of_length_eq_zero (by rw [flat_len, h0, Nat.mul_zero])
 have := hb.2
 split at this
 ·exact this
 rw [Option.map_map] at this
 rw [← this]
 congr 1
 funext a
 exact (add_blk a _).symm

theorem run_append {UI : List (Nat × TI)} {U : List (Nat × TypeDesc)} (hU : okU P U) (hI : okI P UI) {t ty e : TypeId} {ti : TI} (ht : lkT U t = some (.slice e)) (hti : lkT UI e = some ti) (hzs : ti.zero.cells.size = ti.size) (hsz : 0 < ti.size)
 {A : Option Addr} {c m : Nat} {cs : List Value} (hrow : RowAt w A c e ti.size m cs) {A2 : Option Addr} {k c2 : Nat} {news : List Value} (hl : news.length = k * ti.size) (h1 : ∀ u ∈ news, u.oneCell' = true)
 (hA2 : 0 < k → ∃ ad, A2 = some ad) (hnews : ∀ ad, A2 = some ad → CA w ad news) (h63 : m + k ≤ 4294967296) (hb : ti.bytes ≤ 32768) :
 ∃ A' c' w', (Builtin.append_ #[t, t] ty #[.slice A m c, .slice A2 k c2]).run P w = .ok (.slice A' (m + k) c') w' ∧ RowAt w' A' c' e ti.size (m + k) (cs ++ news) ∧
 Chg (row A c e ti.size m cs).fp w w' ∧ ∀ b, (row A' c' e ti.size (m + k) (cs ++ news)).fp b → (row A c e ti.size m cs).fp b ∨ w.heap.size ≤ b := by
 obtain ⟨i, hi, hz, hs, hby⟩ := hI.at_ hti
 have hu := hU.at_ ht
 have hbytes : (m + k) * ti.bytes ≤ 140737488355328 := Nat.le_trans (Nat.mul_le_mul h63 hb) (by omega)
 have hlen : (cs ++ news).length = (m + k) * ti.size := by rw [List.length_append, hrow.len, hl, Nat.add_mul]
 -- nothing is appended
 rcases Nat.eq_zero_or_pos k with hk | hk
 ·subst hk
  obtain rfl : news = [] := List.eq_nil_of_length_eq_zero (by simpa using hl)
  refine ⟨A, c, w, ?_, by simpa using hrow, Chg.refl _ _, fun b hb => .inl (by simpa using hb)⟩
  have hle := hrow.le
  cases A2 <;> cases A <;> simp [Builtin.append_, run_underlying hu, sizeOf, typeInfo, hi, Builtin.lenOf, Builtin.firstCells, hle, storeCells, loadCells, loadCellsFrom]
 obtain ⟨a, rfl⟩ := hA2 hk
 have hcells := hnews a rfl
 by_cases hroom : m + k ≤ c
 ·-- within the capacity
  rcases hrow.arr with h0 | ⟨g, cur, rfl, hg, hcs, htake⟩
  ·omega
  have hfit : m * i.size + news.length ≤ cur.size := by
    rw [hl, hs, ← Nat.add_mul, hcs]; exact Nat.mul_le_mul_right _ hroom
  have hr := run_append_room (P := P) w t ty e i hu hi g m c cur hg a k c2 news (by rw [hs]; exact hl) hcells h1 hroom hfit
  refine ⟨_, _, _, hr, ⟨hlen, hroom, hrow.cap, .inr ⟨g, _, rfl, setRow_heap w g cur _ e _ hg, ?_, ?_⟩⟩, ⟨rfl, rfl, rfl, by simp [World.setRow], fun b hb hnb => setRow_other w g b _ ?_⟩, fun b hb => .inl ⟨by omega, by simpa using hb.2⟩⟩
  ·simp only [List.size_toArray, List.length_append, List.length_take, List.length_drop, Array.length_toList]
   omega
  ·have hll : (cur.toList.take (m * i.size) ++ news).length = (m + k) * ti.size := by
     rw [List.length_append, List.length_take, Array.length_toList, hl, ← hs, Nat.min_eq_left (by omega), Nat.add_mul]
   rw [List.take_append_of_le_length (by rw [hll]; exact Nat.le_refl _), List.take_of_length_le (by rw [hll]; exact Nat.le_refl _), hs, htake]
  rintro rfl
  exact hnb ⟨by omega, rfl⟩
 -- a new array
 have hroom' : c < m + k := by omega
 have holds : (A = none ∧ m = 0 ∧ c = 0) ∨ ∃ b, A = some b ∧ ∀ j v, cs[j]? = some v → w.cell? (b.add j) = some v := by
   rcases hrow.arr with h0 | ⟨g, cur, rfl, hg, hcs, htake⟩
   · cases A with
     | none => exact .inl ⟨rfl, by have := hrow.le; omega, h0⟩
     | some b =>
       refine .inr ⟨b, rfl, fun j v hv => ?_⟩
       have : cs = [] := List.eq_nil_of_length_eq_zero (by rw [hrow.len]; have := hrow.le; rw [show m = 0 by omega]; simp)
       subst this
       simp at hv
   · refine .inr ⟨_, rfl, fun j v hv => ?_⟩
     rw [add_lit, Nat.zero_add, cell_of_row w g j cur e (0, 0) hg]
     rw [← htake, List.getElem?_take] at hv
     split at hv
     · simpa using hv
     · simp at hv
 have hnew : ∀ (D : Nat) (arr : Array Value), arr.toList = cs ++ news ++ (Builtin.zeroCells ti.zero.cells (D - (m + k))).toList → m + k ≤ D → D ≤ 9223372036854775807 →
     RowAt (w.drew.alloc (.cells arr e)) (some ⟨w.heap.size, 0, none⟩) D e ti.size (m + k) (cs ++ news) := by
   intro D arr harr hD hDm
   refine ⟨hlen, hD, hDm, .inr ⟨w.heap.size, arr, rfl, heap_alloc_new w.drew _, ?_, ?_⟩⟩
   · rw [← Array.length_toList, harr, List.length_append, hlen, Array.length_toList, size_zeroCells, hzs, ← Nat.add_mul]
     congr 1; omega
   · rw [harr, List.take_append_of_le_length (by rw [hlen]; exact Nat.le_refl _), List.take_of_length_le (by rw [hlen]; exact Nat.le_refl _)]
 have hchg : ∀ (Y : Nat → Prop) (ob : Obj), Chg Y w (w.drew.alloc ob) := fun Y ob => (Chg.drew Y w).trans (Chg.alloc Y _ ob)
 have hcm : ∀ old, grownCap w (m + k) old e ≤ 9223372036854775807 := fun old => by
   have := grownCap_le_maxLen w (m + k) old e (by simp only [maxLen]; omega)
   simpa [maxLen] using this
 rcases holds with ⟨rfl, rfl, rfl⟩ | ⟨b, rfl, hcb⟩
 ·have hr := run_append_nil (P := P) w t ty e i ti.zero hu hi hz a k c2 news (by rw [hs]; exact hl) hcells hk (by omega) (by rw [hby]; simp only [Nat.zero_add] at hbytes; omega)
  obtain rfl : cs = [] := List.eq_nil_of_length_eq_zero (by simpa using hrow.len)
  refine ⟨_, _, _, by simpa using hr, hnew _ _ ?_ ?_ ?_, hchg _ _, fun x hx => .inr ?_⟩
  ·simp
  ·have := grownCap_ge w k 0 e; omega
  ·have := hcm 0; simpa using this
  have := hx.2; simp at this; omega
 have hr := run_append_grow (P := P) w t ty e i ti.zero hu hi hz b m c cs (by rw [hs]; exact hrow.len) hcb a k c2 news (by rw [hs]; exact hl) hcells hroom' (by omega) (by rw [hby]; exact growslice_fits hroom' hbytes)
 refine ⟨_, _, _, hr, hnew _ _ ?_ (grownCap_ge _ _ _ _) (hcm _), hchg _ _, fun x hx => .inr ?_⟩
 ·simp
 have := hx.2; simp at this; omega

theorem Ew.append {U : List (Nat × TypeDesc)} {UI : List (Nat × TI)} (hU : okU P U) (hI : okI P UI) {t e i c c2 : Nat} {ti : TI} {x y : Operand} {cl : Call} {A A2 : Option Addr} {xs ys : List α} (hS : St w0 X w L R) (hi : L[i]? = some (rowC C A c e xs))
 (ho : o.op = .call cl) (hcl : cl.callee = .builtin .append) (hca : cl.args = #[x, y]) (hct : cl.argTypes = #[t, t])
 (ht : lkT U t = some (.slice e)) (hti : lkT UI e = some ti) (hC : C.sz = ti.size) (hzs : ti.zero.cells.size = ti.size) (hsz : Nat.ble 1 ti.size = true) (hb : Nat.ble ti.bytes 32768 = true)
 (hx : evO F x = some (.slice A xs.length c)) (hy : evO F y = some (.slice A2 ys.length c2)) (hr : Rd C w A2 ys) (h63 : xs.length + ys.length ≤ 4294967296) :
 Ew P F w o fun v w' => ∃ A' c', v = .slice A' (xs ++ ys).length c' ∧ St w0 X w' (L.set i (rowC C A' c' e (xs ++ ys))) R := by
 have hrow : RowAt w A c e ti.size xs.length (flat C xs) := by rw [← hC]; exact hS.at_ hi
 obtain ⟨A', c', w', hrun, hrow', hchg, hfp⟩ := run_append (P := P) hU hI ht hti hzs (Nat.le_of_ble_eq_true hsz) hrow (ty := o.type) (c2 := c2) (by rw [flat_len, hC]) (flat_mem C ys) hr.some_ hr.cells h63 (Nat.le_of_ble_eq_true hb)
 have hll : xs.length + ys.length = (xs ++ ys).length := by simp
 rw [hll, ← flat_app, ← hC] at hrow'
 rw [hll, ← flat_app, ← hC] at hfp
 rw [← hC] at hchg
 refine ⟨.slice A' (xs ++ ys).length c', w', fun ρ hρ => ?_, A', c', rfl, hS.upd hi _ hchg hrow' hfp⟩
 rw [hll] at hrun
 unfold execOp
 simp only [ho, resolve, hcl, hca, hct, Sem.run_bind, Sem.run_pure, Result.andThen_ok, invoke, builtin, List.map_toArray, List.map_cons, List.map_nil, hρ _ _ hx, hρ _ _ hy, hrun]

end G
end Go.Proofs.YtegibnmfiogebaaGreatDoor
