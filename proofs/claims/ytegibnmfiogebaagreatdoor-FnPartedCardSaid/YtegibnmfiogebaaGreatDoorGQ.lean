/-
  Step lemmas: '==' of data with structs and arrays in them.
-/
import Derived.Test.YtegibnmfiogebaaGreatDoorGS
import Derived.ChangeKeysEq
namespace Go.Proofs.YtegibnmfiogebaaGreatDoor
namespace G
set_option linter.unusedVariables false
set_option linter.unusedSimpArgs false
variable {P : Program} {α : Type} {C : Cd α}
def EqD (n : Nat) (P : Program) (T : TypeId) (v : α → Value) [DecidableEq α] : Prop := ∀ (d : Nat) (x y : α) (w : World), (Op.equalIn (d + n) T (v x) (v y)).run P w = .ok (decide (x = y)) w
theorem EqD.up [DecidableEq α] {n : Nat} {T : TypeId} {v : α → Value} (h : EqD n P T v) (m : Nat) : EqD (n + m) P T v := fun d x y w => by
  have := h (d + m) x y w
  rwa [show d + m + n = d + (n + m) by omega] at this
theorem EqD.toT [DecidableEq α] {n : Nat} {T : TypeId} (h : EqD n P T fun z : α => .agg (C.enc z).toArray) (m : Nat) (hm : n + m = 20) : EqT P T C fun z => .agg (C.enc z).toArray := by
 have := h.up m
 rw [hm] at this
 exact this
theorem EqD.int {k : IntKind} {t : TypeId} (h : P.underlying t = some (.int k)) : EqD 1 P t fun x : Int => .int k x := fun d x y w => by
  rw [run_equalIn_int w d t k k x y h]; rfl
theorem EqD.bool {t : TypeId} (h : P.underlying t = some .bool) : EqD 1 P t fun x : Bool => .bool x := fun d x y w => by
  rw [run_equalIn_bool' w d t x y h]; cases x <;> cases y <;> rfl
theorem EqD.str {t : TypeId} (h : P.underlying t = some .string) : EqD 1 P t fun x : ByteArray => .string x := fun d x y w => by
  rw [run_equalIn_string w d t x y h, bytes_eq]
def EqF (P : Program) (m : Nat) (xs ys : Array Value) (fs : List Field) (b : Bool) : Prop := ∀ w, (Op.eqFields m xs ys fs).run P w = .ok b w
theorem EqF.nil {m : Nat} {xs ys : Array Value} : EqF P m xs ys [] true := fun w => by simp [Op.eqFields]
theorem EqF.cons [DecidableEq α] {m n k : Nat} {xs ys : Array Value} {f : Field} {fs : List Field} {v : α → Value} {a b : α} {c : Bool} (hn : f.name ≠ "_") (pa : ∀ w, (part f.type xs f.offset).run P w = .ok (v a) w) (pb : ∀ w, (part f.type ys f.offset).run P w = .ok (v b) w)
 (he : EqD n P f.type v) (hm : m = k + n) (ih : EqF P m xs ys fs c) : EqF P m xs ys (f :: fs) (decide (a = b) && c) := fun w => by
  subst hm
  simp only [Op.eqFields, hn, ne_eq, not_false_eq_true, if_true, Sem.run_bind, pa, pb, he k a b w, Result.andThen_ok]
  by_cases e : a = b
  · simpa [e] using ih w
  · simp [e]
theorem EqF.to {m : Nat} {xs ys : Array Value} {fs : List Field} {b c : Bool} (h : EqF P m xs ys fs b) (e : b = c) : EqF P m xs ys fs c := e ▸ h
theorem EqD.struct [DecidableEq α] {m : Nat} {T : TypeId} {fs : Array Field} (hT : P.underlying T = some (.struct fs)) (hp : P.stoodInHeld T = false) (h : ∀ (d : Nat) (x y : α), EqF P (d + m) (C.enc x).toArray (C.enc y).toArray fs.toList (decide (x = y))) : EqD (m + 1) P T fun z : α => .agg (C.enc z).toArray := fun d x y w => by
  have hf : P.fieldsOf T = fs := by simp [Program.fieldsOf, hT]
  rw [show d + (m + 1) = (d + m) + 1 from rfl, run_equalIn_struct w (d + m) T _ _ (by rw [hf]; exact hT) hp, hf]
  exact h d x y w
theorem arr_ext {n : Nat} {a b : Arr n α} (h : a.l = b.l) : a = b := by cases a; cases b; simp_all
theorem eqItems_run [DecidableEq α] {m n : Nat} {e : TypeId} {v : α → Value} (he : EqD m P e v) {xs ys : Array Value} {a b : List α} {c : Nat} (d : Nat)
 (pa : ∀ j x w, a[j]? = some x → (part e xs (j * c)).run P w = .ok (v x) w) (pb : ∀ j x w, b[j]? = some x → (part e ys (j * c)).run P w = .ok (v x) w) (hl : a.length = n) (hl' : b.length = n) :
 ∀ (k i : Nat), i + k = n → ∀ w, (Op.eqItems (d + m) e c xs ys (List.range' i k)).run P w = .ok (decide (a.drop i = b.drop i)) w
  | 0, i, hi, w => by
    rw [List.range'_zero]
    rw [List.drop_of_length_le (by omega), List.drop_of_length_le (by omega)]
    simp [Op.eqItems]
  | k + 1, i, hi, w => by
    have h1 : i < a.length := by omega
    have h2 : i < b.length := by omega
    rw [List.range'_succ, List.drop_eq_getElem_cons h1, List.drop_eq_getElem_cons h2]
    simp only [Op.eqItems, Sem.run_bind, pa i _ w (List.getElem?_eq_getElem h1), pb i _ w (List.getElem?_eq_getElem h2), he d _ _ w, Result.andThen_ok]
    by_cases e : a[i] = b[i]
    · have ih := eqItems_run he d pa pb hl hl' k (i + 1) (by omega) w
      simp only [e, decide_true, Bool.not_true, Bool.false_eq_true, if_false, ih, List.cons.injEq, true_and]
    · simp only [e, decide_false, Bool.not_false, if_true, Sem.run_pure, List.cons.injEq, false_and]
theorem EqD.arr [DecidableEq α] {m n : Nat} {T e : TypeId} {v : α → Value} {dd : TypeDesc} (he : EqD m P e v) (hT : P.underlying T = some (.array n e)) (hu : P.underlying e = some dd) (hc : P.cellsOf e = C.sz)
 (hp : ∀ (xs : List α) (j : Nat) (x : α) (w : World), xs[j]? = some x → (part e (flat C xs).toArray (j * C.sz)).run P w = .ok (v x) w) : EqD (m + 1) P T fun z : Arr n α => .agg ((carr n C).enc z).toArray := fun d x y w => by
  obtain ⟨i, hi⟩ := info_of_underlying hu
  rw [show d + (m + 1) = (d + m) + 1 from rfl, run_equalIn_array w (d + m) _ _ hT hi, hc, List.range_eq_range']
  have := eqItems_run (n := n) he (xs := (flat C x.l).toArray) (ys := (flat C y.l).toArray) (c := C.sz) d (hp x.l) (hp y.l) x.len y.len n 0 (by omega) w
  rw [List.drop_zero, List.drop_zero] at this
  refine Eq.trans this ?_
  congr 1
  rw [decide_eq_decide]
  exact ⟨arr_ext, fun h => by rw [h]⟩
theorem part_leaf {e : TypeId} {dd : TypeDesc} (hu : P.underlying e = some dd) (hd : isAggD dd = false) {cs : List Value} {off : Nat} {v : Value} (h : cs[off]? = some v) (w : World) : (part e cs.toArray off).run P w = .ok v w := by
 unfold part
 simp only [Sem.run_bind, run_isAgg hu, Result.andThen_ok, hd]
 simp [h]
theorem part_agg {e : TypeId} {dd : TypeDesc} (hu : P.underlying e = some dd) (hd : isAggD dd = true) {n : Nat} (hn : P.cellsOf e = n) {cs ds : List Value} {off : Nat} (h : (cs.drop off).take n = ds) (w : World) : (part e cs.toArray off).run P w = .ok (.agg ds.toArray) w := by
 obtain ⟨i, hi⟩ := info_of_underlying hu
 unfold part
 simp only [Sem.run_bind, run_isAgg hu, Result.andThen_ok, hd, run_sizeOf w hi, hn]
 subst h
 have : cs.toArray.extract off (off + n) = ((cs.drop off).take n).toArray := by
   apply Array.ext'
   rw [Array.toList_extract, List.extract_eq_take_drop]
   simp
 simp [run_sizeOf w hi, hn, this]
theorem item_leaf {e : TypeId} {dd : TypeDesc} (hu : P.underlying e = some dd) (hd : isAggD dd = false) {v : α → Value} (hC : ∀ x, C.enc x = [v x]) (xs : List α) (j : Nat) (x : α) (w : World) (h : xs[j]? = some x) : (part e (flat C xs).toArray (j * C.sz)).run P w = .ok (v x) w := by
 refine part_leaf hu hd ?_ w
 have h1 := flat_elem C h
 rw [hC] at h1
 have h2 := congrArg (·[0]?) h1
 simp only [List.getElem?_cons_zero] at h2
 have hs : C.sz ≠ 0 := by have := C.len x; rw [hC] at this; simp at this; omega
 rw [List.getElem?_take, if_pos (by omega), List.getElem?_drop, Nat.add_zero] at h2
 exact h2
theorem item_agg {e : TypeId} {dd : TypeDesc} (hu : P.underlying e = some dd) (hd : isAggD dd = true) (hn : P.cellsOf e = C.sz) (xs : List α) (j : Nat) (x : α) (w : World) (h : xs[j]? = some x) : (part e (flat C xs).toArray (j * C.sz)).run P w = .ok (.agg (C.enc x).toArray) w :=
  part_agg hu hd hn (flat_elem C h) w
theorem fld_leaf {e : TypeId} {dd : TypeDesc} (hu : P.underlying e = some dd) (hd : isAggD dd = false) {cs pre post : List Value} {v : Value} {off : Nat} (h : cs = pre ++ ([v] ++ post)) (hp : pre.length = off) (w : World) : (part e cs.toArray off).run P w = .ok v w := by
 refine part_leaf hu hd ?_ w
 subst h hp
 simp
theorem fld_agg {e : TypeId} {dd : TypeDesc} (hu : P.underlying e = some dd) (hd : isAggD dd = true) {cs pre post ds : List Value} {off n : Nat} (hn : P.cellsOf e = n) (h : cs = pre ++ (ds ++ post)) (hp : pre.length = off) (hk : ds.length = n) (w : World) : (part e cs.toArray off).run P w = .ok (.agg ds.toArray) w :=
  part_agg hu hd hn (mid_part h hp hk) w
end G
end Go.Proofs.YtegibnmfiogebaaGreatDoor
