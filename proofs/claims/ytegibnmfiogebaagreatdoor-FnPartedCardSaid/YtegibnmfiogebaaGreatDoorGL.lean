/-
  What a law's arguments are when the call begins; how a law's row is closed.
-/
import Derived.Test.YtegibnmfiogebaaGreatDoorGY
import Derived.ProofKit
import Derived.OpenShut
import Derived.ShutString
import Derived.ChangeOld
import Derived.Below
import Derived.Carry
import Derived.SizedLaws
import Derived.ChangeArms
import Derived.Deep.Slices
namespace Go.Proofs.YtegibnmfiogebaaGreatDoor
namespace G
open Go.ChangeShapes Go.WideShapes Go.ChangeAt Go.RowKit Go.Deep
set_option linter.unusedVariables false
set_option linter.unusedSimpArgs false
variable {P : Program} {α : Type} {C : Cd α} {V : α → Prop} {w w' : World}

def Opn (P : Program) (T : TypeId) (C : Cd α) (V : α → Prop) : Prop := ∀ (H : Type) (enc : TypeId × Value → H) (w : World) (base : Nat) (spare : Nat → Bool) (held : Bool) (fuel : Nat) (cs : List Value) (x : DataW H × List MemPlace),
  DataW.trod enc P w base spare held fuel T cs = some x → ∃ y, cs = C.enc y ∧ V y
def inI (k : IntKind) (n : Int) : Prop := k.min ≤ n ∧ n ≤ k.max
theorem inI_of_wf {k : IntKind} {n : Int} (h : (Lit.int k n).wf = true) : inI k n := by
 simp only [Lit.wf, Bool.and_eq_true, decide_eq_true_eq] at h
 exact h
theorem Opn.int {T : TypeId} {k : IntKind} (hT : P.underlying T = some (.int k)) : Opn P T (ci k) (inI k) := by
 intro H enc w base spare held fuel cs x h
 obtain ⟨n, rfl, _, hw⟩ := DataW.trod_int hT h
 exact ⟨n, rfl, inI_of_wf hw⟩
theorem Opn.bool {T : TypeId} (hT : P.underlying T = some .bool) : Opn P T cb (fun _ => True) := by
 intro H enc w base spare held fuel cs x h
 obtain ⟨n, rfl, _⟩ := DataW.trod_bool hT h
 exact ⟨n, rfl, trivial⟩
theorem Opn.str {T : TypeId} (hT : P.underlying T = some .string) : Opn P T G.cs (fun s => s.size ≤ maxLen) := by
 intro H enc w base spare held fuel cs x h
 obtain ⟨n, rfl, _, hw⟩ := DataW.trod_string hT h
 exact ⟨n, rfl, hw⟩
theorem Opn.arr {T e : TypeId} {n : Nat} (hT : P.underlying T = some (.array n e)) (hc : P.cellsOf e = C.sz) (hs : P.cellsOf T = n * C.sz) (ho : Opn P e C V) : Opn P T (carr n C) (fun a => ∀ x ∈ a.l, V x) := by
 intro H enc w base spare held fuel cs x h
 obtain ⟨xs, m, rfl, rfl, hl, hn, hel⟩ := DataW.trod_array hT h
 rw [hs] at hl
 have hy : ∀ i, i < n → ∃ y, (cs.drop (i * C.sz)).take C.sz = C.enc y ∧ V y := by
   intro i hi
   have h1 := hel i hi
   rw [List.getElem?_eq_getElem (by omega), hc] at h1
   exact ho _ _ _ _ _ _ _ _ _ h1
 rcases Nat.eq_zero_or_pos n with h0 | h0
 ·subst h0
  have : cs = [] := List.eq_nil_of_length_eq_zero (by simpa using hl)
  subst this
  exact ⟨⟨[], rfl⟩, rfl, by simp⟩
 obtain ⟨y0, _⟩ := hy 0 h0
 haveI : Inhabited α := ⟨y0⟩
 obtain ⟨f, hf⟩ := choose_lt hy
 have key : ∀ k, k ≤ n → cs.take (k * C.sz) = flat C ((List.range k).map f) := by
   intro k
   induction k with
   | zero => intro _; simp [flat]
   | succ k ih =>
     intro hk
     rw [List.range_succ, List.map_append, flat_app, ← ih (by omega), Nat.add_mul, Nat.one_mul, List.take_add, (hf k (by omega)).1]
     simp [flat]
 have hk := key n (Nat.le_refl _)
 rw [List.take_of_length_le (by omega)] at hk
 refine ⟨⟨(List.range n).map f, by simp⟩, hk, ?_⟩
 intro y hy'
 obtain ⟨i, hi, rfl⟩ := List.mem_map.1 hy'
 exact (hf i (List.mem_range.1 hi)).2
structure Parts (P : Program) (cs : List Value) (fs : Array Field) : Prop where
  field : ∀ (i : Nat) (f : Field), fs[i]? = some f → ∀ {β : Type} {D : Cd β} {U : β → Prop}, Opn P f.type D U → ∀ (o s : Nat), f.offset = o → P.cellsOf f.type = s → ∃ y, (cs.drop o).take s = D.enc y ∧ U y
theorem parts {H : Type} {enc : TypeId × Value → H} {w : World} {base : Nat} {spare : Nat → Bool} {held : Bool} {fuel : Nat} {cs : List Value} {x : DataW H × List MemPlace} {T : TypeId} {fs : Array Field} (hT : P.underlying T = some (.struct fs)) (h : DataW.trod enc P w base spare held fuel T cs = some x) :
 cs.length = P.cellsOf T ∧ Parts P cs fs := by
 obtain ⟨xs, n, _, rfl, hl, hlen, hf⟩ := DataW.trod_struct hT h
 refine ⟨hl, ⟨fun i f hi β D U ho o s e1 e2 => ?_⟩⟩
 subst e1 e2
 have h1 := hf i f hi
 have hlt : i < xs.length := by rw [hlen]; exact (Array.getElem?_eq_some_iff.1 hi).1
 rw [List.getElem?_eq_getElem hlt] at h1
 exact ho _ _ _ _ _ _ _ _ _ h1
theorem openSl {H : Type} {enc : TypeId × Value → H} {t e : TypeId} {A : Option Addr} {len cap : Nat} {d : DataW H} {ps : List MemPlace} {W : World} {ts : List TypeId} {ds : List (DataW H)} {j B : Nat}
 (hsz : (DataW.weightsEach P ts ds).all (· ≤ reachBytes) = true) (hj : ts[j]? = some t) (hd : ds[j]? = some d) (hu : P.underlying t = some (.slice e)) (hc : P.cellsOf e = C.sz) (hB : P.bytesOf e = B) (ho : Opn P e C V)
 (h : DataW.Trod enc P W 0 (fun _ => true) true t (.slice A len cap) d ps) : ∃ xs : List α, len = xs.length ∧ Rd C W A xs ∧ xs.length ≤ cap ∧ (∀ x ∈ xs, V x) ∧ xs.length * B ≤ 140737488351232 := by
 obtain ⟨fuel, hf⟩ := h
 rcases open_slice hu hf with ⟨hcs, _⟩ | ⟨x, l, c, m, n, D, Pl, hcs, _, hl, hm, hmm, hx, hel⟩
 ·simp only [Value.cells, List.cons.injEq, and_true, Value.slice.injEq] at hcs
  obtain ⟨rfl, rfl, rfl⟩ := hcs
  exact ⟨[], rfl, Rd.nil C W _, Nat.le_refl _, by simp, by simp⟩
 simp only [Value.cells, List.cons.injEq, and_true, Value.slice.injEq] at hcs
 obtain ⟨rfl, rfl, rfl⟩ := hcs
 obtain ⟨hx, _⟩ := Prod.mk.inj hx
 subst hx
 have hlm : len ≤ m := by rw [hmm]; split <;> omega
 have hz := sized_slice hsz hj hd hu
 rw [hB] at hz
 have hz' : len * B ≤ 140737488351232 := Nat.le_trans (Nat.mul_le_mul_right _ (by simp)) hz
 have hel' : ∀ i, i < len → ∃ y, W.cells? 0 (x.add (i * C.sz)) C.sz = some (C.enc y) ∧ V y := by
   intro i hi
   obtain ⟨cs', h1, h2⟩ := hel i (Nat.lt_of_lt_of_le hi hlm)
   obtain ⟨y, rfl, hy⟩ := ho _ _ _ _ _ _ _ _ _ h2
   rw [hc] at h1
   exact ⟨y, h1, hy⟩
 rcases Nat.eq_zero_or_pos len with h0 | h0
 ·subst h0
  exact ⟨[], rfl, Rd.nil C W _, Nat.zero_le _, by simp, by simp⟩
 obtain ⟨y0, _⟩ := hel' 0 h0
 haveI : Inhabited α := ⟨y0⟩
 obtain ⟨f, hff⟩ := choose_lt hel'
 refine ⟨(List.range len).map f, by simp, ⟨fun _ => ⟨_, rfl⟩, fun ad e => ?_⟩, by simpa using hl, ?_, by simpa using hz'⟩
 ·obtain rfl := Option.some.inj e
  -- cell by cell
  have key : ∀ (k : Nat) (o : Nat), o + k ≤ len → ∀ j v, (flat C (((List.range len).map f).drop o |>.take k))[j]? = some v → W.cell? (x.add (o * C.sz + j)) = some v := by
    intro k
    induction k with
    | zero => intro o _ j v hv; simp [flat] at hv
    | succ k ih =>
      intro o ho j v hv
      have hd : ((List.range len).map f).drop o = f o :: ((List.range len).map f).drop (o + 1) := drop_cons_of (by rw [List.getElem?_map, List.getElem?_range (by omega)]; rfl)
      rw [hd, List.take_succ_cons] at hv
      simp only [flat] at hv
      have hco := (hff o (by omega)).1
      obtain ⟨_, hlen, hcell⟩ := World.cells?_some hco
      by_cases hj : j < C.sz
      · rw [List.getElem?_append_left (by rw [C.len]; exact hj)] at hv
        have := hcell j hj
        rw [add_add] at this
        rw [this]; exact hv
      · rw [List.getElem?_append_right (by rw [C.len]; omega), C.len] at hv
        have := ih (o + 1) (by omega) _ _ hv
        rwa [show (o + 1) * C.sz + (j - C.sz) = o * C.sz + j by rw [Nat.add_mul, Nat.one_mul]; omega] at this
  intro j v hv
  have := key len 0 (by omega) j v (by rw [List.drop_zero, List.take_of_length_le (by simp)]; exact hv)
  simpa using this
 intro y hy
 obtain ⟨i, hi, rfl⟩ := List.mem_map.1 hy
 exact (hff i (List.mem_range.1 hi)).2

theorem Ext.below (h : Ext w w') : Below w.heap.size w w' := ⟨h.os, h.tape, h.output, h.size, fun k hk => h.block k hk (fun e => e)⟩
end G
end Go.Proofs.YtegibnmfiogebaaGreatDoor
