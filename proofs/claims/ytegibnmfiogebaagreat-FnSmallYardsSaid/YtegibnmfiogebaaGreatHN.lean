/-
  Slices of slices that are only read from now on, and of which one is handed on.
-/
import Derived.Test.YtegibnmfiogebaaGreatGW
namespace Go.Proofs.YtegibnmfiogebaaGreat
namespace G
set_option linter.unusedVariables false
set_option linter.unusedSimpArgs false
variable {P : Program} {F : Fm} {o : Oper} {w w' w0 : World} {X : Nat → Prop} {L R : List Chunk} {α : Type} {C : Cd α} {O : Nat → Prop}
def rosO (O : Nat → Prop) (C : Cd α) (A : Option Addr) (c : Nat) (D : List SH) (xss : List (List α)) : Chunk where
  fp := (rosC C A c D xss).fp
  holds := fun w => (rosC C A c D xss).holds w ∧ ∀ b, (rosC C A c D xss).fp b → O b
  stable := fun h hs => ⟨(rosC C A c D xss).stable h.1 hs, h.2⟩
  lt := fun h => (rosC C A c D xss).lt h.1
theorem St.rosHO {A : Option Addr} {c i : Nat} {D : List SH} {xss : List (List α)} (h : St w0 X w L R) (hi : R[i]? = some (rosO O C A c D xss)) : (rosC C A c D xss).holds w := (h.ro hi : _ ∧ _).1
/-- A part of the call's own goes; what is known of it stays to be read. -/
theorem St.toR {c d : Chunk} {i : Nat} (h : St w0 X w L R) (hi : L[i]? = some c) (hd : d.holds w) (hf : ∀ b, d.fp b → c.fp b) : St w0 X w (L.set i gone) (R ++ [d]) := by
 have h1 := h.takeI hi
 have h2 := h1.tail
 refine ⟨h2.chg, h2.holds, h2.own, h2.apart, fun x hx => ?_, fun x hx e he b hb hb' => ?_⟩
 ·rcases List.mem_append.1 hx with hx | hx
  ·exact h2.reads x hx
  obtain rfl := List.mem_singleton.1 hx; exact hd
 rcases List.mem_append.1 hx with hx | hx
 ·exact h2.away x hx e he b hb hb'
 obtain rfl := List.mem_singleton.1 hx
 exact (List.pairwise_cons.1 h1.apart).1 e he b (hf b hb) hb'
theorem ro_row {C : Cd α} {A : Option Addr} {c T : Nat} {xs : List α} (h : RowAt w A c T C.sz xs.length (flat C xs)) (b : Nat) (hb : (roC C A c xs).fp b) : (rowC C A c T xs).fp b := by
 refine ⟨?_, hb.2⟩
 rcases Nat.eq_zero_or_pos c with h0 | h0
 ·exfalso
  have := h.le
  have hx : xs = [] := List.eq_nil_of_length_eq_zero (by omega)
  subst hx
  exact hb.1 rfl
 exact h0
theorem ros_rows {A : Option Addr} {c E e : Nat} {D : List SH} {xss : List (List α)} (h : (rowsC C A c E e D xss).holds w) (b : Nat) (hb : (rosC C A c D xss).fp b) : (rowsC C A c E e D xss).fp b := by
 obtain ⟨h1, h2, h3⟩ := rows_facts h
 rcases hb with hb | ⟨i, p, xs, hp, hx, hb⟩
 ·exact ⟨_, List.mem_cons_self .., ro_row h2 b hb⟩
 refine ⟨rowC C p.1 p.2 e xs, List.mem_cons_of_mem _ (List.mem_of_getElem? (i := i) ?_), ro_row (h3 i p xs hp hx) b hb⟩
 unfold innC
 rw [List.getElem?_zipWith, hp, hx]
theorem St.freezeSO {A : Option Addr} {c E e i : Nat} {D : List SH} {xss : List (List α)} (h : St w0 no w L R) (hO : ∀ b, w0.heap.size ≤ b → O b) (hi : L[i]? = some (rowsC C A c E e D xss)) : St w0 no w (L.set i gone) (R ++ [rosO O C A c D xss]) := by
 have hh : (rowsC C A c E e D xss).holds w := h.at_ hi
 exact h.toR hi ⟨h.rowsRo hi, fun b hb => hO b ((h.own _ (List.mem_of_getElem? hi) b (ros_rows hh b hb)).resolve_right fun e => e)⟩ (ros_rows hh)
theorem St.subRo {A A' : Option Addr} {c c' i j : Nat} {D : List SH} {xss : List (List α)} {xs : List α} (h : St w0 X w L R) (hj : R[j]? = some (rosO O C A c D xss)) (hd : D[i]? = some (A', c')) (hx : xss[i]? = some xs) : St w0 X w L (R ++ [roO O C A' c' xs]) := by
 have hh : (rosO O C A c D xss).holds w := h.ro hj
 have hs : ∀ b, (roC C A' c' xs).fp b → (rosC C A c D xss).fp b := fun b hb => .inr ⟨i, (A', c'), xs, hd, hx, hb⟩
 exact h.read _ ⟨hh.1.2.2 i _ xs hd hx, fun b hb => hh.2 b (hs b hb)⟩ fun e he b hb => h.away _ (List.mem_of_getElem? hj) e he b (hs b hb)
end G
end Go.Proofs.YtegibnmfiogebaaGreat
