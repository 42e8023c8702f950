/-
  Step lemmas for walks whose frame is told as a list of slots. Part C: memory: what is the call's own, and what is read.
-/
import Derived.Test.YtegibnmfiogebaaGreatDoorGB
import Derived.Maps.AppendAt
import Derived.Below
namespace Go.Proofs.YtegibnmfiogebaaGreatDoor
namespace G
set_option linter.unusedVariables false
set_option linter.unusedSimpArgs false
variable {P : Program} {ops : Array Oper} {Q : Exit → Act → World → Prop} {n : Md} {l : List Oper} {o : Oper} {F : Fm} {w w' : World}

theorem add_zero' (a : Addr) : a.add 0 = a := rfl
theorem add_add (a : Addr) (i j : Nat) : (a.add i).add j = a.add (i + j) := by
 unfold Addr.add
 by_cases h1 : i = 0 <;> by_cases h2 : j = 0 <;> simp [h1, h2, Nat.add_assoc]
theorem add_blk (a : Addr) (i : Nat) : (a.add i).block = a.block := by unfold Addr.add; split <;> rfl
theorem add_lit (b i j : Nat) : (⟨b, i, none⟩ : Addr).add j = ⟨b, i + j, none⟩ := by unfold Addr.add; split <;> simp_all

def CA (w : World) (ad : Addr) (cs : List Value) : Prop := ∀ j v, cs[j]? = some v → w.cell? (ad.add j) = some v
theorem CA.sub {ad : Addr} {cs : List Value} (h : CA w ad cs) (i : Nat) : CA w (ad.add i) (cs.drop i) := fun j v hv => by
  rw [add_add]; exact h _ _ (by rwa [List.getElem?_drop] at hv)
theorem CA.take {ad : Addr} {cs : List Value} (h : CA w ad cs) (i : Nat) : CA w ad (cs.take i) := fun j v hv => h j v (by
  rw [List.getElem?_take] at hv
  split at hv
  · exact hv
  · simp at hv)

structure Chg (X : Nat → Prop) (w w' : World) : Prop where
  os : w'.os = w.os
  tape : w'.tape = w.tape
  output : w'.output = w.output
  size : w.heap.size ≤ w'.heap.size
  block : ∀ k, k < w.heap.size → ¬ X k → w'.heap[k]? = w.heap[k]?
abbrev no : Nat → Prop := fun _ => False
abbrev Ext (w w' : World) : Prop := Chg no w w'
theorem Chg.refl (X : Nat → Prop) (w : World) : Chg X w w := ⟨rfl, rfl, rfl, Nat.le_refl _, fun _ _ _ => rfl⟩
theorem Chg.trans {X : Nat → Prop} {a b c : World} (h : Chg X a b) (k : Chg X b c) : Chg X a c :=
  ⟨k.os.trans h.os, k.tape.trans h.tape, k.output.trans h.output, Nat.le_trans h.size k.size, fun i hi hx => (k.block i (Nat.lt_of_lt_of_le hi h.size) hx).trans (h.block i hi hx)⟩
theorem Chg.mono {X Y : Nat → Prop} (h : Chg X w w') (hXY : ∀ k, k < w.heap.size → X k → Y k) : Chg Y w w' := ⟨h.os, h.tape, h.output, h.size, fun k hk hy => h.block k hk fun hx => hy (hXY k hk hx)⟩
theorem Chg.then {X Y : Nat → Prop} {a b c : World} (h : Chg X a b) (k : Chg Y b c) (hY : ∀ i, i < a.heap.size → Y i → X i) : Chg X a c :=
  ⟨k.os.trans h.os, k.tape.trans h.tape, k.output.trans h.output, Nat.le_trans h.size k.size, fun i hi hx => (k.block i (Nat.lt_of_lt_of_le hi h.size) (fun hy => hx (hY i hi hy))).trans (h.block i hi hx)⟩
theorem Chg.alloc (X : Nat → Prop) (w : World) (ob : Obj) : Chg X w (w.alloc ob) := ⟨rfl, rfl, rfl, by simp, fun k hk _ => heap_alloc_old w ob hk⟩
theorem Chg.drew (X : Nat → Prop) (w : World) : Chg X w w.drew := ⟨rfl, rfl, rfl, Nat.le_refl _, fun _ _ _ => rfl⟩
theorem CA.ext {ad : Addr} {cs : List Value} (h : CA w ad cs) (hx : Ext w w') : CA w' ad cs := fun j v hv => by
  have h0 := h j v hv
  have hb := World.block_lt_of_cell? w _ h0
  rw [World.cell?_of_block (w := w) (hx.block _ hb (fun e => e))]
  exact h0
theorem CA.chg {X : Nat → Prop} {ad : Addr} {cs : List Value} (h : CA w ad cs) (hx : Chg X w w') (hn : ¬ X ad.block) : CA w' ad cs := fun j v hv => by
  have h0 := h j v hv
  have hb := World.block_lt_of_cell? w _ h0
  rw [World.cell?_of_block (w := w) (hx.block _ hb (by rw [add_blk]; exact hn))]
  exact h0

def SR (P : Program) (F : Fm) (w : World) (o : Oper) (v : Value) : Prop := ∀ w', Ext w w' → ∀ ρ, Has F ρ → (execOp ρ o).run P w' = .ok (.value v) w'
def Ef (P : Program) (F : Fm) (w : World) (o : Oper) (R : Value → World → Prop) : Prop := ∃ v w', (∀ ρ, Has F ρ → (execOp ρ o).run P w = .ok (.value v) w') ∧ Ext w w' ∧ R v w'
def Ew (P : Program) (F : Fm) (w : World) (o : Oper) (R : Value → World → Prop) : Prop := ∃ v w', (∀ ρ, Has F ρ → (execOp ρ o).run P w = .ok (.value v) w') ∧ R v w'
def Es (P : Program) (F : Fm) (w : World) (o : Oper) (R : World → Prop) : Prop := ∃ w', (∀ ρ, Has F ρ → (execOp ρ o).run P w = .ok .skip w') ∧ R w'
theorem SR.pv {U : List (Nat × TypeDesc)} (hU : okU P U) {v : Value} (h : G.pv U F o.op = some v) : SR P F w o v := fun w' _ ρ hρ => pv_run hU h ρ hρ w'
theorem OJ.st {v : Value} {d : Nat} (hg : gd ops F o = some true) (hd : o.dst = some d) (hn : Nat.ble (d + 1) n.n = true) (h : SR P F w o v) (k : OJ P ops Q n l ((d, v) :: F) w) : OJ P ops Q n (o :: l) F w :=
  OJ.run hg hd (Nat.le_of_ble_eq_true hn) (h w (Chg.refl _ _)) k
theorem OJ.ew {R : Value → World → Prop} {d : Nat} (hg : gd ops F o = some true) (hd : o.dst = some d) (hn : Nat.ble (d + 1) n.n = true) (h : Ew P F w o R) (k : ∀ v w', R v w' → OJ P ops Q n l ((d, v) :: F) w') : OJ P ops Q n (o :: l) F w := by
 obtain ⟨v, w', hr, hR⟩ := h
 exact OJ.run hg hd (Nat.le_of_ble_eq_true hn) hr (k v w' hR)
theorem OJ.ef {R : Value → World → Prop} {d : Nat} (hg : gd ops F o = some true) (hd : o.dst = some d) (hn : Nat.ble (d + 1) n.n = true) (h : Ef P F w o R) (k : ∀ v w', R v w' → OJ P ops Q n l ((d, v) :: F) w') : OJ P ops Q n (o :: l) F w := by
 obtain ⟨v, w', hr, _, hR⟩ := h
 exact OJ.run hg hd (Nat.le_of_ble_eq_true hn) hr (k v w' hR)
theorem OJ.es {R : World → Prop} (hg : gd ops F o = some true) (hd : o.dst = none) (h : Es P F w o R) (k : ∀ w', R w' → OJ P ops Q n l F w') : OJ P ops Q n (o :: l) F w := by
 obtain ⟨w', hr, hR⟩ := h
 exact OJ.runs hg hd hr (k w' hR)

structure Chunk where
  fp : Nat → Prop
  holds : World → Prop
  stable : ∀ {w w' : World}, holds w → (∀ b, fp b → w'.heap[b]? = w.heap[b]?) → holds w'
  lt : ∀ {w : World}, holds w → ∀ b, fp b → b < w.heap.size

def box (b : Nat) (cs : List Value) (T : TypeId) : Chunk where
  fp := fun k => k = b
  holds := fun w => w.heap[b]? = some (.cells cs.toArray T (0, 0))
  stable := fun h hs => by rw [hs b rfl]; exact h
  lt := fun h k hk => by subst hk; exact (Array.getElem?_eq_some_iff.1 h).1
structure RowAt (w : World) (A : Option Addr) (c T sz n : Nat) (cs : List Value) : Prop where
  len : cs.length = n * sz
  le : n ≤ c
  cap : c ≤ 9223372036854775807
  arr : c = 0 ∨ ∃ g cur, A = some ⟨g, 0, none⟩ ∧ w.heap[g]? = some (.cells cur T (0, 0)) ∧ cur.size = c * sz ∧ cur.toList.take (n * sz) = cs
def row (A : Option Addr) (c T sz n : Nat) (cs : List Value) : Chunk where
  fp := fun k => 0 < c ∧ A.map (·.block) = some k
  holds := fun w => RowAt w A c T sz n cs
  stable := fun {w w'} h hs => by
    refine ⟨h.len, h.le, h.cap, ?_⟩
    rcases h.arr with hn | ⟨g, cur, e, hg, r⟩
    · exact .inl hn
    · rcases Nat.eq_zero_or_pos c with h0 | h0
      · exact .inl h0
      · exact .inr ⟨g, cur, e, by rw [hs g ⟨h0, by rw [e]; rfl⟩]; exact hg, r⟩
  lt := fun h k hk => by
    rcases h.arr with hn | ⟨g, cur, e, hg, r⟩
    · omega
    · have : g = k := by have := hk.2; rw [e] at this; simpa using this
      subst this
      exact (Array.getElem?_eq_some_iff.1 hg).1

structure St (w0 : World) (X : Nat → Prop) (w : World) (L R : List Chunk) : Prop where
  chg : Chg X w0 w
  holds : ∀ c ∈ L, c.holds w
  own : ∀ c ∈ L, ∀ b, c.fp b → w0.heap.size ≤ b ∨ X b
  apart : L.Pairwise fun c d => ∀ b, c.fp b → ¬ d.fp b
  reads : ∀ c ∈ R, c.holds w
  away : ∀ c ∈ R, ∀ d ∈ L, ∀ b, c.fp b → ¬ d.fp b
variable {w0 : World} {X : Nat → Prop} {L R : List Chunk}
theorem St.init (w0 : World) (X : Nat → Prop) : St w0 X w0 [] [] := ⟨Chg.refl _ _, by simp, by simp, List.Pairwise.nil, by simp, by simp⟩
theorem St.at_ (h : St w0 X w L R) {i : Nat} {c : Chunk} (hi : L[i]? = some c) : c.holds w := h.holds c (List.mem_of_getElem? hi)
theorem St.ro (h : St w0 X w L R) {i : Nat} {c : Chunk} (hi : R[i]? = some c) : c.holds w := h.reads c (List.mem_of_getElem? hi)
theorem St.read (h : St w0 X w L R) (c : Chunk) (hc : c.holds w) (ha : ∀ d ∈ L, ∀ b, c.fp b → ¬ d.fp b) : St w0 X w L (R ++ [c]) :=
  ⟨h.chg, h.holds, h.own, h.apart, fun d hd => by
    rcases List.mem_append.1 hd with hd | hd
    · exact h.reads d hd
    · obtain rfl := List.mem_singleton.1 hd; exact hc, fun d hd => by
    rcases List.mem_append.1 hd with hd | hd
    · exact h.away d hd
    · obtain rfl := List.mem_singleton.1 hd; exact ha⟩
theorem St.grow (h : St w0 X w L R) (hx : Ext w w') : St w0 X w' L R :=
  ⟨h.chg.then hx (fun _ _ e => e.elim), fun c hc => c.stable (h.holds c hc) fun b hb => hx.block b (c.lt (h.holds c hc) b hb) (fun e => e), h.own, h.apart,
    fun c hc => c.stable (h.reads c hc) fun b hb => hx.block b (c.lt (h.reads c hc) b hb) (fun e => e), h.away⟩
theorem St.add (h : St w0 X w L R) (hx : Ext w w') (c : Chunk) (hc : c.holds w') (hn : ∀ b, c.fp b → w.heap.size ≤ b) : St w0 X w' (L ++ [c]) R := by
 have h' := h.grow hx
 refine ⟨h'.chg, fun d hd => ?_, fun d hd b hb => ?_, ?_, h'.reads, fun d hd e he b hb hb' => ?_⟩
 ·rcases List.mem_append.1 hd with hd | hd
  ·exact h'.holds d hd
  obtain rfl := List.mem_singleton.1 hd; exact hc
 ·rcases List.mem_append.1 hd with hd | hd
  ·exact h'.own d hd b hb
  obtain rfl := List.mem_singleton.1 hd
  exact .inl (Nat.le_trans h.chg.size (hn b hb))
 ·rw [List.pairwise_append]
  refine ⟨h.apart, List.pairwise_singleton _ _, fun d hd e he b hb => ?_⟩
  obtain rfl := List.mem_singleton.1 he
  intro hb'
  have := d.lt (h.holds d hd) b hb
  have := hn b hb'
  omega
 rcases List.mem_append.1 he with he | he
 ·exact h.away d hd e he b hb hb'
 obtain rfl := List.mem_singleton.1 he
 have := d.lt (h.reads d hd) b hb
 have := hn b hb'
 omega
theorem St.addN (h : St w0 X w L R) {M : List Chunk} (hm : St w no w' M []) : St w0 X w' (L ++ M) R := by
 have h' := h.grow hm.chg
 have hnew : ∀ d ∈ M, ∀ b, d.fp b → w.heap.size ≤ b := fun d hd b hb => (hm.own d hd b hb).resolve_right (fun e => e)
 refine ⟨h'.chg, fun d hd => ?_, fun d hd b hb => ?_, ?_, h'.reads, fun d hd e he b hb hb' => ?_⟩
 ·rcases List.mem_append.1 hd with hd | hd
  ·exact h'.holds d hd
  exact hm.holds d hd
 ·rcases List.mem_append.1 hd with hd | hd
  ·exact h'.own d hd b hb
  exact .inl (Nat.le_trans h.chg.size (hnew d hd b hb))
 ·rw [List.pairwise_append]
  refine ⟨h.apart, hm.apart, fun d hd e he b hb hb' => ?_⟩
  have := d.lt (h.holds d hd) b hb
  have := hnew e he b hb'
  omega
 rcases List.mem_append.1 he with he | he
 ·exact h.away d hd e he b hb hb'
 have := d.lt (h.reads d hd) b hb
 have := hnew e he b hb'
 omega
theorem pairwise_set {α : Type} {R : α → α → Prop} (hsym : ∀ a b, R a b → R b a) : ∀ {L : List α} {i : Nat} {c c' : α}, L.Pairwise R → L[i]? = some c → (∀ d ∈ L, R c d → R c' d) → (L.set i c').Pairwise R
  | [], i, c, c', _, h, _ => by simp at h
  | a :: L, 0, c, c', hp, h, hr => by
    simp only [List.getElem?_cons_zero, Option.some.injEq] at h
    subst h
    rw [List.set_cons_zero, List.pairwise_cons] at *
    exact ⟨fun d hd => hr d (by simp [hd]) (hp.1 d hd), hp.2⟩
  | a :: L, i + 1, c, c', hp, h, hr => by
    simp only [List.getElem?_cons_succ] at h
    rw [List.pairwise_cons] at hp
    rw [List.set_cons_succ, List.pairwise_cons]
    refine ⟨fun d hd => ?_, pairwise_set hsym hp.2 h fun d hd => hr d (by simp [hd])⟩
    rcases List.mem_or_eq_of_mem_set hd with hd | rfl
    · exact hp.1 d hd
    · exact hsym _ _ (hr a (by simp) (hsym _ _ (hp.1 c (List.mem_of_getElem? h))))
theorem St.upd (h : St w0 X w L R) {i : Nat} {c : Chunk} (hi : L[i]? = some c) (c' : Chunk) (hx : Chg c.fp w w') (hc : c'.holds w') (hf : ∀ b, c'.fp b → c.fp b ∨ w.heap.size ≤ b) : St w0 X w' (L.set i c') R := by
 have hm := List.mem_of_getElem? hi
 refine ⟨h.chg.then hx fun k hk e => ?_, fun d hd => ?_, fun d hd b hb => ?_, ?_, fun d hd => ?_, fun d hd e he b hb hb' => ?_⟩
 ·rcases h.own c hm k e with h1 | h1
  ·omega
  exact h1
 ·by_cases e : d = c'
  ·rw [e]; exact hc
  obtain ⟨j, hj⟩ := List.mem_iff_getElem?.1 hd
  have hji : ¬ i = j := by
    rintro rfl
    rw [List.getElem?_set_self (List.getElem?_eq_some_iff.1 hi).1] at hj
    exact e (Option.some.inj hj).symm
  rw [List.getElem?_set_ne hji] at hj
  have hdm := List.mem_of_getElem? hj
  refine d.stable (h.holds d hdm) fun b hb => hx.block b (d.lt (h.holds d hdm) b hb) fun hcb => ?_
  rcases Nat.lt_or_gt_of_ne hji with hlt | hlt
  ·exact (List.pairwise_iff_getElem.1 h.apart i j (List.getElem?_eq_some_iff.1 hi).1 (List.getElem?_eq_some_iff.1 hj).1 hlt) b (by rw [(List.getElem?_eq_some_iff.1 hi).2]; exact hcb) (by rw [(List.getElem?_eq_some_iff.1 hj).2]; exact hb)
  exact (List.pairwise_iff_getElem.1 h.apart j i (List.getElem?_eq_some_iff.1 hj).1 (List.getElem?_eq_some_iff.1 hi).1 hlt) b (by rw [(List.getElem?_eq_some_iff.1 hj).2]; exact hb) (by rw [(List.getElem?_eq_some_iff.1 hi).2]; exact hcb)
 ·rcases List.mem_or_eq_of_mem_set hd with hd | rfl
  ·exact h.own d hd b hb
  rcases hf b hb with h1 | h1
  ·exact h.own c hm b h1
  exact .inl (Nat.le_trans h.chg.size h1)
 ·refine pairwise_set (fun a b hab k hk hk' => hab k hk' hk) h.apart hi fun d hd hr b hb hb' => ?_
  rcases hf b hb with h1 | h1
  ·exact hr b h1 hb'
  have := d.lt (h.holds d hd) b hb'
  omega
 ·refine d.stable (h.reads d hd) fun b hb => hx.block b (d.lt (h.reads d hd) b hb) fun hcb => h.away d hd c hm b hb hcb
 rcases List.mem_or_eq_of_mem_set he with he | rfl
 ·exact h.away d hd e he b hb hb'
 rcases hf b hb' with h1 | h1
 ·exact h.away d hd c hm b hb h1
 have := d.lt (h.reads d hd) b hb
 omega
theorem St.ext (h : St w0 no w L R) : Ext w0 w := h.chg
theorem mem_eraseIdx_ne {α : Type} : ∀ {L : List α} {i : Nat} {c d : α} {Rl : α → α → Prop}, L.Pairwise Rl → L[i]? = some c → d ∈ L.eraseIdx i → Rl c d ∨ Rl d c
  | [], i, c, d, Rl, _, h, _ => by simp at h
  | a :: L, 0, c, d, Rl, hp, h, hd => by
    simp only [List.getElem?_cons_zero, Option.some.injEq] at h
    subst h
    simp only [List.eraseIdx_cons_zero] at hd
    exact .inl ((List.pairwise_cons.1 hp).1 d hd)
  | a :: L, i + 1, c, d, Rl, hp, h, hd => by
    simp only [List.getElem?_cons_succ] at h
    simp only [List.eraseIdx_cons_succ, List.mem_cons] at hd
    rcases hd with rfl | hd
    · exact .inr ((List.pairwise_cons.1 hp).1 c (List.mem_of_getElem? h))
    · exact mem_eraseIdx_ne (List.pairwise_cons.1 hp).2 h hd
theorem St.freeze (h : St w0 X w L R) {i : Nat} {c : Chunk} (hi : L[i]? = some c) (c' : Chunk) (hc : c.holds w → c'.holds w) (hf : ∀ b, c'.fp b → c.fp b) : St w0 X w (L.eraseIdx i) (R ++ [c']) := by
 have hsub := List.eraseIdx_sublist L i
 refine ⟨h.chg, fun d hd => h.holds d (hsub.subset hd), fun d hd => h.own d (hsub.subset hd), h.apart.sublist hsub, fun d hd => ?_, fun d hd e he b hb hb' => ?_⟩
 ·rcases List.mem_append.1 hd with hd | hd
  ·exact h.reads d hd
  obtain rfl := List.mem_singleton.1 hd; exact hc (h.at_ hi)
 rcases List.mem_append.1 hd with hd | hd
 ·exact h.away d hd e (hsub.subset he) b hb hb'
 obtain rfl := List.mem_singleton.1 hd
 rcases mem_eraseIdx_ne h.apart hi he with hr | hr
 ·exact hr b (hf b hb) hb'
 exact hr b hb' (hf b hb)

theorem St.cells (h : St w0 X w L R) {i b : Nat} {cs : List Value} {T : TypeId} (hi : L[i]? = some (box b cs T)) : CA w ⟨b, 0, none⟩ cs := fun j v hv => by
  have hb : w.heap[b]? = some (.cells cs.toArray T (0, 0)) := h.at_ hi
  rw [add_lit, Nat.zero_add, cell_of_row w b j _ T _ hb]
  simpa using hv

theorem Ef.mono {Q Q' : Value → World → Prop} (h : Ef P F w o Q) (hq : ∀ v w', Q v w' → Q' v w') : Ef P F w o Q' := by
 obtain ⟨v, w', h1, h2, h3⟩ := h
 exact ⟨v, w', h1, h2, hq _ _ h3⟩
theorem Ef.boxA {T : TypeId} {x : Operand} {v : Value} (hS : St w0 X w L R) (ho : o.op = .box T x) (hx : evO F x = some v)
 (cs : List Value) (hcs : v.cells = cs.toArray) : Ef P F w o fun v w' => (∃ b, v = .pointer (some ⟨b, 0, none⟩) ∧ St w0 X w' (L ++ [G.box b cs T]) R) ∧ ∃ ob, w' = w.alloc ob := by
 refine ⟨.pointer (some ⟨w.heap.size, 0, none⟩), w.alloc (.cells cs.toArray T), fun ρ hρ => ?_, Chg.alloc _ _ _, ⟨w.heap.size, rfl, hS.add (Chg.alloc _ _ _) _ (heap_alloc_new w _) fun b hb => by subst hb; exact Nat.le_refl _⟩, _, rfl⟩
 unfold execOp
 simp only [ho, Instr.box, hρ _ _ hx, newVar, newRow, hcs]
 simp
theorem Ef.box {T : TypeId} {x : Operand} {v : Value} (hS : St w0 X w L R) (ho : o.op = .box T x) (hx : evO F x = some v)
 (cs : List Value) (hcs : v.cells = cs.toArray) : Ef P F w o fun v w' => ∃ b, v = .pointer (some ⟨b, 0, none⟩) ∧ St w0 X w' (L ++ [G.box b cs T]) R :=
  (Ef.boxA hS ho hx cs hcs).mono fun _ _ h => h.1

theorem Ef.alloc {T : TypeId} {UI : List (Nat × TI)} {ti : TI} (hS : St w0 X w L R) (hI : okI P UI) (hT : lkT UI T = some ti) (ho : o.op = .alloc T)
 (cs : List Value) (hcs : ti.zero.cells = cs.toArray) : Ef P F w o fun v w' => ∃ b, v = .pointer (some ⟨b, 0, none⟩) ∧ St w0 X w' (L ++ [G.box b cs T]) R := by
 refine ⟨.pointer (some ⟨w.heap.size, 0, none⟩), w.alloc (.cells cs.toArray T), fun ρ hρ => ?_, Chg.alloc _ _ _, w.heap.size, rfl, hS.add (Chg.alloc _ _ _) _ (heap_alloc_new w _) fun b hb => by subst hb; exact Nat.le_refl _⟩
 obtain ⟨i, hi, hz, _⟩ := hI.at_ hT
 unfold execOp
 simp only [ho, Instr.alloc, newVar, newRow]
 simp [zeroValue, typeInfo, hi, hz, hcs]

def isAggD : TypeDesc → Bool
  | .struct _ | .array _ _ => true
  | _ => false
theorem run_isAgg {T : TypeId} {d : TypeDesc} (hd : P.underlying T = some d) (w : World) : (isAgg T).run P w = .ok (isAggD d) w := by
 unfold isAgg
 rw [Sem.run_bind, run_underlying hd w]
 cases d <;> rfl
theorem ld1 {U : List (Nat × TypeDesc)} (hU : okU P U) {T : TypeId} {d : TypeDesc} (hT : lkT U T = some d) (hd : isAggD d = false) {ad : Addr} {cs : List Value} (hc : CA w ad cs) {v : Value} (hv : cs[0]? = some v) : (loadVar T ad).run P w = .ok v w := by
 have h0 := hc 0 v hv
 rw [add_zero'] at h0
 simp [loadVar, run_isAgg (hU.at_ hT), hd, h0]
theorem ldN {U : List (Nat × TypeDesc)} (hU : okU P U) {UI : List (Nat × TI)} (hI : okI P UI) {T : TypeId} {d : TypeDesc} (hT : lkT U T = some d) (hd : isAggD d = true) {ti : TI} (hTi : lkT UI T = some ti) {ad : Addr} {cs ds : List Value} (hc : CA w ad cs) (hl : ds.length = ti.size) (hds : cs.take ti.size = ds) : (loadVar T ad).run P w = .ok (.agg ds.toArray) w := by
 obtain ⟨i, hi, _, hs, _⟩ := hI.at_ hTi
 have := run_loadCells_list (P := P) w ad ds (fun j v hv => hc.take ti.size j v (by rw [hds]; exact hv))
 rw [hl] at this
 simp [loadVar, run_isAgg (hU.at_ hT), hd, sizeOf, typeInfo, hi, hs, this]

theorem SR.load {T : TypeId} {x : Operand} {ad : Addr} {v : Value} (ho : o.op = .load T x) (hx : evO F x = some (.pointer (some ad)))
 (hl : ∀ w', Ext w w' → (loadVar T ad).run P w' = .ok v w') : SR P F w o v := by
 intro w' hx' ρ hρ
 have hl := hl w' hx'
 unfold execOp
 simp only [ho, Instr.loadAt, hρ _ _ hx, Instr.sureAddr]
 simp [hl]

theorem SR.fieldAddr {U : List (Nat × TypeDesc)} (hU : okU P U) {UI : List (Nat × TI)} (hI : okI P UI) {T : TypeId} {fs : Array Field} {k : Nat} {fl : Field} {ti : TI} {x : Operand} {ad : Addr}
 (ho : o.op = .fieldAddr T x k) (hT : lkT U T = some (.struct fs)) (hk : fs[k]? = some fl) (hti : lkT UI fl.type = some ti) (hsz : Nat.beq ti.size 0 = false) (hx : evO F x = some (.pointer (some ad))) : SR P F w o (.pointer (some (ad.add fl.offset))) := by
 intro w' hx' ρ hρ
 obtain ⟨i, hi, _, hs, _⟩ := hI.at_ hti
 have := Nat.ne_of_beq_eq_false hsz
 unfold execOp
 simp only [ho, Instr.fieldAt, hρ _ _ hx, Instr.sureAddr, Sem.run_bind, run_underlying (hU.at_ hT)]
 simp [hk, fieldPlace, sizeOf, typeInfo, hi, hs, this]

theorem run_elem {UI : List (Nat × TI)} (hI : okI P UI) {e : TypeId} {ti : TI} (hti : lkT UI e = some ti) (w : World) : (sizeOf e).run P w = .ok ti.size w := by
 obtain ⟨i, hi, _, hs, _⟩ := hI.at_ hti
 simp [sizeOf, typeInfo, hi, hs]

theorem SR.idxA {U : List (Nat × TypeDesc)} (hU : okU P U) {UI : List (Nat × TI)} (hI : okI P UI) {T e len : Nat} {ti : TI} {x y : Operand} {ad : Addr} {k : IntKind} {i : Int}
 (ho : o.op = .indexAddr T x y) (hT : lkT U T = some (.array len e)) (hti : lkT UI e = some ti) (hx : evO F x = some (.pointer (some ad))) (hy : evO F y = some (.int k i)) (hi : 0 ≤ i ∧ i < len) : SR P F w o (.pointer (some (ad.add (i.toNat * ti.size)))) := by
 intro w' hx' ρ hρ
 unfold execOp
 simp only [ho, Instr.indexAt, hρ _ _ hx, hρ _ _ hy, Instr.sureAddr, Sem.run_bind, asIntOf]
 simp [hi, run_elem hI hti, run_underlying (hU.at_ hT)]

theorem SR.idxS {U : List (Nat × TypeDesc)} (hU : okU P U) {UI : List (Nat × TI)} (hI : okI P UI) {T e len c : Nat} {ti : TI} {x y : Operand} {A : Option Addr} {ad : Addr} {k : IntKind} {i : Int}
 (ho : o.op = .indexAddr T x y) (hT : lkT U T = some (.slice e)) (hti : lkT UI e = some ti) (hx : evO F x = some (.slice A len c)) (hA : A = some ad) (hy : evO F y = some (.int k i)) (hi : 0 ≤ i ∧ i < (len : Int)) : SR P F w o (.pointer (some (ad.add (i.toNat * ti.size)))) := by
 intro w' hx' ρ hρ
 subst hA
 unfold execOp
 simp only [ho, Instr.indexAt, hρ _ _ hx, hρ _ _ hy, Instr.sureAddr, Sem.run_bind, asIntOf]
 simp [hi, run_elem hI hti, run_underlying (hU.at_ hT)]

theorem run_storeVar {UI : List (Nat × TI)} (hI : okI P UI) {T b off T0 : Nat} {ti : TI} {v : Value} {cs vs : List Value} (hti : lkT UI T = some ti) (hb : w.heap[b]? = some (.cells cs.toArray T0 (0, 0))) (hv : v.cells = vs.toArray) (hl : vs.length = ti.size) (h1 : ∀ u ∈ vs, u.oneCell' = true)
 (hfit : off + vs.length ≤ cs.length) : (storeVar T ⟨b, off, none⟩ v).run P w = .ok () (w.setRow b (cs.take off ++ vs ++ cs.drop (off + vs.length)).toArray) := by
 have := run_storeCells_at (P := P) b off T0 vs 0 cs.toArray w hb (by simpa using hfit) h1
 unfold storeVar
 simp only [Sem.run_bind, run_elem hI hti, hv, Result.andThen_ok]
 simp [hl]
 simpa [hl] using this

theorem Es.store {UI : List (Nat × TI)} (hI : okI P UI) {T b off T0 i : Nat} {ti : TI} {v : Value} {cs vs : List Value} {x y : Operand} {ad : Addr} (hS : St w0 X w L R) (hi : L[i]? = some (G.box b cs T0)) (ho : o.op = .store T x y)
 (hx : evO F x = some (.pointer (some ad))) (had : ad = ⟨b, off, none⟩) (hy : evO F y = some v) (hti : lkT UI T = some ti) (hv : v.cells = vs.toArray) (hl : vs.length = ti.size) (h1 : ∀ u ∈ vs, u.oneCell' = true) (hfit : off + vs.length ≤ cs.length)
 (cs' : List Value) (hcs : cs.take off ++ vs ++ cs.drop (off + vs.length) = cs') : Es P F w o fun w' => St w0 X w' (L.set i (G.box b cs' T0)) R := by
 have hb : w.heap[b]? = some (.cells cs.toArray T0 (0, 0)) := hS.at_ hi
 subst hcs
 have hr := run_storeVar (P := P) hI hti hb hv hl h1 hfit
 refine ⟨w.setRow b (cs.take off ++ vs ++ cs.drop (off + vs.length)).toArray, fun ρ hρ => ?_, hS.upd hi _ ?_ ?_ ?_⟩
 ·unfold execOp
  simp only [ho, Instr.storeAt, hρ _ _ hx, hρ _ _ hy, Instr.sureAddr, had]
  simp [hr]
 ·exact ⟨rfl, rfl, rfl, by simp [World.setRow], fun k hk hn => setRow_other w b k _ hn⟩
 ·exact setRow_heap w b _ _ T0 _ hb
 exact fun k hk => .inl hk

end G
end Go.Proofs.YtegibnmfiogebaaGreatDoor
