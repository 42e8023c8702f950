/-
  Step lemmas for walks whose frame is told as a list of slots. Part R: arrays; parts that a call is given for good; slices that come back beside what is written.
-/
import Derived.Test.YtegibnmfiogebaaGreatDoorGN
namespace Go.Proofs.YtegibnmfiogebaaGreatDoor
namespace G
set_option linter.unusedVariables false
set_option linter.unusedSimpArgs false
variable {P : Program} {ops : Array Oper} {Q : Exit → Act → World → Prop} {n : Md} {l : List Oper} {o : Oper} {F : Fm} {w w' w0 : World} {X : Nat → Prop} {L R : List Chunk} {α β : Type} {C : Cd α}

def carr (n : Nat) (C : Cd α) : Cd (Arr n α) := ⟨n * C.sz, fun a => flat C a.l, fun a => by rw [flat_len, a.len], fun a u hu => flat_mem C _ u hu⟩
theorem CA.idx {ad : Addr} {n : Nat} {a : Arr n α} {i : Int} {x : α} (h : CA w ad ((carr n C).enc a)) (hi : getI a.l i = some x) : CA w (ad.add (i.toNat * C.sz)) (C.enc x) := by
 have := (h.sub (i.toNat * C.sz)).take C.sz
 rwa [show ((carr n C).enc a) = flat C a.l from rfl, flat_elem C (getI_some hi).2] at this
theorem CA.fld {ad : Addr} {cs ds : List Value} {off k : Nat} (h : CA w ad cs) (hd : (cs.drop off).take k = ds) : CA w (ad.add off) ds := by
 subst hd; exact (h.sub off).take k
theorem CA.ext' {ad : Addr} {cs : List Value} (hx : Ext w w') (h : CA w ad cs) : CA w' ad cs := h.ext hx
theorem Arr.lt {n : Nat} {a : Arr n α} {i : Int} {x : α} (hi : getI a.l i = some x) : 0 ≤ i ∧ i < (n : Int) := by
 have := (getI_some hi).1
 rw [a.len] at this
 exact this
theorem mid_part {β : Type} {l a b c : List β} {off k : Nat} (h : l = a ++ (b ++ c)) (ha : a.length = off) (hb : b.length = k) : (l.drop off).take k = b := by
 subst ha hb
 exact mid_take h
def Put (C : Cd α) (x : α) (off : Nat) (vs : List Value) (x' : α) : Prop := (C.enc x).take off ++ vs ++ (C.enc x).drop (off + vs.length) = C.enc x' ∧ off + vs.length ≤ C.sz
theorem Put.all (C : Cd α) (x x' : α) : Put C x 0 (C.enc x') x' := ⟨by rw [C.len, Nat.zero_add, List.take_zero, List.nil_append, List.drop_of_length_le (by rw [C.len]; exact Nat.le_refl _), List.append_nil], by rw [C.len]; omega⟩
theorem mid_put {β : Type} {l a b c vs : List β} {foff off : Nat} (h : l = a ++ (b ++ c)) (ha : a.length = foff) (hf : off + vs.length ≤ b.length) : l.take (foff + off) ++ vs ++ l.drop (foff + off + vs.length) = a ++ ((b.take off ++ vs ++ b.drop (off + vs.length)) ++ c) := by
 subst h ha
 rw [List.take_append, List.take_of_length_le (by omega), Nat.add_sub_cancel_left, List.take_append_of_le_length (by omega)]
 rw [Nat.add_assoc, ← List.drop_drop, List.drop_append_of_le_length (Nat.le_refl _), List.drop_length, List.nil_append, List.drop_append_of_le_length (by omega)]
 simp only [List.append_assoc]
theorem Put.fld {Cf : Cd β} {x x' : α} {f f' : β} {pre post : List Value} {foff off : Nat} {vs : List Value} (h : Put Cf f off vs f') (hp : pre.length = foff) (hs : foff + Cf.sz ≤ C.sz) (hx : C.enc x = pre ++ (Cf.enc f ++ post)) (hx' : C.enc x' = pre ++ (Cf.enc f' ++ post)) : Put C x (foff + off) vs x' := by
 refine ⟨?_, by have := h.2; omega⟩
 rw [mid_put hx hp (by rw [Cf.len]; exact h.2), h.1, hx']
theorem Put.idx {n : Nat} {a : Arr n α} {i : Int} {e e' : α} {off : Nat} {vs : List Value} (h : Put C e off vs e') (hi : getI a.l i = some e) : Put (carr n C) a (i.toNat * C.sz + off) vs (aset a i.toNat e') := by
 have hg := (getI_some hi).2
 have hlt := (List.getElem?_eq_some_iff.1 hg).1
 have hl : (C.enc e).length = C.sz := C.len e
 have e1 : flat C a.l = flat C (a.l.take i.toNat) ++ (C.enc e ++ flat C (a.l.drop (i.toNat + 1))) := by
   conv => lhs; rw [← List.take_append_drop i.toNat a.l, drop_cons_of hg]
   rw [flat_app]; rfl
 have hp : (flat C (a.l.take i.toNat)).length = i.toNat * C.sz := by rw [flat_len, List.length_take, Nat.min_eq_left (by omega)]
 refine ⟨?_, ?_⟩
 ·show (flat C a.l).take _ ++ vs ++ (flat C a.l).drop _ = flat C (a.l.set i.toNat e')
  rw [mid_put e1 hp (by rw [hl]; exact h.2), h.1]
  have : a.l.set i.toNat e' = a.l.take i.toNat ++ [e'] ++ a.l.drop (i.toNat + 1) := by
    rw [List.set_eq_take_append_cons_drop, if_pos hlt]; simp
  rw [this, flat_app, flat_app, flat_one, List.append_assoc]
 have h2 := h.2
 have : (i.toNat + 1) * C.sz ≤ n * C.sz := Nat.mul_le_mul_right _ (by rw [← a.len]; omega)
 rw [Nat.add_mul, Nat.one_mul] at this
 show i.toNat * C.sz + off + vs.length ≤ n * C.sz
 omega
theorem Es.put {UI : List (Nat × TI)} (hI : okI P UI) {T b off T0 i : Nat} {ti : TI} {v : Value} {vs : List Value} {t t' : α} {x y : Operand} {ad : Addr} (hS : St w0 X w L R) (hi : L[i]? = some (G.box b (C.enc t) T0)) (ho : o.op = .store T x y)
 (hx : evO F x = some (.pointer (some ad))) (hy : evO F y = some v) (hti : lkT UI T = some ti) (hv : v.cells = vs.toArray) (hl : vs.length = ti.size) (h1 : ∀ u ∈ vs, u.oneCell' = true) (hp : Put C t off vs t') (had : ad = ⟨b, off, none⟩) :
 Es P F w o fun w' => St w0 X w' (L.set i (G.box b (C.enc t') T0)) R :=
  Es.store hI hS hi ho hx had hy hti hv hl h1 (by rw [C.len]; exact hp.2) _ hp.1
theorem St.back' (h : St w0 X w L R) (ix mx : List Nat) (hn : ndB (ix ++ mx) = true) (hb : (ix ++ mx).all (fun i => Nat.ble (i + 1) L.length) = true) (M N Qs : List Chunk)
 (hm : St w (fpU (pickL L (ix ++ mx))) w' (M ++ N) []) (hf : fpEq M (pickL L ix)) (hq : ∀ c ∈ Qs, c.holds w' ∧ ∀ b, c.fp b → w.heap.size ≤ b ∨ ∃ d ∈ R, d.fp b) (hqn : N = [] ∨ Qs = []) :
 St w0 X w' (setL L (ix ++ mx) (M ++ mx.map fun _ => gone) ++ N) (R ++ Qs) := by
 have hnd := ndB_nodup hn
 have hbd : ∀ i ∈ ix ++ mx, i < L.length := fun i hi => Nat.le_of_ble_eq_true (List.all_eq_true.1 hb i hi)
 have hlM : M.length = ix.length := by rw [fpEq_len hf, pickL_len ix L fun i hi => hbd i (by simp [hi])]
 have hlM' : (M ++ mx.map fun _ => gone).length = (ix ++ mx).length := by simp [hlM]
 have hcase : ∀ (j : Nat) (d : Chunk), (setL L (ix ++ mx) (M ++ mx.map fun _ => gone))[j]? = some d → (j ∉ ix ++ mx ∧ L[j]? = some d) ∨ (d = gone ∧ ∃ c : Chunk, L[j]? = some c) ∨ ∃ c : Chunk, d ∈ M ∧ L[j]? = some c ∧ ∀ b, d.fp b ↔ c.fp b := by
   intro j d hj
   by_cases hji : j ∈ ix ++ mx
   · right
     obtain ⟨p, hp⟩ := List.mem_iff_getElem?.1 hji
     have h1 := (setL_at (ix ++ mx) L _ hnd hlM' hbd j).2 p hp
     rw [hj] at h1
     by_cases hpl : p < ix.length
     · rw [List.getElem?_append_left (by omega)] at h1
       rw [List.getElem?_append_left hpl] at hp
       obtain ⟨c, hc, hfp⟩ := fpEq_at hf p d h1.symm
       rw [pickL_at ix L (fun i hi => hbd i (by simp [hi])) p j hp] at hc
       exact .inr ⟨c, List.mem_of_getElem? h1.symm, hc, hfp⟩
     · left
       rw [List.getElem?_append_right (by omega)] at h1
       have : d = gone := by
         have := List.mem_of_getElem? h1.symm
         obtain ⟨_, _, e⟩ := List.mem_map.1 this
         exact e.symm
       exact ⟨this, _, List.getElem?_eq_getElem (hbd j hji)⟩
   · rw [(setL_at (ix ++ mx) L _ hnd hlM' hbd j).1 hji] at hj
     exact .inl ⟨hji, hj⟩
 have base : ∀ (j : Nat) (d : Chunk), (setL L (ix ++ mx) (M ++ mx.map fun _ => gone))[j]? = some d → ∀ b, d.fp b → ∃ c : Chunk, L[j]? = some c ∧ c.fp b := by
   intro j d hj b hb
   rcases hcase j d hj with ⟨_, h1⟩ | ⟨rfl, _⟩ | ⟨c, _, hc, hfp⟩
   · exact ⟨d, h1, hb⟩
   · exact hb.elim
   · exact ⟨c, hc, (hfp b).1 hb⟩
 have hnotX : ∀ (j : Nat) (d : Chunk), j ∉ ix ++ mx → L[j]? = some d → ∀ b, d.fp b → ¬ fpU (pickL L (ix ++ mx)) b := by
   rintro j d hji hj b hb ⟨c, hc, hcb⟩
   obtain ⟨i, hi, e⟩ := mem_pickL hc
   have hij : ¬ i = j := fun e' => hji (e' ▸ hi)
   obtain ⟨h1, rfl⟩ := List.getElem?_eq_some_iff.1 e
   obtain ⟨h2, rfl⟩ := List.getElem?_eq_some_iff.1 hj
   rcases Nat.lt_or_gt_of_ne hij with hlt | hlt
   · exact List.pairwise_iff_getElem.1 h.apart i j h1 h2 hlt b hcb hb
   · exact List.pairwise_iff_getElem.1 h.apart j i h2 h1 hlt b hb hcb
 have hN : ∀ d ∈ N, ∀ b, d.fp b → w.heap.size ≤ b ∨ fpU (pickL L (ix ++ mx)) b := fun d hd b hb => hm.own d (List.mem_append.2 (.inr hd)) b hb
 have hXL : ∀ b, fpU (pickL L (ix ++ mx)) b → ∃ c ∈ L, c.fp b := by
   rintro b ⟨c, hc, hcb⟩
   obtain ⟨i, _, e⟩ := mem_pickL hc
   exact ⟨c, List.mem_of_getElem? e, hcb⟩
 have hmemL : ∀ d ∈ setL L (ix ++ mx) (M ++ mx.map fun _ => gone), ∃ j : Nat, (setL L (ix ++ mx) (M ++ mx.map fun _ => gone))[j]? = some d := fun d hd => List.mem_iff_getElem?.1 hd
 refine ⟨h.chg.then hm.chg fun b hb0 hx => ?_, fun d hd => ?_, fun d hd b hb => ?_, ?_, fun d hd => ?_, fun d hd e he b hb hb' => ?_⟩
 ·obtain ⟨c, hc, hcb⟩ := hXL b hx
  rcases h.own c hc b hcb with h1 | h1
  ·omega
  exact h1
 ·rcases List.mem_append.1 hd with hd | hd
  ·obtain ⟨j, hj⟩ := hmemL d hd
   rcases hcase j d hj with ⟨hji, hj'⟩ | ⟨rfl, _⟩ | ⟨c, hM, _⟩
   ·have hdm := List.mem_of_getElem? hj'
    exact d.stable (h.holds d hdm) fun b hb => hm.chg.block b (d.lt (h.holds d hdm) b hb) (hnotX j d hji hj' b hb)
   ·trivial
   exact hm.holds d (List.mem_append.2 (.inl hM))
  exact hm.holds d (List.mem_append.2 (.inr hd))
 ·rcases List.mem_append.1 hd with hd | hd
  ·obtain ⟨j, hj⟩ := hmemL d hd
   obtain ⟨c, hc, hcb⟩ := base j d hj b hb
   exact h.own c (List.mem_of_getElem? hc) b hcb
  rcases hN d hd b hb with h1 | h1
  ·exact .inl (Nat.le_trans h.chg.size h1)
  obtain ⟨c, hc, hcb⟩ := hXL b h1
  exact h.own c hc b hcb
 ·rw [List.pairwise_append]
  refine ⟨?_, (List.pairwise_append.1 hm.apart).2.1, fun d hd e he b hb hb' => ?_⟩
  ·rw [List.pairwise_iff_getElem]
   intro i j hi hj hij b hb hb'
   obtain ⟨c1, e1, f1⟩ := base i _ (List.getElem?_eq_getElem hi) b hb
   obtain ⟨c2, e2, f2⟩ := base j _ (List.getElem?_eq_getElem hj) b hb'
   obtain ⟨g1, rfl⟩ := List.getElem?_eq_some_iff.1 e1
   obtain ⟨g2, rfl⟩ := List.getElem?_eq_some_iff.1 e2
   exact List.pairwise_iff_getElem.1 h.apart i j g1 g2 hij b f1 f2
  obtain ⟨j, hj⟩ := hmemL d hd
  rcases hcase j d hj with ⟨hji, hj'⟩ | ⟨rfl, _⟩ | ⟨c, hM, _⟩
  ·rcases hN e he b hb' with h1 | h1
   ·have := d.lt (h.holds d (List.mem_of_getElem? hj')) b hb
    omega
   exact hnotX j d hji hj' b hb h1
  ·exact hb.elim
  exact (List.pairwise_append.1 hm.apart).2.2 d hM e he b hb hb'
 ·rcases List.mem_append.1 hd with hd | hd
  ·refine d.stable (h.reads d hd) fun b hb => hm.chg.block b (d.lt (h.reads d hd) b hb) fun hx => ?_
   obtain ⟨c, hc, hcb⟩ := hXL b hx
   exact h.away d hd c hc b hb hcb
  exact (hq d hd).1
 rcases List.mem_append.1 hd with hd | hd
 ·rcases List.mem_append.1 he with he | he
  ·obtain ⟨j, hj⟩ := hmemL e he
   obtain ⟨c, hc, hcb⟩ := base j e hj b hb'
   exact h.away d hd c (List.mem_of_getElem? hc) b hb hcb
  rcases hN e he b hb' with h1 | h1
  ·have := d.lt (h.reads d hd) b hb
   omega
  obtain ⟨c, hc, hcb⟩ := hXL b h1
  exact h.away d hd c hc b hb hcb
 rcases List.mem_append.1 he with he | he
 ·obtain ⟨j, hj⟩ := hmemL e he
  obtain ⟨c, hc, hcb⟩ := base j e hj b hb'
  rcases (hq d hd).2 b hb with h1 | ⟨r, hr, hrb⟩
  ·have := c.lt (h.holds c (List.mem_of_getElem? hc)) b hcb
   omega
  exact h.away r hr c (List.mem_of_getElem? hc) b hrb hcb
 rcases hqn with rfl | rfl
 ·simp at he
 simp at hd

end G
end Go.Proofs.YtegibnmfiogebaaGreatDoor
