/-
  Step lemmas for walks whose frame is told as a list of slots. Part N: a call that writes into parts of the caller's own.
-/
import Derived.Test.YtegibnmfiogebaaGreatDoorGH
namespace Go.Proofs.YtegibnmfiogebaaGreatDoor
namespace G
set_option linter.unusedVariables false
set_option linter.unusedSimpArgs false
variable {P : Program} {ops : Array Oper} {Q : Exit → Act → World → Prop} {n : Md} {l : List Oper} {o : Oper} {F : Fm} {w w' w0 : World} {X : Nat → Prop} {L R : List Chunk} {α : Type} {C : Cd α}

def fpU (M : List Chunk) : Nat → Prop := fun b => ∃ c ∈ M, c.fp b
theorem pickL_app {β : Type} (l : List β) : ∀ ix jx : List Nat, pickL l (ix ++ jx) = pickL l ix ++ pickL l jx
  | [], jx => rfl
  | i :: ix, jx => by
    simp only [List.cons_append, pickL]
    cases l[i]? with
    | none => exact pickL_app l ix jx
    | some x => rw [pickL_app l ix jx]; rfl
theorem St.subs (h : St w0 X w L R) (ix jx ox : List Nat) (hn : ndB (ix ++ ox) = true) : St w (fpU (pickL L ix)) w (pickL L ix) (pickL R jx ++ pickL L ox) := by
 have hp := pairwise_pickL (Rl := fun c d : Chunk => ∀ b, c.fp b → ¬ d.fp b) (fun a b hab k hk hk' => hab k hk' hk) h.apart (ndB_nodup hn)
 rw [pickL_app, List.pairwise_append] at hp
 refine ⟨Chg.refl _ _, fun c hc => ?_, fun c hc b hb => .inr ⟨c, hc, hb⟩, hp.1, fun c hc => ?_, fun c hc d hd b hb hb' => ?_⟩
 ·obtain ⟨i, _, e⟩ := mem_pickL hc; exact h.holds c (List.mem_of_getElem? e)
 ·rcases List.mem_append.1 hc with hc | hc
  ·obtain ⟨i, _, e⟩ := mem_pickL hc; exact h.reads c (List.mem_of_getElem? e)
  obtain ⟨i, _, e⟩ := mem_pickL hc; exact h.holds c (List.mem_of_getElem? e)
 rcases List.mem_append.1 hc with hc | hc
 ·obtain ⟨i, _, e⟩ := mem_pickL hc
  obtain ⟨j, _, e'⟩ := mem_pickL hd
  exact h.away c (List.mem_of_getElem? e) d (List.mem_of_getElem? e') b hb hb'
 exact hp.2.2 d hd c hc b hb' hb
theorem St.rToRoP {b i : Nat} {cs : List Value} {T : TypeId} (h : St w0 X w L R) (hi : R[i]? = some (box b cs T)) : St w0 X w L (R.set i (roP ⟨b, 0, none⟩ cs)) := by
 have hb : w.heap[b]? = some (.cells cs.toArray T (0, 0)) := h.ro hi
 refine ⟨h.chg, h.holds, h.own, h.apart, fun d hd => ?_, fun d hd e he k hk hk' => ?_⟩
 ·rcases List.mem_or_eq_of_mem_set hd with hd | rfl
  ·exact h.reads d hd
  intro j v hv
  rw [add_lit, Nat.zero_add, cell_of_row w b j _ T _ hb]
  simpa using hv
 rcases List.mem_or_eq_of_mem_set hd with hd | rfl
 ·exact h.away d hd e he k hk hk'
 exact h.away _ (List.mem_of_getElem? hi) e he k hk.2.symm hk'
def setL : List Chunk → List Nat → List Chunk → List Chunk
  | L, i :: ix, c :: M => setL (L.set i c) ix M
  | L, _, _ => L
def fpEq : List Chunk → List Chunk → Prop
  | [], [] => True
  | c :: M, d :: L => (∀ b, c.fp b ↔ d.fp b) ∧ fpEq M L
  | _, _ => False
theorem fpEq_mem : ∀ {M L : List Chunk}, fpEq M L → (∀ d ∈ L, ∃ c ∈ M, ∀ b, d.fp b → c.fp b)
  | [], [], _, d, hd => by simp at hd
  | c :: M, e :: L, h, d, hd => by
    rcases List.mem_cons.1 hd with rfl | hd
    · exact ⟨c, by simp, fun b hb => (h.1 b).2 hb⟩
    · obtain ⟨c', hc', h'⟩ := fpEq_mem h.2 d hd
      exact ⟨c', by simp [hc'], h'⟩
  | [], _ :: _, h, _, _ => h.elim
  | _ :: _, [], h, _, _ => h.elim
theorem setL_at : ∀ (ix : List Nat) (L M : List Chunk), ix.Nodup → M.length = ix.length → (∀ i ∈ ix, i < L.length) → ∀ j, (j ∉ ix → (setL L ix M)[j]? = L[j]?) ∧ ∀ p : Nat, ix[p]? = some j → (setL L ix M)[j]? = M[p]?
  | [], L, M, _, hl, _, j => by
    obtain rfl := List.eq_nil_of_length_eq_zero (by simpa using hl)
    exact ⟨fun _ => rfl, fun p hp => by simp at hp⟩
  | i :: ix, L, [], _, hl, _, j => by simp at hl
  | i :: ix, L, c :: M, hn, hl, hb, j => by
    rw [List.nodup_cons] at hn
    have ih := setL_at ix (L.set i c) M hn.2 (by simpa using hl) (fun k hk => by simpa using hb k (by simp [hk])) j
    rw [setL]
    refine ⟨fun hj => ?_, fun p hp => ?_⟩
    · rw [ih.1 (fun h => hj (by simp [h])), List.getElem?_set_ne (fun e => hj (by simp [e]))]
    · cases p with
      | zero =>
        simp only [List.getElem?_cons_zero, Option.some.injEq] at hp
        subst hp
        rw [ih.1 hn.1, List.getElem?_set_self (hb i (by simp)), List.getElem?_cons_zero]
      | succ p =>
        simp only [List.getElem?_cons_succ] at hp ⊢
        exact ih.2 p hp
theorem pickL_at {β : Type} : ∀ (ix : List Nat) (l : List β), (∀ i ∈ ix, i < l.length) → ∀ (p i : Nat), ix[p]? = some i → (pickL l ix)[p]? = l[i]?
  | [], l, _, p, i, h => by simp at h
  | k :: ix, l, hb, p, i, h => by
    have hk := hb k (by simp)
    simp only [pickL, List.getElem?_eq_getElem hk]
    cases p with
    | zero =>
      simp only [List.getElem?_cons_zero, Option.some.injEq] at h
      subst h
      rw [List.getElem?_cons_zero, List.getElem?_eq_getElem hk]
    | succ p =>
      simp only [List.getElem?_cons_succ] at h ⊢
      exact pickL_at ix l (fun i hi => hb i (by simp [hi])) p i h
theorem fpEq_at : ∀ {M L : List Chunk}, fpEq M L → ∀ (p : Nat) (c : Chunk), M[p]? = some c → ∃ d : Chunk, L[p]? = some d ∧ ∀ b, c.fp b ↔ d.fp b
  | [], [], _, p, c, h => by simp at h
  | c0 :: M, e :: L, h, p, c, hp => by
    cases p with
    | zero =>
      simp only [List.getElem?_cons_zero, Option.some.injEq] at hp
      subst hp
      exact ⟨e, rfl, h.1⟩
    | succ p =>
      simp only [List.getElem?_cons_succ] at hp ⊢
      exact fpEq_at h.2 p c hp
  | [], _ :: _, h, _, _, _ => h.elim
  | _ :: _, [], h, _, _, _ => h.elim
theorem pickL_len {β : Type} : ∀ (ix : List Nat) (l : List β), (∀ i ∈ ix, i < l.length) → (pickL l ix).length = ix.length
  | [], l, _ => rfl
  | k :: ix, l, hb => by
    have hk := hb k (by simp)
    simp only [pickL, List.getElem?_eq_getElem hk, List.length_cons]
    rw [pickL_len ix l (fun i hi => hb i (by simp [hi]))]
theorem fpEq_len : ∀ {M L : List Chunk}, fpEq M L → M.length = L.length
  | [], [], _ => rfl
  | c :: M, e :: L, h => by simp [fpEq_len h.2]
  | [], _ :: _, h => h.elim
  | _ :: _, [], h => h.elim
theorem St.back (h : St w0 X w L R) (ix : List Nat) (hn : ndB ix = true) (hb : ix.all (fun i => Nat.ble (i + 1) L.length) = true) (M N : List Chunk) (hm : St w (fpU (pickL L ix)) w' (M ++ N) []) (hf : fpEq M (pickL L ix)) : St w0 X w' (setL L ix M ++ N) R := by
 have hnd := ndB_nodup hn
 have hbd : ∀ i ∈ ix, i < L.length := fun i hi => Nat.le_of_ble_eq_true (List.all_eq_true.1 hb i hi)
 have hlM : M.length = ix.length := by rw [fpEq_len hf, pickL_len ix L hbd]
 -- each chunk of the new list: an old one at another place, or a written one
 have hcase : ∀ (j : Nat) (d : Chunk), (setL L ix M)[j]? = some d → (j ∉ ix ∧ L[j]? = some d) ∨ ∃ (p : Nat) (c : Chunk), ix[p]? = some j ∧ M[p]? = some d ∧ L[j]? = some c ∧ ∀ b, d.fp b ↔ c.fp b := by
   intro j d hj
   by_cases hji : j ∈ ix
   · obtain ⟨p, hp⟩ := List.mem_iff_getElem?.1 hji
     have h1 := (setL_at ix L M hnd hlM hbd j).2 p hp
     rw [hj] at h1
     obtain ⟨c, hc, hfp⟩ := fpEq_at hf p d h1.symm
     rw [pickL_at ix L hbd p j hp] at hc
     exact .inr ⟨p, c, hp, h1.symm, hc, hfp⟩
   · rw [(setL_at ix L M hnd hlM hbd j).1 hji] at hj
     exact .inl ⟨hji, hj⟩
 have hnotX : ∀ (j : Nat) (d : Chunk), j ∉ ix → L[j]? = some d → ∀ b, d.fp b → ¬ fpU (pickL L ix) b := by
   rintro j d hji hj b hb ⟨c, hc, hcb⟩
   obtain ⟨i, hi, e⟩ := mem_pickL hc
   have hij : ¬ i = j := fun e' => hji (e' ▸ hi)
   obtain ⟨h1, rfl⟩ := List.getElem?_eq_some_iff.1 e
   obtain ⟨h2, rfl⟩ := List.getElem?_eq_some_iff.1 hj
   rcases Nat.lt_or_gt_of_ne hij with hlt | hlt
   · exact List.pairwise_iff_getElem.1 h.apart i j h1 h2 hlt b hcb hb
   · exact List.pairwise_iff_getElem.1 h.apart j i h2 h1 hlt b hb hcb
 have hnewN : ∀ d ∈ N, ∀ b, d.fp b → w.heap.size ≤ b := by
   intro d hd b hb
   rcases hm.own d (List.mem_append.2 (.inr hd)) b hb with h1 | ⟨c, hc, hcb⟩
   · exact h1
   · exfalso
     obtain ⟨c', hc', h'⟩ := fpEq_mem hf c hc
     exact (List.pairwise_append.1 hm.apart).2.2 c' hc' d hd b (h' b hcb) hb
 have hmemL : ∀ d ∈ setL L ix M, ∃ j : Nat, (setL L ix M)[j]? = some d := fun d hd => List.mem_iff_getElem?.1 hd
 refine ⟨h.chg.then hm.chg fun b hb0 hx => ?_, fun d hd => ?_, fun d hd b hb => ?_, ?_, fun d hd => ?_, fun d hd e he b hb hb' => ?_⟩
 ·obtain ⟨c, hc, hcb⟩ := hx
  obtain ⟨i, _, e⟩ := mem_pickL hc
  rcases h.own c (List.mem_of_getElem? e) b hcb with h1 | h1
  ·omega
  exact h1
 ·rcases List.mem_append.1 hd with hd | hd
  ·obtain ⟨j, hj⟩ := hmemL d hd
   rcases hcase j d hj with ⟨hji, hj'⟩ | ⟨p, c, hp, hMp, _⟩
   ·have hdm := List.mem_of_getElem? hj'
    exact d.stable (h.holds d hdm) fun b hb => hm.chg.block b (d.lt (h.holds d hdm) b hb) (hnotX j d hji hj' b hb)
   exact hm.holds d (List.mem_append.2 (.inl (List.mem_of_getElem? hMp)))
  exact hm.holds d (List.mem_append.2 (.inr hd))
 ·rcases List.mem_append.1 hd with hd | hd
  ·obtain ⟨j, hj⟩ := hmemL d hd
   rcases hcase j d hj with ⟨hji, hj'⟩ | ⟨p, c, hp, hMp, hc, hfp⟩
   ·exact h.own d (List.mem_of_getElem? hj') b hb
   exact h.own c (List.mem_of_getElem? hc) b ((hfp b).1 hb)
  exact .inl (Nat.le_trans h.chg.size (hnewN d hd b hb))
 ·rw [List.pairwise_append]
  refine ⟨?_, (List.pairwise_append.1 hm.apart).2.1, fun d hd e he b hb hb' => ?_⟩
  ·rw [List.pairwise_iff_getElem]
   intro i j hi hj hij b hb hb'
   have hi' := List.getElem?_eq_getElem hi
   have hj' := List.getElem?_eq_getElem hj
   have base : ∀ (j : Nat) (d : Chunk), (setL L ix M)[j]? = some d → ∀ b, d.fp b → ∃ c : Chunk, L[j]? = some c ∧ c.fp b := by
     intro j d hj b hb
     rcases hcase j d hj with ⟨_, h1⟩ | ⟨p, c, _, _, hc, hfp⟩
     · exact ⟨d, h1, hb⟩
     · exact ⟨c, hc, (hfp b).1 hb⟩
   obtain ⟨c1, e1, f1⟩ := base i _ hi' b hb
   obtain ⟨c2, e2, f2⟩ := base j _ hj' b hb'
   obtain ⟨g1, rfl⟩ := List.getElem?_eq_some_iff.1 e1
   obtain ⟨g2, rfl⟩ := List.getElem?_eq_some_iff.1 e2
   exact List.pairwise_iff_getElem.1 h.apart i j g1 g2 hij b f1 f2
  have h1 := hnewN e he b hb'
  obtain ⟨j, hj⟩ := hmemL d hd
  rcases hcase j d hj with ⟨hji, hj'⟩ | ⟨p, c, hp, hMp, hc, hfp⟩
  ·have := d.lt (h.holds d (List.mem_of_getElem? hj')) b hb
   omega
  have := c.lt (h.holds c (List.mem_of_getElem? hc)) b ((hfp b).1 hb)
  omega
 ·refine d.stable (h.reads d hd) fun b hb => hm.chg.block b (d.lt (h.reads d hd) b hb) ?_
  rintro ⟨c, hc, hcb⟩
  obtain ⟨i, _, e⟩ := mem_pickL hc
  exact h.away d hd c (List.mem_of_getElem? e) b hb hcb
 rcases List.mem_append.1 he with he | he
 ·obtain ⟨j, hj⟩ := hmemL e he
  rcases hcase j e hj with ⟨hji, hj'⟩ | ⟨p, c, hp, hMp, hc, hfp⟩
  ·exact h.away d hd e (List.mem_of_getElem? hj') b hb hb'
  exact h.away d hd c (List.mem_of_getElem? hc) b hb ((hfp b).1 hb')
 have := hnewN e he b hb'
 have := d.lt (h.reads d hd) b hb
 omega

end G
end Go.Proofs.YtegibnmfiogebaaGreatDoor
