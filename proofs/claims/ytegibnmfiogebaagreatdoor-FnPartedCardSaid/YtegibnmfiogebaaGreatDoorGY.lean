/-
  Step lemmas for walks whose frame is told as a list of slots. Part Y: regions whose order is open, all orders told as a tree.
-/
import Derived.Test.YtegibnmfiogebaaGreatDoorGS
namespace Go.Proofs.YtegibnmfiogebaaGreatDoor
namespace G
set_option linter.unusedVariables false
set_option linter.unusedSimpArgs false
variable {P : Program} {ops : Array Oper} {Q : Exit → Act → World → Prop} {n : Md} {F : Fm} {w w' w0 wb : World} {X Y : Nat → Prop} {L R : List Chunk}

inductive ClsT | stable | eff | bar
def clsT (bars effs : List Nat) (i : Nat) (o : Oper) : ClsT := if bars.contains i then .bar else if effs.contains i then .eff else match clsOp o.op with
  | .stable => .stable
  | .effect => .eff
  | .bar => .bar
inductive Tr where
  | fin : Tr
  | one (i : Nat) (t : Tr) : Tr
  | br (t : Tr) : Tr
  | alt (i : Nat) (t r : Tr) : Tr
  | stop : Tr
def stepT (P : Program) (ops : Array Oper) (bars effs : List Nat) (wb : World) (Y : Nat → Prop) (Q : Exit → Act → World → Prop) (K : Act → World → Prop) (i : Nat) (a : Act) (w : World) : Prop := ∃ o, ops[i]? = some o ∧
    if Region.wanted o (yielded ops a.tmps) = false then K (a.put o.dst undef) w
    else match clsT bars effs i o with
      | .stable => ∃ v, (execOp a.eval o).run P w = .ok (.value v) w ∧ (∀ w', Chg Y wb w' → (execOp a.eval o).run P w' = .ok (.value v) w') ∧ K (a.put o.dst v) w
      | .eff => (∃ v w', (execOp a.eval o).run P w = .ok (.value v) w' ∧ Chg Y wb w' ∧ K (a.put o.dst v) w') ∨
          (∃ f args, (execOp a.eval o).run P w = .ok (.enter f args) w ∧ CV P f args w fun v w' => Chg Y wb w' ∧ K (a.put o.dst v) w') ∨
          ∃ w', (execOp a.eval o).run P w = .ok .skip w' ∧ o.dst = none ∧ Chg Y wb w' ∧ K (a.put o.dst undef) w'
      | .bar => o.wp P a w K Q
def DT (P : Program) (ops : Array Oper) (bars effs : List Nat) (wb : World) (Y : Nat → Prop) (Q : Exit → Act → World → Prop) : Tr → Act → World → Prop
  | .fin, a, w => Q .normal a w
  | .one i t, a, w => stepT P ops bars effs wb Y Q (DT P ops bars effs wb Y Q t) i a w
  | .br t, a, w => DT P ops bars effs wb Y Q t a w
  | .alt i t r, a, w => stepT P ops bars effs wb Y Q (DT P ops bars effs wb Y Q t) i a w ∧ DT P ops bars effs wb Y Q r a w
  | .stop, _, _ => True
def pairT (ops : Array Oper) (bars effs : List Nat) (i j : Nat) : Bool :=
  reach ops ops.size j i || match ops[i]?, ops[j]? with
    | some x, some y => x.apart ops y && y.apart ops x && (match clsT bars effs i x with | .stable => true | _ => false) && (match clsT bars effs j y with | .bar => false | _ => true) && (match y.op with | .select .. => false | _ => true) && (match x.op with | .select .. => false | _ => true)
    | _, _ => false
def depsOk (ops : Array Oper) (C : List Nat) (i : Nat) : Bool := match ops[i]? with
  | some o => o.after.all fun e => !Region.binds .any e || C.contains e.on
  | none => false
def opsT : Tr → List Nat
  | .one i t => i :: opsT t
  | .br t => opsT t
  | .alt i t _ => i :: opsT t
  | _ => []
def heads : Tr → List Nat
  | .alt i _ r => i :: heads r
  | _ => []
def subB (a b : List Nat) : Bool := a.all b.contains
def sameAs (l : List Nat) : Tr → Bool
  | .stop => true
  | .alt i t _ => subB l (i :: opsT t) && subB (i :: opsT t) l
  | _ => false
def noAlt : Tr → Bool
  | .alt .. | .stop => false
  | _ => true
def isAlt : Tr → Bool
  | .alt .. => true
  | _ => false
def okT (ops : Array Oper) (bars effs : List Nat) : List Nat → Tr → Bool
  | _, .fin => true
  | C, .one i t => noAlt t && (depsOk ops C i && (opsT t).all (pairT ops bars effs i) && (!(opsT t).contains i) && okT ops bars effs (i :: C) t)
  | C, .br t => isAlt t && (okT ops bars effs C t && (opsT t).all fun j => !depsOk ops C j || (heads t).contains j)
  | C, .alt i t r => noAlt t && (depsOk ops C i && (!(opsT t).contains i) && okT ops bars effs (i :: C) t && sameAs (i :: opsT t) r && okT ops bars effs C r)
  | _, .stop => true
def rmT (j : Nat) : Tr → Tr
  | .one i t => match Nat.beq i j with
    | true => t
    | false => .one i (rmT j t)
  | .br t => rmT j t
  | .alt i t r => match Nat.beq i j with
    | true => t
    | false => rmT j r
  | t => t
def treeOk (ops : Array Oper) (bars effs : List Nat) (t : Tr) : Bool :=
  (opsT t).all (fun i => Nat.ble (i + 1) ops.size) && (List.range ops.size).all (opsT t).contains && (noAlt t && okT ops bars effs [] t)

theorem contains_congr {C C' : List Nat} (h : ∀ x, x ∈ C ↔ x ∈ C') (x : Nat) : C.contains x = C'.contains x := by
 rw [Bool.eq_iff_iff, List.contains_iff_mem, List.contains_iff_mem]; exact h x
theorem depsOk_congr {C C' : List Nat} (h : ∀ x, x ∈ C ↔ x ∈ C') (i : Nat) : depsOk ops C i = depsOk ops C' i := by
  unfold depsOk
  cases ops[i]? with
  | none => rfl
  | some o => simp only [contains_congr h]
theorem depsOk_iff {C : List Nat} {i : Nat} {o : Oper} (ho : ops[i]? = some o) : depsOk ops C i = true ↔ ∀ e ∈ o.after, Region.binds .any e = true → e.on ∈ C := by
 unfold depsOk
 rw [ho]
 simp only [Array.all_eq_true', Bool.or_eq_true, Bool.not_eq_true', List.contains_iff_mem]
 constructor
 ·intro h e he hb
  rcases h e he with h1 | h1
  ·rw [hb] at h1; cases h1
  exact h1
 intro h e he
 cases hb : Region.binds .any e
 ·exact .inl rfl
 exact .inr (h e he hb)
theorem depsOk_mono {C C' : List Nat} (h : ∀ x ∈ C, x ∈ C') {i : Nat} (hd : depsOk ops C i = true) : depsOk ops C' i = true := by
  cases ho : ops[i]? with
  | none => unfold depsOk at hd; rw [ho] at hd; cases hd
  | some o => exact (depsOk_iff ho).2 fun e he hb => h _ ((depsOk_iff ho).1 hd e he hb)
theorem okT_congr {bars effs : List Nat} : ∀ (t : Tr) {C C' : List Nat}, (∀ x, x ∈ C ↔ x ∈ C') → okT ops bars effs C t = okT ops bars effs C' t
  | .fin, _, _, _ => rfl
  | .stop, _, _, _ => rfl
  | .one i t, C, C', h => by
    simp only [okT]
    rw [depsOk_congr h, okT_congr t (C := i :: C) (C' := i :: C') fun x => by simp [h x]]
  | .br t, C, C', h => by
    simp only [okT]
    rw [okT_congr t h]
    simp only [depsOk_congr h]
  | .alt i t r, C, C', h => by
    simp only [okT]
    rw [depsOk_congr h, okT_congr t (C := i :: C) (C' := i :: C') fun x => by simp [h x], okT_congr r h]
theorem subB_iff {a b : List Nat} : subB a b = true ↔ ∀ x ∈ a, x ∈ b := by
 unfold subB
 simp only [List.all_eq_true, List.contains_iff_mem]
theorem not_contains {l : List Nat} {i : Nat} (h : l.contains i = false) : i ∉ l := fun hm => by
  rw [List.contains_iff_mem.2 hm] at h; cases h
theorem beq_ne {i j : Nat} (e : ¬ i = j) : Nat.beq i j = false := by
 cases hbb : Nat.beq i j
 ·rfl
 exact absurd (Nat.eq_of_beq_eq_true hbb) e
theorem mem_cons_ne {l : List Nat} {i : Nat} (h : i ∉ l) (k : Nat) : k ∈ l ↔ k ∈ i :: l ∧ k ≠ i := by
 constructor
 ·intro hk
  exact ⟨List.mem_cons_of_mem _ hk, fun e => h (e ▸ hk)⟩
 rintro ⟨hk, hne⟩
 rcases List.mem_cons.1 hk with hk | hk
 ·exact absurd hk hne
 exact hk
theorem alt_find {bars effs : List Nat} {j : Nat} : ∀ {t : Tr} {C : List Nat}, okT ops bars effs C t = true → j ∈ heads t → noAlt (rmT j t) = true ∧ okT ops bars effs (j :: C) (rmT j t) = true ∧ (∀ k, k ∈ opsT (rmT j t) ↔ k ∈ opsT t ∧ k ≠ j) ∧ j ∈ opsT t ∧ depsOk ops C j = true ∧ ∀ a w, DT P ops bars effs wb Y Q t a w → stepT P ops bars effs wb Y Q (DT P ops bars effs wb Y Q (rmT j t)) j a w
  | .fin, C, _, hj => by simp [heads] at hj
  | .stop, C, _, hj => by simp [heads] at hj
  | .one i t, C, _, hj => by simp [heads] at hj
  | .br t, C, _, hj => by simp [heads] at hj
  | .alt i t r, C, hok, hj => by
    simp only [okT, Bool.and_eq_true, Bool.not_eq_true'] at hok
    obtain ⟨hna, ⟨⟨⟨h1, h2⟩, h3⟩, h4⟩, h5⟩ := hok
    by_cases e : i = j
    · subst e
      have hb : Nat.beq i i = true := Nat.beq_refl i
      simp only [rmT, hb, opsT]
      exact ⟨hna, h3, mem_cons_ne (not_contains h2), by simp, h1, fun a w hd => hd.1⟩
    · simp only [heads, List.mem_cons] at hj
      have hjr : j ∈ heads r := by
        rcases hj with hj | hj
        · exact absurd hj.symm e
        · exact hj
      obtain ⟨g0, g1, g2, g3, g5, g4⟩ := alt_find h5 hjr
      simp only [rmT, beq_ne e, opsT]
      have same : ∀ k, k ∈ opsT r ↔ k ∈ i :: opsT t := by
        cases r with
        | stop => simp [heads] at hjr
        | fin => simp [heads] at hjr
        | one _ _ => simp [heads] at hjr
        | br _ => simp [heads] at hjr
        | alt i' t' r' =>
          simp only [sameAs, Bool.and_eq_true, subB_iff] at h4
          exact fun k => ⟨fun hk => h4.2 k hk, fun hk => h4.1 k hk⟩
      exact ⟨g0, g1, fun k => by rw [g2, same], (same j).1 g3, g5, fun a w hd => g4 a w hd.2⟩
theorem stepT_swap {bars effs : List Nat} {s i : Nat} {K : Act → World → Prop} {x o : Oper} (hx : ops[s]? = some x) (ho : ops[i]? = some o) (hxo : x.apart ops o = true) (hox : o.apart ops x = true) (hcx : clsT bars effs s x = .stable)
 (hco : clsT bars effs i o ≠ .bar) (hsx : ∀ cs b, x.op ≠ .select cs b) (hso : ∀ cs b, o.op ≠ .select cs b) {a : Act} {w : World} (h : stepT P ops bars effs wb Y Q (stepT P ops bars effs wb Y Q K i) s a w) : stepT P ops bars effs wb Y Q (stepT P ops bars effs wb Y Q K s) i a w := by
  obtain ⟨x', hx', h⟩ := h
  obtain rfl : x = x' := by rw [hx] at hx'; exact Option.some.inj hx'
  obtain ⟨vs, hback, hk⟩ : ∃ vs, (∀ (b : Act) (u : World), (execOp b.eval x = execOp a.eval x) → (Region.wanted x (yielded ops b.tmps) = Region.wanted x (yielded ops a.tmps)) → (u = w ∨ Chg Y wb u) → K (b.put x.dst vs) u → stepT P ops bars effs wb Y Q K s b u) ∧ stepT P ops bars effs wb Y Q K i (a.put x.dst vs) w := by
    by_cases hw : Region.wanted x (yielded ops a.tmps) = false
    · rw [if_pos hw] at h
      exact ⟨undef, fun b u _ hbw _ hk => ⟨x, hx, by rw [if_pos (by rw [hbw]; exact hw)]; exact hk⟩, h⟩
    · rw [if_neg hw, hcx] at h
      obtain ⟨v, hr0, hr, hk⟩ := h
      refine ⟨v, fun b u hbe hbw hxu hk => ⟨x, hx, ?_⟩, hk⟩
      rw [if_neg (by rw [hbw]; exact hw), hcx]
      refine ⟨v, ?_, fun w' hw' => by rw [hbe]; exact hr w' hw', hk⟩
      rw [hbe]
      rcases hxu with rfl | hxu
      · exact hr0
      · exact hr u hxu
  obtain ⟨he, hwn⟩ := apart_exec hxo hso a vs
  have hbk : ∀ (u : Value) (w' : World), (w' = w ∨ Chg Y wb w') → K ((a.put x.dst vs).put o.dst u) w' → stepT P ops bars effs wb Y Q K s (a.put o.dst u) w' := by
    intro u w' hxw hd
    obtain ⟨he', hwn'⟩ := apart_exec hox hsx a u
    refine hback (a.put o.dst u) w' he' hwn' hxw ?_
    rw [← apart_comm hxo a vs u]
    exact hd
  obtain ⟨o', ho', hk⟩ := hk
  obtain rfl : o = o' := by rw [ho] at ho'; exact Option.some.inj ho'
  rw [hwn] at hk
  refine ⟨o, ho, ?_⟩
  by_cases hw : Region.wanted o (yielded ops a.tmps) = false
  · rw [if_pos hw] at hk ⊢
    exact hbk undef w (.inl rfl) hk
  rw [if_neg hw] at hk ⊢
  cases hc : clsT bars effs i o with
  | stable =>
    rw [hc] at hk
    obtain ⟨v, hr0, hr, hk⟩ := hk
    exact ⟨v, by rw [← he]; exact hr0, fun w' hw' => by rw [← he]; exact hr w' hw', hbk v w (.inl rfl) hk⟩
  | eff =>
    rw [hc] at hk
    rcases hk with ⟨v, w', hr, hxw, hk⟩ | ⟨f, args, hr, hk⟩ | ⟨w', hr, hd, hxw, hk⟩
    · exact .inl ⟨v, w', by rw [← he]; exact hr, hxw, hbk v w' (.inr hxw) hk⟩
    · exact .inr (.inl ⟨f, args, by rw [← he]; exact hr, hk.mono fun v w' ⟨hxw, hk⟩ => ⟨hxw, hbk v w' (.inr hxw) hk⟩⟩)
    · exact .inr (.inr ⟨w', by rw [← he]; exact hr, hd, hxw, hbk undef w' (.inr hxw) hk⟩)
  | bar => exact absurd hc hco
theorem stepT_mono {bars effs : List Nat} {K K' : Act → World → Prop} (hK : ∀ a w, K a w → K' a w) {i : Nat} {a : Act} {w : World} (hc : ∀ o, ops[i]? = some o → clsT bars effs i o = .stable) (h : stepT P ops bars effs wb Y Q K i a w) : stepT P ops bars effs wb Y Q K' i a w := by
 obtain ⟨o, ho, h⟩ := h
 refine ⟨o, ho, ?_⟩
 by_cases hw : Region.wanted o (yielded ops a.tmps) = false
 ·rw [if_pos hw] at h ⊢
  exact hK _ _ h
 rw [if_neg hw, hc o ho] at h
 rw [if_neg hw, hc o ho]
 obtain ⟨v, hr0, hr, hk⟩ := h
 exact ⟨v, hr0, hr, hK _ _ hk⟩
theorem DT.front {bars effs : List Nat} {j : Nat} {oj : Oper} (hoj : ops[j]? = some oj) : ∀ (t : Tr) (C : List Nat), noAlt t = true → okT ops bars effs C t = true → j ∈ opsT t → depsOk ops C j = true → (∀ s ∈ opsT t, s ≠ j → reach ops ops.size j s = false) →
 noAlt (rmT j t) = true ∧ okT ops bars effs (j :: C) (rmT j t) = true ∧ (∀ k, k ∈ opsT (rmT j t) ↔ k ∈ opsT t ∧ k ≠ j) ∧ ∀ a w, DT P ops bars effs wb Y Q t a w → stepT P ops bars effs wb Y Q (DT P ops bars effs wb Y Q (rmT j t)) j a w
  | .fin, C, _, _, hj, _, _ => by simp [opsT] at hj
  | .stop, C, hn, _, _, _, _ => by cases hn
  | .alt i t r, C, hn, _, _, _, _ => by cases hn
  | .br t, C, _, hok, hj, hd, hr => by
    simp only [okT, Bool.and_eq_true, List.all_eq_true, Bool.or_eq_true, Bool.not_eq_true', List.contains_iff_mem] at hok
    simp only [opsT] at hj
    have hh : j ∈ heads t := by
      rcases hok.2.2 j hj with h1 | h1
      · rw [hd] at h1; cases h1
      · exact h1
    obtain ⟨g0, g1, g2, g3, g5, g4⟩ := alt_find (P := P) (Q := Q) (Y := Y) (wb := wb) hok.2.1 hh
    exact ⟨g0, g1, g2, g4⟩
  | .one i t, C, _, hok, hj, hd, hr => by
    simp only [okT, Bool.and_eq_true, Bool.not_eq_true'] at hok
    obtain ⟨hna, ⟨⟨h1, h2⟩, h3⟩, h4⟩ := hok
    by_cases e : i = j
    · subst e
      have hb : Nat.beq i i = true := Nat.beq_refl i
      simp only [rmT, hb, opsT]
      exact ⟨hna, h4, mem_cons_ne (not_contains h3), fun a w hd => hd⟩
    · have hjt : j ∈ opsT t := by
        simp only [opsT, List.mem_cons] at hj
        rcases hj with hj | hj
        · exact absurd hj.symm e
        · exact hj
      obtain ⟨g0, g1, g2, g3⟩ := DT.front hoj t (i :: C) hna h4 hjt (depsOk_mono (fun x hx => by simp [hx]) hd) (fun s hs hne => hr s (by simp [opsT, hs]) hne)
      have hp := List.all_eq_true.1 h2 j hjt
      unfold pairT at hp
      rw [hr i (by simp [opsT]) e, Bool.false_or, hoj] at hp
      cases hoi : ops[i]? with
      | none => rw [hoi] at hp; simp at hp
      | some oi =>
        rw [hoi] at hp
        simp only [Bool.and_eq_true] at hp
        have hci : clsT bars effs i oi = .stable := by
          have := hp.1.1.1.2
          cases hc : clsT bars effs i oi <;> simp_all
        have hcj : clsT bars effs j oj ≠ .bar := by
          intro hc
          have := hp.1.1.2
          rw [hc] at this; simp at this
        simp only [rmT, beq_ne e, opsT]
        refine ⟨rfl, ?_, fun k => ?_, fun a w hd => ?_⟩
        · simp only [okT, Bool.and_eq_true, Bool.not_eq_true']
          refine ⟨g0, ⟨⟨depsOk_mono (fun x hx => by simp [hx]) h1, ?_⟩, ?_⟩, ?_⟩
          · rw [List.all_eq_true]
            intro k hk
            exact List.all_eq_true.1 h2 k ((g2 k).1 hk).1
          · cases hcc : (opsT (rmT j t)).contains i
            · rfl
            · exact absurd ((g2 i).1 (List.contains_iff_mem.1 hcc)).1 (not_contains h3)
          · rw [okT_congr _ (C := i :: j :: C) (C' := j :: i :: C) fun x => by simp only [List.mem_cons]; constructor <;> (rintro (h | h | h) <;> simp [h])]
            exact g1
        · simp only [List.mem_cons, g2]
          constructor
          · rintro (hk | ⟨hk, hne⟩)
            · exact ⟨.inl hk, fun h => e (hk.symm.trans h)⟩
            · exact ⟨.inr hk, hne⟩
          · rintro ⟨hk | hk, hne⟩
            · exact .inl hk
            · exact .inr ⟨hk, hne⟩
        · refine stepT_swap hoi hoj hp.1.1.1.1.1 hp.1.1.1.1.2 hci hcj (notSel hp.2) (notSel hp.1.2) ?_
          exact stepT_mono (fun a w h => g3 a w h) (fun o ho => by rw [hoi] at ho; obtain rfl := Option.some.inj ho; exact hci) hd
theorem stepT_wp {bars effs : List Nat} {K : Act → World → Prop} {i : Nat} {a : Act} {w : World} (h : stepT P ops bars effs wb Y Q K i a w) : wpOpD P ops Q i K a w := by
 obtain ⟨o, ho, h⟩ := h
 rw [wpOpD_def i _ a w ho]
 by_cases hw : Region.wanted o (yielded ops a.tmps) = true
 ·rw [if_pos hw]
  rw [if_neg (by rw [hw]; simp)] at h
  cases hc : clsT bars effs i o with
  | stable =>
    rw [hc] at h
    obtain ⟨v, hr, _, hk⟩ := h
    simp only [Oper.wp, hr, Oper.upon]
    exact hk
  | eff =>
    rw [hc] at h
    rcases h with ⟨v, w', hr, hx, hk⟩ | ⟨f, args, hr, hk⟩ | ⟨w', hr, hd, hx, hk⟩
    · simp only [Oper.wp, hr, Oper.upon]
      exact hk
    · simp only [Oper.wp, hr, Oper.upon]
      refine Calls.mono hk ?_
      rintro e w' ⟨v, rfl, hx, hk⟩
      exact hk
    · simp only [Oper.wp, hr, Oper.upon]
      first | exact hk | (rw [hd] at hk ⊢; exact hk) | (rw [hd] at hk; exact hk)
  | bar =>
    rw [hc] at h
    exact h
 have hw' : Region.wanted o (yielded ops a.tmps) = false := by simpa using hw
 rw [if_neg hw]
 rw [if_pos hw'] at h
 exact h
theorem okT_ready {bars effs : List Nat} {t : Tr} {C : List Nat} (hn : noAlt t = true) (hok : okT ops bars effs C t = true) (he : opsT t ≠ []) : ∃ i ∈ opsT t, depsOk ops C i = true := by
  cases t with
  | fin => exact absurd rfl he
  | stop => cases hn
  | alt _ _ _ => cases hn
  | one i t =>
    simp only [okT, Bool.and_eq_true] at hok
    exact ⟨i, by simp [opsT], hok.2.1.1.1⟩
  | br t =>
    simp only [okT, Bool.and_eq_true] at hok
    cases t with
    | alt i t r =>
      have h2 := hok.2.1
      simp only [okT, Bool.and_eq_true] at h2
      exact ⟨i, by simp [opsT], h2.2.1.1.1.1⟩
    | fin => cases hok.1
    | stop => cases hok.1
    | one _ _ => cases hok.1
    | br _ => cases hok.1
theorem DT.done {bars effs : List Nat} {t : Tr} {C : List Nat} (hn : noAlt t = true) (hok : okT ops bars effs C t = true) (he : opsT t = []) {a : Act} {w : World} (h : DT P ops bars effs wb Y Q t a w) : Q .normal a w := by
  cases t with
  | fin => exact h
  | stop => cases hn
  | alt _ _ _ => cases hn
  | one i t => simp [opsT] at he
  | br t =>
    simp only [okT, Bool.and_eq_true] at hok
    cases t with
    | alt i t r => simp [opsT] at he
    | fin => cases hok.1
    | stop => cases hok.1
    | one _ _ => cases hok.1
    | br _ => cases hok.1
theorem okT_nodup {bars effs : List Nat} : ∀ {t : Tr} {C : List Nat}, okT ops bars effs C t = true → (opsT t).Nodup
  | .fin, _, _ => List.nodup_nil
  | .stop, _, _ => List.nodup_nil
  | .one i t, C, h => by
    simp only [okT, Bool.and_eq_true, Bool.not_eq_true'] at h
    exact List.nodup_cons.2 ⟨not_contains h.2.1.2, okT_nodup h.2.2⟩
  | .br t, C, h => by
    simp only [okT, Bool.and_eq_true] at h
    exact okT_nodup (t := t) h.2.1
  | .alt i t r, C, h => by
    simp only [okT, Bool.and_eq_true, Bool.not_eq_true'] at h
    exact List.nodup_cons.2 ⟨not_contains h.2.1.1.1.2, okT_nodup h.2.1.1.2⟩
theorem DT.any {bars effs : List Nat} : ∀ (fuel : Nat) (t : Tr) (C : List Nat) (listed : Array Bool) (a : Act) (w : World), listed.size = ops.size → (opsT t).length = fuel → noAlt t = true → okT ops bars effs C t = true →
 (∀ i, i < ops.size → (i ∈ opsT t ↔ listed.getD i true = false)) → (∀ i ∈ opsT t, i < ops.size) → (∀ i, listed.getD i false = true → i ∈ C) → (∀ i ∈ C, listed.getD i false = true) → Closed ops listed →
 DT P ops bars effs wb Y Q t a w → wpAnyD P ops Q fuel listed a w
  | 0, t, C, listed, a, w, hsz, hl, hn, hok, hmem, hlt, hC, hC', hcl, h => by
    have h0 := List.eq_nil_of_length_eq_zero hl
    refine ⟨?_, h.done hn hok h0⟩
    apply List.eq_nil_iff_forall_not_mem.2
    intro i hi
    obtain ⟨o, ho, h1, _⟩ := mem_ready hi
    have := (hmem i (Array.getElem?_eq_some_iff.1 ho).1).2 h1
    rw [h0] at this
    simp at this
  | fuel + 1, t, C, listed, a, w, hsz, hl, hn, hok, hmem, hlt, hC, hC', hcl, h => by
    refine ⟨fun hr => ?_, fun i hi => ?_⟩
    · exfalso
      obtain ⟨i, hit, hdp⟩ := okT_ready hn hok (fun e => by rw [e] at hl; simp at hl)
      have hi := hlt i hit
      have ho : ops[i]? = some ops[i] := Array.getElem?_eq_getElem hi
      have : i ∈ Region.ready .any ops listed := by
        unfold Region.ready
        simp only [List.mem_filter, List.mem_range, Bool.and_eq_true]
        refine ⟨hi, by rw [(hmem i hi).1 hit]; rfl, ?_⟩
        rw [ho]
        simp only [Option.map_some, Option.getD_some, Array.all_eq_true]
        intro j hj
        by_cases hb : Region.binds .any (ops[i].after[j]) = true
        · rw [hC' _ ((depsOk_iff ho).1 hdp _ (Array.getElem_mem hj) hb)]; simp
        · simp only [Bool.not_eq_true] at hb; rw [hb]; simp
      rw [hr] at this
      simp at this
    · obtain ⟨o, ho, h1, h2⟩ := mem_ready hi
      have hi' : i < ops.size := (Array.getElem?_eq_some_iff.1 ho).1
      have hit := (hmem i hi').2 h1
      obtain ⟨g0, g1, g2, g3⟩ := DT.front (P := P) (Q := Q) (Y := Y) (wb := wb) ho t C hn hok hit ((depsOk_iff ho).2 fun e he hb => hC _ (h2 e he hb)) (fun s hs hne => by
        cases hrs : reach ops ops.size i s
        · rfl
        · have h3 := reach_listed hcl ops.size i s o ho h2 hrs
          have h4 := (hmem s (hlt s hs)).1 hs
          have hsl := hlt s hs
          simp only [Array.getD_eq_getD_getElem?] at h3 h4
          rw [Array.getElem?_eq_getElem (by omega)] at h3 h4
          simp_all)
      have hnd := okT_nodup hok
      have hnd' := okT_nodup g1
      have hperm : (opsT t).Perm (i :: opsT (rmT i t)) := by
        refine (List.perm_ext_iff_of_nodup hnd (List.nodup_cons.2 ⟨fun hm => ((g2 i).1 hm).2 rfl, hnd'⟩)).2 fun k => ?_
        rw [List.mem_cons, g2]
        by_cases e : k = i
        · subst e; simp [hit]
        · simp [e]
      have hlen := hperm.length_eq
      refine wpOpD_mono (fun a' w' hk => ?_) (stepT_wp (g3 a w h))
      refine DT.any fuel (rmT i t) (i :: C) _ a' w' (by simp [hsz]) (by simp only [List.length_cons] at hlen; omega) g0 g1 (fun j hj => ?_) (fun j hj => hlt j ((g2 j).1 hj).1) (fun j hj => ?_) (fun j hj => ?_) ?_ hk
      · rw [getD_set listed i j true true (by omega), g2]
        by_cases e : i = j
        · subst e; simp
        · rw [if_neg e, ← hmem j hj]
          exact ⟨fun h => h.1, fun h => ⟨h, fun e' => e e'.symm⟩⟩
      · rw [getD_set listed i j true false (by omega)] at hj
        by_cases e : i = j
        · simp [e]
        · rw [if_neg e] at hj
          exact List.mem_cons_of_mem _ (hC j hj)
      · rw [getD_set listed i j true false (by omega)]
        by_cases e : i = j
        · rw [if_pos e]
        · rw [if_neg e]
          rcases List.mem_cons.1 hj with hj | hj
          · exact absurd hj.symm e
          · exact hC' j hj
      · intro j oj hoj hlj e he hb
        rw [getD_set listed i _ true false (by omega)] at hlj ⊢
        by_cases e1 : i = e.on
        · rw [if_pos e1]
        · rw [if_neg e1]
          by_cases e2 : i = j
          · subst e2
            rw [ho] at hoj
            obtain rfl := Option.some.inj hoj
            exact h2 e he hb
          · rw [if_neg e2] at hlj
            exact hcl j oj hoj hlj e he hb
theorem wp_drawT {rd : Option Nat} {id : Nat} {bars effs : List Nat} {t : Tr} (hm : P.follows .mixedOrders = true) (hnd : nodef rd ops = true) (hok : treeOk ops bars effs t = true) {a : Act} {w : World} (h : DT P ops bars effs wb Y Q t a w.drew) : (Code.region id ops true).wpIn (rF rd) 0 P Q a w := by
 refine region_any hm hnd ?_
 unfold treeOk at hok
 simp only [Bool.and_eq_true] at hok
 obtain ⟨⟨h2, h3⟩, h4, h5⟩ := hok
 have hin : ∀ i, i < ops.size → i ∈ opsT t := fun i hi => by
   rw [List.all_eq_true] at h3
   simpa using h3 i (by simpa using hi)
 have hlt : ∀ i ∈ opsT t, i < ops.size := fun i hi => by
   rw [List.all_eq_true] at h2
   exact Nat.le_of_ble_eq_true (h2 i hi)
 have hlen : (opsT t).length = ops.size := by
   have : (opsT t).Perm (List.range ops.size) := (List.perm_ext_iff_of_nodup (okT_nodup h5) List.nodup_range).2 fun k => by rw [List.mem_range]; exact ⟨hlt k, hin k⟩
   rw [this.length_eq, List.length_range]
 have hno : ∀ i, (Array.replicate ops.size false).getD i false = true → False := fun i hl => by
   simp only [Array.getD_eq_getD_getElem?, Array.getElem?_replicate] at hl
   split at hl <;> simp at hl
 refine DT.any ops.size t [] (Array.replicate ops.size false) a _ (by simp) hlen h4 h5 (fun i hi => ⟨fun _ => by simp [Array.getD_eq_getD_getElem?, hi], fun _ => hin i hi⟩) hlt (fun i hl => (hno i hl).elim) (fun i hi => by simp at hi) ?_ h
 intro i o ho hl
 exact (hno i hl).elim

def gn (ox : List Nat) : Nat → List Chunk → List Chunk
  | _, [] => []
  | i, c :: L => (match ox.contains i with | true => gone | false => c) :: gn ox (i + 1) L
def mrg (ox : List Nat) : Nat → List Chunk → List Chunk → List Chunk
  | i, l :: L, m :: M => (match ox.contains i with | true => l | false => m) :: mrg ox (i + 1) L M
  | _, _, M => M
theorem gn_at (ox : List Nat) : ∀ (L : List Chunk) (i k : Nat) (d : Chunk), (gn ox i L)[k]? = some d → ∃ c : Chunk, L[k]? = some c ∧ ((ox.contains (i + k) = true ∧ d = gone) ∨ (ox.contains (i + k) = false ∧ d = c))
  | [], i, k, d, h => by simp [gn] at h
  | c :: L, i, 0, d, h => by
    rw [gn, List.getElem?_cons_zero] at h
    refine ⟨c, rfl, ?_⟩
    cases hc : ox.contains i
    · rw [hc] at h; exact .inr ⟨rfl, (Option.some.inj h).symm⟩
    · rw [hc] at h; exact .inl ⟨rfl, (Option.some.inj h).symm⟩
  | c :: L, i, k + 1, d, h => by
    rw [gn, List.getElem?_cons_succ] at h
    obtain ⟨c', hc', hh⟩ := gn_at ox L (i + 1) k d h
    rw [show i + 1 + k = i + (k + 1) by omega] at hh
    exact ⟨c', by simpa using hc', hh⟩
theorem mrg_at (ox : List Nat) : ∀ (L M : List Chunk) (i k : Nat) (d : Chunk), (mrg ox i L M)[k]? = some d → (ox.contains (i + k) = true ∧ L[k]? = some d) ∨ (M[k]? = some d ∧ (ox.contains (i + k) = false ∨ L[k]? = none))
  | [], M, i, k, d, h => by rw [mrg] at h; exact .inr ⟨h, .inr (by simp)⟩; simp
  | l :: L, [], i, k, d, h => by rw [mrg] at h; simp at h; simp
  | l :: L, m :: M, i, 0, d, h => by
    rw [mrg, List.getElem?_cons_zero] at h
    cases hc : ox.contains i
    · rw [hc] at h; exact .inr ⟨h, .inl rfl⟩
    · rw [hc] at h; exact .inl ⟨rfl, h⟩
  | l :: L, m :: M, i, k + 1, d, h => by
    rw [mrg, List.getElem?_cons_succ] at h
    rcases mrg_at ox L M (i + 1) k d h with ⟨h1, h2⟩ | ⟨h1, h2⟩
    · rw [show i + 1 + k = i + (k + 1) by omega] at h1; exact .inl ⟨h1, by simpa using h2⟩
    · rw [show i + 1 + k = i + (k + 1) by omega] at h2; exact .inr ⟨by simpa using h1, by simpa using h2⟩
theorem gn_fp {ox : List Nat} {b : Nat} (h : fpU (gn ox 0 L) b) : ∃ (k : Nat) (c : Chunk), L[k]? = some c ∧ ox.contains k = false ∧ c.fp b := by
 obtain ⟨d, hd, hb⟩ := h
 obtain ⟨k, hk⟩ := List.mem_iff_getElem?.1 hd
 obtain ⟨c, hc, hh⟩ := gn_at ox L 0 k d hk
 rw [Nat.zero_add] at hh
 rcases hh with ⟨_, rfl⟩ | ⟨h1, rfl⟩
 ·exact hb.elim
 exact ⟨k, d, hc, h1, hb⟩
theorem St.apart_at (h : St w0 X w L R) {i j : Nat} {c d : Chunk} (hi : L[i]? = some c) (hj : L[j]? = some d) (hne : i ≠ j) {b : Nat} (hb : c.fp b) : ¬ d.fp b := by
 obtain ⟨h1, rfl⟩ := List.getElem?_eq_some_iff.1 hi
 obtain ⟨h2, rfl⟩ := List.getElem?_eq_some_iff.1 hj
 intro hb'
 rcases Nat.lt_or_gt_of_ne hne with hlt | hlt
 ·exact List.pairwise_iff_getElem.1 h.apart i j h1 h2 hlt b hb hb'
 exact List.pairwise_iff_getElem.1 h.apart j i h2 h1 hlt b hb' hb
theorem St.inn (h : St w0 X w L R) (ox : List Nat) : St w (fpU (gn ox 0 L)) w (gn ox 0 L) (R ++ pickL L ox) := by
 have hat : ∀ (k : Nat) (d : Chunk), (gn ox 0 L)[k]? = some d → d = gone ∨ (L[k]? = some d ∧ ox.contains k = false) := fun k d hk => by
   obtain ⟨c, hc, hh⟩ := gn_at ox L 0 k d hk
   rw [Nat.zero_add] at hh
   rcases hh with ⟨_, rfl⟩ | ⟨h1, rfl⟩
   · exact .inl rfl
   · exact .inr ⟨hc, h1⟩
 refine ⟨Chg.refl _ _, fun c hc => ?_, fun c hc b hb => .inr ⟨c, hc, hb⟩, ?_, fun c hc => ?_, fun c hc d hd b hb hb' => ?_⟩
 ·obtain ⟨k, hk⟩ := List.mem_iff_getElem?.1 hc
  rcases hat k c hk with rfl | ⟨h1, _⟩
  ·trivial
  exact h.at_ h1
 ·rw [List.pairwise_iff_getElem]
  intro i j hi hj hij b hb hb'
  rcases hat i _ (List.getElem?_eq_getElem hi) with e1 | ⟨h1, _⟩
  ·rw [e1] at hb; exact hb.elim
  rcases hat j _ (List.getElem?_eq_getElem hj) with e2 | ⟨h2, _⟩
  ·rw [e2] at hb'; exact hb'.elim
  exact h.apart_at h1 h2 (by omega) hb hb'
 ·rcases List.mem_append.1 hc with hc | hc
  ·exact h.reads c hc
  obtain ⟨i, _, e⟩ := mem_pickL hc; exact h.at_ e
 obtain ⟨k, hk⟩ := List.mem_iff_getElem?.1 hd
 rcases hat k d hk with rfl | ⟨h1, h2⟩
 ·exact hb'.elim
 rcases List.mem_append.1 hc with hc | hc
 ·exact h.away c hc d (List.mem_of_getElem? h1) b hb hb'
 obtain ⟨i, hi, e⟩ := mem_pickL hc
 refine h.apart_at e h1 (fun e' => ?_) hb hb'
 rw [e', ] at hi
 have : ox.contains k = true := by simpa using hi
 rw [this] at h2; cases h2
def Yo (w0 : World) (X : Nat → Prop) (D : List Chunk) : Nat → Prop := fun b => (w0.heap.size ≤ b ∨ X b) ∧ ¬ fpU D b
theorem St.view (h : St w0 X w L R) (ox : List Nat) {w2 : World} (hx : Chg (Yo w0 X (pickL L ox ++ R)) w w2) : St w (Yo w0 X (pickL L ox ++ R)) w2 [] (R ++ pickL L ox) := by
 have h1 := h.inn ox
 refine ⟨hx, by simp, by simp, List.Pairwise.nil, fun c hc => ?_, by simp⟩
 refine c.stable (h1.reads c hc) fun b hb => hx.block b (c.lt (h1.reads c hc) b hb) ?_
 rintro ⟨_, hn⟩
 refine hn ⟨c, ?_, hb⟩
 rcases List.mem_append.1 hc with hc | hc
 ·exact List.mem_append.2 (.inr hc)
 exact List.mem_append.2 (.inl hc)
theorem St.inY (h : St w0 X w L R) (ox : List Nat) {D R0 : List Chunk} (k : Nat) (h1 : pickL L ox = D) (h2 : R.take k = R0) : ∀ b, fpU (gn ox 0 L) b → Yo w0 X (D ++ R0) b := by
 intro b hb
 obtain ⟨i, c, hc, hi, hcb⟩ := gn_fp hb
 refine ⟨h.own c (List.mem_of_getElem? hc) b hcb, ?_⟩
 rintro ⟨d, hd, hdb⟩
 rcases List.mem_append.1 hd with hd | hd
 ·rw [← h1] at hd
  obtain ⟨o, ho, e⟩ := mem_pickL hd
  refine h.apart_at hc e (fun e' => ?_) hcb hdb
  rw [← e'] at ho
  have : ox.contains i = true := by simpa using ho
  rw [this] at hi; cases hi
 rw [← h2] at hd
 exact h.away d (List.mem_of_mem_take hd) c (List.mem_of_getElem? hc) b hdb hcb
theorem Chg.wr (hY : Chg Y wb w) {Z : Nat → Prop} (hs : ∀ b, Z b → Y b) (h : Chg Z w w') : Chg Y wb w' := hY.trans (h.mono fun b _ hb => hs b hb)
theorem St.cellsR {i b : Nat} {cs : List Value} {T : TypeId} (h : St w0 X w L R) (hi : R[i]? = some (box b cs T)) : CA w ⟨b, 0, none⟩ cs := (h.rToRoP hi).ca (i := i) (by rw [List.getElem?_set_self (List.getElem?_eq_some_iff.1 hi).1])
theorem St.rdR {α : Type} {C : Cd α} {A : Option Addr} {c T i : Nat} {xs : List α} (h : St w0 X w L R) (hi : R[i]? = some (rowC C A c T xs)) : Rd C w A xs := RowAt.rd (h.ro hi)
theorem St.out (h : St w0 X w L R) (ox : List Nat) {M R' : List Chunk} (hm : St w (fpU (gn ox 0 L)) w' M R') : St w0 X w' (mrg ox 0 L M) R := by
 have hxX : ∀ b, fpU (gn ox 0 L) b → w0.heap.size ≤ b ∨ X b := fun b hb => by
   obtain ⟨k, c, hc, _, hcb⟩ := gn_fp hb
   exact h.own c (List.mem_of_getElem? hc) b hcb
 have hat : ∀ (k : Nat) (d : Chunk), (mrg ox 0 L M)[k]? = some d → (ox.contains k = true ∧ L[k]? = some d) ∨ M[k]? = some d := fun k d hk => by
   rcases mrg_at ox L M 0 k d hk with h1 | h1
   · rw [Nat.zero_add] at h1; exact .inl h1
   · exact .inr h1.1
 -- an old part that is only read: away from all that is written
 have hold : ∀ (k : Nat) (c : Chunk), ox.contains k = true → L[k]? = some c → ∀ b, c.fp b → b < w.heap.size ∧ ¬ fpU (gn ox 0 L) b := fun k c hk hc b hb => by
   refine ⟨c.lt (h.at_ hc) b hb, fun hf => ?_⟩
   obtain ⟨j, d, hd, hj, hdb⟩ := gn_fp hf
   refine h.apart_at hc hd (fun e => ?_) hb hdb
   rw [e, hj] at hk; cases hk
 have hnew : ∀ d ∈ M, ∀ b, d.fp b → w.heap.size ≤ b ∨ fpU (gn ox 0 L) b := fun d hd b hb => hm.own d hd b hb
 refine ⟨h.chg.then hm.chg fun b hb0 hx => ?_, fun c hc => ?_, fun c hc b hb => ?_, ?_, fun c hc => ?_, fun c hc d hd b hb hb' => ?_⟩
 ·rcases hxX b hx with h1 | h1
  ·omega
  exact h1
 ·obtain ⟨k, hk⟩ := List.mem_iff_getElem?.1 hc
  rcases hat k c hk with ⟨h1, h2⟩ | h1
  ·exact c.stable (h.at_ h2) fun b hb => hm.chg.block b (hold k c h1 h2 b hb).1 (hold k c h1 h2 b hb).2
  exact hm.at_ h1
 ·obtain ⟨k, hk⟩ := List.mem_iff_getElem?.1 hc
  rcases hat k c hk with ⟨h1, h2⟩ | h1
  ·exact h.own c (List.mem_of_getElem? h2) b hb
  rcases hnew c (List.mem_of_getElem? h1) b hb with h3 | h3
  ·exact .inl (Nat.le_trans h.chg.size h3)
  exact hxX b h3
 ·rw [List.pairwise_iff_getElem]
  intro i j hi hj hij b hb hb'
  have e1 := List.getElem?_eq_getElem hi
  have e2 := List.getElem?_eq_getElem hj
  rcases hat i _ e1 with ⟨h1, h2⟩ | h1
  ·rcases hat j _ e2 with ⟨h3, h4⟩ | h3
   ·exact h.apart_at h2 h4 (by omega) hb hb'
   obtain ⟨g1, g2⟩ := hold i _ h1 h2 b hb
   rcases hnew _ (List.mem_of_getElem? h3) b hb' with h5 | h5
   ·omega
   exact g2 h5
  rcases hat j _ e2 with ⟨h3, h4⟩ | h3
  ·obtain ⟨g1, g2⟩ := hold j _ h3 h4 b hb'
   rcases hnew _ (List.mem_of_getElem? h1) b hb with h5 | h5
   ·omega
   exact g2 h5
  exact hm.apart_at h1 h3 (by omega) hb hb'
 ·refine c.stable (h.reads c hc) fun b hb => hm.chg.block b (c.lt (h.reads c hc) b hb) fun hf => ?_
  obtain ⟨j, d, hd, _, hdb⟩ := gn_fp hf
  exact h.away c hc d (List.mem_of_getElem? hd) b hb hdb
 obtain ⟨k, hk⟩ := List.mem_iff_getElem?.1 hd
 rcases hat k d hk with ⟨h1, h2⟩ | h1
 ·exact h.away c hc d (List.mem_of_getElem? h2) b hb hb'
 rcases hnew d (List.mem_of_getElem? h1) b hb' with h3 | h3
 ·have := c.lt (h.reads c hc) b hb; omega
 obtain ⟨j, e, he, _, heb⟩ := gn_fp h3
 exact h.away c hc e (List.mem_of_getElem? he) b hb heb

def TJ (P : Program) (ops : Array Oper) (bars effs : List Nat) (wb : World) (Y : Nat → Prop) (Q : Exit → Act → World → Prop) (n : Md) (t : Tr) (F : Fm) (w : World) : Prop := ∀ a, Fr n F a → DT P ops bars effs wb Y Q t a w
variable {bars effs : List Nat} {t r : Tr} {i : Nat} {o : Oper}
theorem CJ.drawT {id : Nat} (bars effs : List Nat) (t : Tr) (hm : P.follows .mixedOrders = true) (hok : treeOk ops bars effs t = true) (hS : St w0 X w L R) (ox : List Nat)
 (h : ∀ w', St w0 X w' L R → Chg (Yo w0 X (pickL L ox ++ R)) w' w' → (∀ w2, Chg (Yo w0 X (pickL L ox ++ R)) w' w2 → St w' (Yo w0 X (pickL L ox ++ R)) w2 [] (R ++ pickL L ox)) → TJ P ops bars effs w' (Yo w0 X (pickL L ox ++ R)) Q n t F w') (hnd : nodef n.rd ops = true := by first | rfl | kernel_rfl) : CJ P (.region id ops true) Q n F w := by
 intro a ha
 have h1 := hS.grow (Chg.drew no w)
 exact wp_drawT hm hnd hok (h _ h1 (Chg.refl _ _) (fun w2 hx => h1.view ox hx) a ha)
theorem TJ.nil (h : EJ Q .normal n F w) : TJ P ops bars effs wb Y Q n .fin F w := fun a ha => by rw [DT]; exact h a ha
theorem TJ.br (h : TJ P ops bars effs wb Y Q n t F w) : TJ P ops bars effs wb Y Q n (.br t) F w := fun a ha => by rw [DT]; exact h a ha
theorem TJ.alt (h1 : TJ P ops bars effs wb Y Q n (.one i t) F w) (h2 : TJ P ops bars effs wb Y Q n r F w) : TJ P ops bars effs wb Y Q n (.alt i t r) F w := fun a ha => by
  rw [DT]
  have := h1 a ha
  rw [DT] at this
  exact ⟨this, h2 a ha⟩
theorem TJ.stop : TJ P ops bars effs wb Y Q n .stop F w := fun a ha => by rw [DT]; trivial
theorem TJ.weak {F' : Fm} (hs : sub F' F) (h : TJ P ops bars effs wb Y Q n t F' w) : TJ P ops bars effs wb Y Q n t F w := fun a ha => h a (ha.sub hs)
def isT : ClsT → ClsT → Bool
  | .stable, .stable | .eff, .eff | .bar, .bar => true
  | _, _ => false
theorem isT_eq {a b : ClsT} (h : isT a b = true) : a = b := by cases a <;> cases b <;> first | rfl | simp [isT] at h
theorem TJ.skip {d : Nat} (ho : ops[i]? = some o) (hg : gd ops F o = some false) (hd : o.dst = some d) (hn : Nat.ble (d + 1) n.n = true) (h : TJ P ops bars effs wb Y Q n t ((d, undef) :: F) w) : TJ P ops bars effs wb Y Q n (.one i t) F w := by
 intro a ha
 have hw := gd_wanted hg ha
 rw [DT]
 exact ⟨o, ho, by rw [if_pos hw, hd]; exact h _ (ha.put (Nat.le_of_ble_eq_true hn) _)⟩
theorem TJ.st {v : Value} {d : Nat} (hc0 : Chg Y wb w) (ho : ops[i]? = some o) (hg : gd ops F o = some true) (hd : o.dst = some d) (hn : Nat.ble (d + 1) n.n = true) (hc : isT (clsT bars effs i o) .stable = true) (h : ∀ w', Chg Y wb w' → SR P F w' o v) (k : TJ P ops bars effs wb Y Q n t ((d, v) :: F) w) : TJ P ops bars effs wb Y Q n (.one i t) F w := by
 intro a ha
 have hw := gd_wanted hg ha
 rw [DT]
 refine ⟨o, ho, ?_⟩
 rw [if_neg (by rw [hw]; simp), isT_eq hc]
 have hr : ∀ w', Chg Y wb w' → (execOp a.eval o).run P w' = .ok (.value v) w' := fun w' hx => h w' hx w' (Chg.refl _ _) a.eval fun x u hx => ha.ev hx
 refine ⟨v, hr w hc0, hr, ?_⟩
 rw [hd]
 exact k _ (ha.put (Nat.le_of_ble_eq_true hn) _)
theorem TJ.sp {v : Value} {d : Nat} (ho : ops[i]? = some o) (hg : gd ops F o = some true) (hd : o.dst = some d) (hn : Nat.ble (d + 1) n.n = true) (hc : isT (clsT bars effs i o) .stable = true) (h : ∀ w', SR P F w' o v) (k : TJ P ops bars effs wb Y Q n t ((d, v) :: F) w) : TJ P ops bars effs wb Y Q n (.one i t) F w := by
 intro a ha
 have hw := gd_wanted hg ha
 rw [DT]
 refine ⟨o, ho, ?_⟩
 rw [if_neg (by rw [hw]; simp), isT_eq hc]
 have hr : ∀ w', (execOp a.eval o).run P w' = .ok (.value v) w' := fun w' => h w' w' (Chg.refl _ _) a.eval fun x u hx => ha.ev hx
 refine ⟨v, hr w, fun w' _ => hr w', ?_⟩
 rw [hd]
 exact k _ (ha.put (Nat.le_of_ble_eq_true hn) _)
theorem extY (hc0 : Chg Y wb w) (hx : Ext w w') : Chg Y wb w' := hc0.trans (hx.mono fun _ _ e => e.elim)
theorem TJ.ef {R : Value → World → Prop} {d : Nat} (hc0 : Chg Y wb w) (ho : ops[i]? = some o) (hg : gd ops F o = some true) (hd : o.dst = some d) (hn : Nat.ble (d + 1) n.n = true) (hc : isT (clsT bars effs i o) .eff = true) (h : Ef P F w o R) (k : ∀ v w', Chg Y wb w' → R v w' → TJ P ops bars effs wb Y Q n t ((d, v) :: F) w') : TJ P ops bars effs wb Y Q n (.one i t) F w := by
 intro a ha
 have hw := gd_wanted hg ha
 obtain ⟨v, w', hr, hx, hR⟩ := h
 rw [DT]
 refine ⟨o, ho, ?_⟩
 rw [if_neg (by rw [hw]; simp), isT_eq hc]
 refine .inl ⟨v, w', hr _ (fun x u hx => ha.ev hx), extY hc0 hx, ?_⟩
 rw [hd]
 exact k v w' (extY hc0 hx) hR _ (ha.put (Nat.le_of_ble_eq_true hn) _)
theorem TJ.ew {R : Value → World → Prop} {d : Nat} (ho : ops[i]? = some o) (hg : gd ops F o = some true) (hd : o.dst = some d) (hn : Nat.ble (d + 1) n.n = true) (hc : isT (clsT bars effs i o) .eff = true) (h : Ew P F w o R) (hx : ∀ v w', R v w' → Chg Y wb w') (k : ∀ v w', Chg Y wb w' → R v w' → TJ P ops bars effs wb Y Q n t ((d, v) :: F) w') : TJ P ops bars effs wb Y Q n (.one i t) F w := by
 intro a ha
 have hw := gd_wanted hg ha
 obtain ⟨v, w', hr, hR⟩ := h
 rw [DT]
 refine ⟨o, ho, ?_⟩
 rw [if_neg (by rw [hw]; simp), isT_eq hc]
 refine .inl ⟨v, w', hr _ (fun x u hx => ha.ev hx), hx v w' hR, ?_⟩
 rw [hd]
 exact k v w' (hx v w' hR) hR _ (ha.put (Nat.le_of_ble_eq_true hn) _)
theorem TJ.es {R : World → Prop} (ho : ops[i]? = some o) (hg : gd ops F o = some true) (hd : o.dst = none) (hc : isT (clsT bars effs i o) .eff = true) (h : Es P F w o R) (hx : ∀ w', R w' → Chg Y wb w') (k : ∀ w', Chg Y wb w' → R w' → TJ P ops bars effs wb Y Q n t F w') : TJ P ops bars effs wb Y Q n (.one i t) F w := by
 intro a ha
 have hw := gd_wanted hg ha
 obtain ⟨w', hr, hR⟩ := h
 rw [DT]
 refine ⟨o, ho, ?_⟩
 rw [if_neg (by rw [hw]; simp), isT_eq hc]
 refine .inr (.inr ⟨w', hr _ (fun x u hx => ha.ev hx), hd, hx w' hR, ?_⟩)
 rw [hd]
 exact k w' (hx w' hR) hR _ ha
theorem TJ.call {c : Call} {d : Nat} {fv : Operand} {f : FuncId} {first cap : Array Value} {vs : List Value} (hc0 : Chg Y wb w) (ho : ops[i]? = some o) (hg : gd ops F o = some true) (hd : o.dst = some d) (hn : Nat.ble (d + 1) n.n = true) (hc : isT (clsT bars effs i o) .eff = true) (hop : o.op = .call c) (hcl : c.callee = .value fv)
 (hf : evO F fv = some (.func (.func f) first cap)) (hb : hasBody P f) (hargs : allV (c.args.toList.map (evO F)) = some vs) {R : Value → World → Prop} (hcall : CV P f (first ++ vs.toArray ++ cap) w R)
 (hx : ∀ v w', R v w' → Ext w w') (h : ∀ v w', Chg Y wb w' → R v w' → TJ P ops bars effs wb Y Q n t ((d, v) :: F) w') : TJ P ops bars effs wb Y Q n (.one i t) F w := by
 intro a ha
 have hw := gd_wanted hg ha
 rw [DT]
 refine ⟨o, ho, ?_⟩
 rw [if_neg (by rw [hw]; simp), isT_eq hc]
 refine .inr (.inl ⟨f, _, run_enter hop hcl hf hb hargs a.eval (fun x u hx => ha.ev hx) w, hcall.mono fun v w' hR => ⟨extY hc0 (hx v w' hR), ?_⟩⟩)
 rw [hd]
 exact h v w' (extY hc0 (hx v w' hR)) hR _ (ha.put (Nat.le_of_ble_eq_true hn) _)
theorem TJ.callF {c : Call} {d : Nat} {f : FuncId} {vs : List Value} (hc0 : Chg Y wb w) (ho : ops[i]? = some o) (hg : gd ops F o = some true) (hd : o.dst = some d) (hn : Nat.ble (d + 1) n.n = true) (hc : isT (clsT bars effs i o) .eff = true) (hop : o.op = .call c) (hcl : c.callee = .value (.func f))
 (hb : hasBody P f) (hargs : allV (c.args.toList.map (evO F)) = some vs) {R : Value → World → Prop} (hcall : CV P f vs.toArray w R) (hx : ∀ v w', R v w' → Ext w w') (h : ∀ v w', Chg Y wb w' → R v w' → TJ P ops bars effs wb Y Q n t ((d, v) :: F) w') : TJ P ops bars effs wb Y Q n (.one i t) F w :=
  TJ.call hc0 ho hg hd hn hc hop hcl rfl hb hargs (by simpa using hcall) hx h
theorem TJ.callFw {c : Call} {d : Nat} {f : FuncId} {vs : List Value} (ho : ops[i]? = some o) (hg : gd ops F o = some true) (hd : o.dst = some d) (hn : Nat.ble (d + 1) n.n = true) (hc : isT (clsT bars effs i o) .eff = true) (hop : o.op = .call c) (hcl : c.callee = .value (.func f))
 (hb : hasBody P f) (hargs : allV (c.args.toList.map (evO F)) = some vs) {R : Value → World → Prop} (hcall : CV P f vs.toArray w R) (hx : ∀ v w', R v w' → Chg Y wb w') (h : ∀ v w', Chg Y wb w' → R v w' → TJ P ops bars effs wb Y Q n t ((d, v) :: F) w') : TJ P ops bars effs wb Y Q n (.one i t) F w := by
 intro a ha
 have hw := gd_wanted hg ha
 rw [DT]
 refine ⟨o, ho, ?_⟩
 rw [if_neg (by rw [hw]; simp), isT_eq hc]
 refine .inr (.inl ⟨f, _, run_enter (first := #[]) (cap := #[]) hop hcl rfl hb hargs a.eval (fun x u hx => ha.ev hx) w, (by simpa using hcall : CV P f (#[] ++ vs.toArray ++ #[]) w R).mono fun v w' hR => ⟨hx v w' hR, ?_⟩⟩)
 rw [hd]
 exact h v w' (hx v w' hR) hR _ (ha.put (Nat.le_of_ble_eq_true hn) _)
theorem St.inP (h : St w0 X w L R) (ox : List Nat) {D R0 : List Chunk} (k : Nat) (h1 : pickL L ox = D) (h2 : R.take k = R0) (ix : List Nat) (hix : ix.all (fun i => !ox.contains i) = true) : ∀ b, fpU (pickL L ix) b → Yo w0 X (D ++ R0) b := by
 rintro b ⟨c, hc, hcb⟩
 obtain ⟨i, hi, e⟩ := mem_pickL hc
 refine h.inY ox k h1 h2 b ?_
 have hno : ox.contains i = false := by
   have := List.all_eq_true.1 hix i hi
   simpa using this
 -- the part stands among those that may be written
 have key : ∀ (L : List Chunk) (s j : Nat), L[j]? = some c → ox.contains (s + j) = false → (gn ox s L)[j]? = some c := by
   intro L
   induction L with
   | nil => intro s j h; simp at h
   | cons d L ih =>
     intro s j h hn
     cases j with
     | zero =>
       rw [List.getElem?_cons_zero] at h
       rw [Nat.add_zero] at hn
       rw [gn, List.getElem?_cons_zero, hn]; exact h
     | succ j =>
       rw [List.getElem?_cons_succ] at h
       rw [gn, List.getElem?_cons_succ]
       exact ih (s + 1) j h (by rw [show s + 1 + j = s + (j + 1) by omega]; exact hn)
 exact ⟨c, List.mem_of_getElem? (key L 0 i e (by rw [Nat.zero_add]; exact hno)), hcb⟩
theorem TJ.as {u v : Value} {tt : Tr} {t : Nat} (hv : lk F t = some v) (e : v = u) (h : TJ P ops bars effs wb Y Q n tt ((t, u) :: F) w) : TJ P ops bars effs wb Y Q n tt F w := fun a ha => h a (ha.as hv e)
def stepQ (U : List (Nat × TypeDesc)) (ops : Array Oper) (bars effs : List Nat) (n : Nat) (F : Fm) (i : Nat) : Option Fm :=
  match ops[i]? with
  | none => none
  | some o => match gd ops F o, o.dst with
    | some true, some d => match Nat.ble (d + 1) n && isT (clsT bars effs i o) .stable, pv U F o.op with
      | true, some v => some ((d, v) :: F)
      | _, _ => none
    | some false, some d => match Nat.ble (d + 1) n with
      | true => some ((d, undef) :: F)
      | false => none
    | _, _ => none
def runT (U : List (Nat × TypeDesc)) (ops : Array Oper) (bars effs : List Nat) (n : Nat) : Nat → Tr → Fm → Option (Tr × Fm)
  | 0, t, F => some (t, F)
  | k + 1, .one o t, F => match stepQ U ops bars effs n F o with
    | some F' => runT U ops bars effs n k t F'
    | none => none
  | _ + 1, _, _ => none
theorem stepQ_sound {U : List (Nat × TypeDesc)} (hU : okU P U) {F' : Fm} (h : stepQ U ops bars effs n.n F i = some F') (hk : TJ P ops bars effs wb Y Q n t F' w) : TJ P ops bars effs wb Y Q n (.one i t) F w := by
 unfold stepQ at h
 split at h
 ·simp at h
 rename_i o ho
 split at h
 ·rename_i d hg hd
  split at h
  ·rename_i v hn hv
   rw [Bool.and_eq_true] at hn
   obtain rfl := Option.some.inj h
   exact TJ.sp ho hg hd hn.1 hn.2 (fun w' => SR.pv hU hv) hk
  simp at h
 ·rename_i d hg hd
  split at h
  ·rename_i hn
   obtain rfl := Option.some.inj h
   exact TJ.skip ho hg hd hn hk
  simp at h
 simp at h
theorem TJ.pures {U : List (Nat × TypeDesc)} (hU : okU P U) : ∀ (k : Nat) {t t' : Tr} {F F' : Fm}, runT U ops bars effs n.n k t F = some (t', F') → TJ P ops bars effs wb Y Q n t' F' w → TJ P ops bars effs wb Y Q n t F w
  | 0, t, t', F, F', h, hk => by
    simp only [runT, Option.some.injEq, Prod.mk.injEq] at h
    obtain ⟨rfl, rfl⟩ := h
    exact hk
  | k + 1, .one o t, t', F, F', h, hk => by
    simp only [runT] at h
    cases hs : stepQ U ops bars effs n.n F o with
    | none => rw [hs] at h; simp at h
    | some F1 =>
      rw [hs] at h
      exact stepQ_sound hU hs (TJ.pures hU k h hk)
  | k + 1, .fin, t', F, F', h, hk => by simp [runT] at h
  | k + 1, .br _, t', F, F', h, hk => by simp [runT] at h
  | k + 1, .alt _ _ _, t', F, F', h, hk => by simp [runT] at h
  | k + 1, .stop, t', F, F', h, hk => by simp [runT] at h
end G
end Go.Proofs.YtegibnmfiogebaaGreatDoor
