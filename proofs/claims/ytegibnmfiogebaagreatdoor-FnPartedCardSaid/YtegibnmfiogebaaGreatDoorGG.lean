/-
  Step lemmas for walks whose frame is told as a list of slots. Part G: what a plain function's answer says; shifts, quotients; guards that part the walk.
-/
import Derived.Test.YtegibnmfiogebaaGreatDoorGF
namespace Go.Proofs.YtegibnmfiogebaaGreatDoor
namespace G
set_option linter.unusedVariables false
set_option linter.unusedSimpArgs false
variable {P : Program} {ops : Array Oper} {Q : Exit → Act → World → Prop} {n : Md} {l : List Oper} {o : Oper} {F : Fm} {w w' w0 : World} {X : Nat → Prop} {L R : List Chunk} {α : Type} {C : Cd α}

theorem pbind {β γ : Type} {x : Option β} {f : β → Option γ} {r : γ} (h : x.bind f = some r) : ∃ t, x = some t ∧ f t = some r := Option.bind_eq_some_iff.1 h
theorem pif_t {γ : Type} {c : Prop} [Decidable c] {x y : Option γ} {r : γ} (hc : c) (h : (if c then x else y) = some r) : x = some r := by rwa [if_pos hc] at h
theorem pif_f {γ : Type} {c : Prop} [Decidable c] {x y : Option γ} {r : γ} (hc : ¬ c) (h : (if c then x else y) = some r) : y = some r := by rwa [if_neg hc] at h
theorem pifb_f {γ : Type} {b : Bool} {x y : Option γ} {r : γ} (hc : b = false) (h : (if b = true then x else y) = some r) : y = some r := by subst hc; exact h
def chk (c : Prop) [Decidable c] : Option Unit := if c then some () else none
theorem chk_some {c : Prop} [Decidable c] {u : Unit} (h : chk c = some u) : c := by
 unfold chk at h
 split at h
 ·assumption
 simp at h

theorem OJ.split {t : Nat} {b : Bool} (hv : lk F t = some (.bool b)) (ht : b = true → OJ P ops Q n l ((t, .bool true) :: F) w) (hf : b = false → OJ P ops Q n l ((t, .bool false) :: F) w) : OJ P ops Q n l F w := by
  cases hb : b with
  | true => exact OJ.as hv (by rw [hb]) (ht hb)
  | false => exact OJ.as hv (by rw [hb]) (hf hb)
theorem DJ.split {bars : List Nat} {l : List Nat} {t : Nat} {b : Bool} (hv : lk F t = some (.bool b)) (ht : b = true → DJ P ops bars Q n l ((t, .bool true) :: F) w) (hf : b = false → DJ P ops bars Q n l ((t, .bool false) :: F) w) : DJ P ops bars Q n l F w := by
  cases hb : b with
  | true => exact DJ.as hv (by rw [hb]) (ht hb)
  | false => exact DJ.as hv (by rw [hb]) (hf hb)

def shlI (k : IntKind) (x y : Int) : Int := k.wrap (x * 2 ^ (min y.toNat k.bits))
def shrI (k : IntKind) (x y : Int) : Int := x.fdiv (2 ^ (min y.toNat k.bits))
theorem SR.shl {t yt : Nat} {x y : Operand} {k k' : IntKind} {a b : Int} (ho : o.op = .binOp .shl t x y yt) (hx : evO F x = some (.int k a)) (hy : evO F y = some (.int k' b)) (hb : 0 ≤ b) : SR P F w o (.int k (shlI k a b)) := by
 intro w' hx' ρ hρ
 have : ¬ b < 0 := by omega
 unfold execOp
 simp [ho, hρ _ _ hx, hρ _ _ hy, eqGuard, binOp, Op.shift, this, shlI]
theorem SR.shr {t yt : Nat} {x y : Operand} {k k' : IntKind} {a b : Int} (ho : o.op = .binOp .shr t x y yt) (hx : evO F x = some (.int k a)) (hy : evO F y = some (.int k' b)) (hb : 0 ≤ b) : SR P F w o (.int k (shrI k a b)) := by
 intro w' hx' ρ hρ
 have : ¬ b < 0 := by omega
 unfold execOp
 simp [ho, hρ _ _ hx, hρ _ _ hy, eqGuard, binOp, Op.shift, this, shrI]
theorem SR.rem {t yt : Nat} {x y : Operand} {k : IntKind} {a b : Int} (ho : o.op = .binOp .rem t x y yt) (hx : evO F x = some (.int k a)) (hy : evO F y = some (.int k b)) (hb : b ≠ 0) : SR P F w o (.int k (a.tmod b)) := by
 intro w' hx' ρ hρ
 unfold execOp
 simp [ho, hρ _ _ hx, hρ _ _ hy, eqGuard, binOp, Op.intDiv, hb]

def EqT (P : Program) (T : TypeId) (C : Cd α) (v : α → Value) [DecidableEq α] : Prop := ∀ (d : Nat) (x y : α) (w : World), (Op.equalIn (d + 20) T (v x) (v y)).run P w = .ok (decide (x = y)) w
theorem SR.eqB {U : List (Nat × TypeDesc)} (hU : okU P U) {t yt : Nat} {x y : Operand} {a b : Bool} (ho : o.op = .binOp .eql t x y yt) (ht : lkT U t = some .bool) (hx : evO F x = some (.bool a)) (hy : evO F y = some (.bool b)) : SR P F w o (.bool (decide (a = b))) := by
 intro w' hx' ρ hρ
 have := run_equalIn_bool' (P := P) w' 9999 t a b (hU.at_ ht)
 unfold execOp
 simp [ho, hρ _ _ hx, hρ _ _ hy, eqGuard, binOp, Op.equal, Op.maxDepth, this]
 cases a <;> cases b <;> rfl
theorem SR.neB {U : List (Nat × TypeDesc)} (hU : okU P U) {t yt : Nat} {x y : Operand} {a b : Bool} (ho : o.op = .binOp .neq t x y yt) (ht : lkT U t = some .bool) (hx : evO F x = some (.bool a)) (hy : evO F y = some (.bool b)) : SR P F w o (.bool (decide (a ≠ b))) := by
 intro w' hx' ρ hρ
 have := run_equalIn_bool' (P := P) w' 9999 t a b (hU.at_ ht)
 unfold execOp
 simp [ho, hρ _ _ hx, hρ _ _ hy, eqGuard, binOp, Op.equal, Op.maxDepth, this]
 cases a <;> cases b <;> rfl
theorem SR.eqS [DecidableEq α] {t yt : Nat} {x y : Operand} {a b : α} {xs ys : Array Value} (he : EqT P t C fun z => .agg (C.enc z).toArray) (hm : P.eqGuardType P.depth t = false) (ho : o.op = .binOp .eql t x y yt) (hx : evO F x = some (.agg xs)) (hy : evO F y = some (.agg ys)) (hxs : xs = (C.enc a).toArray) (hys : ys = (C.enc b).toArray) : SR P F w o (.bool (decide (a = b))) := by
 subst hxs hys
 intro w' hx' ρ hρ
 have h1 := he 9980 a b w'
 unfold execOp
 simp only [ho, hρ _ _ hx, hρ _ _ hy, Sem.run_bind, run_eqGuard_agg (P := P) w' .eql t x y _ _ hm, Result.andThen_ok, run_eql_struct, h1, Sem.run_pure]
theorem SR.neS [DecidableEq α] {t yt : Nat} {x y : Operand} {a b : α} {xs ys : Array Value} (he : EqT P t C fun z => .agg (C.enc z).toArray) (hm : P.eqGuardType P.depth t = false) (ho : o.op = .binOp .neq t x y yt) (hx : evO F x = some (.agg xs)) (hy : evO F y = some (.agg ys)) (hxs : xs = (C.enc a).toArray) (hys : ys = (C.enc b).toArray) : SR P F w o (.bool (decide (a ≠ b))) := by
 subst hxs hys
 intro w' hx' ρ hρ
 have h1 := he 9980 a b w'
 unfold execOp
 simp only [ho, hρ _ _ hx, hρ _ _ hy, Sem.run_bind, run_eqGuard_agg (P := P) w' .neq t x y _ _ hm, Result.andThen_ok, run_neq_struct, h1, Sem.run_pure]
 simp

theorem Rd.at_ {A : Option Addr} {xs : List α} (h : Rd C w A xs) {ad : Addr} (hA : A = some ad) {i : Int} {x : α} (hi : getI xs i = some x) : CA w (ad.add (i.toNat * C.sz)) (C.enc x) := by
 have := ((h.cells ad hA).sub (i.toNat * C.sz)).take C.sz
 rwa [flat_elem C (getI_some hi).2] at this
theorem Rd.some' {A : Option Addr} {xs : List α} (h : Rd C w A xs) {i : Int} {x : α} (hi : getI xs i = some x) : ∃ ad, A = some ad := by
 have := getI_some hi
 exact h.some_ (by omega)
theorem ldE {U : List (Nat × TypeDesc)} (hU : okU P U) {UI : List (Nat × TI)} (hI : okI P UI) {T : TypeId} {d : TypeDesc} (hT : lkT U T = some d) (hd : isAggD d = true) {ti : TI} (hTi : lkT UI T = some ti) {ad : Addr} {x : α} (hc : CA w ad (C.enc x)) (hs : C.sz = ti.size) : (loadVar T ad).run P w = .ok (.agg (C.enc x).toArray) w :=
  ldN hU hI hT hd hTi hc (by rw [C.len, hs]) (List.take_of_length_le (by rw [C.len, hs]; exact Nat.le_refl _))

def fillL (pl : Nat → Option (Nat × Nat)) (cs : List Value) : List (Nat × Value) → Option (List Value)
  | [] => some cs
  | (i, v) :: r => match pl i with
    | none => none
    | some (off, sz) => match Nat.beq v.cells.toList.length sz && Nat.ble (off + v.cells.toList.length) cs.length with
      | true => fillL pl (cs.take off ++ v.cells.toList ++ cs.drop (off + v.cells.toList.length)) r
      | false => none
theorem fillL_fill (pl : Nat → Option (Nat × Nat)) : ∀ (ps : List (Nat × Value)) (cs out : List Value), fillL pl cs ps = some out → Instr.fill pl cs.toArray ps = some out.toArray
  | [], cs, out, h => by simp [fillL] at h; subst h; rfl
  | (i, v) :: r, cs, out, h => by
    simp only [fillL] at h
    cases hp : pl i with
    | none => rw [hp] at h; simp at h
    | some os =>
      obtain ⟨off, sz⟩ := os
      rw [hp] at h
      simp only at h
      split at h
      · rename_i hb
        rw [Bool.and_eq_true] at hb
        have h1 := Nat.eq_of_beq_eq_true hb.1
        have h2 := Nat.le_of_ble_eq_true hb.2
        have ih := fillL_fill pl r _ _ h
        simp only [Instr.fill, hp]
        have hif : ¬ ((v.cells.size ≠ sz || off + v.cells.size > cs.toArray.size) = true) := by
          rw [Array.length_toList] at h1 h2
          simp only [h1, ne_eq, not_true_eq_false, decide_false, Bool.false_or, decide_eq_true_eq, List.size_toArray]
          omega
        rw [if_neg hif, ← ih]
        congr 1
        apply Array.ext'
        have := foldl_set v.cells.toList off 0 cs.toArray (by simpa using h2)
        rw [Nat.add_zero] at this
        rw [← Array.foldl_toList, Array.toList_zipIdx, this]
      · simp at h
def plsOf (UI : List (Nat × TI)) : List Field → Option (List (Nat × Nat))
  | [] => some []
  | f :: r => match lkT UI f.type, plsOf UI r with
    | some ti, some l => some ((f.offset, ti.size) :: l)
    | _, _ => none
theorem plsOf_run {UI : List (Nat × TI)} (hI : okI P UI) : ∀ (fs : List Field) (l : List (Nat × Nat)), plsOf UI fs = some l → ∀ w, (fs.mapM fun f => (do pure (f.offset, ← sizeOf f.type) : Sem (Nat × Nat))).run P w = .ok l w
  | [], l, h, w => by simp [plsOf] at h; subst h; simp
  | f :: r, l, h, w => by
    simp only [plsOf] at h
    split at h
    · rename_i ti l' ht hl
      obtain rfl := Option.some.inj h
      have ih := plsOf_run hI r l' hl w
      rw [List.mapM_cons]
      simp only [Sem.run_bind, run_elem hI ht, Result.andThen_ok, Sem.run_pure, ih]
    · simp at h
theorem SR.build' {U : List (Nat × TypeDesc)} (hU : okU P U) {UI : List (Nat × TI)} (hI : okI P UI) {T : Nat} {fs : Array Field} {ti : TI} {ps : Array (Nat × Operand)} {pls : List (Nat × Nat)} {vs : List Value} {zs : List Value} (ho : o.op = .build T ps) (hT : lkT U T = some (.struct fs)) (hti : lkT UI T = some ti)
 (hz : ti.zero.cells = zs.toArray) (hpl : plsOf UI fs.toList = some pls) (hvs : allV (ps.toList.map fun p => evO F p.2) = some vs) (out : List Value) (hfill : fillL (fun i => pls[i]?) zs ((ps.toList.map (·.1)).zip vs) = some out) : SR P F w o (.agg out.toArray) := by
 intro w' hx' ρ hρ
 obtain ⟨i, hi, hiz, hs, hby⟩ := hI.at_ hti
 have hf := fillL_fill _ _ _ _ hfill
 have hp := plsOf_run (P := P) hI _ _ hpl w'
 have e1 : ps.toList.map (fun p => ρ p.2) = vs := by
   have := allV_map hρ (ps.toList.map (·.2)) (l := vs) (by rw [List.map_map]; exact hvs)
   rw [← this, List.map_map]; rfl
 have e2 : (ps.map fun p => (p.1, ρ p.2)).toList = (ps.toList.map (·.1)).zip vs := by rw [Array.toList_map, ← e1, List.zip_map']
 have e3 : ∀ (g : Field → Sem (Nat × Nat)), (fs.mapM g).run P w' = ((fs.toList.mapM g).run P w').andThen fun l w => .ok l.toArray w := fun g => by
   rw [← Array.toArray_toList (xs := fs), List.mapM_toArray]
   simp only [Sem.run_map, Array.toArray_toList]
 unfold execOp
 simp only [ho, Instr.build, Sem.run_bind, zeroValue, typeInfo, run_program, Result.andThen_ok, hi, Sem.run_pure, hiz, run_underlying (hU.at_ hT), e3]
 simp only [hp, Result.andThen_ok, hz, e2]
 have : (fun i : Nat => pls.toArray[i]?) = fun i => pls[i]? := by funext i; simp
 rw [this, hf]
 rfl

theorem SR.build {U : List (Nat × TypeDesc)} (hU : okU P U) {UI : List (Nat × TI)} (hI : okI P UI) {T : Nat} {fs : Array Field} {ti : TI} {ps : Array (Nat × Operand)} {pls : List (Nat × Nat)} {vs : List Value} {zs : List Value} (ho : o.op = .build T ps) (hT : lkT U T = some (.struct fs)) (hti : lkT UI T = some ti)
 (hz : ti.zero.cells = zs.toArray) (hpl : plsOf UI fs.toList = some pls) (hvs : allV (ps.toList.map fun p => evO F p.2) = some vs) (x : α) (hfill : fillL (fun i => pls[i]?) zs ((ps.toList.map (·.1)).zip vs) = some (C.enc x)) : SR P F w o (.agg (C.enc x).toArray) :=
  SR.build' hU hI ho hT hti hz hpl hvs (C.enc x) hfill

theorem OJ.callF {c : Call} {d : Nat} {f : FuncId} {vs : List Value} (hg : gd ops F o = some true) (hd : o.dst = some d) (hn : Nat.ble (d + 1) n.n = true) (ho : o.op = .call c) (hc : c.callee = .value (.func f))
 (hb : hasBody P f) (hargs : allV (c.args.toList.map (evO F)) = some vs) {R : Value → World → Prop} (hcall : CV P f vs.toArray w R) (h : ∀ v w', R v w' → OJ P ops Q n l ((d, v) :: F) w') : OJ P ops Q n (o :: l) F w :=
  OJ.call hg hd (Nat.le_of_ble_eq_true hn) ho hc rfl hb hargs (by simpa using hcall) h
theorem DJ.callF {bars : List Nat} {l : List Nat} {i : Nat} {c : Call} {d : Nat} {f : FuncId} {vs : List Value} (ho : ops[i]? = some o) (hg : gd ops F o = some true) (hd : o.dst = some d) (hn : Nat.ble (d + 1) n.n = true) (hc : isC (cls bars i o) .effect = true) (hop : o.op = .call c) (hcl : c.callee = .value (.func f))
 (hb : hasBody P f) (hargs : allV (c.args.toList.map (evO F)) = some vs) {R : Value → World → Prop} (hcall : CV P f vs.toArray w R) (hx : ∀ v w', R v w' → Ext w w') (h : ∀ v w', R v w' → DJ P ops bars Q n l ((d, v) :: F) w') : DJ P ops bars Q n (i :: l) F w :=
  DJ.call ho hg hd hn hc hop hcl rfl hb hargs (by simpa using hcall) hx h
theorem DJ.callFw {bars : List Nat} {l : List Nat} {i : Nat} {c : Call} {d : Nat} {f : FuncId} {vs : List Value} (ho : ops[i]? = some o) (hg : gd ops F o = some true) (hd : o.dst = some d) (hn : Nat.ble (d + 1) n.n = true) (hc : isC (cls bars i o) .bar = true) (hop : o.op = .call c) (hcl : c.callee = .value (.func f))
 (hb : hasBody P f) (hargs : allV (c.args.toList.map (evO F)) = some vs) {R : Value → World → Prop} (hcall : CV P f vs.toArray w R) (h : ∀ v w', R v w' → DJ P ops bars Q n l ((d, v) :: F) w') : DJ P ops bars Q n (i :: l) F w :=
  DJ.callw ho hg hd hn hc hop hcl rfl hb hargs (by simpa using hcall) h
theorem CV.cast {f : FuncId} {args args' : Array Value} {R : Value → World → Prop} (h : CV P f args w R) (e : args = args') : CV P f args' w R := e ▸ h

theorem ad1 (b i : Nat) : (⟨b, 0, none⟩ : Addr).add i = ⟨b, i, none⟩ := by rw [add_lit, Nat.zero_add]
theorem ad2 (b i j : Nat) : ((⟨b, 0, none⟩ : Addr).add i).add j = ⟨b, i + j, none⟩ := by rw [add_lit, add_lit, Nat.zero_add]
theorem ad3 (b i j k : Nat) : (((⟨b, 0, none⟩ : Addr).add i).add j).add k = ⟨b, i + j + k, none⟩ := by rw [add_lit, add_lit, add_lit, Nat.zero_add]
theorem one1 {v : Value} (h : v.oneCell' = true) : ∀ u ∈ [v], u.oneCell' = true := fun u hu => by obtain rfl := List.mem_singleton.1 hu; exact h

structure Arr (n : Nat) (α : Type) where
  l : List α
  len : l.length = n
deriving DecidableEq
def Arr.mk' {n : Nat} (z : α) : Arr n α := ⟨List.replicate n z, List.length_replicate⟩
def aset {n : Nat} (a : Arr n α) (i : Nat) (x : α) : Arr n α := ⟨a.l.set i x, by rw [List.length_set]; exact a.len⟩
def ca (n : Nat) (k : IntKind) : Cd (Arr n Int) := ⟨n, fun a => a.l.map (.int k), fun a => by rw [List.length_map]; exact a.len, fun a u hu => by obtain ⟨x, _, rfl⟩ := List.mem_map.1 hu; rfl⟩
theorem mid_take {β : Type} {l a b c : List β} (h : l = a ++ (b ++ c)) : (l.drop a.length).take b.length = b := by
 subst h
 rw [List.drop_append_of_le_length (Nat.le_refl _), List.drop_length, List.nil_append, List.take_append_of_le_length (Nat.le_refl _), List.take_of_length_le (Nat.le_refl _)]

end G
end Go.Proofs.YtegibnmfiogebaaGreatDoor
