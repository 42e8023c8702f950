/-
  Short forms of the step lemmas for this seat's walks: what is always found by computation is found by itself.
-/
import Derived.Test.YtegibnmfiogebaaGreatDoorGT
namespace Go.Proofs.YtegibnmfiogebaaGreatDoor
open G
set_option linter.unusedVariables false
abbrev pt (b : Nat) : Value := .pointer (some ⟨b, 0, none⟩)
abbrev sl {α : Type} (A : Option Addr) (xs : List α) (c : Nat) : Value := .slice A xs.length c
abbrev i6 (x : Int) : Value := .int .i64 x
theorem Z {α : Sort _} {a : α} : a = a := rfl
section
variable {ops : Array Oper} {Q : Exit → Act → World → Prop} {n : Md} {l : List Oper} {o : Oper} {F F' : Fm} {w w' w0 : World} {X : Nat → Prop} {L R : List Chunk} {bars effs : List Nat} {i : Nat} {li : List Nat} {wb : World} {Y : Nat → Prop} {t : Tr} {α β γ : Type} {d : Nat} {v : Value}
theorem PU (k : Nat) {l' : List Oper} (h : OJ Tryz.prog ops Q n l' F' w) (e : G.runP tU ops n.n k l F = some (l', F') := by exact rfl) : OJ Tryz.prog ops Q n l F w := OJ.pures tU_ok k e h
theorem PX {y : Code} (k : Nat) (h : CJ Tryz.prog y Q n F' w) (e : G.runP tU ops n.n k l F = some ([], F') := by exact rfl) : OJ Tryz.prog ops (Exit.then (wpR n.rd Tryz.prog y Q) Q) n l F w := OJ.pures tU_ok k e (OJ.nil h)
theorem NX {y : Code} (h : CJ Tryz.prog y Q n F w) : OJ Tryz.prog ops (Exit.then (wpR n.rd Tryz.prog y Q) Q) n [] F w := OJ.nil h
theorem SG {id : Nat} {l : List Oper} {y : Code} (h : OJ Tryz.prog l.toArray (Exit.then (wpR n.rd Tryz.prog y Q) Q) n l F w) : CJ Tryz.prog (.seq (.region id l.toArray false) y) Q n F w := CJ.seq (CJ.region h)
theorem DPU (k : Nat) {l' : List Nat} (h : DJ Tryz.prog ops bars Q n l' F' w) (e : G.runD tU ops bars n.n k li F = some (l', F') := by exact rfl) : DJ Tryz.prog ops bars Q n li F w := DJ.pures tU_ok k e h
theorem TPU (k : Nat) {t' : Tr} (h : TJ Tryz.prog ops bars effs wb Y Q n t' F' w) (e : G.runT tU ops bars effs n.n k t F = some (t', F') := by exact rfl) : TJ Tryz.prog ops bars effs wb Y Q n t F w := TJ.pures tU_ok k e h
theorem MT {I : Fm → World → Prop} (h : I F' w) (hs : sub F' F := by repeat (first | exact trivial | refine ⟨rfl, ?_⟩)) : EJ (Exit.then (fun a w => ∃ F, Fr n F a ∧ I F w) Q) .normal n F w := EJ.meet hs h
theorem RD {I : Nat → Fm → World → Prop} {k : Nat} (h : I k F' w) (hs : sub F' F := by repeat (first | exact trivial | refine ⟨rfl, ?_⟩)) : EJ (Exit.then (fun a w => ∃ F, Fr n F a ∧ ∃ k', k' < k + 1 ∧ I k' F w) Q) .normal n F w := EJ.round k hs (Nat.lt_succ_self _) h
theorem LP {c : Code} (I : Nat → Fm → World → Prop) (k : Nat) (h0 : I k F' w) (hr : ∀ k F w, I k F w → CJ Tryz.prog c (Exit.then (fun a w => ∃ F, Fr n F a ∧ ∃ k', k' < k ∧ I k' F w) Q) n F w) (hs : sub F' F := by repeat (first | exact trivial | refine ⟨rfl, ?_⟩)) : CJ Tryz.prog (.loop c) Q n F w := CJ.loop I k hs h0 hr
theorem CP {c : Operand} {x y : Code} {p : Prop} [Decidable p] {a b : Option α} {r : α} (H : (if p then a else b) = some r) (ht : a = some r → CJ Tryz.prog x Q n F w) (hf : b = some r → CJ Tryz.prog y Q n F w) (hc : evO F c = some (.bool (decide p)) := by exact rfl) : CJ Tryz.prog (.cond c x y) Q n F w :=
  CJ.cond hc (fun hb => ht (pif_t (of_decide_eq_true hb) H)) (fun hb => hf (pif_f (of_decide_eq_false hb) H))
theorem CB {c : Operand} {x y : Code} {p : Bool} {a b : Option α} {r : α} (H : (if p = true then a else b) = some r) (ht : a = some r → CJ Tryz.prog x Q n F w) (hf : b = some r → CJ Tryz.prog y Q n F w) (hc : evO F c = some (.bool p) := by exact rfl) : CJ Tryz.prog (.cond c x y) Q n F w :=
  CJ.cond hc (fun hb => ht (pif_t hb H)) (fun hb => hf (pifb_f hb H))
def oq (ops : Array Oper) (F : Fm) (o : Oper) (m : Nat) : Option Nat :=
  match gd ops F o with
  | some true => match o.dst with
    | some d => match Nat.ble (d + 1) m with
      | true => some d
      | false => none
    | none => none
  | _ => none
theorem oq_ok {m : Nat} (h : oq ops F o m = some d) : gd ops F o = some true ∧ o.dst = some d ∧ Nat.ble (d + 1) m = true := by
 unfold oq at h
 split at h
 ·rename_i h1
  split at h
  ·rename_i d' h2
   split at h
   ·rename_i h3
    obtain rfl := Option.some.inj h
    exact ⟨h1, h2, h3⟩
   cases h
  cases h
 cases h
def oz (ops : Array Oper) (F : Fm) (o : Oper) : Bool :=
  match gd ops F o with
  | some true => match o.dst with
    | some _ => false
    | none => true
  | _ => false
theorem oz_ok (h : oz ops F o = true) : gd ops F o = some true ∧ o.dst = none := by
 unfold oz at h
 split at h
 ·rename_i h1
  split at h
  ·cases h
  rename_i h2; exact ⟨h1, h2⟩
 cases h
theorem OS (h : SR Tryz.prog F w o v) (k : OJ Tryz.prog ops Q n l ((d, v) :: F) w) (e : oq ops F o n.n = some d := by exact rfl) : OJ Tryz.prog ops Q n (o :: l) F w := OJ.st (oq_ok e).1 (oq_ok e).2.1 (oq_ok e).2.2 h k
theorem OF {Rp : Value → World → Prop} (h : Ef Tryz.prog F w o Rp) (k : ∀ v w', Rp v w' → OJ Tryz.prog ops Q n l ((d, v) :: F) w') (e : oq ops F o n.n = some d := by exact rfl) : OJ Tryz.prog ops Q n (o :: l) F w := OJ.ef (oq_ok e).1 (oq_ok e).2.1 (oq_ok e).2.2 h k
theorem OW {Rp : Value → World → Prop} (h : Ew Tryz.prog F w o Rp) (k : ∀ v w', Rp v w' → OJ Tryz.prog ops Q n l ((d, v) :: F) w') (e : oq ops F o n.n = some d := by exact rfl) : OJ Tryz.prog ops Q n (o :: l) F w := OJ.ew (oq_ok e).1 (oq_ok e).2.1 (oq_ok e).2.2 h k
theorem OE {Rp : World → Prop} (h : Es Tryz.prog F w o Rp) (k : ∀ w', Rp w' → OJ Tryz.prog ops Q n l F w') (e : oz ops F o = true := by exact rfl) : OJ Tryz.prog ops Q n (o :: l) F w := OJ.es (oz_ok e).1 (oz_ok e).2 h k
def opAt (ops : Array Oper) (i : Nat) : Oper := match ops[i]? with
  | some o => o
  | none => { dst := none, op := .move (.tmp 0), type := 0, pos := "", after := #[], guard := none }
theorem opAt_ok (h : Nat.ble (i + 1) ops.size = true) : ops[i]? = some (opAt ops i) := by
 have hi := Nat.le_of_ble_eq_true h
 unfold opAt
 rw [Array.getElem?_eq_getElem (by omega)]
theorem DS (h : SR Tryz.prog F w (opAt ops i) v) (k : DJ Tryz.prog ops bars Q n li ((d, v) :: F) w) (ho : Nat.ble (i + 1) ops.size = true := by exact rfl) (e : oq ops F (opAt ops i) n.n = some d := by exact rfl) (hc : isC (cls bars i (opAt ops i)) .stable = true := by exact rfl) : DJ Tryz.prog ops bars Q n (i :: li) F w := DJ.st (opAt_ok ho) (oq_ok e).1 (oq_ok e).2.1 (oq_ok e).2.2 hc h k
theorem DF {Rp : Value → World → Prop} (h : Ef Tryz.prog F w (opAt ops i) Rp) (k : ∀ v w', Rp v w' → DJ Tryz.prog ops bars Q n li ((d, v) :: F) w') (ho : Nat.ble (i + 1) ops.size = true := by exact rfl) (e : oq ops F (opAt ops i) n.n = some d := by exact rfl) (hc : isC (cls bars i (opAt ops i)) .effect = true := by exact rfl) : DJ Tryz.prog ops bars Q n (i :: li) F w := DJ.ef (opAt_ok ho) (oq_ok e).1 (oq_ok e).2.1 (oq_ok e).2.2 hc h k
theorem OC {c : Call} {f : FuncId} {vs : List Value} (hb : hasBody Tryz.prog f) {Rp : Value → World → Prop} (hcall : CV Tryz.prog f vs.toArray w Rp) (h : ∀ v w', Rp v w' → OJ Tryz.prog ops Q n l ((d, v) :: F) w') (e : oq ops F o n.n = some d := by exact rfl) (ho : o.op = .call c := by exact rfl) (hc : c.callee = .value (.func f) := by exact rfl) (hargs : allV (c.args.toList.map (evO F)) = some vs := by exact rfl) : OJ Tryz.prog ops Q n (o :: l) F w :=
  OJ.callF (oq_ok e).1 (oq_ok e).2.1 (oq_ok e).2.2 ho hc hb hargs hcall h
theorem OG {c : Call} {f : FuncId} {vs : List Value} (hS : St w0 X w L R) (hb : hasBody Tryz.prog f) (hcall : CV Tryz.prog f vs.toArray w fun u w' => u = v ∧ Ext w w') (h : ∀ w', St w0 X w' L R → OJ Tryz.prog ops Q n l ((d, v) :: F) w') (e : oq ops F o n.n = some d := by exact rfl) (ho : o.op = .call c := by exact rfl) (hc : c.callee = .value (.func f) := by exact rfl) (hargs : allV (c.args.toList.map (evO F)) = some vs := by exact rfl) : OJ Tryz.prog ops Q n (o :: l) F w :=
  OJ.callF (oq_ok e).1 (oq_ok e).2.1 (oq_ok e).2.2 ho hc hb hargs hcall fun u w1 h1 => by
    obtain ⟨rfl, hx⟩ := h1
    exact h w1 (hS.grow hx)
theorem ce (hS : St w0 X w L R) (i : Nat) {b : Nat} {cs : List Value} {T : TypeId} (hi : L[i]? = some (box b cs T) := by exact rfl) : CA w ⟨b, 0, none⟩ cs := hS.cells hi
theorem cf (hS : St w0 X w L R) (i k : Nat) {b : Nat} {cs : List Value} {T : TypeId} (hi : L[i]? = some (box b cs T) := by exact rfl) : CA w ((⟨b, 0, none⟩ : Addr).add k) (cs.drop k) := CA.sub (hS.cells hi) k
def lq (F : Fm) (o : Oper) : Option (Nat × Addr) :=
  match o.op with
  | .load T x => match evO F x with
    | some (.pointer (some ad)) => some (T, ad)
    | _ => none
  | _ => none
theorem lq_ok {T : Nat} {ad : Addr} (h : lq F o = some (T, ad)) : ∃ x, o.op = .load T x ∧ evO F x = some (.pointer (some ad)) := by
 unfold lq at h
 split at h
 ·rename_i T' x h1
  split at h
  ·rename_i ad' h2
   have := Option.some.inj h
   simp only [Prod.mk.injEq] at this
   obtain ⟨rfl, rfl⟩ := this
   exact ⟨x, h1, h2⟩
  cases h
 cases h
theorem SL {T : Nat} {ad : Addr} {dd : TypeDesc} {cs : List Value} (hc : CA w ad cs) (hl : lq F o = some (T, ad) := by exact rfl) (hT : lkT tU T = some dd := by exact rfl) (hd : isAggD dd = false := by exact rfl) (hv : cs[0]? = some v := by exact rfl) : SR Tryz.prog F w o v := by
 obtain ⟨x, h1, h2⟩ := lq_ok hl
 exact SR.load h1 h2 fun w' hx => ld1 tU_ok hT hd (CA.ext hc hx) hv
theorem SE {T : Nat} {ad : Addr} {dd : TypeDesc} {ti : TI} {C : Cd α} {x : α} (hc : CA w ad (C.enc x)) (hl : lq F o = some (T, ad) := by exact rfl) (hT : lkT tU T = some dd := by exact rfl) (hd : isAggD dd = true := by exact rfl) (hTi : lkT tI T = some ti := by exact rfl) (hs : C.sz = ti.size := by exact rfl) : SR Tryz.prog F w o (.agg (C.enc x).toArray) := by
 obtain ⟨y, h1, h2⟩ := lq_ok hl
 exact SR.load h1 h2 fun w' hx => ldE tU_ok tI_ok hT hd hTi (CA.ext hc hx) hs
theorem SF {T : TypeId} {fs : Array Field} {k : Nat} {fl : Field} {ti : TI} {x : Operand} {ad : Addr} (ho : o.op = .fieldAddr T x k := by exact rfl) (hT : lkT tU T = some (.struct fs) := by exact rfl) (hk : fs[k]? = some fl := by exact rfl) (hti : lkT tI fl.type = some ti := by exact rfl) (hsz : Nat.beq ti.size 0 = false := by exact rfl) (hx : evO F x = some (.pointer (some ad)) := by exact rfl) : SR Tryz.prog F w o (.pointer (some (ad.add fl.offset))) := SR.fieldAddr tU_ok tI_ok ho hT hk hti hsz hx
theorem SI {T e len c : Nat} {ti : TI} {x y : Operand} {A : Option Addr} {ad : Addr} {k : IntKind} {i : Int} (hA : A = some ad) (hi : 0 ≤ i ∧ i < (len : Int)) (ho : o.op = .indexAddr T x y := by exact rfl) (hT : lkT tU T = some (.slice e) := by exact rfl) (hti : lkT tI e = some ti := by exact rfl) (hx : evO F x = some (.slice A len c) := by exact rfl) (hy : evO F y = some (.int k i) := by exact rfl) : SR Tryz.prog F w o (.pointer (some (ad.add (i.toNat * ti.size)))) := SR.idxS tU_ok tI_ok ho hT hti hx hA hy hi
theorem EA {T : TypeId} {ti : TI} (hS : St w0 X w L R) (cs : List Value) (ho : o.op = .alloc T := by exact rfl) (hT : lkT tI T = some ti := by exact rfl) (hcs : ti.zero.cells = cs.toArray := by exact rfl) : Ef Tryz.prog F w o fun v w' => ∃ b, v = .pointer (some ⟨b, 0, none⟩) ∧ St w0 X w' (L ++ [G.box b cs T]) R := Ef.alloc hS tI_ok hT ho cs hcs
theorem EL {t e len : Nat} {ti : TI} {ps : Array (Nat × Operand)} (hS : St w0 X w L R) (C : Cd α) (xs : List α) {vs : List Value} (ho : o.op = .buildSlice t len ps := by exact rfl) (ht : lkT tU t = some (.slice e) := by exact rfl) (hti : lkT tI e = some ti := by exact rfl) (hC : C.sz = ti.size := by exact rfl)
    (hvs : allV (ps.toList.map fun p => evO F p.2) = some vs := by exact rfl) (hidx : ps.toList.map (·.1) = List.range' 0 len := by exact rfl) (hlen : xs.length = len := by exact rfl) (hsmall : Nat.ble (len * ti.size) 16777216 = true := by exact rfl) (hsz : Nat.ble 1 ti.size = true := by exact rfl)
    (hcells : vs.map (fun v => v.cells.toList) = xs.map C.enc := by exact rfl) : Ef Tryz.prog F w o fun v w' => ∃ A', v = .slice A' xs.length xs.length ∧ St w0 X w' (L ++ [rowC C A' xs.length e xs]) R := Ef.lit tU_ok tI_ok hS ho ht hti hC hvs hidx xs hlen hsmall hsz hcells
def oneB (vs : List Value) : Bool := vs.all fun u => u.oneCell'
theorem WS {T b off T0 : Nat} {ti : TI} {cs : List Value} {x y : Operand} {ad : Addr} (hS : St w0 X w L R) (i : Nat) (vs cs' : List Value) (hi : L[i]? = some (G.box b cs T0) := by exact rfl) (ho : o.op = .store T x y := by exact rfl)
    (hx : evO F x = some (.pointer (some ad)) := by exact rfl) (had : ad = ⟨b, off, none⟩ := by first | exact rfl | exact G.ad1 _ _ | exact G.ad2 _ _ _ | exact G.ad3 _ _ _ _) (hy : evO F y = some v := by exact rfl) (hti : lkT tI T = some ti := by exact rfl) (hv : v.cells = vs.toArray := by exact rfl) (hl : vs.length = ti.size := by exact rfl) (h1 : oneB vs = true := by exact rfl) (hfit : Nat.ble (off + vs.length) cs.length = true := by exact rfl)
    (hcs : cs.take off ++ vs ++ cs.drop (off + vs.length) = cs' := by exact rfl) : Es Tryz.prog F w o fun w' => St w0 X w' (L.set i (G.box b cs' T0)) R :=
  Es.store tI_ok hS hi ho hx had hy hti hv hl (fun u hu => List.all_eq_true.1 h1 u hu) (Nat.le_of_ble_eq_true hfit) cs' hcs
theorem WV {T b off T0 : Nat} {ti : TI} {cs : List Value} {x y : Operand} {ad : Addr} (hS : St w0 X w L R) (i : Nat) (vs : List Value) (hi : L[i]? = some (G.box b cs T0) := by exact rfl) (ho : o.op = .store T x y := by exact rfl)
    (hx : evO F x = some (.pointer (some ad)) := by exact rfl) (had : ad = ⟨b, off, none⟩ := by first | exact rfl | exact G.ad1 _ _ | exact G.ad2 _ _ _ | exact G.ad3 _ _ _ _) (hy : evO F y = some v := by exact rfl) (hti : lkT tI T = some ti := by exact rfl) (hv : v.cells = vs.toArray := by exact rfl) (hl : vs.length = ti.size := by exact rfl) (h1 : oneB vs = true := by exact rfl) (hfit : Nat.ble (off + vs.length) cs.length = true := by exact rfl)
    (hcs : cs.take off ++ vs ++ cs.drop (off + vs.length) = vs := by exact rfl) : Es Tryz.prog F w o fun w' => St w0 X w' (L.set i (G.box b vs T0)) R :=
  Es.store tI_ok hS hi ho hx had hy hti hv hl (fun u hu => List.all_eq_true.1 h1 u hu) (Nat.le_of_ble_eq_true hfit) vs hcs
theorem AP {t e c c2 : Nat} {ti : TI} {x y : Operand} {cl : Call} {A A2 : Option Addr} {xs ys : List α} {C : Cd α} (hS : St w0 X w L R) (i : Nat) (hr : Rd C w A2 ys) (h63 : xs.length + ys.length ≤ 4294967296) (hi : L[i]? = some (rowC C A c e xs) := by exact rfl)
    (ho : o.op = .call cl := by exact rfl) (hcl : cl.callee = .builtin .append := by exact rfl) (hca : cl.args = #[x, y] := by exact rfl) (hct : cl.argTypes = #[t, t] := by exact rfl)
    (ht : lkT tU t = some (.slice e) := by exact rfl) (hti : lkT tI e = some ti := by exact rfl) (hC : C.sz = ti.size := by exact rfl) (hzs : ti.zero.cells.size = ti.size := by exact rfl) (hsz : Nat.ble 1 ti.size = true := by exact rfl) (hb : Nat.ble ti.bytes 32768 = true := by exact rfl)
    (hx : evO F x = some (.slice A xs.length c) := by exact rfl) (hy : evO F y = some (.slice A2 ys.length c2) := by exact rfl) :
    Ew Tryz.prog F w o fun v w' => ∃ A' c', v = .slice A' (xs ++ ys).length c' ∧ St w0 X w' (L.set i (rowC C A' c' e (xs ++ ys))) R := Ew.append tU_ok tI_ok hS hi ho hcl hca hct ht hti hC hzs hsz hb hx hy hr h63
theorem TP (h : ∀ w', SR Tryz.prog F w' (opAt ops i) v) (k : TJ Tryz.prog ops bars effs wb Y Q n t ((d, v) :: F) w) (ho : Nat.ble (i + 1) ops.size = true := by exact rfl) (e : oq ops F (opAt ops i) n.n = some d := by exact rfl) (hc : isT (clsT bars effs i (opAt ops i)) .stable = true := by exact rfl) : TJ Tryz.prog ops bars effs wb Y Q n (.one i t) F w := TJ.sp (opAt_ok ho) (oq_ok e).1 (oq_ok e).2.1 (oq_ok e).2.2 hc h k
theorem TL (hY : Chg Y wb w) (h : ∀ w', Chg Y wb w' → SR Tryz.prog F w' (opAt ops i) v) (k : TJ Tryz.prog ops bars effs wb Y Q n t ((d, v) :: F) w) (ho : Nat.ble (i + 1) ops.size = true := by exact rfl) (e : oq ops F (opAt ops i) n.n = some d := by exact rfl) (hc : isT (clsT bars effs i (opAt ops i)) .stable = true := by exact rfl) : TJ Tryz.prog ops bars effs wb Y Q n (.one i t) F w := TJ.st hY (opAt_ok ho) (oq_ok e).1 (oq_ok e).2.1 (oq_ok e).2.2 hc h k
theorem TF {Rp : Value → World → Prop} (hY : Chg Y wb w) (h : Ef Tryz.prog F w (opAt ops i) Rp) (k : ∀ v w', Chg Y wb w' → Rp v w' → TJ Tryz.prog ops bars effs wb Y Q n t ((d, v) :: F) w') (ho : Nat.ble (i + 1) ops.size = true := by exact rfl) (e : oq ops F (opAt ops i) n.n = some d := by exact rfl) (hc : isT (clsT bars effs i (opAt ops i)) .eff = true := by exact rfl) : TJ Tryz.prog ops bars effs wb Y Q n (.one i t) F w := TJ.ef hY (opAt_ok ho) (oq_ok e).1 (oq_ok e).2.1 (oq_ok e).2.2 hc h k
theorem TW {Rp : Value → World → Prop} (h : Ew Tryz.prog F w (opAt ops i) Rp) (hx : ∀ v w', Rp v w' → Chg Y wb w') (k : ∀ v w', Chg Y wb w' → Rp v w' → TJ Tryz.prog ops bars effs wb Y Q n t ((d, v) :: F) w') (ho : Nat.ble (i + 1) ops.size = true := by exact rfl) (e : oq ops F (opAt ops i) n.n = some d := by exact rfl) (hc : isT (clsT bars effs i (opAt ops i)) .eff = true := by exact rfl) : TJ Tryz.prog ops bars effs wb Y Q n (.one i t) F w := TJ.ew (opAt_ok ho) (oq_ok e).1 (oq_ok e).2.1 (oq_ok e).2.2 hc h hx k
theorem wa {Z : Nat → Prop} {f : Option Addr → Nat → Value} {L' : Option Addr → Nat → List Chunk} {R' : List Chunk} (hY : Chg Y wb w) (hs : ∀ b, Z b → Y b) : ∀ (v : Value) (w' : World), (∃ A c, v = f A c ∧ St w Z w' (L' A c) R') → Chg Y wb w' := by
 rintro v w' ⟨A, c, _, h⟩
 exact hY.wr hs h.chg
theorem ws {Z : Nat → Prop} {L' R' : List Chunk} (hY : Chg Y wb w) (hs : ∀ b, Z b → Y b) : ∀ w' : World, St w Z w' L' R' → Chg Y wb w' := fun w' h => hY.wr hs h.chg
theorem OB {c : Call} {f : FuncId} {vs : List Value} {x : Option α} {g : α → Option β} {r : β} {vf : α → Value} (H : x.bind g = some r) (hS : St w0 X w L R) (hb : hasBody Tryz.prog f) (hcall : ∀ t, x = some t → CV Tryz.prog f vs.toArray w fun u w' => u = vf t ∧ Ext w w') (h : ∀ t w', g t = some r → St w0 X w' L R → OJ Tryz.prog ops Q n l ((d, vf t) :: F) w') (e : oq ops F o n.n = some d := by exact rfl) (ho : o.op = .call c := by exact rfl) (hc : c.callee = .value (.func f) := by exact rfl) (hargs : allV (c.args.toList.map (evO F)) = some vs := by exact rfl) : OJ Tryz.prog ops Q n (o :: l) F w := by
 obtain ⟨t, h1, h2⟩ := pbind H
 exact OG hS hb (hcall t h1) (fun w1 hS => h t w1 h2 hS) e ho hc hargs
theorem FT {m : Nat} {fn : Func} {t : Nat} {Rp : Value → World → Prop} (h : Rp v w) (hr : fn.results = [ResultVar.tmp t].toArray := by exact rfl) (hv : lk F t = some v := by exact rfl) : EJ (bodyPost Tryz.prog fn fun e w' => ∃ v, e = .returned v ∧ Rp v w') .ret ⟨m, none, []⟩ F w := EJ.fin hr (.tmp hv .nil) h
theorem EB {T : TypeId} {x : Operand} (hS : St w0 X w L R) (cs : List Value) (ho : o.op = .box T x := by exact rfl) (hx : evO F x = some v := by exact rfl) (hcs : v.cells = cs.toArray := by exact rfl) : Ef Tryz.prog F w o fun v w' => ∃ b, v = .pointer (some ⟨b, 0, none⟩) ∧ St w0 X w' (L ++ [G.box b cs T]) R := Ef.box hS ho hx cs hcs
theorem rA {C : Cd α} {A : Option Addr} {c : Nat} {xs : List α} (h : St w0 X w L R) (i : Nat) (hi : R[i]? = some (roC C A c xs)) : Rd C w A xs := h.rd' hi
theorem rB {C : Cd α} {A : Option Addr} {c : Nat} {xs : List α} (h : St w0 X w L R) (i : Nat) (hi : R[i]? = some (roC C A c xs)) : xs.length ≤ c := h.le' hi
theorem rC {C : Cd α} {A : Option Addr} {c T : Nat} {xs : List α} (h : St w0 X w L R) (i : Nat) (hi : L[i]? = some (rowC C A c T xs)) : Rd C w A xs := h.rd hi
theorem rD {C : Cd α} {A : Option Addr} {c T : Nat} {xs : List α} (h : St w0 X w L R) (i : Nat) (hi : L[i]? = some (rowC C A c T xs)) : xs.length ≤ c := h.le hi
theorem oU : G.okU Tryz.prog tU := tU_ok
theorem oI : G.okI Tryz.prog tI := tI_ok
theorem iO (h : OJ Tryz.prog ops Q n l F w) : OJ Tryz.prog ops Q n l F w := h
theorem iD (h : DJ Tryz.prog ops bars Q n li F w) : DJ Tryz.prog ops bars Q n li F w := h
theorem iT (h : TJ Tryz.prog ops bars effs wb Y Q n t F w) : TJ Tryz.prog ops bars effs wb Y Q n t F w := h
theorem SS {L' R' : List Chunk} (h : St w0 X w L R) (h1 : List.Sublist L' L) (h2 : List.Sublist R' R) : St w0 X w L' R' :=
  ⟨h.chg, fun c hc => h.holds c (h1.subset hc), fun c hc => h.own c (h1.subset hc), h.apart.sublist h1, fun c hc => h.reads c (h2.subset hc), fun c hc d hd => h.away c (h2.subset hc) d (h1.subset hd)⟩
theorem MD {P p : Prop} (H : p) (hS : St w0 X w L R) (e : p → St w0 X w L R → P := by
 intro H hS
 (repeat (first | with_reducible refine EJ.next ?_ | with_reducible refine CJ.seq ?_ | with_reducible refine CJ.region ?_ | with_reducible refine CJ.skip ?_ | with_reducible refine CJ.ret ?_ | with_reducible refine EJ.skR ?_ | with_reducible refine EJ.bkR ?_ | with_reducible refine EJ.blk ?_ | with_reducible refine CJ.exit ?_ | with_reducible refine EJ.skE ?_ | with_reducible refine EJ.hit ?_ | with_reducible refine OJ.nil ?_ | with_reducible refine DJ.nil ?_ | with_reducible refine TJ.nil ?_ | (with_reducible refine iO ?_); (first | refine PU 6 ?_ | refine PU 3 ?_ | refine PU 1 ?_ | refine OS SF ?_) | (with_reducible refine iD ?_); (first | refine DPU 3 ?_ | refine DPU 1 ?_ | refine DS SF ?_) | (with_reducible refine iT ?_); (first | refine TPU 3 ?_ | refine TPU 1 ?_)))
 first | apply EJ.round (hk := Nat.lt_succ_self _) | apply EJ.meet
 case h =>
   (repeat apply Exists.intro)
   (first | refine ⟨H.symm, rfl, SS hS ?_ ?_⟩ | refine ⟨H, rfl, SS hS ?_ ?_⟩ | refine ⟨rfl, SS hS ?_ ?_⟩ | refine ⟨rfl, SS hS ?_ ?_, H⟩) <;> (repeat (first | exact List.nil_sublist _ | apply List.Sublist.cons_cons | apply List.Sublist.cons))
 case hs => repeat (first | exact trivial | refine ⟨rfl, ?_⟩)) : P := e H hS
theorem oS {P' : Prop} (h : SR Tryz.prog F w o v) (k : P') (e : oq ops F o n.n = some d := by exact rfl) (g : P' → OJ Tryz.prog ops Q n l ((d, v) :: F) w := by intro h; (repeat (first | with_reducible refine EJ.next ?_ | with_reducible refine CJ.seq ?_ | with_reducible refine CJ.region ?_ | with_reducible refine CJ.skip ?_ | with_reducible refine CJ.ret ?_ | with_reducible refine EJ.skR ?_ | with_reducible refine EJ.bkR ?_ | with_reducible refine EJ.blk ?_ | with_reducible refine CJ.exit ?_ | with_reducible refine EJ.skE ?_ | with_reducible refine EJ.hit ?_ | with_reducible refine OJ.nil ?_ | with_reducible refine DJ.nil ?_ | with_reducible refine TJ.nil ?_ | (with_reducible refine iO ?_); (first | refine PU 6 ?_ | refine PU 3 ?_ | refine PU 1 ?_ | refine OS SF ?_) | (with_reducible refine iD ?_); (first | refine DPU 3 ?_ | refine DPU 1 ?_ | refine DS SF ?_) | (with_reducible refine iT ?_); (first | refine TPU 3 ?_ | refine TPU 1 ?_))); exact h) : OJ Tryz.prog ops Q n (o :: l) F w := OS h (g k) e
theorem dS {P' : Prop} (h : SR Tryz.prog F w (opAt ops i) v) (k : P') (ho : Nat.ble (i + 1) ops.size = true := by exact rfl) (e : oq ops F (opAt ops i) n.n = some d := by exact rfl) (hc : isC (cls bars i (opAt ops i)) .stable = true := by exact rfl) (g : P' → DJ Tryz.prog ops bars Q n li ((d, v) :: F) w := by intro h; (repeat (first | with_reducible refine EJ.next ?_ | with_reducible refine CJ.seq ?_ | with_reducible refine CJ.region ?_ | with_reducible refine CJ.skip ?_ | with_reducible refine CJ.ret ?_ | with_reducible refine EJ.skR ?_ | with_reducible refine EJ.bkR ?_ | with_reducible refine EJ.blk ?_ | with_reducible refine CJ.exit ?_ | with_reducible refine EJ.skE ?_ | with_reducible refine EJ.hit ?_ | with_reducible refine OJ.nil ?_ | with_reducible refine DJ.nil ?_ | with_reducible refine TJ.nil ?_ | (with_reducible refine iO ?_); (first | refine PU 6 ?_ | refine PU 3 ?_ | refine PU 1 ?_ | refine OS SF ?_) | (with_reducible refine iD ?_); (first | refine DPU 3 ?_ | refine DPU 1 ?_ | refine DS SF ?_) | (with_reducible refine iT ?_); (first | refine TPU 3 ?_ | refine TPU 1 ?_))); exact h) : DJ Tryz.prog ops bars Q n (i :: li) F w := DS h (g k) ho e hc
theorem oE {Rp P' : World → Prop} (h : Es Tryz.prog F w o Rp) (k : ∀ w', Rp w' → P' w') (e : oz ops F o = true := by exact rfl) (g : ∀ w', P' w' → OJ Tryz.prog ops Q n l F w' := by intro w' h; (repeat (first | with_reducible refine EJ.next ?_ | with_reducible refine CJ.seq ?_ | with_reducible refine CJ.region ?_ | with_reducible refine CJ.skip ?_ | with_reducible refine CJ.ret ?_ | with_reducible refine EJ.skR ?_ | with_reducible refine EJ.bkR ?_ | with_reducible refine EJ.blk ?_ | with_reducible refine CJ.exit ?_ | with_reducible refine EJ.skE ?_ | with_reducible refine EJ.hit ?_ | with_reducible refine OJ.nil ?_ | with_reducible refine DJ.nil ?_ | with_reducible refine TJ.nil ?_ | (with_reducible refine iO ?_); (first | refine PU 6 ?_ | refine PU 3 ?_ | refine PU 1 ?_ | refine OS SF ?_) | (with_reducible refine iD ?_); (first | refine DPU 3 ?_ | refine DPU 1 ?_ | refine DS SF ?_) | (with_reducible refine iT ?_); (first | refine TPU 3 ?_ | refine TPU 1 ?_))); exact h) : OJ Tryz.prog ops Q n (o :: l) F w := OE h (fun w' h => g w' (k w' h)) e
theorem oB {c : Call} {f : FuncId} {vs : List Value} {x : Option α} {g : α → Option β} {r : β} {vf : α → Value} {P' : α → World → Prop} (H : x.bind g = some r) (hS : St w0 X w L R) (hb : hasBody Tryz.prog f) (hcall : ∀ t, x = some t → CV Tryz.prog f vs.toArray w fun u w' => u = vf t ∧ Ext w w') (h : ∀ t w', g t = some r → St w0 X w' L R → P' t w') (e : oq ops F o n.n = some d := by exact rfl) (ho : o.op = .call c := by exact rfl) (hc : c.callee = .value (.func f) := by exact rfl) (hargs : allV (c.args.toList.map (evO F)) = some vs := by exact rfl) (g' : ∀ t w', P' t w' → OJ Tryz.prog ops Q n l ((d, vf t) :: F) w' := by intro t w' h; (repeat (first | with_reducible refine EJ.next ?_ | with_reducible refine CJ.seq ?_ | with_reducible refine CJ.region ?_ | with_reducible refine CJ.skip ?_ | with_reducible refine CJ.ret ?_ | with_reducible refine EJ.skR ?_ | with_reducible refine EJ.bkR ?_ | with_reducible refine EJ.blk ?_ | with_reducible refine CJ.exit ?_ | with_reducible refine EJ.skE ?_ | with_reducible refine EJ.hit ?_ | with_reducible refine OJ.nil ?_ | with_reducible refine DJ.nil ?_ | with_reducible refine TJ.nil ?_ | (with_reducible refine iO ?_); (first | refine PU 6 ?_ | refine PU 3 ?_ | refine PU 1 ?_ | refine OS SF ?_) | (with_reducible refine iD ?_); (first | refine DPU 3 ?_ | refine DPU 1 ?_ | refine DS SF ?_) | (with_reducible refine iT ?_); (first | refine TPU 3 ?_ | refine TPU 1 ?_))); exact h) : OJ Tryz.prog ops Q n (o :: l) F w := OB H hS hb hcall (fun t w' h1 h2 => g' t w' (h t w' h1 h2)) e ho hc hargs
theorem oX {T : TypeId} {x : Operand} {P' : Nat → World → Prop} (hS : St w0 X w L R) (cs : List Value) (k : ∀ b w', St w0 X w' (L ++ [G.box b cs T]) R → P' b w') (ho : o.op = .box T x := by exact rfl) (hx : evO F x = some v := by exact rfl) (hcs : v.cells = cs.toArray := by exact rfl) (e : oq ops F o n.n = some d := by exact rfl) (g : ∀ b w', P' b w' → OJ Tryz.prog ops Q n l ((d, .pointer (some ⟨b, 0, none⟩)) :: F) w' := by intro b w' h; (repeat (first | with_reducible refine EJ.next ?_ | with_reducible refine CJ.seq ?_ | with_reducible refine CJ.region ?_ | with_reducible refine CJ.skip ?_ | with_reducible refine CJ.ret ?_ | with_reducible refine EJ.skR ?_ | with_reducible refine EJ.bkR ?_ | with_reducible refine EJ.blk ?_ | with_reducible refine CJ.exit ?_ | with_reducible refine EJ.skE ?_ | with_reducible refine EJ.hit ?_ | with_reducible refine OJ.nil ?_ | with_reducible refine DJ.nil ?_ | with_reducible refine TJ.nil ?_ | (with_reducible refine iO ?_); (first | refine PU 6 ?_ | refine PU 3 ?_ | refine PU 1 ?_ | refine OS SF ?_) | (with_reducible refine iD ?_); (first | refine DPU 3 ?_ | refine DPU 1 ?_ | refine DS SF ?_) | (with_reducible refine iT ?_); (first | refine TPU 3 ?_ | refine TPU 1 ?_))); exact h) : OJ Tryz.prog ops Q n (o :: l) F w :=
  OF (EB hS cs ho hx hcs) (fun _ w' h => by obtain ⟨b, rfl, h⟩ := h; exact g b w' (k b w' h)) e
theorem oA {T : TypeId} {ti : TI} {P' : Nat → World → Prop} (hS : St w0 X w L R) (cs : List Value) (k : ∀ b w', St w0 X w' (L ++ [G.box b cs T]) R → P' b w') (ho : o.op = .alloc T := by exact rfl) (hT : lkT tI T = some ti := by exact rfl) (hcs : ti.zero.cells = cs.toArray := by exact rfl) (e : oq ops F o n.n = some d := by exact rfl) (g : ∀ b w', P' b w' → OJ Tryz.prog ops Q n l ((d, .pointer (some ⟨b, 0, none⟩)) :: F) w' := by intro b w' h; (repeat (first | with_reducible refine EJ.next ?_ | with_reducible refine CJ.seq ?_ | with_reducible refine CJ.region ?_ | with_reducible refine CJ.skip ?_ | with_reducible refine CJ.ret ?_ | with_reducible refine EJ.skR ?_ | with_reducible refine EJ.bkR ?_ | with_reducible refine EJ.blk ?_ | with_reducible refine CJ.exit ?_ | with_reducible refine EJ.skE ?_ | with_reducible refine EJ.hit ?_ | with_reducible refine OJ.nil ?_ | with_reducible refine DJ.nil ?_ | with_reducible refine TJ.nil ?_ | (with_reducible refine iO ?_); (first | refine PU 6 ?_ | refine PU 3 ?_ | refine PU 1 ?_ | refine OS SF ?_) | (with_reducible refine iD ?_); (first | refine DPU 3 ?_ | refine DPU 1 ?_ | refine DS SF ?_) | (with_reducible refine iT ?_); (first | refine TPU 3 ?_ | refine TPU 1 ?_))); exact h) : OJ Tryz.prog ops Q n (o :: l) F w :=
  OF (EA hS cs ho hT hcs) (fun _ w' h => by obtain ⟨b, rfl, h⟩ := h; exact g b w' (k b w' h)) e
theorem xI {α β : Type} {C : Cd α} {A : Option Addr} {xs : List α} {ii : Int} {g : α → Option β} {r : β} {P' : α → Addr → Prop} {vf : α → Value} {o2 : Oper} {T e c T2 d2 : Nat} {ti : TI} {x y : Operand} {kk : IntKind} {dd : TypeDesc} (H : (getI xs ii).bind g = some r) (hr : Rd C w A xs) (k : ∀ t ad, getI xs ii = some t → g t = some r → P' t ad)
 (ho : o.op = .indexAddr T x y := by exact rfl) (hT : lkT tU T = some (.slice e) := by exact rfl) (hti : lkT tI e = some ti := by exact rfl) (hC : C.sz = ti.size := by exact rfl) (hx : evO F x = some (.slice A xs.length c) := by exact rfl) (hy : evO F y = some (.int kk ii) := by exact rfl) (e1 : oq ops F o n.n = some d := by exact rfl)
    (hl : ∀ ad : Addr, lq ((d, .pointer (some (ad.add (ii.toNat * ti.size)))) :: F) o2 = some (T2, ad.add (ii.toNat * ti.size)) := by intro ad; exact rfl) (hT2 : lkT tU T2 = some dd := by exact rfl) (hd : isAggD dd = false := by exact rfl) (hv : ∀ t, (C.enc t)[0]? = some (vf t) := by intro t; exact rfl) (e2 : ∀ ad : Addr, oq ops ((d, .pointer (some (ad.add (ii.toNat * ti.size)))) :: F) o2 n.n = some d2 := by intro ad; exact rfl)
    (g' : ∀ t ad, P' t ad → OJ Tryz.prog ops Q n l ((d2, vf t) :: (d, .pointer (some (ad.add (ii.toNat * ti.size)))) :: F) w := by intro t ad h; (repeat (first | with_reducible refine EJ.next ?_ | with_reducible refine CJ.seq ?_ | with_reducible refine CJ.region ?_ | with_reducible refine CJ.skip ?_ | with_reducible refine CJ.ret ?_ | with_reducible refine EJ.skR ?_ | with_reducible refine EJ.bkR ?_ | with_reducible refine EJ.blk ?_ | with_reducible refine CJ.exit ?_ | with_reducible refine EJ.skE ?_ | with_reducible refine EJ.hit ?_ | with_reducible refine OJ.nil ?_ | with_reducible refine DJ.nil ?_ | with_reducible refine TJ.nil ?_ | (with_reducible refine iO ?_); (first | refine PU 6 ?_ | refine PU 3 ?_ | refine PU 1 ?_ | refine OS SF ?_) | (with_reducible refine iD ?_); (first | refine DPU 3 ?_ | refine DPU 1 ?_ | refine DS SF ?_) | (with_reducible refine iT ?_); (first | refine TPU 3 ?_ | refine TPU 1 ?_))); exact h) : OJ Tryz.prog ops Q n (o :: o2 :: l) F w := by
  obtain ⟨t, ht, H2⟩ := pbind H
  obtain ⟨ad, e⟩ := hr.some' ht
  refine OS (SI e (getI_some ht).1 ho hT hti hx hy) (OS (SL ?_ (hl ad) hT2 hd (hv t)) (g' t ad (k t ad ht H2)) (e2 ad)) e1
  rw [← hC]; exact hr.at_ e ht
theorem xD {α β : Type} {C : Cd α} {A : Option Addr} {xs : List α} {ii : Int} {g : α → Option β} {r : β} {P' : α → Addr → Prop} {vf : α → Value} {i2 : Nat} {T e c T2 d2 : Nat} {ti : TI} {x y : Operand} {kk : IntKind} {dd : TypeDesc} (H : (getI xs ii).bind g = some r) (hr : Rd C w A xs) (k : ∀ t ad, getI xs ii = some t → g t = some r → P' t ad)
 (ho : (opAt ops i).op = .indexAddr T x y := by exact rfl) (hT : lkT tU T = some (.slice e) := by exact rfl) (hti : lkT tI e = some ti := by exact rfl) (hC : C.sz = ti.size := by exact rfl) (hx : evO F x = some (.slice A xs.length c) := by exact rfl) (hy : evO F y = some (.int kk ii) := by exact rfl) (e1 : oq ops F (opAt ops i) n.n = some d := by exact rfl)
    (hl : ∀ ad : Addr, lq ((d, .pointer (some (ad.add (ii.toNat * ti.size)))) :: F) (opAt ops i2) = some (T2, ad.add (ii.toNat * ti.size)) := by intro ad; exact rfl) (hT2 : lkT tU T2 = some dd := by exact rfl) (hd : isAggD dd = false := by exact rfl) (hv : ∀ t, (C.enc t)[0]? = some (vf t) := by intro t; exact rfl) (e2 : ∀ ad : Addr, oq ops ((d, .pointer (some (ad.add (ii.toNat * ti.size)))) :: F) (opAt ops i2) n.n = some d2 := by intro ad; exact rfl)
    (q1 : Nat.ble (i + 1) ops.size = true := by exact rfl) (q2 : isC (cls bars i (opAt ops i)) .stable = true := by exact rfl) (q3 : Nat.ble (i2 + 1) ops.size = true := by exact rfl) (q4 : isC (cls bars i2 (opAt ops i2)) .stable = true := by exact rfl)
    (g' : ∀ t ad, P' t ad → DJ Tryz.prog ops bars Q n li ((d2, vf t) :: (d, .pointer (some (ad.add (ii.toNat * ti.size)))) :: F) w := by intro t ad h; (repeat (first | with_reducible refine EJ.next ?_ | with_reducible refine CJ.seq ?_ | with_reducible refine CJ.region ?_ | with_reducible refine CJ.skip ?_ | with_reducible refine CJ.ret ?_ | with_reducible refine EJ.skR ?_ | with_reducible refine EJ.bkR ?_ | with_reducible refine EJ.blk ?_ | with_reducible refine CJ.exit ?_ | with_reducible refine EJ.skE ?_ | with_reducible refine EJ.hit ?_ | with_reducible refine OJ.nil ?_ | with_reducible refine DJ.nil ?_ | with_reducible refine TJ.nil ?_ | (with_reducible refine iO ?_); (first | refine PU 6 ?_ | refine PU 3 ?_ | refine PU 1 ?_ | refine OS SF ?_) | (with_reducible refine iD ?_); (first | refine DPU 3 ?_ | refine DPU 1 ?_ | refine DS SF ?_) | (with_reducible refine iT ?_); (first | refine TPU 3 ?_ | refine TPU 1 ?_))); exact h) : DJ Tryz.prog ops bars Q n (i :: i2 :: li) F w := by
  obtain ⟨t, ht, H2⟩ := pbind H
  obtain ⟨ad, e⟩ := hr.some' ht
  refine DS (SI e (getI_some ht).1 ho hT hti hx hy) (DS (SL ?_ (hl ad) hT2 hd (hv t)) (g' t ad (k t ad ht H2)) q3 (e2 ad) q4) q1 e1 q2
  rw [← hC]; exact hr.at_ e ht
theorem tW {t e c c2 : Nat} {ti : TI} {x y : Operand} {cl : Call} {A A2 : Option Addr} {xs ys : List α} {C : Cd α} {D R0 : List Chunk} {tr : Tr} (ox : List Nat) (j k0 : Nat) (hY : Chg (Yo w0 X (D ++ R0)) wb w) (hS : St w0 X w L R) (hr : Rd C w A2 ys) (h63 : xs.length + ys.length ≤ 4294967296)
 (k : ∀ A' c' w', Chg (Yo w0 X (D ++ R0)) wb w' → St w0 X w' (mrg ox 0 L ((gn ox 0 L).set j (rowC C A' c' e (xs ++ ys)))) R → TJ Tryz.prog ops bars effs wb (Yo w0 X (D ++ R0)) Q n tr ((d, .slice A' (xs ++ ys).length c') :: F) w')
 (h1 : pickL L ox = D := by exact rfl) (h2 : R.take k0 = R0 := by exact rfl) (hi : (gn ox 0 L)[j]? = some (rowC C A c e xs) := by exact rfl)
    (ho : (opAt ops i).op = .call cl := by exact rfl) (hcl : cl.callee = .builtin .append := by exact rfl) (hca : cl.args = #[x, y] := by exact rfl) (hct : cl.argTypes = #[t, t] := by exact rfl)
    (ht : lkT tU t = some (.slice e) := by exact rfl) (hti : lkT tI e = some ti := by exact rfl) (hC : C.sz = ti.size := by exact rfl) (hzs : ti.zero.cells.size = ti.size := by exact rfl) (hsz : Nat.ble 1 ti.size = true := by exact rfl) (hb : Nat.ble ti.bytes 32768 = true := by exact rfl)
    (hx : evO F x = some (.slice A xs.length c) := by exact rfl) (hy : evO F y = some (.slice A2 ys.length c2) := by exact rfl)
    (g1 : Nat.ble (i + 1) ops.size = true := by exact rfl) (g2 : oq ops F (opAt ops i) n.n = some d := by exact rfl) (g3 : isT (clsT bars effs i (opAt ops i)) .eff = true := by exact rfl) : TJ Tryz.prog ops bars effs wb (Yo w0 X (D ++ R0)) Q n (.one i tr) F w :=
  TW (AP (hS.inn ox) j hr h63 hi ho hcl hca hct ht hti hC hzs hsz hb hx hy) (wa hY (hS.inY ox k0 h1 h2)) (fun _ w' hY' h => by obtain ⟨A', c', rfl, h⟩ := h; exact k A' c' w' hY' (hS.out ox h)) g1 g2 g3
theorem LQ {c : Code} {p : Prop} (I : Nat → Fm → World → Prop) (k : Nat) (H : p) (hS : St w0 X w L R) (hr : ∀ k F w, I (k + 1) F w → CJ Tryz.prog c (Exit.then (fun a w => ∃ F, Fr n F a ∧ ∃ k', k' < k + 1 ∧ I k' F w) Q) n F w) (e : p → St w0 X w L R → ∃ F', sub F' F ∧ I k F' w := by
  intro H hS
  apply Exists.intro
  apply And.intro
  case right =>
    (repeat apply Exists.intro)
    (first | refine ⟨rfl, SS hS ?_ ?_, H⟩) <;> (repeat (first | exact List.nil_sublist _ | apply List.Sublist.cons_cons | apply List.Sublist.cons))
  case left => repeat (first | exact trivial | refine ⟨rfl, ?_⟩)) (hz : ∀ F w, ¬ I 0 F w := by
  intro F w h
  (repeat obtain ⟨_, h⟩ := h) <;> cases h) : CJ Tryz.prog (.loop c) Q n F w := by
  obtain ⟨F', h1, h2⟩ := e H hS
  refine CJ.loop I k h1 h2 fun k F w hI => ?_
  cases k with
  | zero => exact (hz F w hI).elim
  | succ k => exact hr k F w hI
theorem FE {P p : Prop} (H : p) (hS : St w0 X w L R) (e : p → St w0 X w L R → P := by
 intro H hS
 (repeat (first | with_reducible refine EJ.next ?_ | with_reducible refine CJ.seq ?_ | with_reducible refine CJ.region ?_ | with_reducible refine CJ.skip ?_ | with_reducible refine CJ.ret ?_ | with_reducible refine EJ.skR ?_ | with_reducible refine EJ.bkR ?_ | with_reducible refine EJ.blk ?_ | with_reducible refine CJ.exit ?_ | with_reducible refine EJ.skE ?_ | with_reducible refine EJ.hit ?_ | with_reducible refine OJ.nil ?_ | with_reducible refine DJ.nil ?_ | with_reducible refine TJ.nil ?_ | (with_reducible refine iO ?_); (first | refine PU 6 ?_ | refine PU 3 ?_ | refine PU 1 ?_ | refine OS SF ?_) | (with_reducible refine iD ?_); (first | refine DPU 3 ?_ | refine DPU 1 ?_ | refine DS SF ?_) | (with_reducible refine iT ?_); (first | refine TPU 3 ?_ | refine TPU 1 ?_)))
 obtain rfl := Option.some.inj H
 first | exact FT ⟨rfl, hS.ext⟩ | exact EJ.fin rfl (.tmp rfl (.tmp rfl .nil)) ⟨rfl, hS.ext⟩) : P := e H hS
theorem GO {P P' : Prop} (h : P') (e : P' → P := by intro h; (repeat (first | with_reducible refine EJ.next ?_ | with_reducible refine CJ.seq ?_ | with_reducible refine CJ.region ?_ | with_reducible refine CJ.skip ?_ | with_reducible refine CJ.ret ?_ | with_reducible refine EJ.skR ?_ | with_reducible refine EJ.bkR ?_ | with_reducible refine EJ.blk ?_ | with_reducible refine CJ.exit ?_ | with_reducible refine EJ.skE ?_ | with_reducible refine EJ.hit ?_ | with_reducible refine OJ.nil ?_ | with_reducible refine DJ.nil ?_ | with_reducible refine TJ.nil ?_ | (with_reducible refine iO ?_); (first | refine PU 6 ?_ | refine PU 3 ?_ | refine PU 1 ?_ | refine OS SF ?_) | (with_reducible refine iD ?_); (first | refine DPU 3 ?_ | refine DPU 1 ?_ | refine DS SF ?_) | (with_reducible refine iT ?_); (first | refine TPU 3 ?_ | refine TPU 1 ?_))); exact h) : P := e h
theorem eS {T b off T0 i : Nat} {ti : TI} {v : Value} {cs : List Value} {x y : Operand} {ad : Addr} (C : Cd α) (t : α) (hS : St w0 X w L R) (hi : L[i]? = some (G.box b cs T0)) (ho : o.op = .store T x y) (hx : evO F x = some (.pointer (some ad))) (had : ad = ⟨b, off, none⟩) (hy : evO F y = some v) (hti : lkT tI T = some ti) (hv : v.cells = (C.enc t).toArray) (hz : C.sz = ti.size) (hf : Nat.ble (off + (C.enc t).length) cs.length = true) (hc : cs.take off ++ C.enc t ++ cs.drop (off + (C.enc t).length) = C.enc t) : Es Tryz.prog F w o fun w' => St w0 X w' (L.set i (G.box b (C.enc t) T0)) R :=
 Es.store oI hS hi ho hx had hy hti hv ((C.len t).trans hz) (C.one t) (Nat.le_of_ble_eq_true hf) (C.enc t) hc
end
end Go.Proofs.YtegibnmfiogebaaGreatDoor
