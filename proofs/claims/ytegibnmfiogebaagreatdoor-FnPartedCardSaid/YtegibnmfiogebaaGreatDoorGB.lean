/-
  Step lemmas for walks whose frame is told as a list of slots. Part B: operations on registers are sound; the flow of control; calls.
-/
import Derived.Test.YtegibnmfiogebaaGreatDoorGA
namespace Go.Proofs.YtegibnmfiogebaaGreatDoor
namespace G
set_option linter.unusedVariables false
set_option linter.unusedSimpArgs false
variable {P : Program}

theorem bytes_eq (x y : ByteArray) : (x.toList == y.toList) = decide (x = y) := by
 rw [ByteArray.toList_eq, ByteArray.toList_eq, Bool.eq_iff_iff]
 simp only [beq_iff_eq, decide_eq_true_eq]
 constructor
 ·intro h
  cases x; cases y
  simp only [Array.toList_inj] at h
  simp [h]
 rintro rfl; rfl

theorem bitV_run {op : BinOp} {k : IntKind} {x y : Int} {v : Value} (h : bitV op k x y = some v) (w : World) : (Op.intBits op k x y).run P w = .ok v w := by
 cases op <;> simp [bitV] at h <;> subst h <;> simp [Op.intBits]

theorem intV_run {op : BinOp} {k : IntKind} {x y : Int} {v : Value} (h : intV op k x y = some v) (t : TypeId) (w : World) : (binOp op t (.int k x) (.int k y)).run P w = .ok v w := by
 cases op <;> simp [intV] at h <;> simp [binOp, Op.intArith, Op.intCmp] <;> first | (subst h; rfl) | exact h | exact bitV_run h w | (subst h; simp; done) | (subst h; simp [Bool.eq_iff_iff]; done)

theorem binV_run {op : BinOp} {u v r : Value} (h : binV op u v = some r) (t : TypeId) (x y : Operand) (w : World) :
 ((do eqGuard op t x y u v; binOp op t u v) : Sem Value).run P w = .ok r w := by
 cases u <;> cases v <;> try (simp [binV] at h; done)
 case int.int k a k' b =>
   by_cases e : k = k'
   · subst e
     simp only [binV, decide_true] at h
     have := intV_run (P := P) h t w
     cases op <;> simp [eqGuard, this]
   · simp [binV, e] at h
 case string.string a b =>
   simp only [binV] at h
   cases op <;> simp [strV] at h <;> subst h <;> simp only [eqGuard, binOp, Op.stringOp, bytes_eq] <;> simp

theorem minV_run {u v r : Value} (h : minV u v = some r) (w : World) : (Builtin.min2 u v).run P w = .ok r w := by
 cases u <;> cases v <;> simp [minV] at h <;> subst h <;> simp [Builtin.min2]
theorem maxV_run {u v r : Value} (h : maxV u v = some r) (w : World) : (Builtin.max2 u v).run P w = .ok r w := by
 cases u <;> cases v <;> simp [maxV] at h <;> subst h <;> simp [Builtin.max2]

theorem foldV_run {f : Value → Value → Option Value} {g : Value → Value → Sem Value} (w : World) (hfg : ∀ u v r, f u v = some r → (g u v).run P w = .ok r w) :
 ∀ (l : List Value) (x r : Value), foldV f x l = some r → (l.foldlM g x).run P w = .ok r w
  | [], x, r, h => by simp [foldV] at h; subst h; simp
  | y :: l, x, r, h => by
    simp only [foldV] at h
    cases hz : f x y with
    | none => rw [hz] at h; simp at h
    | some z =>
      rw [hz] at h
      simp only [List.foldlM_cons, Sem.run_bind, hfg _ _ _ hz, Result.andThen_ok]
      exact foldV_run w hfg l z r h

theorem allV_map {F : Fm} {ρ : Operand → Value} (hρ : ∀ x u, evO F x = some u → ρ x = u) : ∀ (xs : List Operand) {l : List Value}, allV (xs.map (evO F)) = some l → xs.map ρ = l
  | [], l, h => by simp [allV] at h; subst h; rfl
  | x :: xs, l, h => by
    rw [List.map_cons] at h
    cases hx : evO F x with
    | none => rw [hx] at h; simp [allV] at h
    | some v =>
      rw [hx] at h
      simp only [allV] at h
      cases hr : allV (xs.map (evO F)) with
      | none => rw [hr] at h; simp at h
      | some l' =>
        rw [hr] at h
        simp only [Option.some.injEq] at h
        subst h
        rw [List.map_cons, hρ _ _ hx, allV_map hρ xs hr]

theorem pickV_eq (b : Bool) (u v : Value) : pickV b u v = if b then u else v := by
 unfold pickV
 split <;> cases b <;> rfl

theorem lenV_run {d : TypeDesc} {x r : Value} (h : lenV d x = some r) {ts : Array Nat} {t : Nat} (ht : ts[0]? = some t) (hd : P.underlying t = some d) {vs : Array Value} (hv : vs[0]? = some x) (ty : TypeId) (w : World) :
 (Builtin.len_ ts ty vs).run P w = .ok r w := by
 unfold lenV at h
 split at h <;> try (simp at h; done)
 all_goals (obtain rfl := Option.some.inj h; simp [Builtin.len_, ht, hv, run_underlying hd, goInt])

theorem bltV_run {U : List (Nat × TypeDesc)} (hU : okU P U) {b : Builtin} {ts : Array Nat} {vs : List Value} {r : Value} (h : bltV U b ts.toList vs = some r)
 (ty : TypeId) (cs : Array Bool) (w : World) : (builtin b ts ty cs vs.toArray).run P w = .ok (.value r) w := by
 unfold bltV at h
 split at h <;> try (simp at h; done)
 ·rename_i t tr x xr htl
  cases hu : lkT U t with
  | none => rw [hu] at h; simp at h
  | some d =>
    rw [hu] at h
    have ht : ts[0]? = some t := by rw [← Array.getElem?_toList, htl]; rfl
    have := lenV_run h ht (hU.at_ hu) (vs := (x :: xr).toArray) (by simp) ty w
    simp [builtin, this]
 ·rename_i x xr
  have := foldV_run (P := P) w (fun u v r h => minV_run h w) _ _ _ h
  simp [builtin, Builtin.min_, this]
 rename_i x xr
 have := foldV_run (P := P) w (fun u v r h => maxV_run h w) _ _ _ h
 simp [builtin, Builtin.max_, this]

theorem map_toArray' {F : Fm} {ρ : Operand → Value} (hρ : ∀ x u, evO F x = some u → ρ x = u) {xs : Array Operand} {l : List Value} (h : allV (xs.toList.map (evO F)) = some l) : xs.map ρ = l.toArray := by
 rw [← allV_map hρ _ h, ← Array.toList_map]

theorem pv_run {U : List (Nat × TypeDesc)} (hU : okU P U) {F : Fm} {o : Oper} {v : Value} (h : pv U F o.op = some v)
 (ρ : Operand → Value) (hρ : ∀ x u, evO F x = some u → ρ x = u) (w : World) : (execOp ρ o).run P w = .ok (.value v) w := by
 obtain ⟨dst, op, type, pos, after, guard⟩ := o
 simp only at h
 unfold execOp
 cases op <;> simp only [pv] at h <;> try (simp at h; done)
 case move x => simp [hρ _ _ h]
 case assign x => simp [hρ _ _ h]
 case pick c a b =>
   split at h <;> try (simp at h; done)
   rename_i t u v hc ha hb
   obtain rfl := Option.some.inj h
   simp [hρ _ _ hc, hρ _ _ ha, hρ _ _ hb, asBool, pickV_eq]
 case binOp op t x y yt =>
   split at h <;> try (simp at h; done)
   rename_i u v hx hy
   have := binV_run (P := P) h t x y w
   simp only [hρ _ _ hx, hρ _ _ hy]
   simp only [Sem.run_bind] at this ⊢
   simp [this]
 case unOp op t x =>
   split at h <;> try (simp at h; done)
   all_goals
     simp_all
   all_goals (split at h <;> simp at h; subst h; rename_i hx; simp [hρ _ _ hx, Op.unary, Op.intArith])
 case convert src dst x =>
   split at h <;> try (simp at h; done)
   rename_i d k kk m hs hd hx
   obtain rfl := Option.some.inj h
   simp [hρ _ _ hx, convert, run_underlying (hU.at_ hs), run_underlying (hU.at_ hd), Conv.intToInt]
 case extract x i =>
   split at h <;> try (simp at h; done)
   rename_i vs hx
   simp [hρ _ _ hx, Instr.extract, h]
 case nilCheck x =>
   split at h <;> try (simp at h; done)
   rename_i a hx
   obtain rfl := Option.some.inj h
   simp [hρ _ _ hx]
 case makeFunc fn first captured =>
   split at h <;> try (simp at h; done)
   rename_i l r hl hr
   obtain rfl := Option.some.inj h
   simp [Instr.makeFunc, map_toArray' hρ hl, map_toArray' hρ hr]
 case call c =>
   split at h <;> try (simp at h; done)
   rename_i b hb
   split at h <;> try (simp at h; done)
   rename_i vs hvs
   simp only [resolve, hb, Sem.run_bind, Sem.run_pure, Result.andThen_ok, invoke, map_toArray' hρ hvs]
   exact bltV_run (P := P) hU h type _ w

def stepP (U : List (Nat × TypeDesc)) (ops : Array Oper) (n : Nat) (F : Fm) (o : Oper) : Option Fm :=
  match gd ops F o, o.dst with
  | some true, some d => match Nat.ble (d + 1) n, pv U F o.op with
    | true, some v => some ((d, v) :: F)
    | _, _ => none
  | some false, some d => match Nat.ble (d + 1) n with
    | true => some ((d, undef) :: F)
    | false => none
  | some false, none => some F
  | _, _ => none
def runP (U : List (Nat × TypeDesc)) (ops : Array Oper) (n : Nat) : Nat → List Oper → Fm → Option (List Oper × Fm)
  | 0, l, F => some (l, F)
  | k + 1, o :: l, F => match stepP U ops n F o with
    | some F' => runP U ops n k l F'
    | none => none
  | _ + 1, [], _ => none

variable {ops : Array Oper} {Q : Exit → Act → World → Prop} {n : Md} {l : List Oper} {o : Oper} {F : Fm} {w : World}

theorem stepP_sound {U : List (Nat × TypeDesc)} (hU : okU P U) {F' : Fm} (h : stepP U ops n.n F o = some F') (hk : OJ P ops Q n l F' w) : OJ P ops Q n (o :: l) F w := by
 unfold stepP at h
 split at h
 ·rename_i d hg hd
  split at h
  ·rename_i v hn hv
   obtain rfl := Option.some.inj h
   exact OJ.run hg hd (Nat.le_of_ble_eq_true hn) (fun ρ hρ => pv_run hU hv ρ hρ w) hk
  simp at h
 ·rename_i d hg hd
  split at h
  ·rename_i hn
   obtain rfl := Option.some.inj h
   exact OJ.skip hg hd (Nat.le_of_ble_eq_true hn) hk
  simp at h
 ·rename_i hg hd
  obtain rfl := Option.some.inj h
  exact OJ.skips hg hd hk
 simp at h

theorem OJ.pures {U : List (Nat × TypeDesc)} (hU : okU P U) : ∀ (k : Nat) {l l' : List Oper} {F F' : Fm}, runP U ops n.n k l F = some (l', F') → OJ P ops Q n l' F' w → OJ P ops Q n l F w
  | 0, l, l', F, F', h, hk => by
    simp only [runP, Option.some.injEq, Prod.mk.injEq] at h
    obtain ⟨rfl, rfl⟩ := h
    exact hk
  | k + 1, [], l', F, F', h, hk => by simp [runP] at h
  | k + 1, o :: l, l', F, F', h, hk => by
    simp only [runP] at h
    cases hs : stepP U ops n.n F o with
    | none => rw [hs] at h; simp at h
    | some F1 =>
      rw [hs] at h
      exact stepP_sound hU hs (OJ.pures hU k h hk)

theorem OJ.nil (h : EJ Q .normal n F w) : OJ P ops Q n [] F w := fun a ha => h a ha
theorem CJ.region {id : Nat} {l : List Oper} (h : OJ P l.toArray Q n l F w) : CJ P (.region id l.toArray false) Q n F w := fun a ha => wpIn_region_lit (h a ha)
theorem wpR_mono {rd : Option Nat} {c : Code} {Q' : Exit → Act → World → Prop} {a : Act} (hq : ∀ e a w, Q e a w → Q' e a w) (h : wpR rd P c Q a w) : wpR rd P c Q' a w := Code.wpIn_mono hq h
theorem CJ.seq {x y : Code} (h : CJ P x (Exit.then (wpR n.rd P y Q) Q) n F w) : CJ P (x.seq y) Q n F w := fun a ha => wpIn_seq (h a ha)
theorem EJ.next {y : Code} (h : CJ P y Q n F w) : EJ (Exit.then (wpR n.rd P y Q) Q) .normal n F w := h
theorem CJ.block {id : Nat} {c : Code} (h : CJ P c (Exit.inBlock id Q) n F w) : CJ P (.block id c) Q n F w := fun a ha => wpIn_block (h a ha)
theorem EJ.blk {id : Nat} (h : EJ Q .normal n F w) : EJ (Exit.inBlock id Q) .normal n F w := h
theorem CJ.skip (h : EJ Q .normal n F w) : CJ P .skip Q n F w := fun a ha => wpIn_skip (h a ha)
theorem CJ.ret (h : EJ Q .ret n F w) : CJ P .ret Q n F w := fun a ha => wpIn_ret (h a ha)
theorem CJ.exit {id : Nat} (h : EJ Q (.exit id) n F w) : CJ P (.exit id) Q n F w := fun a ha => wpIn_exit (h a ha)
theorem EJ.skE {K : Act → World → Prop} {id : Nat} (h : EJ Q (.exit id) n F w) : EJ (Exit.then K Q) (.exit id) n F w := h
theorem EJ.skR {K : Act → World → Prop} (h : EJ Q .ret n F w) : EJ (Exit.then K Q) .ret n F w := h
theorem EJ.bkR {id : Nat} (h : EJ Q .ret n F w) : EJ (Exit.inBlock id Q) .ret n F w := h
theorem EJ.bkE {id i : Nat} (hi : Nat.beq i id = false) (h : EJ Q (.exit i) n F w) : EJ (Exit.inBlock id Q) (.exit i) n F w := by
 intro a ha
 show (if i = id then Q .normal a w else Q (.exit i) a w)
 rw [if_neg (Nat.ne_of_beq_eq_false hi)]
 exact h a ha
theorem EJ.hit {id : Nat} (h : EJ Q .normal n F w) : EJ (Exit.inBlock id Q) (.exit id) n F w := by
 intro a ha
 show (if id = id then Q .normal a w else Q (.exit id) a w)
 rw [if_pos rfl]
 exact h a ha
theorem CJ.cond {c : Operand} {x y : Code} {b : Bool} (hc : evO F c = some (.bool b)) (ht : b = true → CJ P x Q n F w) (hf : b = false → CJ P y Q n F w) : CJ P (.cond c x y) Q n F w := fun a ha => wpIn_cond_split (ha.ev hc) (fun h => ht h a ha) (fun h => hf h a ha)
theorem CJ.condT {c : Operand} {x y : Code} (hc : evO F c = some (.bool true)) (ht : CJ P x Q n F w) : CJ P (.cond c x y) Q n F w := fun a ha => wpIn_cond_true (ha.ev hc) (ht a ha)
theorem CJ.condF {c : Operand} {x y : Code} (hc : evO F c = some (.bool false)) (hf : CJ P y Q n F w) : CJ P (.cond c x y) Q n F w := fun a ha => wpIn_cond_false (ha.ev hc) (hf a ha)
theorem CJ.cut {x y : Code} (I : Fm → World → Prop) (h : CJ P x (Exit.then (fun a w => ∃ F, Fr n F a ∧ I F w) Q) n F w) (hk : ∀ F w, I F w → CJ P y Q n F w) : CJ P (x.seq y) Q n F w := by
  refine CJ.seq fun a ha => ?_
  refine wpR_mono (fun e a w he => ?_) (h a ha)
  cases e with
  | normal => obtain ⟨F, hF, hI⟩ := he; exact hk F w hI a hF
  | _ => exact he
theorem EJ.meet {F' : Fm} {I : Fm → World → Prop} (hs : sub F' F) (h : I F' w) : EJ (Exit.then (fun a w => ∃ F, Fr n F a ∧ I F w) Q) .normal n F w := fun a ha => ⟨F', ha.sub hs, h⟩
theorem CJ.loop {c : Code} (I : Nat → Fm → World → Prop) (k : Nat) {F' : Fm} (hs : sub F' F) (h0 : I k F' w)
 (hr : ∀ k F w, I k F w → CJ P c (Exit.then (fun a w => ∃ F, Fr n F a ∧ ∃ k', k' < k ∧ I k' F w) Q) n F w) : CJ P (.loop c) Q n F w := by
 intro a ha
 have ha := ha.sub hs
 show (Code.loop c).wpIn (rF n.rd) 0 P Q a w
 intro b K cs hro hb hrm
 have main : ∀ (k : Nat) (F : Fm) (a : Act) (w : World), Fr n F a → I k F w → ∃ e a' w', Q e a' w' ∧ ArrivesIn (Machine.fenced P (rF n.rd)) P (lone (b.atR a (.code c :: .inLoop c :: K)) cs w) b K cs e a' w' := by
   intro k
   induction k using Nat.strongRecOn with
   | _ k ih =>
     intro F a w hF hI
     obtain ⟨e, a₁, w₁, hq, harr⟩ := hr k F w hI a hF b (.inLoop c :: K) cs hro hb hrm
     cases e with
     | normal =>
       obtain ⟨F1, hF1, k1, hlt, hI1⟩ := hq
       obtain ⟨e₂, a₂, w₂, hq₂, harr₂⟩ := ih k1 hlt F1 a₁ w₁ hF1 hI1
       exact ⟨e₂, a₂, w₂, hq₂, .of_steps (StepsIn.trans harr (.one (fenced_calm hb hrm rfl) stepR_inLoop)) harr₂⟩
     | _ => exact ⟨_, a₁, w₁, hq, .pass (x := .inLoop c) rfl (fun _ _ => .inl (by simp)) harr⟩
 obtain ⟨e, a', w', hq, harr⟩ := main k F' a w ha h0
 exact ⟨e, a', w', hq, .of_steps (.one (fenced_calm hb hrm rfl) stepR_loop) harr⟩
theorem EJ.round {I : Nat → Fm → World → Prop} {k : Nat} (k' : Nat) {F' : Fm} (hs : sub F' F) (hk : k' < k) (h : I k' F' w) :
 EJ (Exit.then (fun a w => ∃ F, Fr n F a ∧ ∃ k', k' < k ∧ I k' F w) Q) .normal n F w := fun a ha => ⟨F', ha.sub hs, k', hk, h⟩

def Has (F : Fm) (ρ : Operand → Value) : Prop := ∀ x u, evO F x = some u → ρ x = u

def CV (P : Program) (f : FuncId) (args : Array Value) (w : World) (R : Value → World → Prop) : Prop := Calls P f args w fun e w' => ∃ v, e = .returned v ∧ R v w'
theorem CV.mono {f : FuncId} {args : Array Value} {R R' : Value → World → Prop} (h : CV P f args w R) (hr : ∀ v w', R v w' → R' v w') : CV P f args w R' :=
  Calls.mono h fun _ _ ⟨v, he, hv⟩ => ⟨v, he, hr _ _ hv⟩


def hasBody (P : Program) (f : FuncId) : Prop := ∃ fn, P.funcs[f]? = some fn ∧ fn.body.isNone = false ∧ (fn.name == "runtime.NumGoroutine") = false
theorem hasBody.mk {f : FuncId} {fn : Func} (h : P.funcs[f]? = some fn) (hb : fn.body.isNone = false) (hn : (fn.name == "runtime.NumGoroutine") = false) : hasBody P f := ⟨fn, h, hb, hn⟩
theorem run_callFunc {f : FuncId} (h : hasBody P f) (args : Array Value) (w : World) : (callFunc f args).run P w = .ok (.enter f args) w := by
 obtain ⟨fn, hf, hb, hn⟩ := h
 unfold callFunc
 simp only [Sem.run_bind, run_program, Result.andThen_ok, hf, hn, hb, Bool.false_eq_true, if_false, Sem.run_pure]

theorem CV.inn {rd : Option Nat} {f : FuncId} {args : Array Value} {R : Value → World → Prop} (h : CV P f args w R) : CallsIn (rF rd) 0 P f args w fun e w' => ∃ v, e = .returned v ∧ R v w' := by
 have h' : CallsIn Fence.wide 0 P f args w fun e w' => ∃ v, e = .returned v ∧ R v w' := callsIn_wide.2 h
 exact h'
theorem wlR_enter {rd : Option Nat} {a : Act} {f : FuncId} {args : Array Value} (hw : Region.wanted o (yielded ops a.tmps) = true) (hr : (execOp a.eval o).run P w = .ok (.enter f args) w) (h : CV P f args w fun v w' => wlR rd P ops Q l (a.put o.dst v) w') : wlR rd P ops Q (o :: l) a w := by
 unfold wlR
 simp only [wpListIn, hw, if_true]
 refine ⟨fun _ _ => trivial, ?_⟩
 rw [Oper.semAt_eq _ _ _ (notDefer hr (by simp)), hr, Oper.uponIn_enter]
 refine ⟨fun h => by simp [rF, Fence.wide] at h, ?_⟩
 refine CallsIn.mono h.inn ?_
 rintro e w' ⟨v, rfl, hR⟩
 exact hR
theorem OJ.call {c : Call} {d : Nat} {fv : Operand} {f : FuncId} {first cap : Array Value} {vs : List Value} (hg : gd ops F o = some true) (hd : o.dst = some d) (hn : d < n.n) (ho : o.op = .call c) (hc : c.callee = .value fv)
 (hf : evO F fv = some (.func (.func f) first cap)) (hb : hasBody P f) (hargs : allV (c.args.toList.map (evO F)) = some vs) {R : Value → World → Prop} (hcall : CV P f (first ++ vs.toArray ++ cap) w R)
 (h : ∀ v w', R v w' → OJ P ops Q n l ((d, v) :: F) w') : OJ P ops Q n (o :: l) F w := by
 intro a ha
 have hw := gd_wanted hg ha
 have hr : (execOp a.eval o).run P w = .ok (.enter f (first ++ vs.toArray ++ cap)) w := by
   unfold execOp
   have hargs' := map_toArray' (ρ := a.eval) (fun x u hx => ha.ev hx) hargs
   simp only [ho, resolve, hc, ha.ev hf, Deferred.ofValue, hargs', Sem.run_bind, Sem.run_pure, Result.andThen_ok, invoke, run_callFunc hb]
 refine wlR_enter hw hr (hcall.mono fun v w' hR => ?_)
 rw [hd]
 exact h v w' hR _ (ha.put hn v)

def frame0 : Nat → List Value → Fm
  | _, [] => []
  | i, v :: r => (i, v) :: frame0 (i + 1) r
theorem lk_frame0 : ∀ (l : List Value) (i t : Nat) (v : Value), lk (frame0 i l) t = some v → i ≤ t ∧ l[t - i]? = some v
  | [], i, t, v, h => by simp [frame0, lk] at h
  | x :: l, i, t, v, h => by
    simp only [frame0, lk_cons] at h
    by_cases e : i = t
    · subst e
      rw [if_pos rfl] at h
      exact ⟨Nat.le_refl _, by simpa using h⟩
    · rw [if_neg e] at h
      obtain ⟨h1, h2⟩ := lk_frame0 l (i + 1) t v h
      refine ⟨by omega, ?_⟩
      rw [show t - i = (t - (i + 1)) + 1 by omega]
      simpa using h2
theorem CV.body {f : FuncId} {fn : Func} {c : Code} {args : List Value} {R : Value → World → Prop} {m : Nat} (hf : P.funcs[f]? = some fn) (hb : fn.body = some c) (hn : fn.ntmps = m) (hl : Nat.ble args.length m = true)
 (h : CJ P c (bodyPost P fn fun e w' => ∃ v, e = .returned v ∧ R v w') ⟨m, none, []⟩ (frame0 0 args) w) : CV P f args.toArray w R := by
 refine calls_of_wp hf hb ((wpIn_wide (n := 0)).1 ?_)
 have hl := Nat.le_of_ble_eq_true hl
 refine h _ ⟨rfl, by simp [hn]; omega, fun t v hv => ?_⟩
 obtain ⟨_, h2⟩ := lk_frame0 _ _ _ _ hv
 simp only [Nat.sub_zero] at h2
 have hlt := (List.getElem?_eq_some_iff.1 h2).1
 rw [Array.getElem?_append_left (by simpa using hlt)]
 simpa using h2

inductive ResOK (P : Program) (F : Fm) (w : World) : List ResultVar → List Value → Prop
  | nil : ResOK P F w [] []
  | tmp {t : Nat} {v : Value} {rs : List ResultVar} {vs : List Value} (h : lk F t = some v) (r : ResOK P F w rs vs) : ResOK P F w (.tmp t :: rs) (v :: vs)
  | cell {t : Nat} {ad : Addr} {ty : TypeId} {v : Value} {rs : List ResultVar} {vs : List Value} (h : lk F t = some (.pointer (some ad))) (hl : (loadVar ty ad).run P w = .ok v w) (r : ResOK P F w rs vs) : ResOK P F w (.cell t ty :: rs) (v :: vs)
def tupV : List Value → Value
  | [v] => v
  | l => .tuple l.toArray

def resF (a : Act) : ResultVar → Sem Value
  | .tmp t => pure (a.tmps.getD t undef)
  | .cell p ty => do loadVar ty (← asAddr (a.tmps.getD p undef))

theorem ResOK.run {a : Act} (ha : Fr n F a) {rs : List ResultVar} {vs : List Value} (h : ResOK P F w rs vs) : (rs.mapM (resF a)).run P w = .ok vs w := by
  induction h with
  | nil => simp
  | @tmp t v rs vs h r ih =>
    have hv' : (a.tmps.getD t undef) = v := by simp [ha.at_ _ _ h]
    rw [List.mapM_cons]
    simp only [Sem.run_bind, ih, Sem.run_pure, Result.andThen_ok, resF, hv']
  | @cell t ad ty v rs vs h hl r ih =>
    have hv' : (asAddr (a.tmps.getD t undef)).run P w = .ok ad w := by simp [ha.at_ _ _ h, asAddr]
    rw [List.mapM_cons]
    simp only [Sem.run_bind, ih, Sem.run_pure, Result.andThen_ok, resF, hv', hl]

theorem ResOK.results {a : Act} (ha : Fr n F a) {fn : Func} {rs : List ResultVar} (hr : fn.results = rs.toArray) {vs : List Value} (h : ResOK P F w rs vs) : (results fn a.tmps).run P w = .ok (tupV vs) w := by
  have hm := h.run ha
  have e : Go.results fn a.tmps = (do let vs ← fn.results.mapM (resF a); pure (if h : vs.size = 1 then vs[0] else .tuple vs)) := by
    unfold Go.results
    congr 1
  rw [e, hr, List.mapM_toArray]
  simp only [Sem.run_bind, Sem.run_map, hm, Result.andThen_ok, Sem.run_pure]
  cases vs with
  | nil => rfl
  | cons v r => cases r <;> rfl

theorem EJ.fin {m : Nat} {fn : Func} {rs : List ResultVar} (hr : fn.results = rs.toArray) {R : Value → World → Prop} {vs : List Value} (hv : ResOK P F w rs vs) (h : R (tupV vs) w) :
 EJ (bodyPost P fn fun e w' => ∃ v, e = .returned v ∧ R v w') .ret ⟨m, none, []⟩ F w := fun a ha => ⟨ha.defers, _, hv.results ha hr, _, rfl, h⟩
theorem EJ.fin' {m : Nat} {fn : Func} {rs : List ResultVar} (hr : fn.results = rs.toArray) {R : Value → World → Prop} {vs : List Value} (hv : ResOK P F w rs vs) (h : R (tupV vs) w) :
 EJ (bodyPost P fn fun e w' => ∃ v, e = .returned v ∧ R v w') .normal ⟨m, none, []⟩ F w := fun a ha => ⟨ha.defers, _, hv.results ha hr, _, rfl, h⟩

end G
end Go.Proofs.YtegibnmfiogebaaGreatDoor
