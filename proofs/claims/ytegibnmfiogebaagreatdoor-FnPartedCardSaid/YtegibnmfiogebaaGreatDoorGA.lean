/-
  Step lemmas for walks whose frame is told as a list of slots. Part A: frames, operations on registers, the flow of control, calls.
-/
import Derived.WalkKit
import Derived.KernelRfl
import Derived.TacticsIn
namespace Go.Proofs.YtegibnmfiogebaaGreatDoor
namespace G
set_option linter.unusedVariables false
set_option linter.unusedSimpArgs false

abbrev Fm := List (Nat × Value)
def lk : Fm → Nat → Option Value
  | [], _ => none
  | (t, v) :: r, s => match Nat.beq t s with
    | true => some v
    | false => lk r s

theorem lk_cons (t : Nat) (v : Value) (F : Fm) (s : Nat) : lk ((t, v) :: F) s = if t = s then some v else lk F s := by
  unfold lk
  cases h : Nat.beq t s with
  | true => rw [if_pos (Nat.eq_of_beq_eq_true h)]
  | false => rw [if_neg (Nat.ne_of_beq_eq_false h)]; cases F <;> rfl

structure Md where
  n : Nat
  rd : Option Nat
  df : List Deferred

structure Fr (n : Md) (F : Fm) (a : Act) : Prop where
  defers : a.defers = n.df
  size : a.tmps.size = n.n
  at_ : ∀ t v, lk F t = some v → a.tmps[t]? = some v

def evO (F : Fm) : Operand → Option Value
  | .tmp t => lk F t
  | .const v => some v
  | .global g => some (.pointer (some ⟨g, 0, none⟩))
  | .func f => some (.func (.func f) #[] #[])

theorem Fr.ev {n : Md} {F : Fm} {a : Act} (h : Fr n F a) {x : Operand} {v : Value} (hx : evO F x = some v) : a.eval x = v := by
  cases x with
  | tmp t =>
    have := h.at_ t v hx
    simp [Act.eval, this]
  | const u => simpa [evO, Act.eval] using hx
  | global g => simpa [evO, Act.eval] using hx
  | func f => simpa [evO, Act.eval] using hx

theorem Fr.put {n : Md} {F : Fm} {a : Act} (h : Fr n F a) {d : Nat} (hd : d < n.n) (v : Value) : Fr n ((d, v) :: F) (a.put (some d) v) := by
 refine ⟨h.defers, by simp [Act.put, h.size], fun t u hu => ?_⟩
 rw [lk_cons] at hu
 simp only [Act.put]
 by_cases e : d = t
 ·subst e
  rw [if_pos rfl] at hu
  obtain rfl := Option.some.inj hu
  rw [Array.getElem?_setIfInBounds, if_pos rfl, if_pos (by rw [h.size]; exact hd)]
 rw [if_neg e] at hu
 rw [Array.getElem?_setIfInBounds_ne e]
 exact h.at_ t u hu

def sub : Fm → Fm → Prop
  | [], _ => True
  | (t, v) :: r, F => lk F t = some v ∧ sub r F

theorem lk_sub : ∀ {F' F : Fm}, sub F' F → ∀ t v, lk F' t = some v → lk F t = some v
  | [], _, _, _, _, h => by simp [lk] at h
  | (t0, v0) :: r, F, hs, t, v, h => by
    rw [lk_cons] at h
    by_cases e : t0 = t
    · subst e
      rw [if_pos rfl] at h
      rw [← h]; exact hs.1
    · rw [if_neg e] at h
      exact lk_sub hs.2 t v h

theorem Fr.sub {n : Md} {F F' : Fm} {a : Act} (h : Fr n F a) (hs : G.sub F' F) : Fr n F' a := ⟨h.defers, h.size, fun t v hv => h.at_ t v (lk_sub hs t v hv)⟩

theorem Fr.as {n : Md} {F : Fm} {a : Act} (h : Fr n F a) {t : Nat} {v u : Value} (hv : lk F t = some v) (e : v = u) : Fr n ((t, u) :: F) a :=
  ⟨h.defers, h.size, fun s x hx => by
    rw [lk_cons] at hx
    by_cases es : t = s
    · subst es
      rw [if_pos rfl] at hx
      obtain rfl := Option.some.inj hx
      subst e
      exact h.at_ t v hv
    · rw [if_neg es] at hx
      exact h.at_ s x hx⟩

variable {P : Program} {ops : Array Oper} {Q : Exit → Act → World → Prop} {n : Md} {l : List Oper} {o : Oper} {F : Fm} {w : World}

def rF (rd : Option Nat) : Fence := { Fence.wide with round := rd }
def wpR (rd : Option Nat) (P : Program) (c : Code) (Q : Exit → Act → World → Prop) (a : Act) (w : World) : Prop := c.wpIn (rF rd) 0 P Q a w
def wlR (rd : Option Nat) (P : Program) (ops : Array Oper) (Q : Exit → Act → World → Prop) (l : List Oper) (a : Act) (w : World) : Prop := wpListIn (rF rd) 0 P ops Q l a w
theorem notDefer {ρ : Operand → Value} {P : Program} {o : Oper} {w w' : World} {x : Next} (h : (execOp ρ o).run P w = .ok x w') (hx : ∀ d, x ≠ .defer d) : ∀ c, o.op ≠ .defer c := by
  intro c e
  unfold execOp at h
  simp only [e, Sem.run_bind] at h
  cases hr : (resolve ρ c o.type).run P w with
  | ok d w1 =>
    rw [hr] at h
    simp only [Result.andThen_ok, Sem.run_pure, Result.ok.injEq] at h
    exact hx d h.1.symm
  | halt e1 w1 =>
    rw [hr] at h
    simp [Result.andThen] at h
theorem wlR_value {rd : Option Nat} {P : Program} {ops : Array Oper} {Q : Exit → Act → World → Prop} {l : List Oper} {o : Oper} {a : Act} {w w' : World} {v : Value} (hw : Region.wanted o (yielded ops a.tmps) = true) (hr : (execOp a.eval o).run P w = .ok (.value v) w') (h : wlR rd P ops Q l (a.put o.dst v) w') : wlR rd P ops Q (o :: l) a w := by
 unfold wlR
 simp only [wpListIn, hw, if_true]
 refine ⟨fun _ _ => trivial, ?_⟩
 rw [Oper.semAt_eq _ _ _ (notDefer hr (by simp)), hr]
 exact h
theorem wlR_skip {rd : Option Nat} {P : Program} {ops : Array Oper} {Q : Exit → Act → World → Prop} {l : List Oper} {o : Oper} {a : Act} {w w' : World} (hw : Region.wanted o (yielded ops a.tmps) = true) (hr : (execOp a.eval o).run P w = .ok .skip w') (h : wlR rd P ops Q l (a.put o.dst undef) w') : wlR rd P ops Q (o :: l) a w := by
 unfold wlR
 simp only [wpListIn, hw, if_true]
 refine ⟨fun _ _ => trivial, ?_⟩
 rw [Oper.semAt_eq _ _ _ (notDefer hr (by simp)), hr]
 exact h
theorem wlR_not {rd : Option Nat} {P : Program} {ops : Array Oper} {Q : Exit → Act → World → Prop} {l : List Oper} {o : Oper} {a : Act} {w : World} (hw : Region.wanted o (yielded ops a.tmps) = false) (h : wlR rd P ops Q l (a.put o.dst undef) w) : wlR rd P ops Q (o :: l) a w := by
 unfold wlR
 simp only [wpListIn, hw, Bool.false_eq_true, if_false]
 exact ⟨fun _ _ => trivial, h⟩

def OJ (P : Program) (ops : Array Oper) (Q : Exit → Act → World → Prop) (n : Md) (l : List Oper) (F : Fm) (w : World) : Prop := ∀ a, Fr n F a → wlR n.rd P ops Q l a w
def CJ (P : Program) (c : Code) (Q : Exit → Act → World → Prop) (n : Md) (F : Fm) (w : World) : Prop := ∀ a, Fr n F a → wpR n.rd P c Q a w
def EJ (Q : Exit → Act → World → Prop) (e : Exit) (n : Md) (F : Fm) (w : World) : Prop := ∀ a, Fr n F a → Q e a w

theorem OJ.weak {F' : Fm} (hs : sub F' F) (h : OJ P ops Q n l F' w) : OJ P ops Q n l F w := fun a ha => h a (ha.sub hs)
theorem CJ.weak {c : Code} {F' : Fm} (hs : sub F' F) (h : CJ P c Q n F' w) : CJ P c Q n F w := fun a ha => h a (ha.sub hs)
theorem EJ.weak {e : Exit} {F' : Fm} (hs : sub F' F) (h : EJ Q e n F' w) : EJ Q e n F w := fun a ha => h a (ha.sub hs)
theorem OJ.as {t : Nat} {v u : Value} (hv : lk F t = some v) (e : v = u) (h : OJ P ops Q n l ((t, u) :: F) w) : OJ P ops Q n l F w := fun a ha => h a (ha.as hv e)
theorem CJ.as {c : Code} {t : Nat} {v u : Value} (hv : lk F t = some v) (e : v = u) (h : CJ P c Q n ((t, u) :: F) w) : CJ P c Q n F w := fun a ha => h a (ha.as hv e)

def gd (ops : Array Oper) (F : Fm) (o : Oper) : Option Bool :=
  match o.guard with
  | none => some true
  | some (j, want) =>
    match (ops[j]?).bind (·.dst) with
    | none => some false
    | some t => match lk F t with
      | some (.bool b) => some (b == want)
      | some (.tuple _) => some false
      | _ => none

theorem gd_wanted {b : Bool} {a : Act} (h : gd ops F o = some b) (ha : Fr n F a) : Region.wanted o (yielded ops a.tmps) = b := by
  unfold gd at h
  unfold Region.wanted
  cases hg : o.guard with
  | none => rw [hg] at h; simpa using h
  | some jw =>
    obtain ⟨j, want⟩ := jw
    rw [hg] at h
    simp only [yielded] at h ⊢
    cases hd : (ops[j]?).bind (·.dst) with
    | none => rw [hd] at h; simpa using h
    | some t =>
      rw [hd] at h
      simp only at h
      cases hl : lk F t with
      | none => rw [hl] at h; simp at h
      | some v =>
        rw [hl] at h
        have hv := ha.at_ t v hl
        simp only [Option.bind_some, hv]
        cases v <;> simp at h ⊢ <;> exact h

theorem OJ.run {v : Value} {w' : World} {d : Nat} (hg : gd ops F o = some true) (hd : o.dst = some d) (hn : d < n.n)
 (hrun : ∀ ρ : Operand → Value, (∀ x u, evO F x = some u → ρ x = u) → (execOp ρ o).run P w = .ok (.value v) w')
 (h : OJ P ops Q n l ((d, v) :: F) w') : OJ P ops Q n (o :: l) F w := by
 intro a ha
 have hw := gd_wanted hg ha
 refine wlR_value hw (hrun a.eval (fun x u hx => ha.ev hx)) ?_
 rw [hd]
 exact h _ (ha.put hn v)

theorem OJ.runs {w' : World} (hg : gd ops F o = some true) (hd : o.dst = none)
 (hrun : ∀ ρ : Operand → Value, (∀ x u, evO F x = some u → ρ x = u) → (execOp ρ o).run P w = .ok .skip w')
 (h : OJ P ops Q n l F w') : OJ P ops Q n (o :: l) F w := by
 intro a ha
 have hw := gd_wanted hg ha
 refine wlR_skip hw (hrun a.eval (fun x u hx => ha.ev hx)) ?_
 rw [hd]
 exact h _ ha

theorem OJ.skip {d : Nat} (hg : gd ops F o = some false) (hd : o.dst = some d) (hn : d < n.n) (h : OJ P ops Q n l ((d, undef) :: F) w) : OJ P ops Q n (o :: l) F w := by
 intro a ha
 have hw := gd_wanted hg ha
 refine wlR_not hw ?_
 rw [hd]
 exact h _ (ha.put hn undef)

theorem OJ.skips (hg : gd ops F o = some false) (hd : o.dst = none) (h : OJ P ops Q n l F w) : OJ P ops Q n (o :: l) F w := by
 intro a ha
 have hw := gd_wanted hg ha
 refine wlR_not hw ?_
 rw [hd]
 exact h _ ha

def lkT {α : Type} : List (Nat × α) → Nat → Option α
  | [], _ => none
  | (t, v) :: r, s => match Nat.beq t s with
    | true => some v
    | false => lkT r s
def okU (P : Program) : List (Nat × TypeDesc) → Prop
  | [] => True
  | (t, d) :: r => P.underlying t = some d ∧ okU P r
theorem lkT_cons {α : Type} (t : Nat) (v : α) (F : List (Nat × α)) (s : Nat) : lkT ((t, v) :: F) s = if t = s then some v else lkT F s := by
  unfold lkT
  cases h : Nat.beq t s with
  | true => rw [if_pos (Nat.eq_of_beq_eq_true h)]
  | false => rw [if_neg (Nat.ne_of_beq_eq_false h)]; cases F <;> rfl
theorem okU.at_ : ∀ {U : List (Nat × TypeDesc)}, okU P U → ∀ {t : Nat} {d : TypeDesc}, lkT U t = some d → P.underlying t = some d
  | [], _, t, d, h => by simp [lkT] at h
  | (t0, d0) :: r, hU, t, d, h => by
    rw [lkT_cons] at h
    by_cases e : t0 = t
    · subst e
      rw [if_pos rfl] at h
      obtain rfl := Option.some.inj h
      exact hU.1
    · rw [if_neg e] at h
      exact okU.at_ hU.2 h
structure TI where
  size : Nat
  bytes : Nat
  zero : Value
def okI (P : Program) : List (Nat × TI) → Prop
  | [] => True
  | (t, d) :: r => (P.info? t).map (fun i => (i.zero, i.size, i.bytes)) = some (some d.zero, d.size, d.bytes) ∧ okI P r
theorem okI.at_ : ∀ {U : List (Nat × TI)}, okI P U → ∀ {t : Nat} {d : TI}, lkT U t = some d → ∃ i, P.info? t = some i ∧ i.zero = some d.zero ∧ i.size = d.size ∧ i.bytes = d.bytes
  | [], _, t, d, h => by simp [lkT] at h
  | (t0, d0) :: r, hU, t, d, h => by
    rw [lkT_cons] at h
    by_cases e : t0 = t
    · subst e
      rw [if_pos rfl] at h
      obtain rfl := Option.some.inj h
      exact info_parts hU.1
    · rw [if_neg e] at h
      exact okI.at_ hU.2 h

def bitV (op : BinOp) (k : IntKind) (x y : Int) : Option Value :=
  match op with
  | .and => some (.int k (k.wrap (BitVec.ofInt k.bits x &&& BitVec.ofInt k.bits y).toNat))
  | .or => some (.int k (k.wrap (BitVec.ofInt k.bits x ||| BitVec.ofInt k.bits y).toNat))
  | .xor => some (.int k (k.wrap (BitVec.ofInt k.bits x ^^^ BitVec.ofInt k.bits y).toNat))
  | .andNot => some (.int k (k.wrap (BitVec.ofInt k.bits x &&& ~~~ BitVec.ofInt k.bits y).toNat))
  | _ => none
def intV (op : BinOp) (k : IntKind) (x y : Int) : Option Value :=
  match op with
  | .add => some (.int k (k.wrap (x + y)))
  | .sub => some (.int k (k.wrap (x - y)))
  | .mul => some (.int k (k.wrap (x * y)))
  | .and => bitV .and k x y
  | .or => bitV .or k x y
  | .xor => bitV .xor k x y
  | .andNot => bitV .andNot k x y
  | .eql => some (.bool (decide (x = y)))
  | .neq => some (.bool (decide (x ≠ y)))
  | .lss => some (.bool (decide (x < y)))
  | .leq => some (.bool (decide (x ≤ y)))
  | .gtr => some (.bool (decide (y < x)))
  | .geq => some (.bool (decide (y ≤ x)))
  | _ => none
def strV (op : BinOp) (x y : ByteArray) : Option Value :=
  match op with
  | .eql => some (.bool (decide (x = y)))
  | .neq => some (.bool (decide (x ≠ y)))
  | _ => none
def binV (op : BinOp) : Value → Value → Option Value
  | .int k x, .int k' y => match decide (k = k') with
    | true => intV op k x y
    | false => none
  | .string x, .string y => strV op x y
  | _, _ => none

def minV : Value → Value → Option Value
  | .int k x, .int _ y => some (.int k (if y < x then y else x))
  | _, _ => none
def maxV : Value → Value → Option Value
  | .int k x, .int _ y => some (.int k (if x < y then y else x))
  | _, _ => none
def foldV (f : Value → Value → Option Value) : Value → List Value → Option Value
  | x, [] => some x
  | x, y :: r => match f x y with
    | some z => foldV f z r
    | none => none

def pickV : Bool → Value → Value → Value
  | b, .bool x, .bool y => .bool (bif b then x else y)
  | b, u, v => bif b then u else v

def allV : List (Option Value) → Option (List Value)
  | [] => some []
  | some v :: r => match allV r with
    | some l => some (v :: l)
    | none => none
  | none :: _ => none

def lenV (d : TypeDesc) (v : Value) : Option Value :=
  match d, v with
  | .string, .string s => some (.int .i64 s.size)
  | .slice _, .slice _ n _ => some (.int .i64 n)
  | .array n _, _ => some (.int .i64 n)
  | _, _ => none
def bltV (U : List (Nat × TypeDesc)) (b : Builtin) (ts : List Nat) (vs : List Value) : Option Value :=
  match b, ts, vs with
  | .len, t :: _, x :: _ => match lkT U t with
    | some d => lenV d x
    | none => none
  | .min, _, x :: r => foldV minV x r
  | .max, _, x :: r => foldV maxV x r
  | _, _, _ => none

def pv (U : List (Nat × TypeDesc)) (F : Fm) : Op → Option Value
  | .move x | .assign x => evO F x
  | .pick c a b => match evO F c, evO F a, evO F b with
    | some (.bool t), some u, some v => some (pickV t u v)
    | _, _, _ => none
  | .binOp op _ x y _ => match evO F x, evO F y with
    | some u, some v => binV op u v
    | _, _ => none
  | .unOp .not _ x => match evO F x with
    | some (.bool b) => some (.bool (!b))
    | _ => none
  | .unOp .neg _ x => match evO F x with
    | some (.int k m) => some (.int k (k.wrap (0 - m)))
    | _ => none
  | .convert src dst x => match lkT U src, lkT U dst, evO F x with
    | some _, some (.int k), some (.int _ m) => some (.int k (k.wrap m))
    | _, _, _ => none
  | .extract x i => match evO F x with
    | some (.tuple vs) => vs[i]?
    | _ => none
  | .nilCheck x => match evO F x with
    | some (.pointer (some a)) => some (.pointer (some a))
    | _ => none
  | .makeFunc fn first captured => match allV (first.toList.map (evO F)), allV (captured.toList.map (evO F)) with
    | some l, some r => some (.func fn l.toArray r.toArray)
    | _, _ => none
  | .call c => match c.callee with
    | .builtin b => match allV (c.args.toList.map (evO F)) with
      | some vs => bltV U b c.argTypes.toList vs
      | none => none
    | _ => none
  | _ => none

end G
end Go.Proofs.YtegibnmfiogebaaGreatDoor
