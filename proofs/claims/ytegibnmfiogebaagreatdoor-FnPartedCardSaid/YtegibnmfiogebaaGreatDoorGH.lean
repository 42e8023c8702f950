/-
  Step lemmas for walks whose frame is told as a list of slots. Part H: joins that stand last, escapes, variables that are read through a pointer.
-/
import Derived.Test.YtegibnmfiogebaaGreatDoorGG
import Derived.Laws.StructEq
import Derived.Lib.SliceRun
namespace Go.Proofs.YtegibnmfiogebaaGreatDoor
namespace G
set_option linter.unusedVariables false
set_option linter.unusedSimpArgs false
variable {P : Program} {ops : Array Oper} {Q : Exit → Act → World → Prop} {n : Md} {l : List Oper} {o : Oper} {F : Fm} {w w' w0 : World} {X : Nat → Prop} {L R : List Chunk} {α : Type} {C : Cd α}

theorem CJ.cut1 {x : Code} (I : Fm → World → Prop) (h : CJ P x (Exit.then (fun a w => ∃ F, Fr n F a ∧ I F w) Q) n F w) (hk : ∀ F w, I F w → EJ Q .normal n F w) : CJ P x Q n F w := by
  intro a ha
  refine wpR_mono (fun e a w he => ?_) (h a ha)
  cases e with
  | normal => obtain ⟨F, hF, hI⟩ := he; exact hk F w hI a hF
  | _ => exact he
def andI (k : IntKind) (x y : Int) : Int := k.wrap (BitVec.ofInt k.bits x &&& BitVec.ofInt k.bits y).toNat
def orI (k : IntKind) (x y : Int) : Int := k.wrap (BitVec.ofInt k.bits x ||| BitVec.ofInt k.bits y).toNat
def andNotI (k : IntKind) (x y : Int) : Int := k.wrap (BitVec.ofInt k.bits x &&& ~~~ BitVec.ofInt k.bits y).toNat

def roP (ad : Addr) (cs : List Value) : Chunk where
  fp := fun k => cs ≠ [] ∧ ad.block = k
  holds := fun w => CA w ad cs
  stable := fun {w w'} h hs => fun j v hv => by
    have h0 := h j v hv
    rw [World.cell?_of_block (w := w) (hs _ ⟨fun e0 => by rw [e0] at hv; simp at hv, by rw [add_blk]⟩)]
    exact h0
  lt := fun {w} h k hk => by
    obtain ⟨hne, hb⟩ := hk
    subst hb
    cases hx : cs with
    | nil => exact absurd hx hne
    | cons v vs => exact World.block_lt_of_cell? w _ (h 0 v (by rw [hx]; rfl))
theorem St.ca {ad : Addr} {cs : List Value} {i : Nat} (h : St w0 X w L R) (hi : R[i]? = some (roP ad cs)) : CA w ad cs := h.ro hi
theorem St.paramP {w : World} {R : List Chunk} (h : St w no w [] R) (ad : Addr) (cs : List Value) (hc : CA w ad cs) : St w no w [] (R ++ [roP ad cs]) := h.read _ hc (by simp)
def cellEq : TypeDesc → Value → Value → Option Bool
  | .int _, .int k a, .int k' b => match decide (k = k') with
    | true => some (decide (a = b))
    | false => none
  | .bool, .bool a, .bool b => some (decide (a = b))
  | .string, .string a, .string b => some (decide (a = b))
  | _, _, _ => none
theorem cellEq_run {d : TypeDesc} {a b : Value} {r : Bool} (h : cellEq d a b = some r) {T : TypeId} (hT : P.underlying T = some d) (m : Nat) (w : World) : (Op.equalIn (m + 1) T a b).run P w = .ok r w ∧ isAggD d = false := by
 unfold cellEq at h
 split at h
 ·rename_i k0 k x k' y
  by_cases e : k = k'
  ·subst e
   simp only [decide_true, Option.some.injEq] at h
   subst h
   exact ⟨by rw [run_equalIn_int w m T k _ x y hT]; rfl, rfl⟩
  simp [e] at h
 ·obtain rfl := Option.some.inj h
  rename_i x y
  exact ⟨by rw [run_equalIn_bool' w m T x y hT]; cases x <;> cases y <;> rfl, rfl⟩
 ·obtain rfl := Option.some.inj h
  rename_i x y
  exact ⟨by rw [run_equalIn_string w m T x y hT, bytes_eq], rfl⟩
 simp at h
def eqL (U : List (Nat × TypeDesc)) (xs ys : List Value) : List Field → Option Bool
  | [] => some true
  | f :: r => match decide (f.name ≠ "_"), lkT U f.type, xs[f.offset]?, ys[f.offset]? with
    | true, some d, some a, some b => match cellEq d a b, eqL U xs ys r with
      | some c, some e => some (c && e)
      | _, _ => none
    | _, _, _, _ => none
theorem eqL_run {U : List (Nat × TypeDesc)} (hU : okU P U) {xs ys : List Value} (m : Nat) (w : World) : ∀ {fs : List Field} {r : Bool}, eqL U xs ys fs = some r → (Op.eqFields (m + 1) xs.toArray ys.toArray fs).run P w = .ok r w
  | [], r, h => by simp [eqL] at h; subst h; simp [Op.eqFields]
  | f :: fs, r, h => by
    simp only [eqL] at h
    split at h
    · rename_i d a b hn hd ha hb
      split at h
      · rename_i c e hc he
        obtain rfl := Option.some.inj h
        obtain ⟨h1, h2⟩ := cellEq_run hc (hU.at_ hd) m w
        have ih := eqL_run hU m w he
        have hn := of_decide_eq_true hn
        have pa : ∀ (zs : List Value) (z : Value), zs[f.offset]? = some z → (part f.type zs.toArray f.offset).run P w = .ok z w := fun zs z hz => by
          unfold part
          simp only [Sem.run_bind, run_isAgg (hU.at_ hd), Result.andThen_ok, h2]
          simp [hz]
        simp only [Op.eqFields, hn, ne_eq, not_false_eq_true, if_true, Sem.run_bind, pa _ _ ha, pa _ _ hb, h1, Result.andThen_ok]
        cases c
        · simp
        · simpa using ih
      · simp at h
    · simp at h
theorem EqT.mk {U : List (Nat × TypeDesc)} (hU : okU P U) {T : TypeId} {fs : Array Field} (hT : lkT U T = some (.struct fs)) (hp : P.stoodInHeld T = false) [DecidableEq α] (h : ∀ x y : α, eqL U (C.enc x) (C.enc y) fs.toList = some (decide (x = y))) : EqT P T C fun z => .agg (C.enc z).toArray := by
 intro d x y w
 have hu := hU.at_ hT
 have hf : P.fieldsOf T = fs := by simp [Program.fieldsOf, hu]
 rw [show d + 20 = (d + 19) + 1 from rfl, run_equalIn_struct w (d + 19) T _ _ (by rw [hf]; exact hu) hp, hf]
 exact eqL_run hU (d + 18) w (h x y)
theorem SR.eqNil {U : List (Nat × TypeDesc)} (hU : okU P U) {t e yt : Nat} {x y : Operand} {A : Option Addr} {m c : Nat} (ho : o.op = .binOp .eql t x y yt) (ht : lkT U t = some (.slice e)) (hx : evO F x = some (.slice A m c)) (hy : evO F y = some (.slice none 0 0)) : SR P F w o (.bool A.isNone) := by
 intro w' hx' ρ hρ
 have := Lib.run_eql_slice_nil (P := P) w' t e A m c 0 0 (hU.at_ ht)
 unfold execOp
 simp [ho, hρ _ _ hx, hρ _ _ hy, eqGuard, this]

def pickL {β : Type} (l : List β) : List Nat → List β
  | [] => []
  | i :: r => match l[i]? with
    | some x => x :: pickL l r
    | none => pickL l r
theorem mem_pickL {β : Type} {l : List β} {x : β} : ∀ {ix : List Nat}, x ∈ pickL l ix → ∃ i ∈ ix, l[i]? = some x
  | [], h => by simp [pickL] at h
  | i :: r, h => by
    simp only [pickL] at h
    cases hi : l[i]? with
    | none => rw [hi] at h; obtain ⟨j, hj, e⟩ := mem_pickL h; exact ⟨j, by simp [hj], e⟩
    | some y =>
      rw [hi] at h
      rcases List.mem_cons.1 h with rfl | h
      · exact ⟨i, by simp, hi⟩
      · obtain ⟨j, hj, e⟩ := mem_pickL h; exact ⟨j, by simp [hj], e⟩
theorem pairwise_pickL {β : Type} {Rl : β → β → Prop} (hsym : ∀ a b, Rl a b → Rl b a) {l : List β} (hp : l.Pairwise Rl) : ∀ {ix : List Nat}, ix.Nodup → (pickL l ix).Pairwise Rl
  | [], _ => by simp [pickL]
  | i :: r, hn => by
    rw [List.nodup_cons] at hn
    simp only [pickL]
    cases hi : l[i]? with
    | none => exact pairwise_pickL hsym hp hn.2
    | some x =>
      rw [List.pairwise_cons]
      refine ⟨fun y hy => ?_, pairwise_pickL hsym hp hn.2⟩
      obtain ⟨j, hj, e⟩ := mem_pickL hy
      have hij : ¬ i = j := fun h => hn.1 (h ▸ hj)
      obtain ⟨h1, rfl⟩ := List.getElem?_eq_some_iff.1 hi
      obtain ⟨h2, rfl⟩ := List.getElem?_eq_some_iff.1 e
      rcases Nat.lt_or_gt_of_ne hij with hlt | hlt
      · exact List.pairwise_iff_getElem.1 hp i j h1 h2 hlt
      · exact hsym _ _ (List.pairwise_iff_getElem.1 hp j i h2 h1 hlt)
theorem St.pick (h : St w0 X w L R) (ix ix' : List Nat) (hn : ndB ix = true) : St w0 X w (pickL L ix) (pickL R ix') :=
  ⟨h.chg, fun c hc => by obtain ⟨i, _, e⟩ := mem_pickL hc; exact h.holds c (List.mem_of_getElem? e), fun c hc => by obtain ⟨i, _, e⟩ := mem_pickL hc; exact h.own c (List.mem_of_getElem? e),
    pairwise_pickL (fun a b hab k hk hk' => hab k hk' hk) h.apart (ndB_nodup hn),
    fun c hc => by obtain ⟨i, _, e⟩ := mem_pickL hc; exact h.reads c (List.mem_of_getElem? e),
    fun c hc d hd => by obtain ⟨i, _, e⟩ := mem_pickL hc; obtain ⟨j, _, e'⟩ := mem_pickL hd; exact h.away c (List.mem_of_getElem? e) d (List.mem_of_getElem? e')⟩
theorem SR.ef {v : Value} (h : SR P F w o v) : Ef P F w o fun u w' => u = v ∧ Ext w w' := ⟨v, w, h w (Chg.refl _ _), Chg.refl _ _, rfl, Chg.refl _ _⟩
theorem Rd.isNone {A : Option Addr} {xs : List α} (h : Rd C w A xs) (hn : A.isNone = true) : xs = [] := by
  cases xs with
  | nil => rfl
  | cons x r => obtain ⟨ad, e⟩ := h.some_ (by simp); rw [e] at hn; simp at hn

def gone : Chunk where
  fp := fun _ => False
  holds := fun _ => True
  stable := fun _ _ => trivial
  lt := fun _ _ h => h.elim
theorem St.freezeG {A : Option Addr} {c T i : Nat} {xs : List α} (h : St w0 X w L R) (hi : L[i]? = some (rowC C A c T xs)) : St w0 X w (L.set i gone) (R ++ [roC C A c xs]) := by
 have h1 := h.freezeR hi
 have hm : ∀ d ∈ L.set i gone, d = gone ∨ d ∈ L.eraseIdx i := by
   intro d hd
   obtain ⟨j, hj⟩ := List.mem_iff_getElem?.1 hd
   by_cases e : i = j
   · subst e
     rw [List.getElem?_set_self (List.getElem?_eq_some_iff.1 hi).1] at hj
     exact .inl (Option.some.inj hj).symm
   · rw [List.getElem?_set_ne e] at hj
     exact .inr (List.mem_eraseIdx_iff_getElem?.2 ⟨j, fun e' => e e'.symm, hj⟩)
 refine ⟨h1.chg, fun d hd => ?_, fun d hd b hb => ?_, pairwise_set (fun a b hab k hk hk' => hab k hk' hk) h.apart hi fun d _ _ b hb => hb.elim, h1.reads, fun d hd e he b hb hb' => ?_⟩
 ·rcases hm d hd with rfl | hd
  ·trivial
  exact h1.holds d hd
 ·rcases hm d hd with rfl | hd
  ·exact hb.elim
  exact h1.own d hd b hb
 rcases hm e he with rfl | he
 ·exact hb'.elim
 exact h1.away d hd e he b hb hb'
theorem St.row {A : Option Addr} {c T i : Nat} {xs : List α} (h : St w0 X w L R) (hi : L[i]? = some (rowC C A c T xs)) : RowAt w A c T C.sz xs.length (flat C xs) := h.at_ hi
theorem St.rowSet {A : Option Addr} {c T i : Nat} {xs xs' : List α} (h : St w0 X w L R) (hi : L[i]? = some (rowC C A c T xs)) (hx : Chg (rowC C A c T xs).fp w w') (hr : RowAt w' A c T C.sz xs'.length (flat C xs')) : St w0 X w' (L.set i (rowC C A c T xs')) R :=
  h.upd hi (rowC C A c T xs') hx hr fun b hb => .inl hb

theorem OJ.callV {c : Call} {d : Nat} {fv : Operand} {f : FuncId} {cap : Array Value} {vs : List Value} (hg : gd ops F o = some true) (hd : o.dst = some d) (hn : Nat.ble (d + 1) n.n = true) (ho : o.op = .call c) (hc : c.callee = .value fv)
 (hf : evO F fv = some (.func (.func f) #[] cap)) (hb : hasBody P f) (hargs : allV (c.args.toList.map (evO F)) = some vs) {R : Value → World → Prop} (hcall : CV P f (vs.toArray ++ cap) w R) (h : ∀ v w', R v w' → OJ P ops Q n l ((d, v) :: F) w') : OJ P ops Q n (o :: l) F w :=
  OJ.call hg hd (Nat.le_of_ble_eq_true hn) ho hc hf hb hargs (by simpa using hcall) h
theorem DJ.callV {bars : List Nat} {l : List Nat} {i : Nat} {c : Call} {d : Nat} {fv : Operand} {f : FuncId} {cap : Array Value} {vs : List Value} (ho : ops[i]? = some o) (hg : gd ops F o = some true) (hd : o.dst = some d) (hn : Nat.ble (d + 1) n.n = true) (hc : isC (cls bars i o) .effect = true) (hop : o.op = .call c) (hcl : c.callee = .value fv)
 (hf : evO F fv = some (.func (.func f) #[] cap)) (hb : hasBody P f) (hargs : allV (c.args.toList.map (evO F)) = some vs) {R : Value → World → Prop} (hcall : CV P f (vs.toArray ++ cap) w R) (hx : ∀ v w', R v w' → Ext w w') (h : ∀ v w', R v w' → DJ P ops bars Q n l ((d, v) :: F) w') : DJ P ops bars Q n (i :: l) F w :=
  DJ.call ho hg hd hn hc hop hcl hf hb hargs (by simpa using hcall) hx h

def roO (O : Nat → Prop) (C : Cd α) (A : Option Addr) (c : Nat) (xs : List α) : Chunk where
  fp := (roC C A c xs).fp
  holds := fun w => (roC C A c xs).holds w ∧ ∀ b, (roC C A c xs).fp b → O b
  stable := fun h hs => ⟨(roC C A c xs).stable h.1 hs, h.2⟩
  lt := fun h => (roC C A c xs).lt h.1
variable {O : Nat → Prop}
theorem set_same {β : Type} : ∀ {L : List β} {i : Nat} {c : β}, L[i]? = some c → L.set i c = L
  | [], _, _, h => by simp at h
  | a :: L, 0, c, h => by simp at h; subst h; rfl
  | a :: L, i + 1, c, h => by rw [List.set_cons_succ, set_same (by simpa using h)]
theorem cutLen {xs : List α} {lo hi : Nat} (h1 : lo ≤ hi) (h2 : hi ≤ xs.length) : ((xs.drop lo).take (hi - lo)).length = hi - lo := by
 simp only [List.length_take, List.length_drop]; omega
end G
end Go.Proofs.YtegibnmfiogebaaGreatDoor
