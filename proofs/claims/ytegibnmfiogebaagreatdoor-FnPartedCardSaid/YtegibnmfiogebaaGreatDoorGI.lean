/-
  Texts that are read: strings.Split, strings.Cut, strconv.ParseInt, by the shelf's contracts; the library's variables that these read.
-/
import Derived.Test.YtegibnmfiogebaaGreatDoorGU
import Derived.Lib.Split
import Derived.Lib.IndexMore
import Derived.Lib.CutLaws
import Derived.Lib.SplitLaws
import Derived.Lib.ParseIntB
import Derived.WideLaws
import Derived.Lib.AtoiErrMem
import Derived.Handed
import Derived.SizedLaws
namespace Go.Proofs.YtegibnmfiogebaaGreatDoor
namespace G
open Go.RowKit Go.Sort
set_option linter.unusedVariables false
set_option linter.unusedSimpArgs false
variable {P : Program} {o : Oper} {F : Fm} {w w' w0 : World} {X : Nat → Prop} {L R : List Chunk}
def errC (P : Program) (n : String) : Chunk where
  fp := fun k => P.globalNamed n = some k
  holds := fun w => ∃ tp p, w.var? P n = some #[.iface tp p]
  stable := fun {w w'} h hs => by
    obtain ⟨tp, p, h⟩ := h
    refine ⟨tp, p, ?_⟩
    unfold World.var? at *
    cases hg : P.globalNamed n with
    | none => rw [hg] at h; cases h
    | some g =>
      rw [hg, Option.bind_some] at h
      rw [Option.bind_some, hs g hg]
      exact h
  lt := fun {w} h k hk => by
    obtain ⟨tp, p, h⟩ := h
    unfold World.var? at h
    rw [hk, Option.bind_some] at h
    cases hb : w.heap[k]? with
    | none => rw [hb] at h; cases h
    | some o => exact (Array.getElem?_eq_some_iff.1 hb).1
def intC (g : Nat) : Chunk where
  fp := fun k => k = g
  holds := fun w => ∃ m, w.cell? ⟨g, 0, none⟩ = some (.int .i64 m)
  stable := fun {w w'} h hs => by
    obtain ⟨m, h⟩ := h
    refine ⟨m, ?_⟩
    unfold World.cell? at *
    rw [show w'.heap[(⟨g, 0, none⟩ : Addr).block]? = w.heap[(⟨g, 0, none⟩ : Addr).block]? from hs g rfl]
    exact h
  lt := fun {w} h k hk => by
    obtain ⟨m, h⟩ := h
    subst hk
    exact World.block_lt_of_cell? _ _ h
def envC (P : Program) (g : Nat) : Chunk where
  fp := fun k => (tabC P).fp k ∨ (intC g).fp k ∨ (errC P "strconv.ErrSyntax").fp k ∨ (errC P "strconv.ErrRange").fp k
  holds := fun w => (tabC P).holds w ∧ (intC g).holds w ∧ (errC P "strconv.ErrSyntax").holds w ∧ (errC P "strconv.ErrRange").holds w
  stable := fun {w w'} h hs => ⟨(tabC P).stable h.1 fun k hk => hs k (.inl hk), (intC g).stable h.2.1 fun k hk => hs k (.inr (.inl hk)), (errC P _).stable h.2.2.1 fun k hk => hs k (.inr (.inr (.inl hk))), (errC P _).stable h.2.2.2 fun k hk => hs k (.inr (.inr (.inr hk)))⟩
  lt := fun {w} h k hk => by
    rcases hk with hk | hk | hk | hk
    · exact (tabC P).lt h.1 k hk
    · exact (intC g).lt h.2.1 k hk
    · exact (errC P _).lt h.2.2.1 k hk
    · exact (errC P _).lt h.2.2.2 k hk
def errV (b : Bool) (t : TypeId) (p : Value) : Value := if b = true then .iface t p else .nilIface
theorem SR.neErr {t yt : Nat} {x : Operand} {b : Bool} {tp : TypeId} {p : Value} (hi : P.underlying t = some (.interface (P.methodsAt t))) (ho : o.op = .binOp .neq t x (.const .nilIface) yt) (hx : evO F x = some (errV b tp p)) : SR P F w o (.bool b) := by
 intro w' hx' ρ hρ
 have h1 := run_equal_held_nil (P := P) w' t tp p hi
 have h2 := run_equal_nil_nil (P := P) w' t hi
 have hx2 := hρ _ _ hx
 have hy2 := hρ (.const .nilIface) .nilIface rfl
 unfold execOp
 cases b
 ·have hx3 : ρ x = .nilIface := hx2
  simp [ho, hx3, hy2, eqGuard, binOp, h2]
 have hx3 : ρ x = .iface tp p := hx2
 simp [ho, hx3, hy2, eqGuard, binOp, h1]
def splitS (s sep : ByteArray) : List ByteArray := Lib.splitB sep 0 (Lib.countB s sep) s
def cutS (s sep : ByteArray) : ByteArray × ByteArray × Bool := (⟨(Lib.cut s.data.toList sep.data.toList).1.toArray⟩, ⟨(Lib.cut s.data.toList sep.data.toList).2.1.toArray⟩, (Lib.cut s.data.toList sep.data.toList).2.2)
theorem bytes_ext {w w' : World} {T : TypeId} (h : w' = w ∨ ∃ t, w' = Lib.bytesWorld w T t) : Ext w w' := by
 rcases h with rfl | ⟨t, rfl⟩
 ·exact Chg.refl _ _
 exact below_ext (Lib.bytesWorld_below _ _ _)
theorem split_cv {f : FuncId} {g T : Nat} {s sep : ByteArray} (hE : (envC P g).holds w)
 (hs : ∀ (s sep : ByteArray) (m : Int) (w : World) (_ : s.size < 4294967281) (_ : w.cell? ⟨g, 0, none⟩ = some (.int .i64 m)) (_ : 1 ≤ sep.size),
 Calls P f #[.string s, .string sep] w fun e w' => e = .returned (.slice (some ⟨w.heap.size, 0, none⟩) (Lib.countB s sep + 1) (Lib.countB s sep + 1)) ∧ w' = w.alloc (.cells ((Lib.splitB sep 0 (Lib.countB s sep) s).map Value.string).toArray T))
 (h1 : s.size < 4294967281) (h2 : 1 ≤ sep.size) :
 CV P f [.string s, .string sep].toArray w fun v w' => ∃ (A0 : Option Addr) (c0 : Nat), v = .slice A0 (splitS s sep).length c0 ∧ St w no w' [rowC G.cs A0 c0 T (splitS s sep)] [] := by
 have hl := Lib.splitB_all sep h2 0 _ s rfl
 unfold splitS
 obtain ⟨m, hm⟩ := hE.2.1
 refine Calls.mono (hs s sep m w h1 hm h2) fun e w' ⟨he, hw⟩ => ⟨_, he, some ⟨w.heap.size, 0, none⟩, Lib.countB s sep + 1, by rw [hl], ?_⟩
 subst hw
 have hf : flat G.cs (Lib.splitB sep 0 (Lib.countB s sep) s) = (Lib.splitB sep 0 (Lib.countB s sep) s).map Value.string := flat_cs _
 refine (St.init w no).add (Chg.alloc _ _ _) _ ?_ fun b hb => ?_
 ·refine ⟨flat_len G.cs _, by rw [hl]; exact Nat.le_refl _, ?_, .inr ⟨_, _, rfl, heap_alloc_new w _, ?_, ?_⟩⟩
  ·have := Lib.countB_le sep h2 s.size s (Nat.le_refl _)
   omega
  ·simp [hl, G.cs]
  rw [hf, ← flat_len, hf]
  show List.take _ (List.map Value.string _) = _
  rw [List.take_of_length_le (by simp)]
 have := hb.2; simp at this; omega
theorem cut_cv {f : FuncId} {g : Nat} {s sep : ByteArray} (hE : (envC P g).holds w)
 (hs : ∀ (s sep : ByteArray) (m : Int) (w : World) (_ : s.size < 4294967281) (_ : w.cell? ⟨g, 0, none⟩ = some (.int .i64 m)),
 Calls P f #[.string s, .string sep] w fun e w' => e = .returned (.tuple #[.string ⟨(Lib.cut s.data.toList sep.data.toList).1.toArray⟩, .string ⟨(Lib.cut s.data.toList sep.data.toList).2.1.toArray⟩, .bool (Lib.cut s.data.toList sep.data.toList).2.2]) ∧ ∃ n, w' = w.drewN n)
 (h1 : s.size < 4294967281) :
 CV P f [.string s, .string sep].toArray w fun v w' => v = .tuple #[.string (cutS s sep).1, .string (cutS s sep).2.1, .bool (cutS s sep).2.2] ∧ Ext w w' := by
 obtain ⟨m, hm⟩ := hE.2.1
 refine Calls.mono (hs s sep m w h1 hm) fun e w' ⟨he, n, hw⟩ => ⟨_, he, rfl, ?_⟩
 subst hw
 exact ext_grow w n #[]
def parseI (s : ByteArray) : Int × Bool :=
  match Lib.parseIntB 64 s.data.toList with
  | .ok v => (v, false)
  | .syntax => (0, true)
  | .range => (Lib.intSat 64 s.data.toList, true)
theorem parse_cv {f : FuncId} {g : Nat} {s : ByteArray} (hE : (envC P g).holds w)
 (hk : ∀ (s : ByteArray) (_ : s.size ≤ 9223372036854775806) (v : Int) (_ : Lib.parseIntB 64 s.data.toList = .ok v) (w : World),
 Calls P f #[.string s, .int .i64 10, .int .i64 64] w fun e w' => e = .returned (.tuple #[.int .i64 v, .nilIface]) ∧ Ext w w')
 (hy : ∀ (s : ByteArray) (_ : s.size ≤ 281474976710656) (_ : Lib.parseIntB 64 s.data.toList = .syntax) (tp : TypeId) (p : Value) (w : World) (_ : w.var? P "strconv.ErrSyntax" = some #[.iface tp p]),
 Calls P f #[.string s, .int .i64 10, .int .i64 64] w fun e w' => (∃ t q, e = .returned (.tuple #[.int .i64 0, .iface t q])) ∧ Ext w w')
 (hr : ∀ (s : ByteArray) (_ : s.size ≤ 281474976710656) (_ : Lib.parseIntB 64 s.data.toList = .range) (tp : TypeId) (p : Value) (w : World) (_ : w.var? P "strconv.ErrRange" = some #[.iface tp p]),
 Calls P f #[.string s, .int .i64 10, .int .i64 64] w fun e w' => (∃ t q, e = .returned (.tuple #[.int .i64 (Lib.intSat 64 s.data.toList), .iface t q])) ∧ Ext w w')
 (h1 : s.size ≤ 4294967296) :
 CV P f [.string s, .int .i64 10, .int .i64 64].toArray w fun v w' => ∃ t q, v = .tuple #[.int .i64 (parseI s).1, errV (parseI s).2 t q] ∧ Ext w w' := by
  obtain ⟨_, _, ⟨t1, p1, e1⟩, ⟨t2, p2, e2⟩⟩ := hE
  unfold parseI
  cases hp : Lib.parseIntB 64 s.data.toList with
  | ok v => exact Calls.mono (hk s (by omega) v hp w) fun e w' ⟨he, hw⟩ => ⟨_, he, 0, .nilIface, rfl, hw⟩
  | «syntax» => exact Calls.mono (hy s (by omega) hp t1 p1 w e1) fun e w' ⟨⟨t, q, he⟩, hw⟩ => ⟨_, he, t, q, rfl, hw⟩
  | range => exact Calls.mono (hr s (by omega) hp t2 p2 w e2) fun e w' ⟨⟨t, q, he⟩, hw⟩ => ⟨_, he, t, q, rfl, hw⟩
theorem returnsIn_shaped {H : Type} {enc : TypeId × Value → H} {a : Assume} {C : Checked} {os : Os} {f : FuncId} {fn : Func} {s : ChangeSpec} {conds : List PathCond} {apart fresh handsOn again : Bool} {X : World → Array Value → Prop}
 (hX : ∀ (w w' : World) (args : Array Value), w.heap = w'.heap → X w args → X w' args)
 (own : ownKnob C.prog.godebug = none) (started : os.Started) (noInit : C.prog.inits.idxOf? f = none) (hfn : C.prog.funcs[f]? = some fn)
 (witness : ∃ (w : World) (tape : Tape) (i : Input), w.os = os ∧ (w.forCall tape i).Shaped C.prog ∧ i.vars = [] ∧ Input.okWide C.prog (w.forCall tape i) .any w.heap.size f i ∧
 ((s.pre enc C.prog fn conds apart (w.forCall tape i).memory i.args ∧ X (w.forCall tape i).memory i.args) ∧ sizedMet enc C.prog fn (OpenSpec.ofChange s) apart (w.forCall tape i).memory i.args) ∧ a.holds C.prog (lone (Frame.enter C.prog f i.args .normal) [] (w.forCall tape i)))
 (contract : ∀ (W : World) (base : Nat) (args : Array Value) (ds gs : List (DataW H)) (before : List MemPlace),
 (∀ (j : Nat) t v, fn.params[j]? = some t → args[j]? = some v → Value.okWide C.prog W .any base t v) →
 DataW.Whole enc C.prog fn.params.toList s.vars apart W args.toList ds gs before →
 conds.all (PathCond.test C.prog ⟨fn.params.toList, ds, s.plain.varTypes C.prog, gs⟩) = true →
 (DataW.weightsEach C.prog (fn.params.toList ++ s.plain.varTypes C.prog) (ds ++ gs)).all (· ≤ reachBytes) = true → X W args → W.ShapedOpen C.prog →
 a.holds C.prog (lone (Frame.enter C.prog f args .normal) [] W) →
 Calls C.prog f args W fun e W' => ∃ v, e = .returned v ∧ s.post enc C.prog fn apart fresh handsOn again W args v W') :
 ReturnsInHanded a C os f .any (fun w args => (s.pre enc C.prog fn conds apart w args ∧ X w args) ∧ sizedMet enc C.prog fn (OpenSpec.ofChange s) apart w args) (s.post enc C.prog fn apart fresh handsOn again) := by
 refine returnsInHanded_of_calls own started noInit witness ?_
 intro w tape i _ hsh _ hok hpre hholds
 obtain ⟨_, _, _, fn', hfn', _, _, _, _, hval⟩ := hok
 have e : fn' = fn := Option.some.inj (hfn'.symm.trans hfn)
 subst e
 obtain ⟨⟨⟨ds, gs, before, hw, hc⟩, hx⟩, hz⟩ := hpre
 have hw' := DataW.Whole.of_heap (w' := w.forCall tape i) (by rfl) hw
 refine (contract (w.forCall tape i) w.heap.size i.args ds gs before hval hw' hc (hz.weights hw) (hX _ _ _ (by rfl) hx) hsh hholds).mono fun e W' ⟨v, he, hp⟩ => ?_
 subst he
 exact ChangeSpec.post_blind hp
end G
end Go.Proofs.YtegibnmfiogebaaGreatDoor
