/-
  Step lemmas for walks whose frame is told as a list of slots. Range over a function: an iterator over texts that keeps what is left in a variable of its own.
-/
import Derived.Test.YtplfdbfdalaefaaGreatDoorGM
import Derived.RangeFuncSeq
import Derived.RangeFuncLeaves
namespace Go.Proofs.YtplfdbfdalaefaaGreatDoor
namespace G
set_option linter.unusedVariables false
set_option linter.unusedSimpArgs false
variable {P : Program} {ops : Array Oper} {Q : Exit → Act → World → Prop} {n : Md} {l : List Oper} {o : Oper} {F : Fm} {w w' w0 : World} {X : Nat → Prop} {L R : List Chunk}

def dfr (D : Nat) : Chunk where
  fp := fun k => k = D
  holds := fun w => w.heap[D]? = some (.deferred (some []))
  stable := fun h hs => by rw [hs D rfl]; exact h
  lt := fun h k hk => by subst hk; exact (Array.getElem?_eq_some_iff.1 h).1
def shutC (D : Nat) : Chunk where
  fp := fun k => k = D
  holds := fun w => w.heap[D]? = some (.deferred none)
  stable := fun h hs => by rw [hs D rfl]; exact h
  lt := fun h k hk => by subst hk; exact (Array.getElem?_eq_some_iff.1 h).1
def rcd (r : Nat) (x : Loop) : Chunk where
  fp := fun k => k = r
  holds := fun w => w.heap[r]? = some (.loop x)
  stable := fun h hs => by rw [hs r rfl]; exact h
  lt := fun h k hk => by subst hk; exact (Array.getElem?_eq_some_iff.1 h).1
theorem Chg.put (w : World) (r : Nat) (ob : Obj) : Chg (fun k => k = r) w (w.putObj r ob) := ⟨rfl, rfl, rfl, by simp, fun k _ hk => World.putObj_heap_other hk⟩
theorem St.put (h : St w0 X w L R) {i r : Nat} {c : Chunk} (hi : L[i]? = some c) (hc : ∀ k, k = r → c.fp k) (ob : Obj) (c' : Chunk) (hc' : c'.holds (w.putObj r ob)) (hf : ∀ b, c'.fp b → b = r) : St w0 X (w.putObj r ob) (L.set i c') R :=
  h.upd hi c' ((Chg.put w r ob).mono fun k _ e => hc k e) hc' fun b hb => .inl (hc b (hf b hb))

def YR (P : Program) (r : Nat) (args : Array Value) (w : World) (R : Value → World → Prop) : Prop :=
  ∃ fn tmps assign body, (Instr.yield r args).run P w = .ok (.round r fn tmps assign body) w ∧ RoundIn (rF none) 0 P r fn tmps assign body w fun e w' => ∃ v, e = .returned v ∧ R v w'
theorem OJ.yield {c : Call} {d r : Nat} {fv : Operand} {vs : List Value} (hrd : n.rd = none) (hg : gd ops F o = some true) (hd : o.dst = some d) (hn : Nat.ble (d + 1) n.n = true) (ho : o.op = .call c) (hc : c.callee = .value fv)
 (hf : evO F fv = some (.func (.yield r) #[] #[])) (hargs : allV (c.args.toList.map (evO F)) = some vs) {R : Value → World → Prop} (hy : YR P r vs.toArray w R)
 (h : ∀ v w', R v w' → OJ P ops Q n l ((d, v) :: F) w') : OJ P ops Q n (o :: l) F w := by
 intro a ha
 have hw := gd_wanted hg ha
 obtain ⟨fn, tmps, assign, body, hyr, hR⟩ := hy
 have hargs' := map_toArray' (ρ := a.eval) (fun x u hx => ha.ev hx) hargs
 have hr : (execOp a.eval o).run P w = .ok (.round r fn tmps assign body) w := by
   unfold execOp
   simp only [ho, resolve, hc, ha.ev hf, Deferred.ofValue, hargs', Sem.run_bind, Sem.run_pure, Result.andThen_ok, invoke, Array.empty_append, Array.append_empty, hyr]
 unfold OJ at h
 unfold wlR at h ⊢
 simp only [wpListIn, hw, if_true]
 refine ⟨fun _ _ => trivial, ?_⟩
 rw [Oper.semAt_eq _ _ _ (notDefer hr (by simp)), hr, Oper.uponIn_round]
 refine ⟨fun h => by simp [rF, Fence.wide] at h, ?_⟩
 rw [hrd] at h ⊢
 refine RoundIn.mono hR ?_
 rintro e w' ⟨v, rfl, hv⟩
 rw [hd]
 exact h v w' hv _ (ha.put (Nat.le_of_ble_eq_true hn) v)

def LinesC (P : Program) (gf Ti : Nat) (ls : ByteArray → List ByteArray) : Prop :=
  ∀ (r bI : Nat) (Inv : List ByteArray → World → Prop) (Out : World → Prop),
    (∀ rest W W' s, Inv rest W → Chg (fun k => k = bI) W W' → W'.heap[bI]? = some (.cells #[.string s] Ti (0, 0)) → Inv rest W') →
    (∀ line rest W s, Inv (line :: rest) W → W.heap[bI]? = some (.cells #[.string s] Ti (0, 0)) → YR P r #[.string line] W fun v W' => (v = .bool true ∧ Inv rest W' ∧ W'.heap[bI]? = W.heap[bI]?) ∨ (v = .bool false ∧ Out W')) →
    ∀ s W, s.size ≤ 9223372036854775806 → Inv (ls s) W → W.heap[bI]? = some (.cells #[.string s] Ti (0, 0)) →
      CV P gf #[.func (.yield r) #[] #[], .pointer (some ⟨bI, 0, none⟩)] W fun _ W' => Inv [] W' ∨ Out W'

def mk1 (D : Nat) : Deferred := { target := .collected D, args := #[] }

theorem pickApp (M N : List Chunk) : ∀ (h : St w0 X w (M ++ N) R), St w0 X w M R := fun h =>
  ⟨h.chg, fun c hc => h.holds c (List.mem_append_left _ hc), fun c hc => h.own c (List.mem_append_left _ hc), (List.pairwise_append.1 h.apart).1, h.reads, fun c hc d hd => h.away c hc d (List.mem_append_left _ hd)⟩
theorem dropMid (M N : List Chunk) (c : Chunk) (h : St w0 X w (M ++ c :: N) R) : St w0 X w (M ++ N) R := by
 have hm : ∀ d ∈ M ++ N, d ∈ M ++ c :: N := fun d hd => by
   rcases List.mem_append.1 hd with h | h
   · exact List.mem_append_left _ h
   · exact List.mem_append_right _ (List.mem_cons_of_mem _ h)
 refine ⟨h.chg, fun d hd => h.holds d (hm d hd), fun d hd => h.own d (hm d hd), ?_, h.reads, fun e he d hd => h.away e he d (hm d hd)⟩
 refine h.apart.sublist ?_
 exact List.Sublist.append (List.Sublist.refl _) (List.sublist_cons_self _ _)
theorem setAt {M N : List Chunk} {c c' : Chunk} : (M ++ c :: N).set M.length c' = M ++ c' :: N := by
 rw [List.set_append_right _ _ (Nat.le_refl _), Nat.sub_self, List.set_cons_zero]
theorem getAt {M N : List Chunk} {c : Chunk} : (M ++ c :: N)[M.length]? = some c := by simp
theorem setAt2 {M N : List Chunk} {a b c c' : Chunk} : (M ++ a :: b :: c :: N).set (M.length + 2) c' = M ++ a :: b :: c' :: N := by
 rw [List.set_append_right _ _ (by omega), show M.length + 2 - M.length = 2 by omega, List.set_cons_succ, List.set_cons_succ, List.set_cons_zero]
theorem getAt2 {M N : List Chunk} {a b c : Chunk} : (M ++ a :: b :: c :: N)[M.length + 2]? = some c := by
 rw [List.getElem?_append_right (by omega), show M.length + 2 - M.length = 2 by omega]; rfl

theorem CJ.lines {σ τ : Type} {m : Nat} {g : Operand} {p d : Nat} {assign body : Code} {gf bI Ti : Nat} {ls : ByteArray → List ByteArray} (L0 : σ → List Chunk) (Lx : τ → List Chunk) (H : List ByteArray → σ → Prop) (Hx : τ → Prop) {text : ByteArray} (s0 : σ)
 (hg : evO F g = some (.func (.func gf) #[] #[.pointer (some ⟨bI, 0, none⟩)])) (hb : hasBody P gf) (hit : LinesC P gf Ti ls) (hsz : text.size ≤ 9223372036854775806)
 (hS : St w0 X w (L0 s0 ++ [box bI [.string text] Ti]) R) (h0 : H (ls text) s0) (hp : Nat.ble (p + 1) m = true)
 (hassign : ∀ (r : Nat) (v : Value) (Q : Exit → Act → World → Prop) (W : World), EJ Q .normal ⟨m, some r, []⟩ ((d, v) :: (p, v) :: F) W → CJ P assign Q ⟨m, some r, []⟩ ((p, v) :: F) W)
 (hbody : ∀ (r D : Nat) (rec : Loop) (line : ByteArray) (rest : List ByteArray) (s : σ) (W : World) (str : ByteArray) (RP : Exit → Act → World → Prop), H (line :: rest) s →
 (∀ s' W' F', H rest s' → St w0 X W' (L0 s' ++ [box bI [.string str] Ti, dfr D, rcd r rec]) R → EJ RP .normal ⟨m, some r, []⟩ F' W') →
 (∀ x W' F', Hx x → St w0 X W' (Lx x ++ [box bI [.string str] Ti, dfr D, rcd r rec]) R → EJ RP .ret ⟨m, some r, []⟩ F' W') →
 St w0 X W (L0 s ++ [box bI [.string str] Ti, dfr D, rcd r rec]) R → CJ P body RP ⟨m, some r, []⟩ ((d, .string line) :: (p, .string line) :: F) W)
 (hdone : ∀ D s W, H [] s → St w0 X W (L0 s ++ [dfr D]) R → EJ Q .normal ⟨m, none, [mk1 D]⟩ F W)
 (hstop : ∀ D x W, Hx x → St w0 X W (Lx x ++ [dfr D]) R → EJ Q .ret ⟨m, none, [mk1 D]⟩ F W) :
 CJ P (.rangeFunc g #[p] assign body) Q ⟨m, none, []⟩ F w := by
 intro a ha
 show (Code.rangeFunc g #[p] assign body).wpIn (rF none) 0 P Q a w
 refine wpIn_rangeFunc ?_
 intro fn hfn
 obtain ⟨rec, hrec⟩ : ∃ rec : LoopState → Option Code → Loop, rec = fun st pe => { state := st, pending := pe, fn, tmps := a.tmps, params := #[p], assign, body, defers := w.heap.size } := ⟨_, rfl⟩
 obtain ⟨W1, hW1⟩ : ∃ W1, (w.alloc (.deferred (some []))).alloc (.loop (rec .ready none)) = W1 := ⟨_, rfl⟩
 have hda : a.defers = [] := ha.defers
 have hS1 : St w0 X W1 (L0 s0 ++ [box bI [.string text] Ti, dfr w.heap.size, rcd (w.heap.size + 1) (rec .ready none)]) R := by
   have h1 := hS.add (Chg.alloc no w (.deferred (some []))) (dfr w.heap.size) (World.alloc_heap_new w _) (fun b hb => by have : b = w.heap.size := hb; omega)
   have h2 := h1.add (Chg.alloc no _ (.loop (rec .ready none))) (rcd (w.heap.size + 1) (rec .ready none)) (by
     have := World.alloc_heap_new (w.alloc (.deferred (some []))) (.loop (rec .ready none)); rwa [World.size_alloc] at this) (fun b hb => by
       have : b = w.heap.size + 1 := hb
       rw [World.size_alloc]; omega)
   rw [hW1] at h2
   simpa using h2
 refine ⟨w.heap.size + 1, [{ target := .collected w.heap.size, args := #[] }], W1, { target := .fn (.func gf) #[.pointer (some ⟨bI, 0, none⟩)], args := #[.func (.yield (w.heap.size + 1)) #[] #[]] }, W1, gf,
   #[.func (.yield (w.heap.size + 1)) #[] #[]] ++ #[.pointer (some ⟨bI, 0, none⟩)], W1, ?_, ?_, fun _ _ => trivial, ?_, fun h => by simp [rF, Fence.wide] at h, ?_⟩
 ·rw [← hW1, hrec]; exact run_enterLoop_outer _ _ _ _ _
 ·have e : (resolve a.eval (rangeCall g (w.heap.size + 1)) 0).run P W1 = .ok { target := .fn (.func gf) #[.pointer (some ⟨bI, 0, none⟩)], args := #[.func (.yield (w.heap.size + 1)) #[] #[]] } W1 := by
    simp only [resolve, rangeCall, ha.ev hg, Deferred.ofValue, Sem.run_bind, Sem.run_pure, Result.andThen_ok]
    simp [Act.eval]
  exact e
 ·simp only [invoke, run_callFunc hb]
 have key := hit (w.heap.size + 1) bI
   (fun rest W => ∃ s str, H rest s ∧ St w0 X W (L0 s ++ [box bI [.string str] Ti, dfr w.heap.size, rcd (w.heap.size + 1) (rec .ready none)]) R)
   (fun W => ∃ x str, Hx x ∧ St w0 X W (Lx x ++ [box bI [.string str] Ti, dfr w.heap.size, rcd (w.heap.size + 1) (rec .done (some .ret))]) R)
   ?_ ?_ text W1 hsz ⟨s0, text, h0, hS1⟩ (hS1.at_ (i := (L0 s0).length) getAt)
 ·refine CallsIn.mono key.inn ?_
  rintro e W ⟨v, rfl, h⟩
  rcases h with ⟨s, str, hh, h⟩ | ⟨x, str, hh, h⟩
  ·have hl : W.heap[w.heap.size + 1]? = some (.loop (rec .ready none)) := h.at_ (i := (L0 s).length + 2) getAt2
   refine ⟨none, _, by have := run_endLoop (P := P) hl (by rw [hrec]; simp); rw [hrec] at this; exact this, ?_⟩
   have h2 := h.put (i := (L0 s).length + 2) (r := w.heap.size + 1) getAt2 (fun k e => e) (.loop { rec .ready none with state := .exhausted }) (rcd (w.heap.size + 1) { rec .ready none with state := .exhausted }) (World.putObj_heap_same (Array.getElem?_eq_some_iff.1 hl).1) (fun b hb => hb)
   rw [setAt2] at h2
   have h3 := dropMid (L0 s) [dfr w.heap.size, rcd (w.heap.size + 1) { rec .ready none with state := .exhausted }] _ h2
   have h4 := pickApp (L0 s ++ [dfr w.heap.size]) [rcd (w.heap.size + 1) { rec .ready none with state := .exhausted }] (by simpa using h3)
   rw [hrec] at h4
   exact hdone _ s _ hh h4 _ ⟨by simp [mk1, hda], ha.size, ha.at_⟩
  have hl : W.heap[w.heap.size + 1]? = some (.loop (rec .done (some .ret))) := h.at_ (i := (Lx x).length + 2) getAt2
  refine ⟨some .ret, _, by have := run_endLoop (P := P) hl (by rw [hrec]; simp); rw [hrec] at this; exact this, ?_⟩
  have h2 := h.put (i := (Lx x).length + 2) (r := w.heap.size + 1) getAt2 (fun k e => e) (.loop { rec .done (some .ret) with state := .exhausted }) (rcd (w.heap.size + 1) { rec .done (some .ret) with state := .exhausted }) (World.putObj_heap_same (Array.getElem?_eq_some_iff.1 hl).1) (fun b hb => hb)
  rw [setAt2] at h2
  have h3 := dropMid (Lx x) [dfr w.heap.size, rcd (w.heap.size + 1) { rec .done (some .ret) with state := .exhausted }] _ h2
  have h4 := pickApp (Lx x ++ [dfr w.heap.size]) [rcd (w.heap.size + 1) { rec .done (some .ret) with state := .exhausted }] (by simpa using h3)
  rw [hrec] at h4
  exact wpIn_ret (hstop _ x _ hh h4 _ ⟨by simp [mk1, hda], ha.size, ha.at_⟩)
 ·rintro rest W W' s' ⟨s, str, hh, h⟩ hc hb'
  have h2 := h.upd (i := (L0 s).length) getAt (box bI [.string s'] Ti) hc hb' (fun b hb => .inl hb)
  rw [setAt] at h2
  exact ⟨s, s', hh, h2⟩
 rintro line rest W str0 ⟨s, str, hh, h⟩ hbx
 have hl : W.heap[w.heap.size + 1]? = some (.loop (rec .ready none)) := h.at_ (i := (L0 s).length + 2) getAt2
 have hbi : W.heap[bI]? = some (.cells #[.string str] Ti (0, 0)) := h.at_ (i := (L0 s).length) getAt
 have hlt := (Array.getElem?_eq_some_iff.1 hl).1
 have hy := run_yield (P := P) (args := #[.string line]) hl (by rw [hrec]; rfl)
 have hrr := hl
 rw [hrec] at hy
 refine ⟨fn, _, assign, body, hy, roundIn_of_wpIn trivial ?_⟩
 have hfr : Fr ⟨m, some (w.heap.size + 1), []⟩ ((p, .string line) :: F) { tmps := ((#[p] : Array Tmp).zip #[(.string line : Value)]).foldl (fun t (p, v) => t.setIfInBounds p v) a.tmps, defers := [] } := by
   have := (⟨rfl, ha.size, ha.at_⟩ : Fr ⟨m, some (w.heap.size + 1), []⟩ F { tmps := a.tmps, defers := [] }).put (d := p) (Nat.le_of_ble_eq_true hp) (.string line)
   simpa [Act.put] using this
 refine hassign (w.heap.size + 1) (.string line) _ W ?_ _ hfr
 intro a1 ha1
 refine ⟨_, run_beginRound hl (by rw [hrec]), ?_⟩
 have h1 := h.put (i := (L0 s).length + 2) (r := w.heap.size + 1) getAt2 (fun k e => e) (.loop { rec .ready none with state := .busy }) (rcd (w.heap.size + 1) { rec .ready none with state := .busy }) (World.putObj_heap_same hlt) (fun b hb => hb)
 rw [setAt2] at h1
 refine hbody (w.heap.size + 1) w.heap.size { rec .ready none with state := .busy } line rest s _ str _ hh ?_ ?_ h1 a1 ha1
 ·intro s' W3 F3 hh3 h3 a3 _
  have hl3 : W3.heap[w.heap.size + 1]? = some (.loop { rec .ready none with state := .busy }) := h3.at_ (i := (L0 s').length + 2) getAt2
  have hr := run_endRound (P := P) none hl3
  refine ⟨_, _, hr, _, rfl, .inl ⟨rfl, ⟨s', str, hh3, ?_⟩, ?_⟩⟩
  ·have h4 := h3.put (i := (L0 s').length + 2) (r := w.heap.size + 1) getAt2 (fun k e => e) (.loop (rec .ready none)) (rcd (w.heap.size + 1) (rec .ready none)) (World.putObj_heap_same (Array.getElem?_eq_some_iff.1 hl3).1) (fun b hb => hb)
   rw [setAt2] at h4
   rw [hrec] at h4 ⊢
   exact h4
  have hb3 : W3.heap[bI]? = some (.cells #[.string str] Ti (0, 0)) := h3.at_ (i := (L0 s').length) getAt
  have hne : bI ≠ w.heap.size + 1 := fun e => by rw [e, hl3] at hb3; cases hb3
  rw [World.putObj_heap_other hne, hb3, hbi]
 intro x W3 F3 hh3 h3 a3 _
 have hl3 : W3.heap[w.heap.size + 1]? = some (.loop { rec .ready none with state := .busy }) := h3.at_ (i := (Lx x).length + 2) getAt2
 have hr := run_endRound (P := P) (some .ret) hl3
 refine ⟨_, _, hr, _, rfl, .inr ⟨rfl, x, str, hh3, ?_⟩⟩
 have h4 := h3.put (i := (Lx x).length + 2) (r := w.heap.size + 1) getAt2 (fun k e => e) (.loop (rec .done (some .ret))) (rcd (w.heap.size + 1) (rec .done (some .ret))) (World.putObj_heap_same (Array.getElem?_eq_some_iff.1 hl3).1) (fun b hb => hb)
 rw [setAt2] at h4
 rw [hrec] at h4 ⊢
 exact h4
theorem CV.bodyM {f : FuncId} {fn : Func} {c : Code} {args : List Value} {R : Value → World → Prop} {m : Nat} (hf : P.funcs[f]? = some fn) (hb : fn.body = some c) (hn : fn.ntmps = m) (hl : Nat.ble args.length m = true)
 (h : CJ P c (bodyPostM Fence.wide 0 P fn fun e w' => ∃ v, e = .returned v ∧ R v w') ⟨m, none, []⟩ (frame0 0 args) w) : CV P f args.toArray w R := by
 refine callsIn_wide.1 (callsIn_of_wp_marks (F := Fence.wide) (n := 0) hf hb trivial ?_)
 have hl := Nat.le_of_ble_eq_true hl
 refine h _ ⟨rfl, by simp [hn]; omega, fun t v hv => ?_⟩
 obtain ⟨_, h2⟩ := lk_frame0 _ _ _ _ hv
 simp only [Nat.sub_zero] at h2
 have hlt := (List.getElem?_eq_some_iff.1 h2).1
 rw [Array.getElem?_append_left (by simpa using hlt)]
 simpa using h2
theorem EJ.finM {m D : Nat} {fn : Func} {rs : List ResultVar} (hr : fn.results = rs.toArray) {Rp : Value → World → Prop} {vs : List Value} (hS : St w0 X w (L ++ [dfr D]) R) (h : ∀ w', St w0 X w' L R → ResOK P F w' rs vs ∧ Rp (tupV vs) w') :
 EJ (bodyPostM Fence.wide 0 P fn fun e w' => ∃ v, e = .returned v ∧ Rp v w') .ret ⟨m, none, [mk1 D]⟩ F w := by
 intro a ha
 have hd : a.defers = [mk1 D] := ha.defers
 have hD : w.heap[D]? = some (.deferred (some [])) := hS.at_ (i := L.length) getAt
 obtain ⟨hv, hR⟩ := h (w.putObj D (.deferred none)) (by
   have h1 := hS.upd (i := L.length) getAt (shutC D) (Chg.put w D (.deferred none)) (World.putObj_heap_same (Array.getElem?_eq_some_iff.1 hD).1) (fun b hb => .inl hb)
   rw [setAt] at h1
   exact pickApp L [shutC D] h1)
 show LeavesInM Fence.wide 0 P fn a.tmps _ a.defers .returning w
 rw [hd]
 refine ⟨by simp, .inl ⟨D, _, rfl, run_takeDeferred hD, ?_⟩⟩
 exact ⟨_, hv.results ha hr, _, rfl, hR⟩
end G
end Go.Proofs.YtplfdbfdalaefaaGreatDoor
