/-
  A strings.Builder that the call has made itself: a part that is written by WriteString and read by String, by the shelf's contracts.
-/
import Derived.Test.YtplfdbfdalaefaaGreatDoorGU
import Derived.Lib.FrozenHead
import Derived.Lib.OthersKept
import Derived.Lib.UnsafeStr
namespace Go.Proofs.YtplfdbfdalaefaaGreatDoor
namespace G
open Go.RowKit
set_option linter.unusedVariables false
set_option linter.unusedSimpArgs false
variable {P : Program} {F : Fm} {o : Oper} {w w' w0 : World} {X : Nat → Prop} {L R : List Chunk}
structure BldAt (T e b : Nat) (A : Option Addr) (c : Nat) (s : ByteArray) (w : World) : Prop where
  head : ∃ p, (p = .pointer none ∨ p = .pointer (some ⟨b, 0, none⟩)) ∧ w.heap[b]? = some (.cells #[p, .slice A s.size c] T (0, 0))
  own : w.ownsRowF b e 1 (.slice A s.size c) s.size (Go.Lib.strCells s)
  ne : (Value.slice A s.size c).ownBlock ≠ some b
def bldC (T e b : Nat) (A : Option Addr) (c : Nat) (s : ByteArray) : Chunk where
  fp := fun k => k = b ∨ A.map (·.block) = some k
  holds := BldAt T e b A c s
  stable := fun {w w'} h hs => by
    refine ⟨?_, ⟨h.own.1, ?_⟩, h.ne⟩
    · obtain ⟨p, hp, hb⟩ := h.head
      exact ⟨p, hp, by rw [hs b (.inl rfl)]; exact hb⟩
    · rcases h.own.2 with hn | ⟨g, cap, cur, fz, hv, hB, hg, r⟩
      · exact .inl hn
      · refine .inr ⟨g, cap, cur, fz, hv, hB, ?_, r⟩
        have hA : A = some ⟨g, 0, none⟩ := by injection hv
        rw [hs g (.inr (by rw [hA]; rfl))]; exact hg
  lt := fun {w} h k hk => by
    rcases hk with rfl | hk
    · obtain ⟨p, _, hb⟩ := h.head
      exact (Array.getElem?_eq_some_iff.1 hb).1
    · rcases h.own.2 with ⟨hn, _⟩ | ⟨g, cap, cur, fz, hv, hB, hg, r⟩
      · have hA : A = none := by injection hn
        rw [hA] at hk; cases hk
      · have hA : A = some ⟨g, 0, none⟩ := by injection hv
        rw [hA] at hk
        have : g = k := by simpa using hk
        subst this
        exact (Array.getElem?_eq_some_iff.1 hg).1
theorem BldAt.is {T e b : Nat} {A : Option Addr} {c : Nat} {s : ByteArray} (h : BldAt T e b A c s w) : Go.Lib.IsBuilderF T e b b (Go.Lib.strCells s) w := by
 obtain ⟨p, hp, hb⟩ := h.head
 have ho := h.own
 rw [← Go.Lib.strCells_length s] at hb ho
 have hn := h.ne
 rw [← Go.Lib.strCells_length s] at hn
 rcases hp with rfl | rfl
 ·exact .inl ⟨Nat.le_refl _, _, hb, ho, hn⟩
 exact .inr ⟨Nat.le_refl _, _, hb, ho, hn⟩
theorem bld_of {T e b : Nat} {s : ByteArray} (h : Go.Lib.IsBuilderF T e b b (Go.Lib.strCells s) w) : ∃ A c, BldAt T e b A c s w := by
 have key : ∀ p, (p = .pointer none ∨ p = .pointer (some ⟨b, 0, none⟩)) → Go.Lib.BuilderAtF T e b b p (Go.Lib.strCells s) w → ∃ A c, BldAt T e b A c s w := by
   rintro p hp ⟨_, v, hb, ho, hn⟩
   rw [Go.Lib.strCells_length] at ho
   rcases ho.2 with ⟨rfl, h0⟩ | ⟨g, cap, cur, fz, rfl, r⟩
   · refine ⟨none, 0, ⟨p, hp, ?_⟩, ?_, ?_⟩
     · rw [h0]; exact hb
     · have := ho; rw [h0] at this ⊢; exact this
     · rw [h0]; exact hn
   · exact ⟨some ⟨g, 0, none⟩, cap, ⟨p, hp, hb⟩, ho, hn⟩
 rcases h with h | h
 ·exact key _ (.inl rfl) h
 exact key _ (.inr rfl) h
def NotE (e b : Nat) (d : Chunk) : Prop := ∀ w, d.holds w → ∀ k, d.fp k → k < b ∨ ∃ o, w.heap[k]? = some o ∧ ∀ c fz, o ≠ .cells c e fz
def NotEs (e b : Nat) (l : List Chunk) : Prop := ∀ d ∈ l, NotE e b d
theorem NotEs.nil {e b : Nat} : NotEs e b [] := by simp [NotEs]
theorem NotEs.cons {e b : Nat} {d : Chunk} {l : List Chunk} (h : NotE e b d) (hs : NotEs e b l) : NotEs e b (d :: l) := by
 intro x hx
 rcases List.mem_cons.1 hx with rfl | hx
 ·exact h
 exact hs x hx
theorem notE_row {e b : Nat} {A : Option Addr} {c T sz n : Nat} {cs : List Value} (h : ¬ T = e) : NotE e b (row A c T sz n cs) := by
 intro w hw k hk
 obtain ⟨hc, hA⟩ := hk
 have hw : RowAt w A c T sz n cs := hw
 rcases hw.arr with h0 | ⟨g, cur, rfl, hg, _⟩
 ·omega
 have : g = k := by simpa using hA
 subst this
 exact .inr ⟨_, hg, fun c fz he => by injection he with _ h2; exact h h2⟩
theorem notE_box {e b b' : Nat} {cs : List Value} {T : Nat} (h : ¬ T = e) : NotE e b (box b' cs T) := by
 intro w hw k hk
 have hk : k = b' := hk
 subst hk
 exact .inr ⟨_, hw, fun c fz he => by injection he with _ h2; exact h h2⟩
theorem notE_low {e b : Nat} {d : Chunk} (h : ∀ k, d.fp k → k < b) : NotE e b d := fun w hw k hk => .inl (h k hk)
theorem St.bld (hS : St w0 no w L R) {i T e b : Nat} {A : Option Addr} {c : Nat} {s s' : ByteArray} (hi : L[i]? = some (bldC T e b A c s)) (hL : NotEs e b (L.eraseIdx i)) (hR : NotEs e b R)
 (hB : Below b w w') (hO : Go.Lib.OthersKept e (some b) w w') {A' : Option Addr} {c' : Nat} (hn : BldAt T e b A' c' s' w') : St w0 no w' (L.set i (bldC T e b A' c' s')) R := by
 have hm := List.mem_of_getElem? hi
 have hb0 : w0.heap.size ≤ b := (hS.own _ hm b (.inl rfl)).resolve_right id
 have hLe : ∀ j d, L[j]? = some d → j ≠ i → NotE e b d := fun j d hj hne => hL d (List.mem_eraseIdx_iff_getElem?.2 ⟨j, hne, hj⟩)
 -- what stands
 have same : ∀ d, d.holds w → NotE e b d → (∀ k, d.fp k → k ≠ b) → ∀ k, d.fp k → w'.heap[k]? = w.heap[k]? := fun d hd hN hne k hk => by
   rcases hN w hd k hk with h | ⟨x, hx, hxe⟩
   · exact hB.block k h
   · rw [hO k x hx (fun e => hne k hk (by injection e)) hxe, hx]
 have newne : ∀ d, d.holds w → NotE e b d → (∀ k, d.fp k → k ≠ b) → ∀ k, d.fp k → ¬ (bldC T e b A' c' s').fp k := fun d hd hN hne k hk hk' => by
   rcases hk' with h | h
   · exact hne k hk h
   · rcases hn.own.2 with ⟨h0, _⟩ | ⟨g, cap, cur, fz, hv, hBg, hg, r⟩
     · have hA : A' = none := by injection h0
       rw [hA] at h; cases h
     · have hA : A' = some ⟨g, 0, none⟩ := by injection hv
       rw [hA] at h
       have : g = k := by simpa using h
       subst this
       rcases hN w hd g hk with h1 | ⟨x, hx, hxe⟩
       · omega
       · rw [same d hd hN hne g hk, hx] at hg
         exact hxe _ _ (Option.some.inj hg)
 have apL : ∀ j d, L[j]? = some d → j ≠ i → ∀ k, d.fp k → k ≠ b := fun j d hj hne k hk hkb => by
   subst hkb
   have hil := (List.getElem?_eq_some_iff.1 hi).1
   have hjl := (List.getElem?_eq_some_iff.1 hj).1
   have ei := (List.getElem?_eq_some_iff.1 hi).2
   have ej := (List.getElem?_eq_some_iff.1 hj).2
   rcases Nat.lt_or_gt_of_ne hne with h | h
   · exact (List.pairwise_iff_getElem.1 hS.apart j i hjl hil h) k (by rw [ej]; exact hk) (by rw [ei]; exact .inl rfl)
   · exact (List.pairwise_iff_getElem.1 hS.apart i j hil hjl h) k (by rw [ei]; exact .inl rfl) (by rw [ej]; exact hk)
 have apR : ∀ d ∈ R, ∀ k, d.fp k → k ≠ b := fun d hd k hk hkb => by subst hkb; exact hS.away d hd _ hm k hk (.inl rfl)
 have memL : ∀ d ∈ L.set i (bldC T e b A' c' s'), d = bldC T e b A' c' s' ∨ ∃ j, j ≠ i ∧ L[j]? = some d := fun d hd => by
   obtain ⟨j, hj⟩ := List.mem_iff_getElem?.1 hd
   by_cases e : i = j
   · subst e
     rw [List.getElem?_set_self (List.getElem?_eq_some_iff.1 hi).1] at hj
     exact .inl (Option.some.inj hj).symm
   · rw [List.getElem?_set_ne e] at hj
     exact .inr ⟨j, fun h => e h.symm, hj⟩
 refine ⟨⟨hB.os.trans hS.chg.os, hB.tape.trans hS.chg.tape, hB.output.trans hS.chg.output, Nat.le_trans hS.chg.size hB.size, fun k hk hx => (hB.block k (by omega)).trans (hS.chg.block k hk hx)⟩, fun d hd => ?_, fun d hd k hk => ?_, ?_, fun d hd => ?_, fun d hd f hf k hk hk' => ?_⟩
 ·rcases memL d hd with rfl | ⟨j, hj, hjd⟩
  ·exact hn
  have hh := hS.holds d (List.mem_of_getElem? hjd)
  exact d.stable hh (same d hh (hLe j d hjd hj) (apL j d hjd hj))
 ·rcases memL d hd with rfl | ⟨j, hj, hjd⟩
  ·rcases hk with rfl | h
   ·exact .inl hb0
   rcases hn.own.2 with ⟨h0, _⟩ | ⟨g, cap, cur, fz, hv, hBg, hg, r⟩
   ·have hA : A' = none := by injection h0
    rw [hA] at h; cases h
   have hA : A' = some ⟨g, 0, none⟩ := by injection hv
   rw [hA] at h
   have : g = k := by simpa using h
   subst this
   exact .inl (by omega)
  exact hS.own d (List.mem_of_getElem? hjd) k hk
 ·refine pairwise_set (fun a b hab k hk hk' => hab k hk' hk) hS.apart hi fun d hd hr k hk hk' => ?_
  obtain ⟨j, hj⟩ := List.mem_iff_getElem?.1 hd
  have hne : j ≠ i := by
    rintro rfl
    rw [hi] at hj
    obtain rfl := Option.some.inj hj
    exact hr b (.inl rfl) (.inl rfl)
  exact newne d (hS.holds d hd) (hLe j d hj hne) (apL j d hj hne) k hk' hk
 ·have hh := hS.reads d hd
  exact d.stable hh (same d hh (hR d hd) (apR d hd))
 rcases memL f hf with rfl | ⟨j, hj, hjd⟩
 ·exact newne d (hS.reads d hd) (hR d hd) (apR d hd) k hk hk'
 exact hS.away d hd f (List.mem_of_getElem? hjd) k hk hk'
theorem strCells_append (s x : ByteArray) : Go.Lib.strCells s ++ Go.Lib.strCells x = Go.Lib.strCells (s ++ x) := by
 unfold Go.Lib.strCells
 rw [← List.map_append]
 simp
theorem bldWrite_cv {f : FuncId} (hS : St w0 no w L R) {i T e b : Nat} {A : Option Addr} {c : Nat} {s x : ByteArray} (hi : L[i]? = some (bldC T e b A c s)) (hL : NotEs e b (L.eraseIdx i)) (hR : NotEs e b R)
 (hs : ∀ (B b : Nat) (bs : List Value) (s : ByteArray) (w : World), Go.Lib.IsBuilderF T e B b bs w → bs.length + s.size ≤ 140737488355328 → B ≤ w.heap.size →
 Calls P f #[.pointer (some ⟨b, 0, none⟩), .string s] w fun e_ w' => e_ = .returned (.tuple #[.int .i64 s.size, .nilIface]) ∧ (Go.Lib.BuilderAtF T e B b (.pointer (some ⟨b, 0, none⟩)) (bs ++ Go.Lib.strCells s) w' ∧ Below B w w' ∧ Go.Lib.OthersKept e (some b) w w'))
 (hlen : s.size + x.size ≤ 4294967296) :
 CV P f [.pointer (some ⟨b, 0, none⟩), .string x].toArray w fun v w' => v = .tuple #[.int .i64 x.size, .nilIface] ∧ ∃ A' c', St w0 no w' (L.set i (bldC T e b A' c' (s ++ x))) R := by
 have hb : BldAt T e b A c s w := hS.at_ hi
 have hlt : b < w.heap.size := (bldC T e b A c s).lt hb b (.inl rfl)
 refine Calls.mono (hs b b _ x w hb.is (by rw [Go.Lib.strCells_length]; omega) (by omega)) fun e_ w' ⟨he, h1, h2, h3⟩ => ⟨_, he, rfl, ?_⟩
 rw [strCells_append] at h1
 obtain ⟨A', c', hn⟩ := bld_of (.inr h1)
 exact ⟨A', c', hS.bld hi hL hR h2 h3 hn⟩
theorem bldText_cv {f : FuncId} (hS : St w0 no w L R) {i T e b : Nat} {A : Option Addr} {c : Nat} {s : ByteArray} (hi : L[i]? = some (bldC T e b A c s)) (hL : NotEs e b (L.eraseIdx i)) (hR : NotEs e b R)
 (hs : ∀ (B b : Nat) (l : List UInt8) (w : World), Go.Lib.IsBuilderF T e B b (Go.Lib.byteCells l) w → B ≤ w.heap.size →
 Calls P f #[.pointer (some ⟨b, 0, none⟩)] w fun e_ w' => e_ = .returned (.string ⟨l.toArray⟩) ∧ (Go.Lib.IsBuilderF T e B b (Go.Lib.byteCells l) w' ∧ Below B w w' ∧ Go.Lib.OthersKept e (some b) w w')) :
 CV P f [.pointer (some ⟨b, 0, none⟩)].toArray w fun v w' => v = .string s ∧ ∃ A' c', St w0 no w' (L.set i (bldC T e b A' c' s)) R := by
 have hb : BldAt T e b A c s w := hS.at_ hi
 have hlt : b < w.heap.size := (bldC T e b A c s).lt hb b (.inl rfl)
 refine Calls.mono (hs b b s.data.toList w hb.is (by omega)) fun e_ w' ⟨he, h1, h2, h3⟩ => ⟨_, he, rfl, ?_⟩
 obtain ⟨A', c', hn⟩ := bld_of h1
 exact ⟨A', c', hS.bld hi hL hR h2 h3 hn⟩
theorem Ef.bld {T e : TypeId} {UI : List (Nat × TI)} {ti : TI} (hS : St w0 X w L R) (hI : okI P UI) (hT : lkT UI T = some ti) (ho : o.op = .alloc T)
 (hcs : ti.zero.cells = #[.pointer none, .slice none 0 0]) : Ef P F w o fun v w' => ∃ b, v = .pointer (some ⟨b, 0, none⟩) ∧ St w0 X w' (L ++ [bldC T e b none 0 ByteArray.empty]) R ∧ ∀ c ∈ R, ∀ k, c.fp k → k < b := by
 have hc : Chg no w (w.alloc (.cells #[.pointer none, .slice none 0 0] T)) := Chg.alloc _ _ _
 refine ⟨.pointer (some ⟨w.heap.size, 0, none⟩), w.alloc (.cells #[.pointer none, .slice none 0 0] T), fun ρ hρ => ?_, hc, w.heap.size, rfl, hS.add hc _ ⟨⟨_, .inl rfl, heap_alloc_new w _⟩, ⟨rfl, .inl ⟨rfl, rfl⟩⟩, by simp [Value.ownBlock]⟩ fun b hb => ?_, fun c hc k hk => c.lt (hS.reads c hc) k hk⟩
 ·obtain ⟨i, hi, hz, _⟩ := hI.at_ hT
  unfold execOp
  simp only [ho, Instr.alloc, newVar, newRow]
  simp [zeroValue, typeInfo, hi, hz, hcs]
 rcases hb with rfl | h
 ·exact Nat.le_refl _
 cases h
theorem Es.bldZero {UI : List (Nat × TI)} (hI : okI P UI) {T T1 e b i : Nat} {ti : TI} {x y : Operand} {ad : Addr} (hS : St w0 X w L R) (hi : L[i]? = some (bldC T1 e b none 0 ByteArray.empty)) (ho : o.op = .store T x y)
 (hx : evO F x = some (.pointer (some ad))) (had : ad = ⟨b, 0, none⟩) (hy : evO F y = some (.agg #[.pointer none, .slice none 0 0])) (hti : lkT UI T = some ti) (hsz : ti.size = 2) : Es P F w o fun w' => St w0 X w' (L.set i (bldC T1 e b none 0 ByteArray.empty)) R := by
 have hb : BldAt T1 e b none 0 ByteArray.empty w := hS.at_ hi
 obtain ⟨p, hp, hh⟩ := hb.head
 have hr := run_storeVar (P := P) (off := 0) (cs := [p, .slice none 0 0]) (vs := [.pointer none, .slice none 0 0]) (v := .agg #[.pointer none, .slice none 0 0]) hI hti hh rfl (by rw [hsz]; rfl) (by intro u hu; simp only [List.mem_cons, List.not_mem_nil, or_false] at hu; rcases hu with rfl | rfl <;> rfl) (by simp)
 have e1 : ([p, .slice none 0 0] : List Value).take 0 ++ [.pointer none, .slice none 0 0] ++ ([p, .slice none 0 0] : List Value).drop (0 + ([.pointer none, .slice none 0 0] : List Value).length) = [.pointer none, .slice none 0 0] := rfl
 rw [e1] at hr
 refine ⟨w.setRow b ([.pointer none, .slice none 0 0] : List Value).toArray, fun ρ hρ => ?_, hS.upd hi _ ?_ ?_ ?_⟩
 ·unfold execOp
  simp only [ho, Instr.storeAt, hρ _ _ hx, hρ _ _ hy, Instr.sureAddr, had]
  simp [hr]
 ·exact ⟨rfl, rfl, rfl, by simp [World.setRow], fun k hk hn => setRow_other w b k _ fun e => hn (.inl e)⟩
 ·exact ⟨⟨_, .inl rfl, setRow_heap w b _ _ T1 _ hh⟩, ⟨rfl, .inl ⟨rfl, rfl⟩⟩, by simp [Value.ownBlock]⟩
 exact fun k hk => .inl hk
end G
end Go.Proofs.YtplfdbfdalaefaaGreatDoor
