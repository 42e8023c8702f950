/-
  What the functions come to.
-/
import Derived.Test.YtimpcenflahchaaDoorGP0
namespace Go.Proofs.YtimpcenflahchaaDoor
open G
set_option linter.unusedVariables false
set_option linter.unusedSimpArgs false
set_option maxRecDepth 100000
set_option maxHeartbeats 4000000
def laws_markStringS.l1 (a0 : List ByteArray) : Nat → (List ByteArray) → Int → Int → Option ((List ByteArray) × Int)
  | 0, _, _, _ => none
  | k + 1, y3, y4, y5 => if y5 < (a0.length : Int) then ((laws_markText.f k y4).bind fun t6 => (getI y3 y5).bind fun t7 => laws_markStringS.l1 a0 k (y3.set y5.toNat t6) (IntKind.i64.wrap (y4 + 1)) (IntKind.i64.wrap (y5 + 1))) else (some (y3, y4))
def laws_markStringS.f (k : Nat) (a0 : List ByteArray) (a1 : Int) : Option (Int × List ByteArray) := (laws_markStringS.l1 a0 k a0 a1 0).bind fun (y1, y2) => some (y2, y1)
theorem laws_markStringS.c (k : Nat) (w : World) (Aa0 : Option Addr) (ca0 : Nat) (a0 : List ByteArray) (a1 : Int) (hin : St w (fpU [rowC G.cs Aa0 ca0 9 a0]) w [rowC G.cs Aa0 ca0 9 a0] []) (r : Int × List ByteArray) (H : laws_markStringS.f k a0 a1 = some r) :
    CV Tryd.prog 71 [.slice Aa0 a0.length ca0, .int .i64 a1].toArray w fun v w' => v = .int .i64 r.1 ∧ St w (fpU [rowC G.cs Aa0 ca0 9 a0]) w' [rowC G.cs Aa0 ca0 9 r.2] [] ∧ r.2.length = a0.length := by
  have hS := hin
  unfold laws_markStringS.f at H
  refine CV.body Tryd.func71 rfl Tryd.ntmps71 rfl ?_
  have hl0 : a0.length = a0.length := rfl
  refine CJ.seq ?_
  refine CJ.region ?_
  refine OJ.pures tU_ok 1 rfl ?_
  refine OJ.nil (EJ.next ?_)
  refine CJ.seq ?_
  refine CJ.seq ?_
  refine CJ.region ?_
  refine OJ.pures tU_ok 1 rfl ?_
  refine OJ.nil (EJ.next ?_)
  obtain ⟨j161, H, K161⟩ := pbind H
  refine CJ.cut1 (fun F w1 => ∃ (y1 : List ByteArray) (y2 : Int) , (some (y1, y2) : Option ((List ByteArray) × Int)) = some j161 ∧ F = [(1, .int .i64 y2)] ∧ St w (fpU [rowC G.cs Aa0 ca0 9 a0]) w1 [rowC G.cs Aa0 ca0 9 y1] [] ∧ y1.length = a0.length) ?_ ?_
  · skip
    refine CJ.block ?_
    refine CJ.loop (fun k F w1 => ∃ (y3 : List ByteArray) (y4 : Int) (y5 : Int), F = [(0, .slice Aa0 a0.length ca0), (1, .int .i64 y4), (5, .int .i64 y5)] ∧ St w (fpU [rowC G.cs Aa0 ca0 9 a0]) w1 [rowC G.cs Aa0 ca0 9 y3] [] ∧ y3.length = a0.length ∧ laws_markStringS.l1 a0 k y3 y4 y5 = some j161) k (F' := [(0, .slice Aa0 a0.length ca0), (1, .int .i64 a1), (5, .int .i64 0)]) ⟨rfl, rfl, rfl, trivial⟩ ⟨a0, a1, 0, rfl, hS.pick [0] [] rfl, (by first | exact hl0 | (simp only [List.length_set]; exact hl0) | (simp only [List.length_set]; done)), H⟩ ?_
    rintro k F w1 ⟨y3, y4, y5, rfl, hS, hl0, H⟩
    cases k with
    | zero => rw [laws_markStringS.l1] at H; cases H
    | succ k =>
      rw [laws_markStringS.l1] at H
      refine CJ.seq ?_
      refine CJ.seq ?_
      refine CJ.region ?_
      refine OJ.pures tU_ok 4 rfl ?_
      refine OJ.nil (EJ.next ?_)
      refine CJ.cond rfl (fun hb => ?_) (fun hb => ?_)
      · replace H := pif_t (of_decide_eq_true hb) H
        refine CJ.skip (EJ.next ?_)
        refine CJ.seq ?_
        refine CJ.block ?_
        refine CJ.seq ?_
        refine CJ.region ?_
        refine OJ.pures tU_ok 3 rfl ?_
        obtain ⟨t6, ht6, H⟩ := pbind H
        refine OJ.callF rfl rfl rfl rfl rfl hb99 rfl (laws_markText.c k _ y4 _ ht6) ?_
        rintro _ w1 ⟨rfl, hs⟩
        replace hS := hS.grow hs
        obtain ⟨t7, ht7, H⟩ := pbind H
        obtain ⟨ad7, e7⟩ := (hS.rd (i := 0) rfl).some' ht7
        refine OJ.st rfl rfl rfl (SR.idxS tU_ok tI_ok rfl rfl rfl rfl e7 rfl (by have hg := (getI_some ht7).1; (first | rw [hl0] at hg | (simp only [List.length_set] at hg; rw [hl0] at hg)); exact hg)) ?_
        refine OJ.es rfl rfl (Es.storeR tI_ok hS (i := 0) (off := 0) rfl rfl ht7 e7 rfl rfl rfl rfl (vs := G.cs.enc t6) rfl rfl (one1 rfl) (Nat.le_of_ble_eq_true rfl) t6 rfl) ?_
        intro w1 hS
        refine OJ.nil (EJ.next ?_)
        refine CJ.region ?_
        refine OJ.pures tU_ok 3 rfl ?_
        refine OJ.nil (EJ.blk (EJ.next ?_))
        refine CJ.region ?_
        refine OJ.pures tU_ok 3 rfl ?_
        refine OJ.nil ?_
        exact EJ.round k (F' := [(0, .slice Aa0 a0.length ca0), (1, .int .i64 (IntKind.i64.wrap (y4 + 1))), (5, .int .i64 (IntKind.i64.wrap (y5 + 1)))]) ⟨rfl, rfl, rfl, trivial⟩ (Nat.lt_succ_self _) ⟨(y3.set y5.toNat t6), (IntKind.i64.wrap (y4 + 1)), (IntKind.i64.wrap (y5 + 1)), rfl, hS.pick [0] [] rfl, (by first | exact hl0 | (simp only [List.length_set]; exact hl0) | (simp only [List.length_set]; done)), H⟩
      · replace H := pif_f (of_decide_eq_false hb) H
        refine CJ.exit (EJ.skE (EJ.skE (EJ.hit (?_))))
        exact EJ.meet (F' := [(1, .int .i64 y4)]) ⟨rfl, trivial⟩ ⟨y3, y4, H, rfl, hS.pick [0] [] rfl, (by first | exact hl0 | (simp only [List.length_set]; exact hl0) | (simp only [List.length_set]; done))⟩
  · rintro F w1 ⟨y1, y2, he, rfl, hS, hl0⟩
    obtain rfl := Option.some.inj he
    have H := K161
    refine EJ.next ?_
    refine CJ.seq ?_
    refine CJ.region ?_
    refine OJ.pures tU_ok 2 rfl ?_
    refine OJ.nil (EJ.next ?_)
    refine CJ.ret (?_)
    obtain rfl := Option.some.inj H
    exact EJ.fin rfl (.tmp rfl .nil) ⟨rfl, hS.pick [0] [] rfl, (by first | exact hl0 | (simp only [List.length_set]; exact hl0) | (simp only [List.length_set]; done))⟩

def laws_markInt16S.l1 (a0 : List Int) : Nat → (List Int) → Int → Int → Option ((List Int) × Int)
  | 0, _, _, _ => none
  | k + 1, y3, y4, y5 => if y5 < (a0.length : Int) then ((getI y3 y5).bind fun t6 => laws_markInt16S.l1 a0 k (y3.set y5.toNat (IntKind.i16.wrap y4)) (IntKind.i64.wrap (y4 + 1)) (IntKind.i64.wrap (y5 + 1))) else (some (y3, y4))
def laws_markInt16S.f (k : Nat) (a0 : List Int) (a1 : Int) : Option (Int × List Int) := (laws_markInt16S.l1 a0 k a0 a1 0).bind fun (y1, y2) => some (y2, y1)
theorem laws_markInt16S.c (k : Nat) (w : World) (Aa0 : Option Addr) (ca0 : Nat) (a0 : List Int) (a1 : Int) (hin : St w (fpU [rowC (ci .i16) Aa0 ca0 73 a0]) w [rowC (ci .i16) Aa0 ca0 73 a0] []) (r : Int × List Int) (H : laws_markInt16S.f k a0 a1 = some r) :
    CV Tryd.prog 72 [.slice Aa0 a0.length ca0, .int .i64 a1].toArray w fun v w' => v = .int .i64 r.1 ∧ St w (fpU [rowC (ci .i16) Aa0 ca0 73 a0]) w' [rowC (ci .i16) Aa0 ca0 73 r.2] [] ∧ r.2.length = a0.length := by
  have hS := hin
  unfold laws_markInt16S.f at H
  refine CV.body Tryd.func72 rfl Tryd.ntmps72 rfl ?_
  have hl0 : a0.length = a0.length := rfl
  refine CJ.seq ?_
  refine CJ.region ?_
  refine OJ.pures tU_ok 1 rfl ?_
  refine OJ.nil (EJ.next ?_)
  refine CJ.seq ?_
  refine CJ.seq ?_
  refine CJ.region ?_
  refine OJ.pures tU_ok 1 rfl ?_
  refine OJ.nil (EJ.next ?_)
  obtain ⟨j163, H, K163⟩ := pbind H
  refine CJ.cut1 (fun F w1 => ∃ (y1 : List Int) (y2 : Int) , (some (y1, y2) : Option ((List Int) × Int)) = some j163 ∧ F = [(1, .int .i64 y2)] ∧ St w (fpU [rowC (ci .i16) Aa0 ca0 73 a0]) w1 [rowC (ci .i16) Aa0 ca0 73 y1] [] ∧ y1.length = a0.length) ?_ ?_
  · skip
    refine CJ.block ?_
    refine CJ.loop (fun k F w1 => ∃ (y3 : List Int) (y4 : Int) (y5 : Int), F = [(0, .slice Aa0 a0.length ca0), (1, .int .i64 y4), (5, .int .i64 y5)] ∧ St w (fpU [rowC (ci .i16) Aa0 ca0 73 a0]) w1 [rowC (ci .i16) Aa0 ca0 73 y3] [] ∧ y3.length = a0.length ∧ laws_markInt16S.l1 a0 k y3 y4 y5 = some j163) k (F' := [(0, .slice Aa0 a0.length ca0), (1, .int .i64 a1), (5, .int .i64 0)]) ⟨rfl, rfl, rfl, trivial⟩ ⟨a0, a1, 0, rfl, hS.pick [0] [] rfl, (by first | exact hl0 | (simp only [List.length_set]; exact hl0) | (simp only [List.length_set]; done)), H⟩ ?_
    rintro k F w1 ⟨y3, y4, y5, rfl, hS, hl0, H⟩
    cases k with
    | zero => rw [laws_markInt16S.l1] at H; cases H
    | succ k =>
      rw [laws_markInt16S.l1] at H
      refine CJ.seq ?_
      refine CJ.seq ?_
      refine CJ.region ?_
      refine OJ.pures tU_ok 4 rfl ?_
      refine OJ.nil (EJ.next ?_)
      refine CJ.cond rfl (fun hb => ?_) (fun hb => ?_)
      · replace H := pif_t (of_decide_eq_true hb) H
        refine CJ.skip (EJ.next ?_)
        refine CJ.seq ?_
        refine CJ.block ?_
        refine CJ.seq ?_
        refine CJ.region ?_
        refine OJ.pures tU_ok 4 rfl ?_
        obtain ⟨t6, ht6, H⟩ := pbind H
        obtain ⟨ad6, e6⟩ := (hS.rd (i := 0) rfl).some' ht6
        refine OJ.st rfl rfl rfl (SR.idxS tU_ok tI_ok rfl rfl rfl rfl e6 rfl (by have hg := (getI_some ht6).1; (first | rw [hl0] at hg | (simp only [List.length_set] at hg; rw [hl0] at hg)); exact hg)) ?_
        refine OJ.es rfl rfl (Es.storeR tI_ok hS (i := 0) (off := 0) rfl rfl ht6 e6 rfl rfl rfl rfl (vs := (ci .i16).enc (IntKind.i16.wrap y4)) rfl rfl (one1 rfl) (Nat.le_of_ble_eq_true rfl) (IntKind.i16.wrap y4) rfl) ?_
        intro w1 hS
        refine OJ.nil (EJ.next ?_)
        refine CJ.region ?_
        refine OJ.pures tU_ok 3 rfl ?_
        refine OJ.nil (EJ.blk (EJ.next ?_))
        refine CJ.region ?_
        refine OJ.pures tU_ok 3 rfl ?_
        refine OJ.nil ?_
        exact EJ.round k (F' := [(0, .slice Aa0 a0.length ca0), (1, .int .i64 (IntKind.i64.wrap (y4 + 1))), (5, .int .i64 (IntKind.i64.wrap (y5 + 1)))]) ⟨rfl, rfl, rfl, trivial⟩ (Nat.lt_succ_self _) ⟨(y3.set y5.toNat (IntKind.i16.wrap y4)), (IntKind.i64.wrap (y4 + 1)), (IntKind.i64.wrap (y5 + 1)), rfl, hS.pick [0] [] rfl, (by first | exact hl0 | (simp only [List.length_set]; exact hl0) | (simp only [List.length_set]; done)), H⟩
      · replace H := pif_f (of_decide_eq_false hb) H
        refine CJ.exit (EJ.skE (EJ.skE (EJ.hit (?_))))
        exact EJ.meet (F' := [(1, .int .i64 y4)]) ⟨rfl, trivial⟩ ⟨y3, y4, H, rfl, hS.pick [0] [] rfl, (by first | exact hl0 | (simp only [List.length_set]; exact hl0) | (simp only [List.length_set]; done))⟩
  · rintro F w1 ⟨y1, y2, he, rfl, hS, hl0⟩
    obtain rfl := Option.some.inj he
    have H := K163
    refine EJ.next ?_
    refine CJ.seq ?_
    refine CJ.region ?_
    refine OJ.pures tU_ok 2 rfl ?_
    refine OJ.nil (EJ.next ?_)
    refine CJ.ret (?_)
    obtain rfl := Option.some.inj H
    exact EJ.fin rfl (.tmp rfl .nil) ⟨rfl, hS.pick [0] [] rfl, (by first | exact hl0 | (simp only [List.length_set]; exact hl0) | (simp only [List.length_set]; done))⟩

def laws_markUint16S.l1 (a0 : List Int) : Nat → (List Int) → Int → Int → Option ((List Int) × Int)
  | 0, _, _, _ => none
  | k + 1, y3, y4, y5 => if y5 < (a0.length : Int) then ((getI y3 y5).bind fun t6 => laws_markUint16S.l1 a0 k (y3.set y5.toNat (IntKind.u16.wrap y4)) (IntKind.i64.wrap (y4 + 1)) (IntKind.i64.wrap (y5 + 1))) else (some (y3, y4))
def laws_markUint16S.f (k : Nat) (a0 : List Int) (a1 : Int) : Option (Int × List Int) := (laws_markUint16S.l1 a0 k a0 a1 0).bind fun (y1, y2) => some (y2, y1)
theorem laws_markUint16S.c (k : Nat) (w : World) (Aa0 : Option Addr) (ca0 : Nat) (a0 : List Int) (a1 : Int) (hin : St w (fpU [rowC (ci .u16) Aa0 ca0 74 a0]) w [rowC (ci .u16) Aa0 ca0 74 a0] []) (r : Int × List Int) (H : laws_markUint16S.f k a0 a1 = some r) :
    CV Tryd.prog 73 [.slice Aa0 a0.length ca0, .int .i64 a1].toArray w fun v w' => v = .int .i64 r.1 ∧ St w (fpU [rowC (ci .u16) Aa0 ca0 74 a0]) w' [rowC (ci .u16) Aa0 ca0 74 r.2] [] ∧ r.2.length = a0.length := by
  have hS := hin
  unfold laws_markUint16S.f at H
  refine CV.body Tryd.func73 rfl Tryd.ntmps73 rfl ?_
  have hl0 : a0.length = a0.length := rfl
  refine CJ.seq ?_
  refine CJ.region ?_
  refine OJ.pures tU_ok 1 rfl ?_
  refine OJ.nil (EJ.next ?_)
  refine CJ.seq ?_
  refine CJ.seq ?_
  refine CJ.region ?_
  refine OJ.pures tU_ok 1 rfl ?_
  refine OJ.nil (EJ.next ?_)
  obtain ⟨j165, H, K165⟩ := pbind H
  refine CJ.cut1 (fun F w1 => ∃ (y1 : List Int) (y2 : Int) , (some (y1, y2) : Option ((List Int) × Int)) = some j165 ∧ F = [(1, .int .i64 y2)] ∧ St w (fpU [rowC (ci .u16) Aa0 ca0 74 a0]) w1 [rowC (ci .u16) Aa0 ca0 74 y1] [] ∧ y1.length = a0.length) ?_ ?_
  · skip
    refine CJ.block ?_
    refine CJ.loop (fun k F w1 => ∃ (y3 : List Int) (y4 : Int) (y5 : Int), F = [(0, .slice Aa0 a0.length ca0), (1, .int .i64 y4), (5, .int .i64 y5)] ∧ St w (fpU [rowC (ci .u16) Aa0 ca0 74 a0]) w1 [rowC (ci .u16) Aa0 ca0 74 y3] [] ∧ y3.length = a0.length ∧ laws_markUint16S.l1 a0 k y3 y4 y5 = some j165) k (F' := [(0, .slice Aa0 a0.length ca0), (1, .int .i64 a1), (5, .int .i64 0)]) ⟨rfl, rfl, rfl, trivial⟩ ⟨a0, a1, 0, rfl, hS.pick [0] [] rfl, (by first | exact hl0 | (simp only [List.length_set]; exact hl0) | (simp only [List.length_set]; done)), H⟩ ?_
    rintro k F w1 ⟨y3, y4, y5, rfl, hS, hl0, H⟩
    cases k with
    | zero => rw [laws_markUint16S.l1] at H; cases H
    | succ k =>
      rw [laws_markUint16S.l1] at H
      refine CJ.seq ?_
      refine CJ.seq ?_
      refine CJ.region ?_
      refine OJ.pures tU_ok 4 rfl ?_
      refine OJ.nil (EJ.next ?_)
      refine CJ.cond rfl (fun hb => ?_) (fun hb => ?_)
      · replace H := pif_t (of_decide_eq_true hb) H
        refine CJ.skip (EJ.next ?_)
        refine CJ.seq ?_
        refine CJ.block ?_
        refine CJ.seq ?_
        refine CJ.region ?_
        refine OJ.pures tU_ok 4 rfl ?_
        obtain ⟨t6, ht6, H⟩ := pbind H
        obtain ⟨ad6, e6⟩ := (hS.rd (i := 0) rfl).some' ht6
        refine OJ.st rfl rfl rfl (SR.idxS tU_ok tI_ok rfl rfl rfl rfl e6 rfl (by have hg := (getI_some ht6).1; (first | rw [hl0] at hg | (simp only [List.length_set] at hg; rw [hl0] at hg)); exact hg)) ?_
        refine OJ.es rfl rfl (Es.storeR tI_ok hS (i := 0) (off := 0) rfl rfl ht6 e6 rfl rfl rfl rfl (vs := (ci .u16).enc (IntKind.u16.wrap y4)) rfl rfl (one1 rfl) (Nat.le_of_ble_eq_true rfl) (IntKind.u16.wrap y4) rfl) ?_
        intro w1 hS
        refine OJ.nil (EJ.next ?_)
        refine CJ.region ?_
        refine OJ.pures tU_ok 3 rfl ?_
        refine OJ.nil (EJ.blk (EJ.next ?_))
        refine CJ.region ?_
        refine OJ.pures tU_ok 3 rfl ?_
        refine OJ.nil ?_
        exact EJ.round k (F' := [(0, .slice Aa0 a0.length ca0), (1, .int .i64 (IntKind.i64.wrap (y4 + 1))), (5, .int .i64 (IntKind.i64.wrap (y5 + 1)))]) ⟨rfl, rfl, rfl, trivial⟩ (Nat.lt_succ_self _) ⟨(y3.set y5.toNat (IntKind.u16.wrap y4)), (IntKind.i64.wrap (y4 + 1)), (IntKind.i64.wrap (y5 + 1)), rfl, hS.pick [0] [] rfl, (by first | exact hl0 | (simp only [List.length_set]; exact hl0) | (simp only [List.length_set]; done)), H⟩
      · replace H := pif_f (of_decide_eq_false hb) H
        refine CJ.exit (EJ.skE (EJ.skE (EJ.hit (?_))))
        exact EJ.meet (F' := [(1, .int .i64 y4)]) ⟨rfl, trivial⟩ ⟨y3, y4, H, rfl, hS.pick [0] [] rfl, (by first | exact hl0 | (simp only [List.length_set]; exact hl0) | (simp only [List.length_set]; done))⟩
  · rintro F w1 ⟨y1, y2, he, rfl, hS, hl0⟩
    obtain rfl := Option.some.inj he
    have H := K165
    refine EJ.next ?_
    refine CJ.seq ?_
    refine CJ.region ?_
    refine OJ.pures tU_ok 2 rfl ?_
    refine OJ.nil (EJ.next ?_)
    refine CJ.ret (?_)
    obtain rfl := Option.some.inj H
    exact EJ.fin rfl (.tmp rfl .nil) ⟨rfl, hS.pick [0] [] rfl, (by first | exact hl0 | (simp only [List.length_set]; exact hl0) | (simp only [List.length_set]; done))⟩

def laws_markHerd.f (k : Nat) (a0 : Herd) (a1 : Int) : Option (Int × List ByteArray × List Int × List Int) := (laws_markStringS.f k a0.Names a1).bind fun t2 => (laws_markInt16S.f k a0.Eats t2.1).bind fun t3 => (laws_markUint16S.f k a0.Foes t3.1).bind fun t4 => some (t4.1, t2.2, t3.2, t4.2)
theorem laws_markHerd.c (k : Nat) (w : World) (Aa0_0 : Option Addr) (ca0_0 : Nat) (Aa0_1 : Option Addr) (ca0_1 : Nat) (Aa0_2 : Option Addr) (ca0_2 : Nat) (a0 : Herd) (a1 : Int) (hin : St w (fpU [rowC G.cs Aa0_0 ca0_0 9 a0.Names, rowC (ci .i16) Aa0_1 ca0_1 73 a0.Eats, rowC (ci .u16) Aa0_2 ca0_2 74 a0.Foes]) w [rowC G.cs Aa0_0 ca0_0 9 a0.Names, rowC (ci .i16) Aa0_1 ca0_1 73 a0.Eats, rowC (ci .u16) Aa0_2 ca0_2 74 a0.Foes] []) (r : Int × List ByteArray × List Int × List Int) (H : laws_markHerd.f k a0 a1 = some r) :
    CV Tryd.prog 29 [.agg [.slice Aa0_0 a0.Names.length ca0_0, .slice Aa0_1 a0.Eats.length ca0_1, .slice Aa0_2 a0.Foes.length ca0_2].toArray, .int .i64 a1].toArray w fun v w' => v = .int .i64 r.1 ∧ St w (fpU [rowC G.cs Aa0_0 ca0_0 9 a0.Names, rowC (ci .i16) Aa0_1 ca0_1 73 a0.Eats, rowC (ci .u16) Aa0_2 ca0_2 74 a0.Foes]) w' [rowC G.cs Aa0_0 ca0_0 9 r.2.1, rowC (ci .i16) Aa0_1 ca0_1 73 r.2.2.1, rowC (ci .u16) Aa0_2 ca0_2 74 r.2.2.2] [] ∧ r.2.1.length = a0.Names.length ∧ r.2.2.1.length = a0.Eats.length ∧ r.2.2.2.length = a0.Foes.length := by
  have hS := hin
  unfold laws_markHerd.f at H
  refine CV.body Tryd.func29 rfl Tryd.ntmps29 rfl ?_
  have hl0 : a0.Names.length = a0.Names.length := rfl
  have hl1 : a0.Eats.length = a0.Eats.length := rfl
  have hl2 : a0.Foes.length = a0.Foes.length := rfl
  refine CJ.seq ?_
  refine CJ.region ?_
  refine OJ.ef rfl rfl rfl (Ef.box hS rfl rfl ([.slice Aa0_0 a0.Names.length ca0_0, .slice Aa0_1 a0.Eats.length ca0_1, .slice Aa0_2 a0.Foes.length ca0_2]) rfl) ?_
  rintro _ w1 ⟨b1, rfl, hS⟩
  refine OJ.pures tU_ok 1 rfl ?_
  refine OJ.nil (EJ.next ?_)
  refine CJ.seq ?_
  refine CJ.region ?_
  refine OJ.st rfl rfl rfl (SR.fieldAddr tU_ok tI_ok rfl rfl rfl rfl rfl rfl) ?_
  refine OJ.st rfl rfl rfl (SR.load rfl rfl (fun w' hx => ld1 tU_ok rfl rfl (CA.ext (CA.sub (hS.cells (i := 3) rfl) 0) hx) rfl)) ?_
  refine OJ.pures tU_ok 1 rfl ?_
  obtain ⟨t2, ht2, H⟩ := pbind H
  refine OJ.callF rfl rfl rfl rfl rfl hb71 rfl (laws_markStringS.c k _ Aa0_0 ca0_0 a0.Names a1 ((hS.subs [0] [] [] rfl).pick [0] [] rfl) _ ht2) ?_
  rintro _ w1 ⟨rfl, hs, hlc0⟩
  replace hS := hS.back [0] rfl rfl [rowC G.cs Aa0_0 ca0_0 9 t2.2] [] hs ⟨fun _ => Iff.rfl, trivial⟩
  have hl0 := hlc0.trans (by first | exact hl0 | (simp only [List.length_set]; exact hl0) | (simp only [List.length_set]; done))
  refine OJ.pures tU_ok 1 rfl ?_
  refine OJ.nil (EJ.next ?_)
  refine CJ.seq ?_
  refine CJ.region ?_
  refine OJ.st rfl rfl rfl (SR.fieldAddr tU_ok tI_ok rfl rfl rfl rfl rfl rfl) ?_
  refine OJ.st rfl rfl rfl (SR.load rfl rfl (fun w' hx => ld1 tU_ok rfl rfl (CA.ext (CA.sub (hS.cells (i := 3) rfl) 1) hx) rfl)) ?_
  refine OJ.pures tU_ok 1 rfl ?_
  obtain ⟨t3, ht3, H⟩ := pbind H
  refine OJ.callF rfl rfl rfl rfl rfl hb72 rfl (laws_markInt16S.c k _ Aa0_1 ca0_1 a0.Eats t2.1 ((hS.subs [1] [] [] rfl).pick [0] [] rfl) _ ht3) ?_
  rintro _ w1 ⟨rfl, hs, hlc0⟩
  replace hS := hS.back [1] rfl rfl [rowC (ci .i16) Aa0_1 ca0_1 73 t3.2] [] hs ⟨fun _ => Iff.rfl, trivial⟩
  have hl1 := hlc0.trans (by first | exact hl1 | (simp only [List.length_set]; exact hl1) | (simp only [List.length_set]; done))
  refine OJ.pures tU_ok 1 rfl ?_
  refine OJ.nil (EJ.next ?_)
  refine CJ.seq ?_
  refine CJ.region ?_
  refine OJ.st rfl rfl rfl (SR.fieldAddr tU_ok tI_ok rfl rfl rfl rfl rfl rfl) ?_
  refine OJ.st rfl rfl rfl (SR.load rfl rfl (fun w' hx => ld1 tU_ok rfl rfl (CA.ext (CA.sub (hS.cells (i := 3) rfl) 2) hx) rfl)) ?_
  refine OJ.pures tU_ok 1 rfl ?_
  obtain ⟨t4, ht4, H⟩ := pbind H
  refine OJ.callF rfl rfl rfl rfl rfl hb73 rfl (laws_markUint16S.c k _ Aa0_2 ca0_2 a0.Foes t3.1 ((hS.subs [2] [] [] rfl).pick [0] [] rfl) _ ht4) ?_
  rintro _ w1 ⟨rfl, hs, hlc0⟩
  replace hS := hS.back [2] rfl rfl [rowC (ci .u16) Aa0_2 ca0_2 74 t4.2] [] hs ⟨fun _ => Iff.rfl, trivial⟩
  have hl2 := hlc0.trans (by first | exact hl2 | (simp only [List.length_set]; exact hl2) | (simp only [List.length_set]; done))
  refine OJ.pures tU_ok 1 rfl ?_
  refine OJ.nil (EJ.next ?_)
  refine CJ.seq ?_
  refine CJ.region ?_
  refine OJ.pures tU_ok 2 rfl ?_
  refine OJ.nil (EJ.next ?_)
  refine CJ.ret (?_)
  obtain rfl := Option.some.inj H
  exact EJ.fin rfl (.tmp rfl .nil) ⟨rfl, hS.pick [0, 1, 2] [] rfl, (by first | exact hl0 | (simp only [List.length_set]; exact hl0) | (simp only [List.length_set]; done)), (by first | exact hl1 | (simp only [List.length_set]; exact hl1) | (simp only [List.length_set]; done)), (by first | exact hl2 | (simp only [List.length_set]; exact hl2) | (simp only [List.length_set]; done))⟩

def laws_markInt64S.l1 (a0 : List Int) : Nat → (List Int) → Int → Int → Option ((List Int) × Int)
  | 0, _, _, _ => none
  | k + 1, y3, y4, y5 => if y5 < (a0.length : Int) then ((getI y3 y5).bind fun t6 => laws_markInt64S.l1 a0 k (y3.set y5.toNat y4) (IntKind.i64.wrap (y4 + 1)) (IntKind.i64.wrap (y5 + 1))) else (some (y3, y4))
def laws_markInt64S.f (k : Nat) (a0 : List Int) (a1 : Int) : Option (Int × List Int) := (laws_markInt64S.l1 a0 k a0 a1 0).bind fun (y1, y2) => some (y2, y1)
theorem laws_markInt64S.c (k : Nat) (w : World) (Aa0 : Option Addr) (ca0 : Nat) (a0 : List Int) (a1 : Int) (hin : St w (fpU [rowC (ci .i64) Aa0 ca0 2 a0]) w [rowC (ci .i64) Aa0 ca0 2 a0] []) (r : Int × List Int) (H : laws_markInt64S.f k a0 a1 = some r) :
    CV Tryd.prog 30 [.slice Aa0 a0.length ca0, .int .i64 a1].toArray w fun v w' => v = .int .i64 r.1 ∧ St w (fpU [rowC (ci .i64) Aa0 ca0 2 a0]) w' [rowC (ci .i64) Aa0 ca0 2 r.2] [] ∧ r.2.length = a0.length := by
  have hS := hin
  unfold laws_markInt64S.f at H
  refine CV.body Tryd.func30 rfl Tryd.ntmps30 rfl ?_
  have hl0 : a0.length = a0.length := rfl
  refine CJ.seq ?_
  refine CJ.region ?_
  refine OJ.pures tU_ok 1 rfl ?_
  refine OJ.nil (EJ.next ?_)
  refine CJ.seq ?_
  refine CJ.seq ?_
  refine CJ.region ?_
  refine OJ.pures tU_ok 1 rfl ?_
  refine OJ.nil (EJ.next ?_)
  obtain ⟨j169, H, K169⟩ := pbind H
  refine CJ.cut1 (fun F w1 => ∃ (y1 : List Int) (y2 : Int) , (some (y1, y2) : Option ((List Int) × Int)) = some j169 ∧ F = [(1, .int .i64 y2)] ∧ St w (fpU [rowC (ci .i64) Aa0 ca0 2 a0]) w1 [rowC (ci .i64) Aa0 ca0 2 y1] [] ∧ y1.length = a0.length) ?_ ?_
  · skip
    refine CJ.block ?_
    refine CJ.loop (fun k F w1 => ∃ (y3 : List Int) (y4 : Int) (y5 : Int), F = [(0, .slice Aa0 a0.length ca0), (1, .int .i64 y4), (5, .int .i64 y5)] ∧ St w (fpU [rowC (ci .i64) Aa0 ca0 2 a0]) w1 [rowC (ci .i64) Aa0 ca0 2 y3] [] ∧ y3.length = a0.length ∧ laws_markInt64S.l1 a0 k y3 y4 y5 = some j169) k (F' := [(0, .slice Aa0 a0.length ca0), (1, .int .i64 a1), (5, .int .i64 0)]) ⟨rfl, rfl, rfl, trivial⟩ ⟨a0, a1, 0, rfl, hS.pick [0] [] rfl, (by first | exact hl0 | (simp only [List.length_set]; exact hl0) | (simp only [List.length_set]; done)), H⟩ ?_
    rintro k F w1 ⟨y3, y4, y5, rfl, hS, hl0, H⟩
    cases k with
    | zero => rw [laws_markInt64S.l1] at H; cases H
    | succ k =>
      rw [laws_markInt64S.l1] at H
      refine CJ.seq ?_
      refine CJ.seq ?_
      refine CJ.region ?_
      refine OJ.pures tU_ok 4 rfl ?_
      refine OJ.nil (EJ.next ?_)
      refine CJ.cond rfl (fun hb => ?_) (fun hb => ?_)
      · replace H := pif_t (of_decide_eq_true hb) H
        refine CJ.skip (EJ.next ?_)
        refine CJ.seq ?_
        refine CJ.block ?_
        refine CJ.seq ?_
        refine CJ.region ?_
        refine OJ.pures tU_ok 3 rfl ?_
        obtain ⟨t6, ht6, H⟩ := pbind H
        obtain ⟨ad6, e6⟩ := (hS.rd (i := 0) rfl).some' ht6
        refine OJ.st rfl rfl rfl (SR.idxS tU_ok tI_ok rfl rfl rfl rfl e6 rfl (by have hg := (getI_some ht6).1; (first | rw [hl0] at hg | (simp only [List.length_set] at hg; rw [hl0] at hg)); exact hg)) ?_
        refine OJ.es rfl rfl (Es.storeR tI_ok hS (i := 0) (off := 0) rfl rfl ht6 e6 rfl rfl rfl rfl (vs := (ci .i64).enc y4) rfl rfl (one1 rfl) (Nat.le_of_ble_eq_true rfl) y4 rfl) ?_
        intro w1 hS
        refine OJ.nil (EJ.next ?_)
        refine CJ.region ?_
        refine OJ.pures tU_ok 3 rfl ?_
        refine OJ.nil (EJ.blk (EJ.next ?_))
        refine CJ.region ?_
        refine OJ.pures tU_ok 3 rfl ?_
        refine OJ.nil ?_
        exact EJ.round k (F' := [(0, .slice Aa0 a0.length ca0), (1, .int .i64 (IntKind.i64.wrap (y4 + 1))), (5, .int .i64 (IntKind.i64.wrap (y5 + 1)))]) ⟨rfl, rfl, rfl, trivial⟩ (Nat.lt_succ_self _) ⟨(y3.set y5.toNat y4), (IntKind.i64.wrap (y4 + 1)), (IntKind.i64.wrap (y5 + 1)), rfl, hS.pick [0] [] rfl, (by first | exact hl0 | (simp only [List.length_set]; exact hl0) | (simp only [List.length_set]; done)), H⟩
      · replace H := pif_f (of_decide_eq_false hb) H
        refine CJ.exit (EJ.skE (EJ.skE (EJ.hit (?_))))
        exact EJ.meet (F' := [(1, .int .i64 y4)]) ⟨rfl, trivial⟩ ⟨y3, y4, H, rfl, hS.pick [0] [] rfl, (by first | exact hl0 | (simp only [List.length_set]; exact hl0) | (simp only [List.length_set]; done))⟩
  · rintro F w1 ⟨y1, y2, he, rfl, hS, hl0⟩
    obtain rfl := Option.some.inj he
    have H := K169
    refine EJ.next ?_
    refine CJ.seq ?_
    refine CJ.region ?_
    refine OJ.pures tU_ok 2 rfl ?_
    refine OJ.nil (EJ.next ?_)
    refine CJ.ret (?_)
    obtain rfl := Option.some.inj H
    exact EJ.fin rfl (.tmp rfl .nil) ⟨rfl, hS.pick [0] [] rfl, (by first | exact hl0 | (simp only [List.length_set]; exact hl0) | (simp only [List.length_set]; done))⟩

def laws_markInt64SS.l1 (a0 : List (List Int)) : Nat → (List (List Int)) → Int → Int → Option ((List (List Int)) × Int)
  | 0, _, _, _ => none
  | k + 1, y3, y4, y5 => if y5 < (a0.length : Int) then ((getI y3 y5).bind fun t6 => (laws_markInt64S.f k t6 y4).bind fun t7 => laws_markInt64SS.l1 a0 k (y3.set y5.toNat t7.2) t7.1 (IntKind.i64.wrap (y5 + 1))) else (some (y3, y4))
def laws_markInt64SS.f (k : Nat) (a0 : List (List Int)) (a1 : Int) : Option (Int × List (List Int)) := (laws_markInt64SS.l1 a0 k a0 a1 0).bind fun (y1, y2) => some (y2, y1)
theorem laws_markInt64SS.c (k : Nat) (w : World) (Aa0 : Option Addr) (ca0 : Nat) (Da0 : List SH) (a0 : List (List Int)) (a1 : Int) (hin : St w (fpU [rowsC (ci .i64) Aa0 ca0 36 2 Da0 a0]) w [rowsC (ci .i64) Aa0 ca0 36 2 Da0 a0] []) (r : Int × List (List Int)) (H : laws_markInt64SS.f k a0 a1 = some r) :
    CV Tryd.prog 35 [.slice Aa0 a0.length ca0, .int .i64 a1].toArray w fun v w' => v = .int .i64 r.1 ∧ St w (fpU [rowsC (ci .i64) Aa0 ca0 36 2 Da0 a0]) w' [rowsC (ci .i64) Aa0 ca0 36 2 Da0 r.2] [] ∧ r.2.length = a0.length := by
  have hS := hin
  unfold laws_markInt64SS.f at H
  refine CV.body Tryd.func35 rfl Tryd.ntmps35 rfl ?_
  have hl0 : a0.length = a0.length := rfl
  refine CJ.seq ?_
  refine CJ.region ?_
  refine OJ.pures tU_ok 1 rfl ?_
  refine OJ.nil (EJ.next ?_)
  refine CJ.seq ?_
  refine CJ.seq ?_
  refine CJ.region ?_
  refine OJ.pures tU_ok 1 rfl ?_
  refine OJ.nil (EJ.next ?_)
  obtain ⟨j170, H, K170⟩ := pbind H
  refine CJ.cut1 (fun F w1 => ∃ (y1 : List (List Int)) (y2 : Int) , (some (y1, y2) : Option ((List (List Int)) × Int)) = some j170 ∧ F = [(1, .int .i64 y2)] ∧ St w (fpU [rowsC (ci .i64) Aa0 ca0 36 2 Da0 a0]) w1 [rowsC (ci .i64) Aa0 ca0 36 2 Da0 y1] [] ∧ y1.length = a0.length) ?_ ?_
  · skip
    refine CJ.block ?_
    refine CJ.loop (fun k F w1 => ∃ (y3 : List (List Int)) (y4 : Int) (y5 : Int), F = [(0, .slice Aa0 a0.length ca0), (1, .int .i64 y4), (5, .int .i64 y5)] ∧ St w (fpU [rowsC (ci .i64) Aa0 ca0 36 2 Da0 a0]) w1 [rowsC (ci .i64) Aa0 ca0 36 2 Da0 y3] [] ∧ y3.length = a0.length ∧ laws_markInt64SS.l1 a0 k y3 y4 y5 = some j170) k (F' := [(0, .slice Aa0 a0.length ca0), (1, .int .i64 a1), (5, .int .i64 0)]) ⟨rfl, rfl, rfl, trivial⟩ ⟨a0, a1, 0, rfl, hS.pick [0] [] rfl, (by first | exact hl0 | (simp only [List.length_set]; exact hl0) | (simp only [List.length_set]; done)), H⟩ ?_
    rintro k F w1 ⟨y3, y4, y5, rfl, hS, hl0, H⟩
    cases k with
    | zero => rw [laws_markInt64SS.l1] at H; cases H
    | succ k =>
      rw [laws_markInt64SS.l1] at H
      refine CJ.seq ?_
      refine CJ.seq ?_
      refine CJ.region ?_
      refine OJ.pures tU_ok 4 rfl ?_
      refine OJ.nil (EJ.next ?_)
      refine CJ.cond rfl (fun hb => ?_) (fun hb => ?_)
      · replace H := pif_t (of_decide_eq_true hb) H
        refine CJ.skip (EJ.next ?_)
        refine CJ.seq ?_
        refine CJ.block ?_
        refine CJ.region ?_
        refine OJ.pures tU_ok 2 rfl ?_
        obtain ⟨t6, ht6, H⟩ := pbind H
        obtain ⟨Ae6, ce6, g6, d6, hx6⟩ := ros_el (hS.rowsRo (i := 0) rfl) ht6
        obtain ⟨ad6, e6⟩ := (ros_rd (hS.rowsRo (i := 0) rfl)).some' g6
        refine OJ.st rfl rfl rfl (SR.idxS tU_ok tI_ok rfl rfl rfl rfl e6 rfl (by have hg := (getI_some ht6).1; (first | rw [hl0] at hg | (simp only [List.length_set] at hg; rw [hl0] at hg)); exact hg)) ?_
        refine OJ.st rfl rfl rfl (SR.load rfl rfl (fun w' hx => ld1 tU_ok rfl rfl (CA.ext ((ros_rd (hS.rowsRo (i := 0) rfl)).at_ e6 g6) hx) rfl)) ?_
        refine OJ.pures tU_ok 1 rfl ?_
        obtain ⟨t7, ht7, H⟩ := pbind H
        refine OJ.callF rfl rfl rfl rfl rfl hb30 rfl (laws_markInt64S.c k _ Ae6 ce6 t6 y4 (hS.subIn (i := 0) rfl d6 hx6) _ ht7) ?_
        rintro _ w1 ⟨rfl, hs, hlc0⟩
        replace hS := hS.subBack (i := 0) rfl d6 hx6 hs hlc0
        refine OJ.pures tU_ok 1 rfl ?_
        refine OJ.nil (EJ.blk (EJ.next ?_))
        refine CJ.region ?_
        refine OJ.pures tU_ok 3 rfl ?_
        refine OJ.nil ?_
        exact EJ.round k (F' := [(0, .slice Aa0 a0.length ca0), (1, .int .i64 t7.1), (5, .int .i64 (IntKind.i64.wrap (y5 + 1)))]) ⟨rfl, rfl, rfl, trivial⟩ (Nat.lt_succ_self _) ⟨(y3.set y5.toNat t7.2), t7.1, (IntKind.i64.wrap (y5 + 1)), rfl, hS.pick [0] [] rfl, (by first | exact hl0 | (simp only [List.length_set]; exact hl0) | (simp only [List.length_set]; done)), H⟩
      · replace H := pif_f (of_decide_eq_false hb) H
        refine CJ.exit (EJ.skE (EJ.skE (EJ.hit (?_))))
        exact EJ.meet (F' := [(1, .int .i64 y4)]) ⟨rfl, trivial⟩ ⟨y3, y4, H, rfl, hS.pick [0] [] rfl, (by first | exact hl0 | (simp only [List.length_set]; exact hl0) | (simp only [List.length_set]; done))⟩
  · rintro F w1 ⟨y1, y2, he, rfl, hS, hl0⟩
    obtain rfl := Option.some.inj he
    have H := K170
    refine EJ.next ?_
    refine CJ.seq ?_
    refine CJ.region ?_
    refine OJ.pures tU_ok 2 rfl ?_
    refine OJ.nil (EJ.next ?_)
    refine CJ.ret (?_)
    obtain rfl := Option.some.inj H
    exact EJ.fin rfl (.tmp rfl .nil) ⟨rfl, hS.pick [0] [] rfl, (by first | exact hl0 | (simp only [List.length_set]; exact hl0) | (simp only [List.length_set]; done))⟩

def laws_heldInt64S.l1 (a0 : List Int) : Nat → Int → Int → Option (Int ⊕ Int)
  | 0, _, _ => none
  | k + 1, y2, y3 => if y3 < (a0.length : Int) then ((getI a0 y3).bind fun t4 => if t4 ≠ y2 then (some (Sum.inl (-1))) else (laws_heldInt64S.l1 a0 k (IntKind.i64.wrap (y2 + 1)) (IntKind.i64.wrap (y3 + 1)))) else (some (Sum.inr y2))
def laws_heldInt64S.f (k : Nat) (a0 : List Int) (a1 : Int) : Option Int := (laws_heldInt64S.l1 a0 k a1 0).bind fun s172 => match s172 with | .inl r => some r | .inr y1 => some y1
theorem laws_heldInt64S.c (k : Nat) (w : World) (Aa0 : Option Addr) (ca0 : Nat) (a0 : List Int) (hr0 : Rd (ci .i64) w Aa0 a0) (hc0 : a0.length ≤ ca0) (a1 : Int) (r : Int) (H : laws_heldInt64S.f k a0 a1 = some r) :
    CV Tryd.prog 31 [.slice Aa0 a0.length ca0, .int .i64 a1].toArray w fun v w' => v = .int .i64 r ∧ Ext w w' := by
  have hS := ((St.init w no).param (ci .i64) Aa0 ca0 a0 hr0 hc0)
  unfold laws_heldInt64S.f at H
  refine CV.body Tryd.func31 rfl Tryd.ntmps31 rfl ?_
  refine CJ.seq ?_
  refine CJ.region ?_
  refine OJ.pures tU_ok 1 rfl ?_
  refine OJ.nil (EJ.next ?_)
  refine CJ.seq ?_
  refine CJ.seq ?_
  refine CJ.region ?_
  refine OJ.pures tU_ok 1 rfl ?_
  refine OJ.nil (EJ.next ?_)
  obtain ⟨j172, H, K172⟩ := pbind H
  refine CJ.cut1 (fun F w1 => ∃ (y1 : Int) , (some (Sum.inr y1) : Option (Int ⊕ Int)) = some j172 ∧ F = [(1, .int .i64 y1)] ∧ St w no w1 [] [roC (ci .i64) Aa0 ca0 a0]) ?_ ?_
  · skip
    refine CJ.block ?_
    refine CJ.loop (fun k F w1 => ∃ (y2 : Int) (y3 : Int), F = [(0, .slice Aa0 a0.length ca0), (1, .int .i64 y2), (5, .int .i64 y3)] ∧ St w no w1 [] [roC (ci .i64) Aa0 ca0 a0] ∧ laws_heldInt64S.l1 a0 k y2 y3 = some j172) k (F' := [(0, .slice Aa0 a0.length ca0), (1, .int .i64 a1), (5, .int .i64 0)]) ⟨rfl, rfl, rfl, trivial⟩ ⟨a1, 0, rfl, hS.pick [] [0] rfl, H⟩ ?_
    rintro k F w1 ⟨y2, y3, rfl, hS, H⟩
    cases k with
    | zero => rw [laws_heldInt64S.l1] at H; cases H
    | succ k =>
      rw [laws_heldInt64S.l1] at H
      refine CJ.seq ?_
      refine CJ.seq ?_
      refine CJ.region ?_
      refine OJ.pures tU_ok 4 rfl ?_
      refine OJ.nil (EJ.next ?_)
      refine CJ.cond rfl (fun hb => ?_) (fun hb => ?_)
      · replace H := pif_t (of_decide_eq_true hb) H
        refine CJ.skip (EJ.next ?_)
        refine CJ.seq ?_
        refine CJ.block ?_
        refine CJ.seq ?_
        refine CJ.seq ?_
        refine CJ.region ?_
        refine OJ.pures tU_ok 2 rfl ?_
        obtain ⟨t4, ht4, H⟩ := pbind H
        obtain ⟨ad4, e4⟩ := (hS.rd' (i := 0) rfl).some' ht4
        refine OJ.st rfl rfl rfl (SR.idxS tU_ok tI_ok rfl rfl rfl rfl e4 rfl (getI_some ht4).1) ?_
        refine OJ.st rfl rfl rfl (SR.load rfl rfl (fun w' hx => ld1 tU_ok rfl rfl (CA.ext ((hS.rd' (i := 0) rfl).at_ e4 ht4) hx) rfl)) ?_
        refine OJ.pures tU_ok 2 rfl ?_
        refine OJ.nil (EJ.next ?_)
        refine CJ.cond rfl (fun hb => ?_) (fun hb => ?_)
        · replace H := pif_t (of_decide_eq_true hb) H
          refine CJ.seq ?_
          refine CJ.region ?_
          refine OJ.pures tU_ok 1 rfl ?_
          refine OJ.nil (EJ.next ?_)
          refine CJ.ret (EJ.skR (EJ.bkR (EJ.skR (EJ.skR (EJ.bkR (EJ.skR (EJ.skR (?_))))))))
          first | (obtain rfl := Option.some.inj H; have H := K172) | (obtain ⟨q172, H2, e172⟩ := pbind H; obtain rfl := Option.some.inj e172; obtain rfl := Option.some.inj K172; have H := H2)
          obtain rfl := Option.some.inj H
          exact EJ.fin rfl (.tmp rfl .nil) ⟨rfl, hS.ext⟩
        · replace H := pif_f (of_decide_eq_false hb) H
          refine CJ.skip (EJ.next ?_)
          refine CJ.region ?_
          refine OJ.pures tU_ok 3 rfl ?_
          refine OJ.nil (EJ.blk (EJ.next ?_))
          refine CJ.region ?_
          refine OJ.pures tU_ok 3 rfl ?_
          refine OJ.nil ?_
          exact EJ.round k (F' := [(0, .slice Aa0 a0.length ca0), (1, .int .i64 (IntKind.i64.wrap (y2 + 1))), (5, .int .i64 (IntKind.i64.wrap (y3 + 1)))]) ⟨rfl, rfl, rfl, trivial⟩ (Nat.lt_succ_self _) ⟨(IntKind.i64.wrap (y2 + 1)), (IntKind.i64.wrap (y3 + 1)), rfl, hS.pick [] [0] rfl, H⟩
      · replace H := pif_f (of_decide_eq_false hb) H
        refine CJ.exit (EJ.skE (EJ.skE (EJ.hit (?_))))
        exact EJ.meet (F' := [(1, .int .i64 y2)]) ⟨rfl, trivial⟩ ⟨y2, H, rfl, hS.pick [] [0] rfl⟩
  · rintro F w1 ⟨y1, he, rfl, hS⟩
    obtain rfl := Option.some.inj he
    have H := K172
    refine EJ.next ?_
    refine CJ.seq ?_
    refine CJ.region ?_
    refine OJ.pures tU_ok 2 rfl ?_
    refine OJ.nil (EJ.next ?_)
    refine CJ.ret (?_)
    obtain rfl := Option.some.inj H
    exact EJ.fin rfl (.tmp rfl .nil) ⟨rfl, hS.ext⟩

def laws_heldInt64SS.l1 (a0 : List (List Int)) : Nat → Int → Int → Option (Int ⊕ Int)
  | 0, _, _ => none
  | k + 1, y2, y3 => if y3 < (a0.length : Int) then ((getI a0 y3).bind fun t4 => (laws_heldInt64S.f k t4 y2).bind fun t5 => if t5 < 0 then (some (Sum.inl (-1))) else (laws_heldInt64SS.l1 a0 k t5 (IntKind.i64.wrap (y3 + 1)))) else (some (Sum.inr y2))
def laws_heldInt64SS.f (k : Nat) (a0 : List (List Int)) (a1 : Int) : Option Int := (laws_heldInt64SS.l1 a0 k a1 0).bind fun s171 => match s171 with | .inl r => some r | .inr y1 => some y1
theorem laws_heldInt64SS.c (k : Nat) (w : World) (Aa0 : Option Addr) (ca0 : Nat) (Da0 : List SH) (a0 : List (List Int)) (hr0 : (rosC (ci .i64) Aa0 ca0 Da0 a0).holds w) (a1 : Int) (r : Int) (H : laws_heldInt64SS.f k a0 a1 = some r) :
    CV Tryd.prog 36 [.slice Aa0 a0.length ca0, .int .i64 a1].toArray w fun v w' => v = .int .i64 r ∧ Ext w w' := by
  have hS := ((St.init w no).paramC (rosC (ci .i64) Aa0 ca0 Da0 a0) hr0)
  unfold laws_heldInt64SS.f at H
  refine CV.body Tryd.func36 rfl Tryd.ntmps36 rfl ?_
  refine CJ.seq ?_
  refine CJ.region ?_
  refine OJ.pures tU_ok 1 rfl ?_
  refine OJ.nil (EJ.next ?_)
  refine CJ.seq ?_
  refine CJ.seq ?_
  refine CJ.region ?_
  refine OJ.pures tU_ok 1 rfl ?_
  refine OJ.nil (EJ.next ?_)
  obtain ⟨j171, H, K171⟩ := pbind H
  refine CJ.cut1 (fun F w1 => ∃ (y1 : Int) , (some (Sum.inr y1) : Option (Int ⊕ Int)) = some j171 ∧ F = [(1, .int .i64 y1)] ∧ St w no w1 [] [rosC (ci .i64) Aa0 ca0 Da0 a0]) ?_ ?_
  · skip
    refine CJ.block ?_
    refine CJ.loop (fun k F w1 => ∃ (y2 : Int) (y3 : Int), F = [(0, .slice Aa0 a0.length ca0), (1, .int .i64 y2), (5, .int .i64 y3)] ∧ St w no w1 [] [rosC (ci .i64) Aa0 ca0 Da0 a0] ∧ laws_heldInt64SS.l1 a0 k y2 y3 = some j171) k (F' := [(0, .slice Aa0 a0.length ca0), (1, .int .i64 a1), (5, .int .i64 0)]) ⟨rfl, rfl, rfl, trivial⟩ ⟨a1, 0, rfl, hS.pick [] [0] rfl, H⟩ ?_
    rintro k F w1 ⟨y2, y3, rfl, hS, H⟩
    cases k with
    | zero => rw [laws_heldInt64SS.l1] at H; cases H
    | succ k =>
      rw [laws_heldInt64SS.l1] at H
      refine CJ.seq ?_
      refine CJ.seq ?_
      refine CJ.region ?_
      refine OJ.pures tU_ok 4 rfl ?_
      refine OJ.nil (EJ.next ?_)
      refine CJ.cond rfl (fun hb => ?_) (fun hb => ?_)
      · replace H := pif_t (of_decide_eq_true hb) H
        refine CJ.skip (EJ.next ?_)
        refine CJ.seq ?_
        refine CJ.block ?_
        refine CJ.seq ?_
        refine CJ.region ?_
        refine OJ.pures tU_ok 2 rfl ?_
        obtain ⟨t4, ht4, H⟩ := pbind H
        obtain ⟨Ae4, ce4, g4, d4, hx4⟩ := ros_el (hS.rosH (i := 0) rfl) ht4
        obtain ⟨ad4, e4⟩ := (ros_rd (hS.rosH (i := 0) rfl)).some' g4
        refine OJ.st rfl rfl rfl (SR.idxS tU_ok tI_ok rfl rfl rfl rfl e4 rfl (getI_some ht4).1) ?_
        refine OJ.st rfl rfl rfl (SR.load rfl rfl (fun w' hx => ld1 tU_ok rfl rfl (CA.ext ((ros_rd (hS.rosH (i := 0) rfl)).at_ e4 g4) hx) rfl)) ?_
        refine OJ.pures tU_ok 1 rfl ?_
        obtain ⟨t5, ht5, H⟩ := pbind H
        refine OJ.callF rfl rfl rfl rfl rfl hb31 rfl (laws_heldInt64S.c k _ Ae4 ce4 t4 (ros_sub (hS.rosH (i := 0) rfl) d4 hx4) (ros_subLe (hS.rosH (i := 0) rfl) d4 hx4) y2 _ ht5) ?_
        rintro _ w1 ⟨rfl, hs⟩
        replace hS := hS.grow hs
        refine OJ.pures tU_ok 1 rfl ?_
        refine OJ.nil (EJ.next ?_)
        refine CJ.seq ?_
        refine CJ.region ?_
        refine OJ.pures tU_ok 2 rfl ?_
        refine OJ.nil (EJ.next ?_)
        refine CJ.cond rfl (fun hb => ?_) (fun hb => ?_)
        · replace H := pif_t (of_decide_eq_true hb) H
          refine CJ.seq ?_
          refine CJ.region ?_
          refine OJ.pures tU_ok 1 rfl ?_
          refine OJ.nil (EJ.next ?_)
          refine CJ.ret (EJ.bkR (EJ.skR (EJ.skR (EJ.bkR (EJ.skR (EJ.skR (?_)))))))
          first | (obtain rfl := Option.some.inj H; have H := K171) | (obtain ⟨q171, H2, e171⟩ := pbind H; obtain rfl := Option.some.inj e171; obtain rfl := Option.some.inj K171; have H := H2)
          obtain rfl := Option.some.inj H
          exact EJ.fin rfl (.tmp rfl .nil) ⟨rfl, hS.ext⟩
        · replace H := pif_f (of_decide_eq_false hb) H
          refine CJ.skip (EJ.blk (EJ.next ?_))
          refine CJ.region ?_
          refine OJ.pures tU_ok 3 rfl ?_
          refine OJ.nil ?_
          exact EJ.round k (F' := [(0, .slice Aa0 a0.length ca0), (1, .int .i64 t5), (5, .int .i64 (IntKind.i64.wrap (y3 + 1)))]) ⟨rfl, rfl, rfl, trivial⟩ (Nat.lt_succ_self _) ⟨t5, (IntKind.i64.wrap (y3 + 1)), rfl, hS.pick [] [0] rfl, H⟩
      · replace H := pif_f (of_decide_eq_false hb) H
        refine CJ.exit (EJ.skE (EJ.skE (EJ.hit (?_))))
        exact EJ.meet (F' := [(1, .int .i64 y2)]) ⟨rfl, trivial⟩ ⟨y2, H, rfl, hS.pick [] [0] rfl⟩
  · rintro F w1 ⟨y1, he, rfl, hS⟩
    obtain rfl := Option.some.inj he
    have H := K171
    refine EJ.next ?_
    refine CJ.seq ?_
    refine CJ.region ?_
    refine OJ.pures tU_ok 2 rfl ?_
    refine OJ.nil (EJ.next ?_)
    refine CJ.ret (?_)
    obtain rfl := Option.some.inj H
    exact EJ.fin rfl (.tmp rfl .nil) ⟨rfl, hS.ext⟩

def laws_FnExactPeaceGroups.f (k : Nat) (a0 : Herd) : Option Bool := (laws_szHerd.f k a0 1048576).bind fun t2 => if t2 < 0 then (some true) else ((laws_toHerd.f k a0).bind fun t3 => (spec_PeaceGroups.f k t3).bind fun t10 => (laws_toHerd.f k a0).bind fun t14 => (impl_PeaceGroups.f k t14).bind fun t22 => ((laws_eqInt64SS.f k t22.1 t10.1).bind fun t27 => if (!t27) = true then (some true) else (some (decide (t22.2 ≠ t10.2)))).bind fun y26 => if y26 = true then (some false) else ((laws_toHerd.f k a0).bind fun t28 => (laws_eqHerd.f k t14 t28).bind fun t35 => if (!t35) = true then (some false) else ((laws_markHerd.f k t14 1).bind fun t36 => (if t36.1 < 0 then (some true) else ((laws_eqInt64SS.f k t22.1 t10.1).bind fun t38 => if (!t38) = true then (some true) else (some (decide (t22.2 ≠ t10.2))))).bind fun y37 => if y37 = true then (some false) else ((laws_markInt64SS.f k t22.1 1).bind fun t39 => (laws_heldInt64SS.f k t39.2 1).bind fun t40 => if t40 < 0 then (some false) else (if t40 ≠ t39.1 then (some false) else ((laws_toHerd.f k a0).bind fun t41 => (impl_PeaceGroups.f k t41).bind fun t48 => ((laws_eqInt64SS.f k t48.1 t10.1).bind fun t53 => if (!t53) = true then (some true) else (some (decide (t48.2 ≠ t10.2)))).bind fun y52 => if y52 = true then (some false) else ((laws_heldInt64SS.f k t39.2 1).bind fun t54 => if t54 < 0 then (some false) else (if t54 ≠ t39.1 then (some false) else (some true)))))))))
theorem laws_FnExactPeaceGroups.c (k : Nat) (w : World) (Aa0_0 : Option Addr) (ca0_0 : Nat) (Aa0_1 : Option Addr) (ca0_1 : Nat) (Aa0_2 : Option Addr) (ca0_2 : Nat) (a0 : Herd) (hr0_0 : Rd G.cs w Aa0_0 a0.Names) (hc0_0 : a0.Names.length ≤ ca0_0) (hr0_1 : Rd (ci .i16) w Aa0_1 a0.Eats) (hc0_1 : a0.Eats.length ≤ ca0_1) (hr0_2 : Rd (ci .u16) w Aa0_2 a0.Foes) (hc0_2 : a0.Foes.length ≤ ca0_2) (r : Bool) (H : laws_FnExactPeaceGroups.f k a0 = some r) :
    CV Tryd.prog 8 [.agg [.slice Aa0_0 a0.Names.length ca0_0, .slice Aa0_1 a0.Eats.length ca0_1, .slice Aa0_2 a0.Foes.length ca0_2].toArray].toArray w fun v w' => v = .bool r ∧ Ext w w' := by
  have hS := ((((St.init w no).param G.cs Aa0_0 ca0_0 a0.Names hr0_0 hc0_0).param (ci .i16) Aa0_1 ca0_1 a0.Eats hr0_1 hc0_1).param (ci .u16) Aa0_2 ca0_2 a0.Foes hr0_2 hc0_2)
  unfold laws_FnExactPeaceGroups.f at H
  refine CV.body Tryd.func8 rfl Tryd.ntmps8 rfl ?_
  refine CJ.seq ?_
  refine CJ.region ?_
  refine OJ.ef rfl rfl rfl (Ef.box hS rfl rfl ([.slice Aa0_0 a0.Names.length ca0_0, .slice Aa0_1 a0.Eats.length ca0_1, .slice Aa0_2 a0.Foes.length ca0_2]) rfl) ?_
  rintro _ w1 ⟨b1, rfl, hS⟩
  refine OJ.pures tU_ok 1 rfl ?_
  refine OJ.nil (EJ.next ?_)
  refine CJ.seq ?_
  refine CJ.region ?_
  refine OJ.pures tU_ok 1 rfl ?_
  refine OJ.nil (EJ.next ?_)
  refine CJ.seq ?_
  refine CJ.region ?_
  refine OJ.st rfl rfl rfl (SR.load rfl rfl (fun w' hx => ldN tU_ok tI_ok rfl rfl rfl (CA.ext (hS.cells (i := 0) rfl) hx) (ds := [.slice Aa0_0 a0.Names.length ca0_0, .slice Aa0_1 a0.Eats.length ca0_1, .slice Aa0_2 a0.Foes.length ca0_2]) rfl rfl)) ?_
  refine OJ.pures tU_ok 1 rfl ?_
  obtain ⟨t2, ht2, H⟩ := pbind H
  refine OJ.callF rfl rfl rfl rfl rfl hb14 rfl (laws_szHerd.c k _ Aa0_0 ca0_0 Aa0_1 ca0_1 Aa0_2 ca0_2 a0 (hS.rd' (i := 0) rfl) (hS.le' (i := 0) rfl) (hS.rd' (i := 1) rfl) (hS.le' (i := 1) rfl) (hS.rd' (i := 2) rfl) (hS.le' (i := 2) rfl) 1048576 _ ht2) ?_
  rintro _ w1 ⟨rfl, hs⟩
  replace hS := hS.grow hs
  refine OJ.pures tU_ok 1 rfl ?_
  refine OJ.nil (EJ.next ?_)
  refine CJ.seq ?_
  refine CJ.seq ?_
  refine CJ.region ?_
  refine OJ.pures tU_ok 2 rfl ?_
  refine OJ.nil (EJ.next ?_)
  refine CJ.cond rfl (fun hb => ?_) (fun hb => ?_)
  · replace H := pif_t (of_decide_eq_true hb) H
    refine CJ.seq ?_
    refine CJ.region ?_
    refine OJ.pures tU_ok 1 rfl ?_
    refine OJ.nil (EJ.next ?_)
    refine CJ.ret (EJ.skR (?_))
    obtain rfl := Option.some.inj H
    exact EJ.fin rfl (.tmp rfl .nil) ⟨rfl, hS.ext⟩
  · replace H := pif_f (of_decide_eq_false hb) H
    refine CJ.skip (EJ.next ?_)
    refine CJ.seq ?_
    refine CJ.region ?_
    refine OJ.st rfl rfl rfl (SR.load rfl rfl (fun w' hx => ldN tU_ok tI_ok rfl rfl rfl (CA.ext (hS.cells (i := 0) rfl) hx) (ds := [.slice Aa0_0 a0.Names.length ca0_0, .slice Aa0_1 a0.Eats.length ca0_1, .slice Aa0_2 a0.Foes.length ca0_2]) rfl rfl)) ?_
    obtain ⟨t3, ht3, H⟩ := pbind H
    refine OJ.callF rfl rfl rfl rfl rfl hb16 rfl (laws_toHerd.c k _ Aa0_0 ca0_0 Aa0_1 ca0_1 Aa0_2 ca0_2 a0 (hS.rd' (i := 0) rfl) (hS.le' (i := 0) rfl) (hS.rd' (i := 1) rfl) (hS.le' (i := 1) rfl) (hS.rd' (i := 2) rfl) (hS.le' (i := 2) rfl) _ ht3) ?_
    rintro _ w1 ⟨A4, c5, A6, c7, A8, c9, rfl, hs⟩
    replace hS := hS.addN hs
    obtain ⟨t10, ht10, H⟩ := pbind H
    refine OJ.callF rfl rfl rfl rfl rfl hb32 rfl (spec_PeaceGroups.c k _ A4 c5 A6 c7 A8 c9 t3 (hS.rd (i := 1) rfl) (hS.le (i := 1) rfl) (hS.rd (i := 2) rfl) (hS.le (i := 2) rfl) (hS.rd (i := 3) rfl) (hS.le (i := 3) rfl) _ ht10) ?_
    rintro _ w1 ⟨A11, c12, D13, rfl, hs⟩
    replace hS := hS.addN hs
    refine OJ.pures tU_ok 5 rfl ?_
    refine OJ.nil (EJ.next ?_)
    refine CJ.seq ?_
    refine CJ.region ?_
    refine OJ.st rfl rfl rfl (SR.load rfl rfl (fun w' hx => ldN tU_ok tI_ok rfl rfl rfl (CA.ext (hS.cells (i := 0) rfl) hx) (ds := [.slice Aa0_0 a0.Names.length ca0_0, .slice Aa0_1 a0.Eats.length ca0_1, .slice Aa0_2 a0.Foes.length ca0_2]) rfl rfl)) ?_
    obtain ⟨t14, ht14, H⟩ := pbind H
    refine OJ.callF rfl rfl rfl rfl rfl hb16 rfl (laws_toHerd.c k _ Aa0_0 ca0_0 Aa0_1 ca0_1 Aa0_2 ca0_2 a0 (hS.rd' (i := 0) rfl) (hS.le' (i := 0) rfl) (hS.rd' (i := 1) rfl) (hS.le' (i := 1) rfl) (hS.rd' (i := 2) rfl) (hS.le' (i := 2) rfl) _ ht14) ?_
    rintro _ w1 ⟨A15, c16, A17, c18, A19, c20, rfl, hs⟩
    replace hS := hS.addN hs
    have hS : St w no w1 [box b1 ([.slice Aa0_0 a0.Names.length ca0_0, .slice Aa0_1 a0.Eats.length ca0_1, .slice Aa0_2 a0.Foes.length ca0_2]) 26, rowC G.cs A4 c5 9 t3.Names, rowC (ci .i16) A6 c7 73 t3.Eats, rowC (ci .u16) A8 c9 74 t3.Foes, rowsC (ci .i64) A11 c12 36 2 D13 t10.1, rowC G.cs A15 c16 9 t14.Names, rowC (ci .i16) A17 c18 73 t14.Eats, rowC (ci .u16) A19 c20 74 t14.Foes] [roC G.cs Aa0_0 ca0_0 a0.Names, roC (ci .i16) Aa0_1 ca0_1 a0.Eats, roC (ci .u16) Aa0_2 ca0_2 a0.Foes] := hS
    refine OJ.ef rfl rfl rfl (Ef.alloc hS tI_ok rfl rfl ([.slice none 0 0, .slice none 0 0, .slice none 0 0]) rfl) ?_
    rintro _ w1 ⟨b21, rfl, hS⟩
    refine OJ.es rfl rfl (Es.store tI_ok hS (i := 8) (vs := [.slice A15 t14.Names.length c16, .slice A17 t14.Eats.length c18, .slice A19 t14.Foes.length c20]) rfl rfl rfl rfl rfl rfl rfl rfl (by intro u hu; simp only [List.mem_cons, List.not_mem_nil, or_false] at hu; rcases hu with rfl | rfl | rfl <;> rfl) (Nat.le_of_ble_eq_true rfl) ([.slice A15 t14.Names.length c16, .slice A17 t14.Eats.length c18, .slice A19 t14.Foes.length c20]) rfl) ?_
    intro w1 hS
    refine OJ.nil (EJ.next ?_)
    refine CJ.seq ?_
    refine CJ.region ?_
    refine OJ.st rfl rfl rfl (SR.load rfl rfl (fun w' hx => ldN tU_ok tI_ok rfl rfl rfl (CA.ext (hS.cells (i := 8) rfl) hx) (ds := [.slice A15 t14.Names.length c16, .slice A17 t14.Eats.length c18, .slice A19 t14.Foes.length c20]) rfl rfl)) ?_
    obtain ⟨t22, ht22, H⟩ := pbind H
    refine OJ.callF rfl rfl rfl rfl rfl hb33 rfl (impl_PeaceGroups.c k _ A15 c16 A17 c18 A19 c20 t14 (hS.rd (i := 5) rfl) (hS.le (i := 5) rfl) (hS.rd (i := 6) rfl) (hS.le (i := 6) rfl) (hS.rd (i := 7) rfl) (hS.le (i := 7) rfl) _ ht22) ?_
    rintro _ w1 ⟨A23, c24, D25, rfl, hs⟩
    replace hS := hS.addN hs
    have hS : St w no w1 [box b1 ([.slice Aa0_0 a0.Names.length ca0_0, .slice Aa0_1 a0.Eats.length ca0_1, .slice Aa0_2 a0.Foes.length ca0_2]) 26, rowC G.cs A4 c5 9 t3.Names, rowC (ci .i16) A6 c7 73 t3.Eats, rowC (ci .u16) A8 c9 74 t3.Foes, rowsC (ci .i64) A11 c12 36 2 D13 t10.1, rowC G.cs A15 c16 9 t14.Names, rowC (ci .i16) A17 c18 73 t14.Eats, rowC (ci .u16) A19 c20 74 t14.Foes, box b21 ([.slice A15 t14.Names.length c16, .slice A17 t14.Eats.length c18, .slice A19 t14.Foes.length c20]) 29, rowsC (ci .i64) A23 c24 36 2 D25 t22.1] [roC G.cs Aa0_0 ca0_0 a0.Names, roC (ci .i16) Aa0_1 ca0_1 a0.Eats, roC (ci .u16) Aa0_2 ca0_2 a0.Foes] := hS
    refine OJ.pures tU_ok 5 rfl ?_
    refine OJ.nil (EJ.next ?_)
    refine CJ.seq ?_
    obtain ⟨j153, H, K153⟩ := pbind H
    refine CJ.cut (fun F w1 => ∃ (y26 : Bool) , (some y26 : Option Bool) = some j153 ∧ F = [(1, .pointer (some ⟨b1, 0, none⟩)), (4, .slice A11 t10.1.length c12), (5, .int .i64 t10.2), (6, .pointer (some ⟨b21, 0, none⟩)), (7, .slice A23 t22.1.length c24), (8, .int .i64 t22.2), (40, .bool y26)] ∧ St w no w1 [box b1 ([.slice Aa0_0 a0.Names.length ca0_0, .slice Aa0_1 a0.Eats.length ca0_1, .slice Aa0_2 a0.Foes.length ca0_2]) 26, rowsC (ci .i64) A11 c12 36 2 D13 t10.1, rowC G.cs A15 c16 9 t14.Names, rowC (ci .i16) A17 c18 73 t14.Eats, rowC (ci .u16) A19 c20 74 t14.Foes, box b21 ([.slice A15 t14.Names.length c16, .slice A17 t14.Eats.length c18, .slice A19 t14.Foes.length c20]) 29, rowsC (ci .i64) A23 c24 36 2 D25 t22.1] [roC G.cs Aa0_0 ca0_0 a0.Names, roC (ci .i16) Aa0_1 ca0_1 a0.Eats, roC (ci .u16) Aa0_2 ca0_2 a0.Foes]) ?_ ?_
    · skip
      refine CJ.region ?_
      refine OJ.pures tU_ok 2 rfl ?_
      obtain ⟨t27, ht27, H⟩ := pbind H
      refine OJ.callF rfl rfl rfl rfl rfl hb34 rfl (laws_eqInt64SS.c k _ A23 c24 D25 t22.1 (hS.rowsRo (i := 9) rfl) A11 c12 D13 t10.1 (hS.rowsRo (i := 4) rfl) _ ht27) ?_
      rintro _ w1 ⟨rfl, hs⟩
      replace hS := hS.grow hs
      refine OJ.pures tU_ok 2 rfl ?_
      refine OJ.split (t := 36) rfl (fun hb => ?_) (fun hb => ?_)
      · replace H := pif_t hb H
        refine OJ.pures tU_ok 4 rfl ?_
        refine OJ.nil ?_
        exact EJ.meet (F' := [(1, .pointer (some ⟨b1, 0, none⟩)), (4, .slice A11 t10.1.length c12), (5, .int .i64 t10.2), (6, .pointer (some ⟨b21, 0, none⟩)), (7, .slice A23 t22.1.length c24), (8, .int .i64 t22.2), (40, .bool true)]) ⟨rfl, rfl, rfl, rfl, rfl, rfl, rfl, trivial⟩ ⟨true, H, rfl, hS.pick [0, 4, 5, 6, 7, 8, 9] [0, 1, 2] rfl⟩
      · replace H := pifb_f hb H
        refine OJ.pures tU_ok 4 rfl ?_
        refine OJ.nil ?_
        exact EJ.meet (F' := [(1, .pointer (some ⟨b1, 0, none⟩)), (4, .slice A11 t10.1.length c12), (5, .int .i64 t10.2), (6, .pointer (some ⟨b21, 0, none⟩)), (7, .slice A23 t22.1.length c24), (8, .int .i64 t22.2), (40, .bool (decide (t22.2 ≠ t10.2)))]) ⟨rfl, rfl, rfl, rfl, rfl, rfl, rfl, trivial⟩ ⟨(decide (t22.2 ≠ t10.2)), H, rfl, hS.pick [0, 4, 5, 6, 7, 8, 9] [0, 1, 2] rfl⟩
    · rintro F w1 ⟨y26, he, rfl, hS⟩
      obtain rfl := Option.some.inj he
      have H := K153
      refine CJ.cond rfl (fun hb => ?_) (fun hb => ?_)
      · replace H := pif_t hb H
        refine CJ.seq ?_
        refine CJ.region ?_
        refine OJ.pures tU_ok 1 rfl ?_
        refine OJ.nil (EJ.next ?_)
        refine CJ.ret (EJ.skR (?_))
        obtain rfl := Option.some.inj H
        exact EJ.fin rfl (.tmp rfl .nil) ⟨rfl, hS.ext⟩
      · replace H := pifb_f hb H
        refine CJ.skip (EJ.next ?_)
        refine CJ.seq ?_
        refine CJ.seq ?_
        refine CJ.draw [] [0, 1, 2, 3, 4] mixed (by kernel_rfl) hS fun w1 hS => ?_
        refine DJ.st rfl rfl rfl rfl rfl (SR.load rfl rfl (fun w' hx => ldN tU_ok tI_ok rfl rfl rfl (CA.ext (hS.cells (i := 5) rfl) hx) (ds := [.slice A15 t14.Names.length c16, .slice A17 t14.Eats.length c18, .slice A19 t14.Foes.length c20]) rfl rfl)) ?_
        refine DJ.st rfl rfl rfl rfl rfl (SR.load rfl rfl (fun w' hx => ldN tU_ok tI_ok rfl rfl rfl (CA.ext (hS.cells (i := 0) rfl) hx) (ds := [.slice Aa0_0 a0.Names.length ca0_0, .slice Aa0_1 a0.Eats.length ca0_1, .slice Aa0_2 a0.Foes.length ca0_2]) rfl rfl)) ?_
        obtain ⟨t28, ht28, H⟩ := pbind H
        refine DJ.callF rfl rfl rfl rfl rfl rfl rfl hb16 rfl (laws_toHerd.c k _ Aa0_0 ca0_0 Aa0_1 ca0_1 Aa0_2 ca0_2 a0 (hS.rd' (i := 0) rfl) (hS.le' (i := 0) rfl) (hS.rd' (i := 1) rfl) (hS.le' (i := 1) rfl) (hS.rd' (i := 2) rfl) (hS.le' (i := 2) rfl) _ ht28) (by rintro v w' ⟨A29, c30, A31, c32, A33, c34, rfl, hs⟩; exact hs.ext) ?_
        rintro _ w1 ⟨A29, c30, A31, c32, A33, c34, rfl, hs⟩
        replace hS := hS.addN hs
        have hS : St w no w1 [box b1 ([.slice Aa0_0 a0.Names.length ca0_0, .slice Aa0_1 a0.Eats.length ca0_1, .slice Aa0_2 a0.Foes.length ca0_2]) 26, rowsC (ci .i64) A11 c12 36 2 D13 t10.1, rowC G.cs A15 c16 9 t14.Names, rowC (ci .i16) A17 c18 73 t14.Eats, rowC (ci .u16) A19 c20 74 t14.Foes, box b21 ([.slice A15 t14.Names.length c16, .slice A17 t14.Eats.length c18, .slice A19 t14.Foes.length c20]) 29, rowsC (ci .i64) A23 c24 36 2 D25 t22.1, rowC G.cs A29 c30 9 t28.Names, rowC (ci .i16) A31 c32 73 t28.Eats, rowC (ci .u16) A33 c34 74 t28.Foes] [roC G.cs Aa0_0 ca0_0 a0.Names, roC (ci .i16) Aa0_1 ca0_1 a0.Eats, roC (ci .u16) Aa0_2 ca0_2 a0.Foes] := hS
        obtain ⟨t35, ht35, H⟩ := pbind H
        refine DJ.callF rfl rfl rfl rfl rfl rfl rfl hb18 rfl (laws_eqHerd.c k _ A15 c16 A17 c18 A19 c20 t14 (hS.rd (i := 2) rfl) (hS.le (i := 2) rfl) (hS.rd (i := 3) rfl) (hS.le (i := 3) rfl) (hS.rd (i := 4) rfl) (hS.le (i := 4) rfl) A29 c30 A31 c32 A33 c34 t28 (hS.rd (i := 7) rfl) (hS.le (i := 7) rfl) (hS.rd (i := 8) rfl) (hS.le (i := 8) rfl) (hS.rd (i := 9) rfl) (hS.le (i := 9) rfl) _ ht35) (by rintro v w' ⟨rfl, hs⟩; exact hs) ?_
        rintro _ w1 ⟨rfl, hs⟩
        replace hS := hS.grow hs
        refine DJ.pures tU_ok 1 rfl ?_
        refine DJ.nil (EJ.next ?_)
        refine CJ.cond rfl (fun hb => ?_) (fun hb => ?_)
        · replace H := pif_t hb H
          refine CJ.seq ?_
          refine CJ.region ?_
          refine OJ.pures tU_ok 1 rfl ?_
          refine OJ.nil (EJ.next ?_)
          refine CJ.ret (EJ.skR (?_))
          obtain rfl := Option.some.inj H
          exact EJ.fin rfl (.tmp rfl .nil) ⟨rfl, hS.ext⟩
        · replace H := pifb_f hb H
          refine CJ.skip (EJ.next ?_)
          refine CJ.seq ?_
          refine CJ.region ?_
          refine OJ.pures tU_ok 1 rfl ?_
          refine OJ.nil (EJ.next ?_)
          refine CJ.seq ?_
          refine CJ.region ?_
          refine OJ.st rfl rfl rfl (SR.load rfl rfl (fun w' hx => ldN tU_ok tI_ok rfl rfl rfl (CA.ext (hS.cells (i := 5) rfl) hx) (ds := [.slice A15 t14.Names.length c16, .slice A17 t14.Eats.length c18, .slice A19 t14.Foes.length c20]) rfl rfl)) ?_
          refine OJ.pures tU_ok 1 rfl ?_
          obtain ⟨t36, ht36, H⟩ := pbind H
          refine OJ.callF rfl rfl rfl rfl rfl hb29 rfl (laws_markHerd.c k _ A15 c16 A17 c18 A19 c20 t14 1 ((hS.subs [2, 3, 4] [] [] rfl).pick [0, 1, 2] [] rfl) _ ht36) ?_
          rintro _ w1 ⟨rfl, hs, hlc0, hlc1, hlc2⟩
          replace hS := hS.back [2, 3, 4] rfl rfl [rowC G.cs A15 c16 9 t36.2.1, rowC (ci .i16) A17 c18 73 t36.2.2.1, rowC (ci .u16) A19 c20 74 t36.2.2.2] [] hs ⟨fun _ => Iff.rfl, fun _ => Iff.rfl, fun _ => Iff.rfl, trivial⟩
          have hS : St w no w1 [box b1 ([.slice Aa0_0 a0.Names.length ca0_0, .slice Aa0_1 a0.Eats.length ca0_1, .slice Aa0_2 a0.Foes.length ca0_2]) 26, rowsC (ci .i64) A11 c12 36 2 D13 t10.1, rowC G.cs A15 c16 9 t36.2.1, rowC (ci .i16) A17 c18 73 t36.2.2.1, rowC (ci .u16) A19 c20 74 t36.2.2.2, box b21 ([.slice A15 t14.Names.length c16, .slice A17 t14.Eats.length c18, .slice A19 t14.Foes.length c20]) 29, rowsC (ci .i64) A23 c24 36 2 D25 t22.1, rowC G.cs A29 c30 9 t28.Names, rowC (ci .i16) A31 c32 73 t28.Eats, rowC (ci .u16) A33 c34 74 t28.Foes] [roC G.cs Aa0_0 ca0_0 a0.Names, roC (ci .i16) Aa0_1 ca0_1 a0.Eats, roC (ci .u16) Aa0_2 ca0_2 a0.Foes] := hS
          refine OJ.as (t := 41) rfl (show _ = (.agg [.slice A15 t36.2.1.length c16, .slice A17 t14.Eats.length c18, .slice A19 t14.Foes.length c20].toArray : Value) by simp only [hlc0]) ?_
          refine OJ.as (t := 46) rfl (show _ = (.agg [.slice A15 t36.2.1.length c16, .slice A17 t14.Eats.length c18, .slice A19 t14.Foes.length c20].toArray : Value) by simp only [hlc0]) ?_
          replace hS := hS.boxAs (i := 5) rfl (show _ = ([.slice A15 t36.2.1.length c16, .slice A17 t14.Eats.length c18, .slice A19 t14.Foes.length c20] : List Value) by simp only [hlc0])
          refine OJ.as (t := 41) rfl (show _ = (.agg [.slice A15 t36.2.1.length c16, .slice A17 t36.2.2.1.length c18, .slice A19 t14.Foes.length c20].toArray : Value) by simp only [hlc1]) ?_
          refine OJ.as (t := 46) rfl (show _ = (.agg [.slice A15 t36.2.1.length c16, .slice A17 t36.2.2.1.length c18, .slice A19 t14.Foes.length c20].toArray : Value) by simp only [hlc1]) ?_
          replace hS := hS.boxAs (i := 5) rfl (show _ = ([.slice A15 t36.2.1.length c16, .slice A17 t36.2.2.1.length c18, .slice A19 t14.Foes.length c20] : List Value) by simp only [hlc1])
          refine OJ.as (t := 41) rfl (show _ = (.agg [.slice A15 t36.2.1.length c16, .slice A17 t36.2.2.1.length c18, .slice A19 t36.2.2.2.length c20].toArray : Value) by simp only [hlc2]) ?_
          refine OJ.as (t := 46) rfl (show _ = (.agg [.slice A15 t36.2.1.length c16, .slice A17 t36.2.2.1.length c18, .slice A19 t36.2.2.2.length c20].toArray : Value) by simp only [hlc2]) ?_
          replace hS := hS.boxAs (i := 5) rfl (show _ = ([.slice A15 t36.2.1.length c16, .slice A17 t36.2.2.1.length c18, .slice A19 t36.2.2.2.length c20] : List Value) by simp only [hlc2])
          have hS : St w no w1 [box b1 ([.slice Aa0_0 a0.Names.length ca0_0, .slice Aa0_1 a0.Eats.length ca0_1, .slice Aa0_2 a0.Foes.length ca0_2]) 26, rowsC (ci .i64) A11 c12 36 2 D13 t10.1, rowC G.cs A15 c16 9 t36.2.1, rowC (ci .i16) A17 c18 73 t36.2.2.1, rowC (ci .u16) A19 c20 74 t36.2.2.2, box b21 ([.slice A15 t36.2.1.length c16, .slice A17 t36.2.2.1.length c18, .slice A19 t36.2.2.2.length c20]) 29, rowsC (ci .i64) A23 c24 36 2 D25 t22.1, rowC G.cs A29 c30 9 t28.Names, rowC (ci .i16) A31 c32 73 t28.Eats, rowC (ci .u16) A33 c34 74 t28.Foes] [roC G.cs Aa0_0 ca0_0 a0.Names, roC (ci .i16) Aa0_1 ca0_1 a0.Eats, roC (ci .u16) Aa0_2 ca0_2 a0.Foes] := hS
          refine OJ.pures tU_ok 1 rfl ?_
          refine OJ.nil (EJ.next ?_)
          refine CJ.seq ?_
          obtain ⟨j166, H, K166⟩ := pbind H
          refine CJ.cut (fun F w1 => ∃ (y37 : Bool) , (some y37 : Option Bool) = some j166 ∧ F = [(1, .pointer (some ⟨b1, 0, none⟩)), (4, .slice A11 t10.1.length c12), (5, .int .i64 t10.2), (7, .slice A23 t22.1.length c24), (61, .bool y37)] ∧ St w no w1 [box b1 ([.slice Aa0_0 a0.Names.length ca0_0, .slice Aa0_1 a0.Eats.length ca0_1, .slice Aa0_2 a0.Foes.length ca0_2]) 26, rowsC (ci .i64) A11 c12 36 2 D13 t10.1, rowsC (ci .i64) A23 c24 36 2 D25 t22.1] [roC G.cs Aa0_0 ca0_0 a0.Names, roC (ci .i16) Aa0_1 ca0_1 a0.Eats, roC (ci .u16) Aa0_2 ca0_2 a0.Foes]) ?_ ?_
          · skip
            refine CJ.region ?_
            refine OJ.pures tU_ok 3 rfl ?_
            refine OJ.split (t := 51) rfl (fun hb => ?_) (fun hb => ?_)
            · replace H := pif_t (of_decide_eq_true hb) H
              refine OJ.pures tU_ok 10 rfl ?_
              refine OJ.nil ?_
              exact EJ.meet (F' := [(1, .pointer (some ⟨b1, 0, none⟩)), (4, .slice A11 t10.1.length c12), (5, .int .i64 t10.2), (7, .slice A23 t22.1.length c24), (61, .bool true)]) ⟨rfl, rfl, rfl, rfl, rfl, trivial⟩ ⟨true, H, rfl, hS.pick [0, 1, 6] [0, 1, 2] rfl⟩
            · replace H := pif_f (of_decide_eq_false hb) H
              refine OJ.pures tU_ok 2 rfl ?_
              obtain ⟨t38, ht38, H⟩ := pbind H
              refine OJ.callF rfl rfl rfl rfl rfl hb34 rfl (laws_eqInt64SS.c k _ A23 c24 D25 t22.1 (hS.rowsRo (i := 6) rfl) A11 c12 D13 t10.1 (hS.rowsRo (i := 1) rfl) _ ht38) ?_
              rintro _ w1 ⟨rfl, hs⟩
              replace hS := hS.grow hs
              refine OJ.pures tU_ok 3 rfl ?_
              refine OJ.split (t := 57) rfl (fun hb => ?_) (fun hb => ?_)
              · replace H := pif_t hb H
                refine OJ.pures tU_ok 4 rfl ?_
                refine OJ.nil ?_
                exact EJ.meet (F' := [(1, .pointer (some ⟨b1, 0, none⟩)), (4, .slice A11 t10.1.length c12), (5, .int .i64 t10.2), (7, .slice A23 t22.1.length c24), (61, .bool true)]) ⟨rfl, rfl, rfl, rfl, rfl, trivial⟩ ⟨true, H, rfl, hS.pick [0, 1, 6] [0, 1, 2] rfl⟩
              · replace H := pifb_f hb H
                refine OJ.pures tU_ok 4 rfl ?_
                refine OJ.nil ?_
                exact EJ.meet (F' := [(1, .pointer (some ⟨b1, 0, none⟩)), (4, .slice A11 t10.1.length c12), (5, .int .i64 t10.2), (7, .slice A23 t22.1.length c24), (61, .bool (decide (t22.2 ≠ t10.2)))]) ⟨rfl, rfl, rfl, rfl, rfl, trivial⟩ ⟨(decide (t22.2 ≠ t10.2)), H, rfl, hS.pick [0, 1, 6] [0, 1, 2] rfl⟩
          · rintro F w1 ⟨y37, he, rfl, hS⟩
            obtain rfl := Option.some.inj he
            have H := K166
            refine CJ.cond rfl (fun hb => ?_) (fun hb => ?_)
            · replace H := pif_t hb H
              refine CJ.seq ?_
              refine CJ.region ?_
              refine OJ.pures tU_ok 1 rfl ?_
              refine OJ.nil (EJ.next ?_)
              refine CJ.ret (EJ.skR (?_))
              obtain rfl := Option.some.inj H
              exact EJ.fin rfl (.tmp rfl .nil) ⟨rfl, hS.ext⟩
            · replace H := pifb_f hb H
              refine CJ.skip (EJ.next ?_)
              refine CJ.seq ?_
              refine CJ.region ?_
              refine OJ.pures tU_ok 1 rfl ?_
              refine OJ.nil (EJ.next ?_)
              refine CJ.seq ?_
              refine CJ.region ?_
              refine OJ.pures tU_ok 2 rfl ?_
              obtain ⟨t39, ht39, H⟩ := pbind H
              refine OJ.callF rfl rfl rfl rfl rfl hb35 rfl (laws_markInt64SS.c k _ A23 c24 D25 t22.1 1 ((hS.subs [2] [] [] rfl).pick [0] [] rfl) _ ht39) ?_
              rintro _ w1 ⟨rfl, hs, hlc0⟩
              replace hS := hS.back [2] rfl rfl [rowsC (ci .i64) A23 c24 36 2 D25 t39.2] [] hs ⟨rows_fp hlc0, trivial⟩
              refine OJ.as (t := 7) rfl (show _ = (.slice A23 t39.2.length c24 : Value) by simp only [hlc0]) ?_
              refine OJ.as (t := 62) rfl (show _ = (.slice A23 t39.2.length c24 : Value) by simp only [hlc0]) ?_
              refine OJ.pures tU_ok 1 rfl ?_
              refine OJ.nil (EJ.next ?_)
              refine CJ.seq ?_
              refine CJ.region ?_
              refine OJ.pures tU_ok 1 rfl ?_
              refine OJ.nil (EJ.next ?_)
              refine CJ.seq ?_
              refine CJ.region ?_
              refine OJ.pures tU_ok 2 rfl ?_
              obtain ⟨t40, ht40, H⟩ := pbind H
              refine OJ.callF rfl rfl rfl rfl rfl hb36 rfl (laws_heldInt64SS.c k _ A23 c24 D25 t39.2 (hS.rowsRo (i := 2) rfl) 1 _ ht40) ?_
              rintro _ w1 ⟨rfl, hs⟩
              replace hS := hS.grow hs
              refine OJ.pures tU_ok 1 rfl ?_
              refine OJ.nil (EJ.next ?_)
              refine CJ.seq ?_
              refine CJ.seq ?_
              refine CJ.region ?_
              refine OJ.pures tU_ok 2 rfl ?_
              refine OJ.nil (EJ.next ?_)
              refine CJ.cond rfl (fun hb => ?_) (fun hb => ?_)
              · replace H := pif_t (of_decide_eq_true hb) H
                refine CJ.seq ?_
                refine CJ.region ?_
                refine OJ.pures tU_ok 1 rfl ?_
                refine OJ.nil (EJ.next ?_)
                refine CJ.ret (EJ.skR (?_))
                obtain rfl := Option.some.inj H
                exact EJ.fin rfl (.tmp rfl .nil) ⟨rfl, hS.ext⟩
              · replace H := pif_f (of_decide_eq_false hb) H
                refine CJ.skip (EJ.next ?_)
                refine CJ.seq ?_
                refine CJ.seq ?_
                refine CJ.region ?_
                refine OJ.pures tU_ok 3 rfl ?_
                refine OJ.nil (EJ.next ?_)
                refine CJ.cond rfl (fun hb => ?_) (fun hb => ?_)
                · replace H := pif_t (of_decide_eq_true hb) H
                  refine CJ.seq ?_
                  refine CJ.region ?_
                  refine OJ.pures tU_ok 1 rfl ?_
                  refine OJ.nil (EJ.next ?_)
                  refine CJ.ret (EJ.skR (?_))
                  obtain rfl := Option.some.inj H
                  exact EJ.fin rfl (.tmp rfl .nil) ⟨rfl, hS.ext⟩
                · replace H := pif_f (of_decide_eq_false hb) H
                  refine CJ.skip (EJ.next ?_)
                  refine CJ.seq ?_
                  refine CJ.region ?_
                  refine OJ.st rfl rfl rfl (SR.load rfl rfl (fun w' hx => ldN tU_ok tI_ok rfl rfl rfl (CA.ext (hS.cells (i := 0) rfl) hx) (ds := [.slice Aa0_0 a0.Names.length ca0_0, .slice Aa0_1 a0.Eats.length ca0_1, .slice Aa0_2 a0.Foes.length ca0_2]) rfl rfl)) ?_
                  obtain ⟨t41, ht41, H⟩ := pbind H
                  refine OJ.callF rfl rfl rfl rfl rfl hb16 rfl (laws_toHerd.c k _ Aa0_0 ca0_0 Aa0_1 ca0_1 Aa0_2 ca0_2 a0 (hS.rd' (i := 0) rfl) (hS.le' (i := 0) rfl) (hS.rd' (i := 1) rfl) (hS.le' (i := 1) rfl) (hS.rd' (i := 2) rfl) (hS.le' (i := 2) rfl) _ ht41) ?_
                  rintro _ w1 ⟨A42, c43, A44, c45, A46, c47, rfl, hs⟩
                  replace hS := hS.addN hs
                  have hS : St w no w1 [box b1 ([.slice Aa0_0 a0.Names.length ca0_0, .slice Aa0_1 a0.Eats.length ca0_1, .slice Aa0_2 a0.Foes.length ca0_2]) 26, rowsC (ci .i64) A11 c12 36 2 D13 t10.1, rowsC (ci .i64) A23 c24 36 2 D25 t39.2, rowC G.cs A42 c43 9 t41.Names, rowC (ci .i16) A44 c45 73 t41.Eats, rowC (ci .u16) A46 c47 74 t41.Foes] [roC G.cs Aa0_0 ca0_0 a0.Names, roC (ci .i16) Aa0_1 ca0_1 a0.Eats, roC (ci .u16) Aa0_2 ca0_2 a0.Foes] := hS
                  obtain ⟨t48, ht48, H⟩ := pbind H
                  refine OJ.callF rfl rfl rfl rfl rfl hb33 rfl (impl_PeaceGroups.c k _ A42 c43 A44 c45 A46 c47 t41 (hS.rd (i := 3) rfl) (hS.le (i := 3) rfl) (hS.rd (i := 4) rfl) (hS.le (i := 4) rfl) (hS.rd (i := 5) rfl) (hS.le (i := 5) rfl) _ ht48) ?_
                  rintro _ w1 ⟨A49, c50, D51, rfl, hs⟩
                  replace hS := hS.addN hs
                  have hS : St w no w1 [box b1 ([.slice Aa0_0 a0.Names.length ca0_0, .slice Aa0_1 a0.Eats.length ca0_1, .slice Aa0_2 a0.Foes.length ca0_2]) 26, rowsC (ci .i64) A11 c12 36 2 D13 t10.1, rowsC (ci .i64) A23 c24 36 2 D25 t39.2, rowC G.cs A42 c43 9 t41.Names, rowC (ci .i16) A44 c45 73 t41.Eats, rowC (ci .u16) A46 c47 74 t41.Foes, rowsC (ci .i64) A49 c50 36 2 D51 t48.1] [roC G.cs Aa0_0 ca0_0 a0.Names, roC (ci .i16) Aa0_1 ca0_1 a0.Eats, roC (ci .u16) Aa0_2 ca0_2 a0.Foes] := hS
                  refine OJ.pures tU_ok 5 rfl ?_
                  refine OJ.nil (EJ.next ?_)
                  refine CJ.seq ?_
                  obtain ⟨j173, H, K173⟩ := pbind H
                  refine CJ.cut (fun F w1 => ∃ (y52 : Bool) , (some y52 : Option Bool) = some j173 ∧ F = [(7, .slice A23 t39.2.length c24), (10, .int .i64 t39.1), (87, .bool y52)] ∧ St w no w1 [rowsC (ci .i64) A23 c24 36 2 D25 t39.2] [roC G.cs Aa0_0 ca0_0 a0.Names, roC (ci .i16) Aa0_1 ca0_1 a0.Eats, roC (ci .u16) Aa0_2 ca0_2 a0.Foes]) ?_ ?_
                  · skip
                    refine CJ.region ?_
                    refine OJ.pures tU_ok 2 rfl ?_
                    obtain ⟨t53, ht53, H⟩ := pbind H
                    refine OJ.callF rfl rfl rfl rfl rfl hb34 rfl (laws_eqInt64SS.c k _ A49 c50 D51 t48.1 (hS.rowsRo (i := 6) rfl) A11 c12 D13 t10.1 (hS.rowsRo (i := 1) rfl) _ ht53) ?_
                    rintro _ w1 ⟨rfl, hs⟩
                    replace hS := hS.grow hs
                    refine OJ.pures tU_ok 2 rfl ?_
                    refine OJ.split (t := 83) rfl (fun hb => ?_) (fun hb => ?_)
                    · replace H := pif_t hb H
                      refine OJ.pures tU_ok 4 rfl ?_
                      refine OJ.nil ?_
                      exact EJ.meet (F' := [(7, .slice A23 t39.2.length c24), (10, .int .i64 t39.1), (87, .bool true)]) ⟨rfl, rfl, rfl, trivial⟩ ⟨true, H, rfl, hS.pick [2] [0, 1, 2] rfl⟩
                    · replace H := pifb_f hb H
                      refine OJ.pures tU_ok 4 rfl ?_
                      refine OJ.nil ?_
                      exact EJ.meet (F' := [(7, .slice A23 t39.2.length c24), (10, .int .i64 t39.1), (87, .bool (decide (t48.2 ≠ t10.2)))]) ⟨rfl, rfl, rfl, trivial⟩ ⟨(decide (t48.2 ≠ t10.2)), H, rfl, hS.pick [2] [0, 1, 2] rfl⟩
                  · rintro F w1 ⟨y52, he, rfl, hS⟩
                    obtain rfl := Option.some.inj he
                    have H := K173
                    refine CJ.cond rfl (fun hb => ?_) (fun hb => ?_)
                    · replace H := pif_t hb H
                      refine CJ.seq ?_
                      refine CJ.region ?_
                      refine OJ.pures tU_ok 1 rfl ?_
                      refine OJ.nil (EJ.next ?_)
                      refine CJ.ret (EJ.skR (?_))
                      obtain rfl := Option.some.inj H
                      exact EJ.fin rfl (.tmp rfl .nil) ⟨rfl, hS.ext⟩
                    · replace H := pifb_f hb H
                      refine CJ.skip (EJ.next ?_)
                      refine CJ.seq ?_
                      refine CJ.region ?_
                      refine OJ.pures tU_ok 1 rfl ?_
                      refine OJ.nil (EJ.next ?_)
                      refine CJ.seq ?_
                      refine CJ.region ?_
                      refine OJ.pures tU_ok 2 rfl ?_
                      obtain ⟨t54, ht54, H⟩ := pbind H
                      refine OJ.callF rfl rfl rfl rfl rfl hb36 rfl (laws_heldInt64SS.c k _ A23 c24 D25 t39.2 (hS.rowsRo (i := 0) rfl) 1 _ ht54) ?_
                      rintro _ w1 ⟨rfl, hs⟩
                      replace hS := hS.grow hs
                      refine OJ.pures tU_ok 1 rfl ?_
                      refine OJ.nil (EJ.next ?_)
                      refine CJ.seq ?_
                      refine CJ.seq ?_
                      refine CJ.region ?_
                      refine OJ.pures tU_ok 2 rfl ?_
                      refine OJ.nil (EJ.next ?_)
                      refine CJ.cond rfl (fun hb => ?_) (fun hb => ?_)
                      · replace H := pif_t (of_decide_eq_true hb) H
                        refine CJ.seq ?_
                        refine CJ.region ?_
                        refine OJ.pures tU_ok 1 rfl ?_
                        refine OJ.nil (EJ.next ?_)
                        refine CJ.ret (EJ.skR (?_))
                        obtain rfl := Option.some.inj H
                        exact EJ.fin rfl (.tmp rfl .nil) ⟨rfl, hS.ext⟩
                      · replace H := pif_f (of_decide_eq_false hb) H
                        refine CJ.skip (EJ.next ?_)
                        refine CJ.seq ?_
                        refine CJ.seq ?_
                        refine CJ.region ?_
                        refine OJ.pures tU_ok 3 rfl ?_
                        refine OJ.nil (EJ.next ?_)
                        refine CJ.cond rfl (fun hb => ?_) (fun hb => ?_)
                        · replace H := pif_t (of_decide_eq_true hb) H
                          refine CJ.seq ?_
                          refine CJ.region ?_
                          refine OJ.pures tU_ok 1 rfl ?_
                          refine OJ.nil (EJ.next ?_)
                          refine CJ.ret (EJ.skR (?_))
                          obtain rfl := Option.some.inj H
                          exact EJ.fin rfl (.tmp rfl .nil) ⟨rfl, hS.ext⟩
                        · replace H := pif_f (of_decide_eq_false hb) H
                          refine CJ.skip (EJ.next ?_)
                          refine CJ.seq ?_
                          refine CJ.region ?_
                          refine OJ.pures tU_ok 1 rfl ?_
                          refine OJ.nil (EJ.next ?_)
                          refine CJ.ret (?_)
                          obtain rfl := Option.some.inj H
                          exact EJ.fin rfl (.tmp rfl .nil) ⟨rfl, hS.ext⟩

def spec_l06Asked.l1 (a0 : Herd) (a1 : List Int) : Nat → Int → Option (Int ⊕ Unit)
  | 0, _ => none
  | k + 1, y2 => if y2 < (a1.length : Int) then ((getI a1 y2).bind fun t3 => (spec_l00In.f t3 0 (IntKind.i64.wrap ((a0.Names.length : Int) - 1))).bind fun t4 => if (!t4) = true then (some (Sum.inl 2)) else (spec_l06Asked.l1 a0 a1 k (IntKind.i64.wrap (y2 + 1)))) else (some (Sum.inr ()))
def spec_l06Asked.f (k : Nat) (a0 : Herd) (a1 : List Int) : Option Int := (spec_l06Ok.f k a0).bind fun t1 => if (!t1) = true then (some 1) else ((spec_l06Asked.l1 a0 a1 k 0).bind fun s174 => match s174 with | .inl r => some r | .inr _ => some 0)
theorem spec_l06Asked.c (k : Nat) (w : World) (Aa0_0 : Option Addr) (ca0_0 : Nat) (Aa0_1 : Option Addr) (ca0_1 : Nat) (Aa0_2 : Option Addr) (ca0_2 : Nat) (a0 : Herd) (hr0_0 : Rd G.cs w Aa0_0 a0.Names) (hc0_0 : a0.Names.length ≤ ca0_0) (hr0_1 : Rd (ci .i16) w Aa0_1 a0.Eats) (hc0_1 : a0.Eats.length ≤ ca0_1) (hr0_2 : Rd (ci .u16) w Aa0_2 a0.Foes) (hc0_2 : a0.Foes.length ≤ ca0_2) (pa0 : Addr) (hp0 : CA w pa0 ([.slice Aa0_0 a0.Names.length ca0_0, .slice Aa0_1 a0.Eats.length ca0_1, .slice Aa0_2 a0.Foes.length ca0_2])) (Aa1 : Option Addr) (ca1 : Nat) (a1 : List Int) (hr1 : Rd (ci .i64) w Aa1 a1) (hc1 : a1.length ≤ ca1) (r : Int) (H : spec_l06Asked.f k a0 a1 = some r) :
    CV Tryd.prog 62 [.pointer (some pa0), .slice Aa1 a1.length ca1].toArray w fun v w' => v = .int .i64 r ∧ Ext w w' := by
  have hS := ((((((St.init w no).param G.cs Aa0_0 ca0_0 a0.Names hr0_0 hc0_0).param (ci .i16) Aa0_1 ca0_1 a0.Eats hr0_1 hc0_1).param (ci .u16) Aa0_2 ca0_2 a0.Foes hr0_2 hc0_2).paramP pa0 ([.slice Aa0_0 a0.Names.length ca0_0, .slice Aa0_1 a0.Eats.length ca0_1, .slice Aa0_2 a0.Foes.length ca0_2]) hp0).param (ci .i64) Aa1 ca1 a1 hr1 hc1)
  unfold spec_l06Asked.f at H
  refine CV.body Tryd.func62 rfl Tryd.ntmps62 rfl ?_
  refine CJ.seq ?_
  refine CJ.region ?_
  refine OJ.pures tU_ok 1 rfl ?_
  refine OJ.nil (EJ.next ?_)
  refine CJ.seq ?_
  refine CJ.seq ?_
  refine CJ.region ?_
  refine OJ.pures tU_ok 1 rfl ?_
  obtain ⟨t1, ht1, H⟩ := pbind H
  refine OJ.callF rfl rfl rfl rfl rfl hb51 rfl (spec_l06Ok.c k _ Aa0_0 ca0_0 Aa0_1 ca0_1 Aa0_2 ca0_2 a0 (hS.rd' (i := 0) rfl) (hS.le' (i := 0) rfl) (hS.rd' (i := 1) rfl) (hS.le' (i := 1) rfl) (hS.rd' (i := 2) rfl) (hS.le' (i := 2) rfl) pa0 (hS.ca (i := 3) rfl) _ ht1) ?_
  rintro _ w1 ⟨rfl, hs⟩
  replace hS := hS.grow hs
  refine OJ.pures tU_ok 1 rfl ?_
  refine OJ.nil (EJ.next ?_)
  refine CJ.cond rfl (fun hb => ?_) (fun hb => ?_)
  · replace H := pif_t hb H
    refine CJ.seq ?_
    refine CJ.region ?_
    refine OJ.pures tU_ok 1 rfl ?_
    refine OJ.nil (EJ.next ?_)
    refine CJ.ret (EJ.skR (?_))
    obtain rfl := Option.some.inj H
    exact EJ.fin rfl (.tmp rfl .nil) ⟨rfl, hS.ext⟩
  · replace H := pifb_f hb H
    refine CJ.skip (EJ.next ?_)
    refine CJ.seq ?_
    refine CJ.seq ?_
    refine CJ.region ?_
    refine OJ.pures tU_ok 1 rfl ?_
    refine OJ.nil (EJ.next ?_)
    obtain ⟨j174, H, K174⟩ := pbind H
    refine CJ.cut1 (fun F w1 => (some (Sum.inr ()) : Option (Int ⊕ Unit)) = some j174 ∧ F = [] ∧ St w no w1 [] [roC G.cs Aa0_0 ca0_0 a0.Names, roC (ci .i16) Aa0_1 ca0_1 a0.Eats, roC (ci .u16) Aa0_2 ca0_2 a0.Foes, roP pa0 ([.slice Aa0_0 a0.Names.length ca0_0, .slice Aa0_1 a0.Eats.length ca0_1, .slice Aa0_2 a0.Foes.length ca0_2]), roC (ci .i64) Aa1 ca1 a1]) ?_ ?_
    · skip
      refine CJ.block ?_
      refine CJ.loop (fun k F w1 => ∃ (y2 : Int), F = [(0, .pointer (some pa0)), (1, .slice Aa1 a1.length ca1), (5, .int .i64 y2)] ∧ St w no w1 [] [roC G.cs Aa0_0 ca0_0 a0.Names, roC (ci .i16) Aa0_1 ca0_1 a0.Eats, roC (ci .u16) Aa0_2 ca0_2 a0.Foes, roP pa0 ([.slice Aa0_0 a0.Names.length ca0_0, .slice Aa0_1 a0.Eats.length ca0_1, .slice Aa0_2 a0.Foes.length ca0_2]), roC (ci .i64) Aa1 ca1 a1] ∧ spec_l06Asked.l1 a0 a1 k y2 = some j174) k (F' := [(0, .pointer (some pa0)), (1, .slice Aa1 a1.length ca1), (5, .int .i64 0)]) ⟨rfl, rfl, rfl, trivial⟩ ⟨0, rfl, hS.pick [] [0, 1, 2, 3, 4] rfl, H⟩ ?_
      rintro k F w1 ⟨y2, rfl, hS, H⟩
      cases k with
      | zero => rw [spec_l06Asked.l1] at H; cases H
      | succ k =>
        rw [spec_l06Asked.l1] at H
        refine CJ.seq ?_
        refine CJ.seq ?_
        refine CJ.region ?_
        refine OJ.pures tU_ok 4 rfl ?_
        refine OJ.nil (EJ.next ?_)
        refine CJ.cond rfl (fun hb => ?_) (fun hb => ?_)
        · replace H := pif_t (of_decide_eq_true hb) H
          refine CJ.skip (EJ.next ?_)
          refine CJ.seq ?_
          refine CJ.block ?_
          refine CJ.seq ?_
          refine CJ.draw [] [0, 1, 2, 3, 4, 5, 6, 7, 8, 9, 10, 11] mixed (by kernel_rfl) hS fun w1 hS => ?_
          refine DJ.pures tU_ok 2 rfl ?_
          obtain ⟨t3, ht3, H⟩ := pbind H
          obtain ⟨ad3, e3⟩ := (hS.rd' (i := 4) rfl).some' ht3
          refine DJ.st rfl rfl rfl rfl rfl (SR.idxS tU_ok tI_ok rfl rfl rfl rfl e3 rfl (getI_some ht3).1) ?_
          refine DJ.st rfl rfl rfl rfl rfl (SR.load rfl rfl (fun w' hx => ld1 tU_ok rfl rfl (CA.ext ((hS.rd' (i := 4) rfl).at_ e3 ht3) hx) rfl)) ?_
          refine DJ.pures tU_ok 2 rfl ?_
          refine DJ.st rfl rfl rfl rfl rfl (SR.fieldAddr tU_ok tI_ok rfl rfl rfl rfl rfl rfl) ?_
          refine DJ.st rfl rfl rfl rfl rfl (SR.load rfl rfl (fun w' hx => ld1 tU_ok rfl rfl (CA.ext (CA.sub (hS.ca (i := 3) rfl) 0) hx) rfl)) ?_
          refine DJ.pures tU_ok 2 rfl ?_
          obtain ⟨t4, ht4, H⟩ := pbind H
          refine DJ.callF rfl rfl rfl rfl rfl rfl rfl hb87 rfl (spec_l00In.c _ t3 0 (IntKind.i64.wrap ((a0.Names.length : Int) - 1)) _ ht4) (by rintro v w' ⟨rfl, hs⟩; exact hs) ?_
          rintro _ w1 ⟨rfl, hs⟩
          replace hS := hS.grow hs
          refine DJ.pures tU_ok 1 rfl ?_
          refine DJ.nil (EJ.next ?_)
          refine CJ.cond rfl (fun hb => ?_) (fun hb => ?_)
          · replace H := pif_t hb H
            refine CJ.seq ?_
            refine CJ.region ?_
            refine OJ.pures tU_ok 1 rfl ?_
            refine OJ.nil (EJ.next ?_)
            refine CJ.ret (EJ.bkR (EJ.skR (EJ.skR (EJ.bkR (EJ.skR (EJ.skR (?_)))))))
            first | (obtain rfl := Option.some.inj H; have H := K174) | (obtain ⟨q174, H2, e174⟩ := pbind H; obtain rfl := Option.some.inj e174; obtain rfl := Option.some.inj K174; have H := H2)
            obtain rfl := Option.some.inj H
            exact EJ.fin rfl (.tmp rfl .nil) ⟨rfl, hS.ext⟩
          · replace H := pifb_f hb H
            refine CJ.skip (EJ.blk (EJ.next ?_))
            refine CJ.region ?_
            refine OJ.pures tU_ok 3 rfl ?_
            refine OJ.nil ?_
            exact EJ.round k (F' := [(0, .pointer (some pa0)), (1, .slice Aa1 a1.length ca1), (5, .int .i64 (IntKind.i64.wrap (y2 + 1)))]) ⟨rfl, rfl, rfl, trivial⟩ (Nat.lt_succ_self _) ⟨(IntKind.i64.wrap (y2 + 1)), rfl, hS.pick [] [0, 1, 2, 3, 4] rfl, H⟩
        · replace H := pif_f (of_decide_eq_false hb) H
          refine CJ.exit (EJ.skE (EJ.skE (EJ.hit (?_))))
          exact EJ.meet (F' := []) trivial ⟨H, rfl, hS.pick [] [0, 1, 2, 3, 4] rfl⟩
    · rintro F w1 ⟨he, rfl, hS⟩
      obtain rfl := Option.some.inj he
      have H := K174
      refine EJ.next ?_
      refine CJ.seq ?_
      refine CJ.region ?_
      refine OJ.pures tU_ok 1 rfl ?_
      refine OJ.nil (EJ.next ?_)
      refine CJ.ret (?_)
      obtain rfl := Option.some.inj H
      exact EJ.fin rfl (.tmp rfl .nil) ⟨rfl, hS.ext⟩

def slices_IndexFunc_int64_int64.l1 (a0 : List Int) (a1 : Int → Option Bool) : Nat → Int → Option (Int ⊕ Unit)
  | 0, _ => none
  | k + 1, y1 => if y1 < (a0.length : Int) then ((getI a0 y1).bind fun t2 => (a1 t2).bind fun t3 => if t3 = true then (some (Sum.inl y1)) else (slices_IndexFunc_int64_int64.l1 a0 a1 k (IntKind.i64.wrap (y1 + 1)))) else (some (Sum.inr ()))
def slices_IndexFunc_int64_int64.f (k : Nat) (a0 : List Int) (a1 : Int → Option Bool) : Option Int := (slices_IndexFunc_int64_int64.l1 a0 a1 k 0).bind fun s175 => match s175 with | .inl r => some r | .inr _ => some (-1)
theorem slices_IndexFunc_int64_int64.c (k : Nat) (w : World) (Aa0 : Option Addr) (ca0 : Nat) (a0 : List Int) (hr0 : Rd (ci .i64) w Aa0 a0) (hc0 : a0.length ≤ ca0) (na1 : Nat) (fsa1 capa1 : Array Value) (hb1 : hasBody Tryd.prog na1) (a1 : Int → Option Bool) (hf1 : ∀ (z0 : Int) (r : Bool), a1 z0 = some r → ∀ w', Chg no w w' → CV Tryd.prog na1 (fsa1 ++ [.int .i64 z0].toArray ++ capa1) w' fun v w'' => v = .bool r ∧ Ext w' w'') (r : Int) (H : slices_IndexFunc_int64_int64.f k a0 a1 = some r) :
    CV Tryd.prog 118 [.slice Aa0 a0.length ca0, .func (.func na1) fsa1 capa1].toArray w fun v w' => v = .int .i64 r ∧ Ext w w' := by
  have hS := ((St.init w no).param (ci .i64) Aa0 ca0 a0 hr0 hc0)
  unfold slices_IndexFunc_int64_int64.f at H
  refine CV.body Tryd.func118 rfl Tryd.ntmps118 rfl ?_
  refine CJ.seq ?_
  refine CJ.region ?_
  refine OJ.pures tU_ok 1 rfl ?_
  refine OJ.nil (EJ.next ?_)
  refine CJ.seq ?_
  refine CJ.seq ?_
  refine CJ.region ?_
  refine OJ.pures tU_ok 3 rfl ?_
  refine OJ.nil (EJ.next ?_)
  obtain ⟨j175, H, K175⟩ := pbind H
  refine CJ.cut1 (fun F w1 => (some (Sum.inr ()) : Option (Int ⊕ Unit)) = some j175 ∧ F = [] ∧ St w no w1 [] [roC (ci .i64) Aa0 ca0 a0]) ?_ ?_
  · skip
    refine CJ.block ?_
    refine CJ.loop (fun k F w1 => ∃ (y1 : Int), F = [(0, .slice Aa0 a0.length ca0), (1, .func (.func na1) fsa1 capa1), (7, .int .i64 (a0.length : Int)), (8, .int .i64 y1)] ∧ St w no w1 [] [roC (ci .i64) Aa0 ca0 a0] ∧ slices_IndexFunc_int64_int64.l1 a0 a1 k y1 = some j175) k (F' := [(0, .slice Aa0 a0.length ca0), (1, .func (.func na1) fsa1 capa1), (7, .int .i64 (a0.length : Int)), (8, .int .i64 0)]) ⟨rfl, rfl, rfl, rfl, trivial⟩ ⟨0, rfl, hS.pick [] [0] rfl, H⟩ ?_
    rintro k F w1 ⟨y1, rfl, hS, H⟩
    cases k with
    | zero => rw [slices_IndexFunc_int64_int64.l1] at H; cases H
    | succ k =>
      rw [slices_IndexFunc_int64_int64.l1] at H
      refine CJ.seq ?_
      refine CJ.region ?_
      refine OJ.pures tU_ok 1 rfl ?_
      refine OJ.nil (EJ.next ?_)
      refine CJ.seq ?_
      refine CJ.cond rfl (fun hb => ?_) (fun hb => ?_)
      · replace H := pif_t (of_decide_eq_true hb) H
        refine CJ.skip (EJ.next ?_)
        refine CJ.seq ?_
        refine CJ.block ?_
        refine CJ.seq ?_
        refine CJ.region ?_
        refine OJ.pures tU_ok 2 rfl ?_
        refine OJ.nil (EJ.next ?_)
        refine CJ.seq ?_
        refine CJ.region ?_
        refine OJ.pures tU_ok 3 rfl ?_
        obtain ⟨t2, ht2, H⟩ := pbind H
        obtain ⟨ad2, e2⟩ := (hS.rd' (i := 0) rfl).some' ht2
        refine OJ.st rfl rfl rfl (SR.idxS tU_ok tI_ok rfl rfl rfl rfl e2 rfl (getI_some ht2).1) ?_
        refine OJ.st rfl rfl rfl (SR.load rfl rfl (fun w' hx => ld1 tU_ok rfl rfl (CA.ext ((hS.rd' (i := 0) rfl).at_ e2 ht2) hx) rfl)) ?_
        obtain ⟨t3, ht3, H⟩ := pbind H
        refine OJ.call rfl rfl (Nat.le_of_ble_eq_true rfl) rfl rfl rfl hb1 rfl (hf1 t2 _ ht3 _ hS.chg) ?_
        rintro _ w1 ⟨rfl, hs⟩
        replace hS := hS.grow hs
        refine OJ.nil (EJ.next ?_)
        refine CJ.cond rfl (fun hb => ?_) (fun hb => ?_)
        · replace H := pif_t hb H
          refine CJ.seq ?_
          refine CJ.region ?_
          refine OJ.pures tU_ok 2 rfl ?_
          refine OJ.nil (EJ.next ?_)
          refine CJ.ret (EJ.bkR (EJ.skR (EJ.skR (EJ.bkR (EJ.skR (EJ.skR (?_)))))))
          first | (obtain rfl := Option.some.inj H; have H := K175) | (obtain ⟨q175, H2, e175⟩ := pbind H; obtain rfl := Option.some.inj e175; obtain rfl := Option.some.inj K175; have H := H2)
          obtain rfl := Option.some.inj H
          exact EJ.fin rfl (.tmp rfl .nil) ⟨rfl, hS.ext⟩
        · replace H := pifb_f hb H
          refine CJ.skip (EJ.blk (EJ.next ?_))
          refine CJ.region ?_
          refine OJ.pures tU_ok 2 rfl ?_
          refine OJ.nil ?_
          exact EJ.round k (F' := [(0, .slice Aa0 a0.length ca0), (1, .func (.func na1) fsa1 capa1), (7, .int .i64 (a0.length : Int)), (8, .int .i64 (IntKind.i64.wrap (y1 + 1)))]) ⟨rfl, rfl, rfl, rfl, trivial⟩ (Nat.lt_succ_self _) ⟨(IntKind.i64.wrap (y1 + 1)), rfl, hS.pick [] [0] rfl, H⟩
      · replace H := pif_f (of_decide_eq_false hb) H
        refine CJ.exit (EJ.skE (EJ.skE (EJ.hit (?_))))
        exact EJ.meet (F' := []) trivial ⟨H, rfl, hS.pick [] [0] rfl⟩
  · rintro F w1 ⟨he, rfl, hS⟩
    obtain rfl := Option.some.inj he
    have H := K175
    refine EJ.next ?_
    refine CJ.seq ?_
    refine CJ.region ?_
    refine OJ.pures tU_ok 1 rfl ?_
    refine OJ.nil (EJ.next ?_)
    refine CJ.ret (?_)
    obtain rfl := Option.some.inj H
    exact EJ.fin rfl (.tmp rfl .nil) ⟨rfl, hS.ext⟩

def slices_ContainsFunc_int64_int64.f (k : Nat) (a0 : List Int) (a1 : Int → Option Bool) : Option Bool := (slices_IndexFunc_int64_int64.f k a0 a1).bind fun t1 => some (decide (0 ≤ t1))
theorem slices_ContainsFunc_int64_int64.c (k : Nat) (w : World) (Aa0 : Option Addr) (ca0 : Nat) (a0 : List Int) (hr0 : Rd (ci .i64) w Aa0 a0) (hc0 : a0.length ≤ ca0) (na1 : Nat) (fsa1 capa1 : Array Value) (hb1 : hasBody Tryd.prog na1) (a1 : Int → Option Bool) (hf1 : ∀ (z0 : Int) (r : Bool), a1 z0 = some r → ∀ w', Chg no w w' → CV Tryd.prog na1 (fsa1 ++ [.int .i64 z0].toArray ++ capa1) w' fun v w'' => v = .bool r ∧ Ext w' w'') (r : Bool) (H : slices_ContainsFunc_int64_int64.f k a0 a1 = some r) :
    CV Tryd.prog 95 [.slice Aa0 a0.length ca0, .func (.func na1) fsa1 capa1].toArray w fun v w' => v = .bool r ∧ Ext w w' := by
  have hS := ((St.init w no).param (ci .i64) Aa0 ca0 a0 hr0 hc0)
  unfold slices_ContainsFunc_int64_int64.f at H
  refine CV.body Tryd.func95 rfl Tryd.ntmps95 rfl ?_
  refine CJ.seq ?_
  refine CJ.region ?_
  refine OJ.pures tU_ok 1 rfl ?_
  refine OJ.nil (EJ.next ?_)
  refine CJ.seq ?_
  refine CJ.region ?_
  refine OJ.pures tU_ok 2 rfl ?_
  obtain ⟨t1, ht1, H⟩ := pbind H
  refine OJ.callF rfl rfl rfl rfl rfl hb118 rfl (slices_IndexFunc_int64_int64.c k _ Aa0 ca0 a0 (hS.rd' (i := 0) rfl) (hS.le' (i := 0) rfl) na1 fsa1 capa1 hb1 a1 (fun z0 r h w' hx => hf1 z0 r h w' (hS.chg.then hx (fun _ _ e => e.elim))) _ ht1) ?_
  rintro _ w1 ⟨rfl, hs⟩
  replace hS := hS.grow hs
  refine OJ.pures tU_ok 2 rfl ?_
  refine OJ.nil (EJ.next ?_)
  refine CJ.ret (?_)
  obtain rfl := Option.some.inj H
  exact EJ.fin rfl (.tmp rfl .nil) ⟨rfl, hS.ext⟩

def impl_size_string.f (a0 : List ByteArray) : Option Int := some (a0.length : Int)
theorem impl_size_string.c (w : World) (Aa0 : Option Addr) (ca0 : Nat) (a0 : List ByteArray) (hr0 : Rd G.cs w Aa0 a0) (hc0 : a0.length ≤ ca0) (r : Int) (H : impl_size_string.f a0 = some r) :
    CV Tryd.prog 101 [.slice Aa0 a0.length ca0].toArray w fun v w' => v = .int .i64 r ∧ Ext w w' := by
  have hS := ((St.init w no).param G.cs Aa0 ca0 a0 hr0 hc0)
  unfold impl_size_string.f at H
  refine CV.body Tryd.func101 rfl Tryd.ntmps101 rfl ?_
  refine CJ.seq ?_
  refine CJ.region ?_
  refine OJ.pures tU_ok 1 rfl ?_
  refine OJ.nil (EJ.next ?_)
  refine CJ.seq ?_
  refine CJ.region ?_
  refine OJ.pures tU_ok 3 rfl ?_
  refine OJ.nil (EJ.next ?_)
  refine CJ.ret (?_)
  obtain rfl := Option.some.inj H
  exact EJ.fin rfl (.tmp rfl .nil) ⟨rfl, hS.ext⟩

def impl_Herd_many.f (a0 : Herd) : Option Int := (impl_size_string.f a0.Names).bind fun t2 => some t2
theorem impl_Herd_many.c (w : World) (Aa0_0 : Option Addr) (ca0_0 : Nat) (Aa0_1 : Option Addr) (ca0_1 : Nat) (Aa0_2 : Option Addr) (ca0_2 : Nat) (a0 : Herd) (hr0_0 : Rd G.cs w Aa0_0 a0.Names) (hc0_0 : a0.Names.length ≤ ca0_0) (hr0_1 : Rd (ci .i16) w Aa0_1 a0.Eats) (hc0_1 : a0.Eats.length ≤ ca0_1) (hr0_2 : Rd (ci .u16) w Aa0_2 a0.Foes) (hc0_2 : a0.Foes.length ≤ ca0_2) (r : Int) (H : impl_Herd_many.f a0 = some r) :
    CV Tryd.prog 78 [.agg [.slice Aa0_0 a0.Names.length ca0_0, .slice Aa0_1 a0.Eats.length ca0_1, .slice Aa0_2 a0.Foes.length ca0_2].toArray].toArray w fun v w' => v = .int .i64 r ∧ Ext w w' := by
  have hS := ((((St.init w no).param G.cs Aa0_0 ca0_0 a0.Names hr0_0 hc0_0).param (ci .i16) Aa0_1 ca0_1 a0.Eats hr0_1 hc0_1).param (ci .u16) Aa0_2 ca0_2 a0.Foes hr0_2 hc0_2)
  unfold impl_Herd_many.f at H
  refine CV.body Tryd.func78 rfl Tryd.ntmps78 rfl ?_
  refine CJ.seq ?_
  refine CJ.region ?_
  refine OJ.ef rfl rfl rfl (Ef.box hS rfl rfl ([.slice Aa0_0 a0.Names.length ca0_0, .slice Aa0_1 a0.Eats.length ca0_1, .slice Aa0_2 a0.Foes.length ca0_2]) rfl) ?_
  rintro _ w1 ⟨b1, rfl, hS⟩
  refine OJ.pures tU_ok 1 rfl ?_
  refine OJ.nil (EJ.next ?_)
  refine CJ.seq ?_
  refine CJ.region ?_
  refine OJ.st rfl rfl rfl (SR.fieldAddr tU_ok tI_ok rfl rfl rfl rfl rfl rfl) ?_
  refine OJ.st rfl rfl rfl (SR.load rfl rfl (fun w' hx => ld1 tU_ok rfl rfl (CA.ext (CA.sub (hS.cells (i := 0) rfl) 0) hx) rfl)) ?_
  obtain ⟨t2, ht2, H⟩ := pbind H
  refine OJ.callF rfl rfl rfl rfl rfl hb101 rfl (impl_size_string.c _ Aa0_0 ca0_0 a0.Names (hS.rd' (i := 0) rfl) (hS.le' (i := 0) rfl) _ ht2) ?_
  rintro _ w1 ⟨rfl, hs⟩
  replace hS := hS.grow hs
  refine OJ.pures tU_ok 1 rfl ?_
  refine OJ.nil (EJ.next ?_)
  refine CJ.ret (?_)
  obtain rfl := Option.some.inj H
  exact EJ.fin rfl (.tmp rfl .nil) ⟨rfl, hS.ext⟩

def impl_herdCode_1.f (a1 : Herd) (a0 : Int) : Option Bool := (impl_Herd_many.f a1).bind fun t1 => (impl_within.f a0 0 (IntKind.i64.wrap (t1 - 1))).bind fun t2 => some (!t2)
theorem impl_herdCode_1.c (w : World) (Aa1_0 : Option Addr) (ca1_0 : Nat) (Aa1_1 : Option Addr) (ca1_1 : Nat) (Aa1_2 : Option Addr) (ca1_2 : Nat) (a1 : Herd) (hr1_0 : Rd G.cs w Aa1_0 a1.Names) (hc1_0 : a1.Names.length ≤ ca1_0) (hr1_1 : Rd (ci .i16) w Aa1_1 a1.Eats) (hc1_1 : a1.Eats.length ≤ ca1_1) (hr1_2 : Rd (ci .u16) w Aa1_2 a1.Foes) (hc1_2 : a1.Foes.length ≤ ca1_2) (pa1 : Addr) (hp1 : CA w pa1 ([.slice Aa1_0 a1.Names.length ca1_0, .slice Aa1_1 a1.Eats.length ca1_1, .slice Aa1_2 a1.Foes.length ca1_2])) (a0 : Int) (r : Bool) (H : impl_herdCode_1.f a1 a0 = some r) :
    CV Tryd.prog 96 [.int .i64 a0, .pointer (some pa1)].toArray w fun v w' => v = .bool r ∧ Ext w w' := by
  have hS := (((((St.init w no).param G.cs Aa1_0 ca1_0 a1.Names hr1_0 hc1_0).param (ci .i16) Aa1_1 ca1_1 a1.Eats hr1_1 hc1_1).param (ci .u16) Aa1_2 ca1_2 a1.Foes hr1_2 hc1_2).paramP pa1 ([.slice Aa1_0 a1.Names.length ca1_0, .slice Aa1_1 a1.Eats.length ca1_1, .slice Aa1_2 a1.Foes.length ca1_2]) hp1)
  unfold impl_herdCode_1.f at H
  refine CV.body Tryd.func96 rfl Tryd.ntmps96 rfl ?_
  refine CJ.seq ?_
  refine CJ.region ?_
  refine OJ.pures tU_ok 1 rfl ?_
  refine OJ.nil (EJ.next ?_)
  refine CJ.seq ?_
  refine CJ.region ?_
  refine OJ.pures tU_ok 1 rfl ?_
  refine OJ.st rfl rfl rfl (SR.load rfl rfl (fun w' hx => ldN tU_ok tI_ok rfl rfl rfl (CA.ext (hS.ca (i := 3) rfl) hx) (ds := [.slice Aa1_0 a1.Names.length ca1_0, .slice Aa1_1 a1.Eats.length ca1_1, .slice Aa1_2 a1.Foes.length ca1_2]) rfl rfl)) ?_
  obtain ⟨t1, ht1, H⟩ := pbind H
  refine OJ.callF rfl rfl rfl rfl rfl hb78 rfl (impl_Herd_many.c _ Aa1_0 ca1_0 Aa1_1 ca1_1 Aa1_2 ca1_2 a1 (hS.rd' (i := 0) rfl) (hS.le' (i := 0) rfl) (hS.rd' (i := 1) rfl) (hS.le' (i := 1) rfl) (hS.rd' (i := 2) rfl) (hS.le' (i := 2) rfl) _ ht1) ?_
  rintro _ w1 ⟨rfl, hs⟩
  replace hS := hS.grow hs
  refine OJ.pures tU_ok 1 rfl ?_
  obtain ⟨t2, ht2, H⟩ := pbind H
  refine OJ.callF rfl rfl rfl rfl rfl hb57 rfl (impl_within.c _ a0 0 (IntKind.i64.wrap (t1 - 1)) _ ht2) ?_
  rintro _ w1 ⟨rfl, hs⟩
  replace hS := hS.grow hs
  refine OJ.pures tU_ok 2 rfl ?_
  refine OJ.nil (EJ.next ?_)
  refine CJ.ret (?_)
  obtain rfl := Option.some.inj H
  exact EJ.fin rfl (.tmp rfl .nil) ⟨rfl, hS.ext⟩

def impl_unless.f (a0 : Bool) (a1 : Int) : Option Int := if a0 = true then (some 0) else (some a1)
theorem impl_unless.c (w : World) (a0 : Bool) (a1 : Int) (r : Int) (H : impl_unless.f a0 a1 = some r) :
    CV Tryd.prog 90 [.bool a0, .int .i64 a1].toArray w fun v w' => v = .int .i64 r ∧ Ext w w' := by
  have hS := (St.init w no)
  unfold impl_unless.f at H
  refine CV.body Tryd.func90 rfl Tryd.ntmps90 rfl ?_
  refine CJ.seq ?_
  refine CJ.region ?_
  refine OJ.pures tU_ok 1 rfl ?_
  refine OJ.nil (EJ.next ?_)
  refine CJ.seq ?_
  refine CJ.seq ?_
  refine CJ.region ?_
  refine OJ.pures tU_ok 1 rfl ?_
  refine OJ.nil (EJ.next ?_)
  refine CJ.cond rfl (fun hb => ?_) (fun hb => ?_)
  · replace H := pif_t hb H
    refine CJ.seq ?_
    refine CJ.region ?_
    refine OJ.pures tU_ok 1 rfl ?_
    refine OJ.nil (EJ.next ?_)
    refine CJ.ret (EJ.skR (?_))
    obtain rfl := Option.some.inj H
    exact EJ.fin rfl (.tmp rfl .nil) ⟨rfl, hS.ext⟩
  · replace H := pifb_f hb H
    refine CJ.skip (EJ.next ?_)
    refine CJ.seq ?_
    refine CJ.region ?_
    refine OJ.pures tU_ok 2 rfl ?_
    refine OJ.nil (EJ.next ?_)
    refine CJ.ret (?_)
    obtain rfl := Option.some.inj H
    exact EJ.fin rfl (.tmp rfl .nil) ⟨rfl, hS.ext⟩

def impl_herdCode.f (k : Nat) (a0 : Herd) (a1 : List Int) : Option Int := (impl_ValidHerd.f k a0).bind fun t2 => if (!t2) = true then (some 1) else ((slices_ContainsFunc_int64_int64.f k a1 (impl_herdCode_1.f a0)).bind fun t3 => (impl_unless.f (!t3) 2).bind fun t4 => some t4)
theorem impl_herdCode.c (k : Nat) (w : World) (Aa0_0 : Option Addr) (ca0_0 : Nat) (Aa0_1 : Option Addr) (ca0_1 : Nat) (Aa0_2 : Option Addr) (ca0_2 : Nat) (a0 : Herd) (hr0_0 : Rd G.cs w Aa0_0 a0.Names) (hc0_0 : a0.Names.length ≤ ca0_0) (hr0_1 : Rd (ci .i16) w Aa0_1 a0.Eats) (hc0_1 : a0.Eats.length ≤ ca0_1) (hr0_2 : Rd (ci .u16) w Aa0_2 a0.Foes) (hc0_2 : a0.Foes.length ≤ ca0_2) (Aa1 : Option Addr) (ca1 : Nat) (a1 : List Int) (hr1 : Rd (ci .i64) w Aa1 a1) (hc1 : a1.length ≤ ca1) (r : Int) (H : impl_herdCode.f k a0 a1 = some r) :
    CV Tryd.prog 64 [.agg [.slice Aa0_0 a0.Names.length ca0_0, .slice Aa0_1 a0.Eats.length ca0_1, .slice Aa0_2 a0.Foes.length ca0_2].toArray, .slice Aa1 a1.length ca1].toArray w fun v w' => v = .int .i64 r ∧ Ext w w' := by
  have hS := (((((St.init w no).param G.cs Aa0_0 ca0_0 a0.Names hr0_0 hc0_0).param (ci .i16) Aa0_1 ca0_1 a0.Eats hr0_1 hc0_1).param (ci .u16) Aa0_2 ca0_2 a0.Foes hr0_2 hc0_2).param (ci .i64) Aa1 ca1 a1 hr1 hc1)
  unfold impl_herdCode.f at H
  refine CV.body Tryd.func64 rfl Tryd.ntmps64 rfl ?_
  refine CJ.seq ?_
  refine CJ.region ?_
  refine OJ.ef rfl rfl rfl (Ef.box hS rfl rfl ([.slice Aa0_0 a0.Names.length ca0_0, .slice Aa0_1 a0.Eats.length ca0_1, .slice Aa0_2 a0.Foes.length ca0_2]) rfl) ?_
  rintro _ w1 ⟨b1, rfl, hS⟩
  refine OJ.pures tU_ok 1 rfl ?_
  refine OJ.nil (EJ.next ?_)
  refine CJ.seq ?_
  refine CJ.seq ?_
  refine CJ.region ?_
  refine OJ.st rfl rfl rfl (SR.load rfl rfl (fun w' hx => ldN tU_ok tI_ok rfl rfl rfl (CA.ext (hS.cells (i := 0) rfl) hx) (ds := [.slice Aa0_0 a0.Names.length ca0_0, .slice Aa0_1 a0.Eats.length ca0_1, .slice Aa0_2 a0.Foes.length ca0_2]) rfl rfl)) ?_
  obtain ⟨t2, ht2, H⟩ := pbind H
  refine OJ.callF rfl rfl rfl rfl rfl hb17 rfl (impl_ValidHerd.c k _ Aa0_0 ca0_0 Aa0_1 ca0_1 Aa0_2 ca0_2 a0 (hS.rd' (i := 0) rfl) (hS.le' (i := 0) rfl) (hS.rd' (i := 1) rfl) (hS.le' (i := 1) rfl) (hS.rd' (i := 2) rfl) (hS.le' (i := 2) rfl) _ ht2) ?_
  rintro _ w1 ⟨rfl, hs⟩
  replace hS := hS.grow hs
  refine OJ.pures tU_ok 1 rfl ?_
  refine OJ.nil (EJ.next ?_)
  refine CJ.cond rfl (fun hb => ?_) (fun hb => ?_)
  · replace H := pif_t hb H
    refine CJ.seq ?_
    refine CJ.region ?_
    refine OJ.pures tU_ok 1 rfl ?_
    refine OJ.nil (EJ.next ?_)
    refine CJ.ret (EJ.skR (?_))
    obtain rfl := Option.some.inj H
    exact EJ.fin rfl (.tmp rfl .nil) ⟨rfl, hS.ext⟩
  · replace H := pifb_f hb H
    refine CJ.skip (EJ.next ?_)
    refine CJ.seq ?_
    refine CJ.region ?_
    refine OJ.pures tU_ok 2 rfl ?_
    obtain ⟨t3, ht3, H⟩ := pbind H
    refine OJ.callF rfl rfl rfl rfl rfl hb95 rfl (slices_ContainsFunc_int64_int64.c k _ Aa1 ca1 a1 (hS.rd' (i := 3) rfl) (hS.le' (i := 3) rfl) 96 #[] #[.pointer (some ⟨b1, 0, none⟩)] hb96 (impl_herdCode_1.f a0) (fun z0 r h w' hx => CV.cast (impl_herdCode_1.c w' Aa0_0 ca0_0 Aa0_1 ca0_1 Aa0_2 ca0_2 a0 ((hS.rd' (i := 0) rfl).ext hx) (hS.le' (i := 0) rfl) ((hS.rd' (i := 1) rfl).ext hx) (hS.le' (i := 1) rfl) ((hS.rd' (i := 2) rfl).ext hx) (hS.le' (i := 2) rfl) ⟨b1, 0, none⟩ (CA.ext (hS.cells (i := 0) rfl) hx)  z0 r h) (by simp)) _ ht3) ?_
    rintro _ w1 ⟨rfl, hs⟩
    replace hS := hS.grow hs
    refine OJ.pures tU_ok 1 rfl ?_
    obtain ⟨t4, ht4, H⟩ := pbind H
    refine OJ.callF rfl rfl rfl rfl rfl hb90 rfl (impl_unless.c _ (!t3) 2 _ ht4) ?_
    rintro _ w1 ⟨rfl, hs⟩
    replace hS := hS.grow hs
    refine OJ.pures tU_ok 1 rfl ?_
    refine OJ.nil (EJ.next ?_)
    refine CJ.ret (?_)
    obtain rfl := Option.some.inj H
    exact EJ.fin rfl (.tmp rfl .nil) ⟨rfl, hS.ext⟩
end Go.Proofs.YtimpcenflahchaaDoor
