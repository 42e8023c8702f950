/-
  What the functions come to.
-/
import Derived.Test.YtimpcenflahchaaDoorGP1
namespace Go.Proofs.YtimpcenflahchaaDoor
open G
set_option linter.unusedVariables false
set_option linter.unusedSimpArgs false
set_option maxRecDepth 100000
set_option maxHeartbeats 1000000
def laws_markInt16S.l1 (a0 : List Int) : Nat → (List Int) → Int → Int → Option ((List Int) × Int)
  | 0, _, _, _ => none
  | k + 1, y3, y4, y5 => if y5 < (a0.length : Int) then ((getI y3 y5).bind fun t6 => laws_markInt16S.l1 a0 k (y3.set y5.toNat (IntKind.i16.wrap y4)) (IntKind.i64.wrap (y4 + 1)) (IntKind.i64.wrap (y5 + 1))) else (some (y3, y4))
def laws_markInt16S.f (k : Nat) (a0 : List Int) (a1 : Int) : Option (Int × List Int) := (laws_markInt16S.l1 a0 k a0 a1 0).bind fun (y1, y2) => some (y2, y1)
theorem laws_markInt16S.c (k : Nat) (w : World) (Aa0 : Option Addr) (ca0 : Nat) (a0 : List Int) (a1 : Int) (hin : St w (fpU [rowC (ci .i16) Aa0 ca0 73 a0]) w [rowC (ci .i16) Aa0 ca0 73 a0] []) (r : Int × List Int) (H : laws_markInt16S.f k a0 a1 = some r) :
    CV Tryd.prog 72 [.slice Aa0 a0.length ca0, .int .i64 a1].toArray w fun v w' => v = .int .i64 r.1 ∧ St w (fpU [rowC (ci .i16) Aa0 ca0 73 a0]) w' [rowC (ci .i16) Aa0 ca0 73 r.2] [] ∧ r.2.length = a0.length := by
  have hS := hin
  unfold laws_markInt16S.f at H
  refine CV.body Tryd.func72 rfl Tryd.ntmps72 rfl ?_
  have hl0 : a0.length = a0.length := rfl
  refine CJ.seq ?_
  refine CJ.region ?_
  refine OJ.pures tU_ok 1 rfl ?_
  refine OJ.nil (EJ.next ?_)
  refine CJ.seq ?_
  refine CJ.seq ?_
  refine CJ.region ?_
  refine OJ.pures tU_ok 1 rfl ?_
  refine OJ.nil (EJ.next ?_)
  obtain ⟨j244, H, K244⟩ := pbind H
  refine CJ.cut1 (fun F w1 => ∃ (y1 : List Int) (y2 : Int) , (some (y1, y2) : Option ((List Int) × Int)) = some j244 ∧ F = [(1, .int .i64 y2)] ∧ St w (fpU [rowC (ci .i16) Aa0 ca0 73 a0]) w1 [rowC (ci .i16) Aa0 ca0 73 y1] [] ∧ y1.length = a0.length) ?_ ?_
  · skip
    refine CJ.block ?_
    refine CJ.loop (fun k F w1 => ∃ (y3 : List Int) (y4 : Int) (y5 : Int), F = [(0, .slice Aa0 a0.length ca0), (1, .int .i64 y4), (5, .int .i64 y5)] ∧ St w (fpU [rowC (ci .i16) Aa0 ca0 73 a0]) w1 [rowC (ci .i16) Aa0 ca0 73 y3] [] ∧ y3.length = a0.length ∧ laws_markInt16S.l1 a0 k y3 y4 y5 = some j244) k (F' := [(0, .slice Aa0 a0.length ca0), (1, .int .i64 a1), (5, .int .i64 0)]) ⟨rfl, rfl, rfl, trivial⟩ ⟨a0, a1, 0, rfl, hS.pick [0] [] rfl, (by first | exact hl0 | (simp only [List.length_set]; exact hl0)), H⟩ ?_
    rintro k F w1 ⟨y3, y4, y5, rfl, hS, hl0, H⟩
    cases k with
    | zero => rw [laws_markInt16S.l1] at H; cases H
    | succ k =>
      rw [laws_markInt16S.l1] at H
      refine CJ.seq ?_
      refine CJ.seq ?_
      refine CJ.region ?_
      refine OJ.pures tU_ok 4 rfl ?_
      refine OJ.nil (EJ.next ?_)
      refine CJ.cond rfl (fun hb => ?_) (fun hb => ?_)
      · replace H := pif_t (of_decide_eq_true hb) H
        refine CJ.skip (EJ.next ?_)
        refine CJ.seq ?_
        refine CJ.block ?_
        refine CJ.seq ?_
        refine CJ.region ?_
        refine OJ.pures tU_ok 4 rfl ?_
        obtain ⟨t6, ht6, H⟩ := pbind H
        obtain ⟨ad6, e6⟩ := (hS.rd (i := 0) rfl).some' ht6
        refine OJ.st rfl rfl rfl (SR.idxS tU_ok tI_ok rfl rfl rfl rfl e6 rfl (by have hg := (getI_some ht6).1; (first | rw [hl0] at hg | (simp only [List.length_set] at hg; rw [hl0] at hg)); exact hg)) ?_
        refine OJ.es rfl rfl (Es.storeR tI_ok hS (i := 0) (off := 0) rfl rfl ht6 e6 rfl rfl rfl rfl (vs := (ci .i16).enc (IntKind.i16.wrap y4)) rfl rfl (one1 rfl) (Nat.le_of_ble_eq_true rfl) (IntKind.i16.wrap y4) rfl) ?_
        intro w1 hS
        refine OJ.nil (EJ.next ?_)
        refine CJ.region ?_
        refine OJ.pures tU_ok 3 rfl ?_
        refine OJ.nil (EJ.blk (EJ.next ?_))
        refine CJ.region ?_
        refine OJ.pures tU_ok 3 rfl ?_
        refine OJ.nil ?_
        exact EJ.round k (F' := [(0, .slice Aa0 a0.length ca0), (1, .int .i64 (IntKind.i64.wrap (y4 + 1))), (5, .int .i64 (IntKind.i64.wrap (y5 + 1)))]) ⟨rfl, rfl, rfl, trivial⟩ (Nat.lt_succ_self _) ⟨(y3.set y5.toNat (IntKind.i16.wrap y4)), (IntKind.i64.wrap (y4 + 1)), (IntKind.i64.wrap (y5 + 1)), rfl, hS.pick [0] [] rfl, (by first | exact hl0 | (simp only [List.length_set]; exact hl0)), H⟩
      · replace H := pif_f (of_decide_eq_false hb) H
        refine CJ.exit (EJ.skE (EJ.skE (EJ.hit (?_))))
        exact EJ.meet (F' := [(1, .int .i64 y4)]) ⟨rfl, trivial⟩ ⟨y3, y4, H, rfl, hS.pick [0] [] rfl, (by first | exact hl0 | (simp only [List.length_set]; exact hl0))⟩
  · rintro F w1 ⟨y1, y2, he, rfl, hS, hl0⟩
    obtain rfl := Option.some.inj he
    have H := K244
    refine EJ.next ?_
    refine CJ.seq ?_
    refine CJ.region ?_
    refine OJ.pures tU_ok 2 rfl ?_
    refine OJ.nil (EJ.next ?_)
    refine CJ.ret (?_)
    obtain rfl := Option.some.inj H
    exact EJ.fin rfl (.tmp rfl .nil) ⟨rfl, hS.pick [0] [] rfl, (by first | exact hl0 | (simp only [List.length_set]; exact hl0))⟩

def laws_markUint16S.l1 (a0 : List Int) : Nat → (List Int) → Int → Int → Option ((List Int) × Int)
  | 0, _, _, _ => none
  | k + 1, y3, y4, y5 => if y5 < (a0.length : Int) then ((getI y3 y5).bind fun t6 => laws_markUint16S.l1 a0 k (y3.set y5.toNat (IntKind.u16.wrap y4)) (IntKind.i64.wrap (y4 + 1)) (IntKind.i64.wrap (y5 + 1))) else (some (y3, y4))
def laws_markUint16S.f (k : Nat) (a0 : List Int) (a1 : Int) : Option (Int × List Int) := (laws_markUint16S.l1 a0 k a0 a1 0).bind fun (y1, y2) => some (y2, y1)
theorem laws_markUint16S.c (k : Nat) (w : World) (Aa0 : Option Addr) (ca0 : Nat) (a0 : List Int) (a1 : Int) (hin : St w (fpU [rowC (ci .u16) Aa0 ca0 74 a0]) w [rowC (ci .u16) Aa0 ca0 74 a0] []) (r : Int × List Int) (H : laws_markUint16S.f k a0 a1 = some r) :
    CV Tryd.prog 73 [.slice Aa0 a0.length ca0, .int .i64 a1].toArray w fun v w' => v = .int .i64 r.1 ∧ St w (fpU [rowC (ci .u16) Aa0 ca0 74 a0]) w' [rowC (ci .u16) Aa0 ca0 74 r.2] [] ∧ r.2.length = a0.length := by
  have hS := hin
  unfold laws_markUint16S.f at H
  refine CV.body Tryd.func73 rfl Tryd.ntmps73 rfl ?_
  have hl0 : a0.length = a0.length := rfl
  refine CJ.seq ?_
  refine CJ.region ?_
  refine OJ.pures tU_ok 1 rfl ?_
  refine OJ.nil (EJ.next ?_)
  refine CJ.seq ?_
  refine CJ.seq ?_
  refine CJ.region ?_
  refine OJ.pures tU_ok 1 rfl ?_
  refine OJ.nil (EJ.next ?_)
  obtain ⟨j246, H, K246⟩ := pbind H
  refine CJ.cut1 (fun F w1 => ∃ (y1 : List Int) (y2 : Int) , (some (y1, y2) : Option ((List Int) × Int)) = some j246 ∧ F = [(1, .int .i64 y2)] ∧ St w (fpU [rowC (ci .u16) Aa0 ca0 74 a0]) w1 [rowC (ci .u16) Aa0 ca0 74 y1] [] ∧ y1.length = a0.length) ?_ ?_
  · skip
    refine CJ.block ?_
    refine CJ.loop (fun k F w1 => ∃ (y3 : List Int) (y4 : Int) (y5 : Int), F = [(0, .slice Aa0 a0.length ca0), (1, .int .i64 y4), (5, .int .i64 y5)] ∧ St w (fpU [rowC (ci .u16) Aa0 ca0 74 a0]) w1 [rowC (ci .u16) Aa0 ca0 74 y3] [] ∧ y3.length = a0.length ∧ laws_markUint16S.l1 a0 k y3 y4 y5 = some j246) k (F' := [(0, .slice Aa0 a0.length ca0), (1, .int .i64 a1), (5, .int .i64 0)]) ⟨rfl, rfl, rfl, trivial⟩ ⟨a0, a1, 0, rfl, hS.pick [0] [] rfl, (by first | exact hl0 | (simp only [List.length_set]; exact hl0)), H⟩ ?_
    rintro k F w1 ⟨y3, y4, y5, rfl, hS, hl0, H⟩
    cases k with
    | zero => rw [laws_markUint16S.l1] at H; cases H
    | succ k =>
      rw [laws_markUint16S.l1] at H
      refine CJ.seq ?_
      refine CJ.seq ?_
      refine CJ.region ?_
      refine OJ.pures tU_ok 4 rfl ?_
      refine OJ.nil (EJ.next ?_)
      refine CJ.cond rfl (fun hb => ?_) (fun hb => ?_)
      · replace H := pif_t (of_decide_eq_true hb) H
        refine CJ.skip (EJ.next ?_)
        refine CJ.seq ?_
        refine CJ.block ?_
        refine CJ.seq ?_
        refine CJ.region ?_
        refine OJ.pures tU_ok 4 rfl ?_
        obtain ⟨t6, ht6, H⟩ := pbind H
        obtain ⟨ad6, e6⟩ := (hS.rd (i := 0) rfl).some' ht6
        refine OJ.st rfl rfl rfl (SR.idxS tU_ok tI_ok rfl rfl rfl rfl e6 rfl (by have hg := (getI_some ht6).1; (first | rw [hl0] at hg | (simp only [List.length_set] at hg; rw [hl0] at hg)); exact hg)) ?_
        refine OJ.es rfl rfl (Es.storeR tI_ok hS (i := 0) (off := 0) rfl rfl ht6 e6 rfl rfl rfl rfl (vs := (ci .u16).enc (IntKind.u16.wrap y4)) rfl rfl (one1 rfl) (Nat.le_of_ble_eq_true rfl) (IntKind.u16.wrap y4) rfl) ?_
        intro w1 hS
        refine OJ.nil (EJ.next ?_)
        refine CJ.region ?_
        refine OJ.pures tU_ok 3 rfl ?_
        refine OJ.nil (EJ.blk (EJ.next ?_))
        refine CJ.region ?_
        refine OJ.pures tU_ok 3 rfl ?_
        refine OJ.nil ?_
        exact EJ.round k (F' := [(0, .slice Aa0 a0.length ca0), (1, .int .i64 (IntKind.i64.wrap (y4 + 1))), (5, .int .i64 (IntKind.i64.wrap (y5 + 1)))]) ⟨rfl, rfl, rfl, trivial⟩ (Nat.lt_succ_self _) ⟨(y3.set y5.toNat (IntKind.u16.wrap y4)), (IntKind.i64.wrap (y4 + 1)), (IntKind.i64.wrap (y5 + 1)), rfl, hS.pick [0] [] rfl, (by first | exact hl0 | (simp only [List.length_set]; exact hl0)), H⟩
      · replace H := pif_f (of_decide_eq_false hb) H
        refine CJ.exit (EJ.skE (EJ.skE (EJ.hit (?_))))
        exact EJ.meet (F' := [(1, .int .i64 y4)]) ⟨rfl, trivial⟩ ⟨y3, y4, H, rfl, hS.pick [0] [] rfl, (by first | exact hl0 | (simp only [List.length_set]; exact hl0))⟩
  · rintro F w1 ⟨y1, y2, he, rfl, hS, hl0⟩
    obtain rfl := Option.some.inj he
    have H := K246
    refine EJ.next ?_
    refine CJ.seq ?_
    refine CJ.region ?_
    refine OJ.pures tU_ok 2 rfl ?_
    refine OJ.nil (EJ.next ?_)
    refine CJ.ret (?_)
    obtain rfl := Option.some.inj H
    exact EJ.fin rfl (.tmp rfl .nil) ⟨rfl, hS.pick [0] [] rfl, (by first | exact hl0 | (simp only [List.length_set]; exact hl0))⟩

def laws_heldInt16S.l1 (a0 : List Int) : Nat → Int → Int → Option (Int ⊕ Int)
  | 0, _, _ => none
  | k + 1, y2, y3 => if y3 < (a0.length : Int) then ((getI a0 y3).bind fun t4 => if t4 ≠ (IntKind.i16.wrap y2) then (some (Sum.inl (-1))) else (laws_heldInt16S.l1 a0 k (IntKind.i64.wrap (y2 + 1)) (IntKind.i64.wrap (y3 + 1)))) else (some (Sum.inr y2))
def laws_heldInt16S.f (k : Nat) (a0 : List Int) (a1 : Int) : Option Int := (laws_heldInt16S.l1 a0 k a1 0).bind fun s247 => match s247 with | .inl r => some r | .inr y1 => some y1
theorem laws_heldInt16S.c (k : Nat) (w : World) (Aa0 : Option Addr) (ca0 : Nat) (a0 : List Int) (hr0 : Rd (ci .i16) w Aa0 a0) (hc0 : a0.length ≤ ca0) (a1 : Int) (r : Int) (H : laws_heldInt16S.f k a0 a1 = some r) :
    CV Tryd.prog 81 [.slice Aa0 a0.length ca0, .int .i64 a1].toArray w fun v w' => v = .int .i64 r ∧ Ext w w' := by
  have hS := ((St.init w no).param (ci .i16) Aa0 ca0 a0 hr0 hc0)
  unfold laws_heldInt16S.f at H
  refine CV.body Tryd.func81 rfl Tryd.ntmps81 rfl ?_
  refine CJ.seq ?_
  refine CJ.region ?_
  refine OJ.pures tU_ok 1 rfl ?_
  refine OJ.nil (EJ.next ?_)
  refine CJ.seq ?_
  refine CJ.seq ?_
  refine CJ.region ?_
  refine OJ.pures tU_ok 1 rfl ?_
  refine OJ.nil (EJ.next ?_)
  obtain ⟨j247, H, K247⟩ := pbind H
  refine CJ.cut1 (fun F w1 => ∃ (y1 : Int) , (some (Sum.inr y1) : Option (Int ⊕ Int)) = some j247 ∧ F = [(1, .int .i64 y1)] ∧ St w no w1 [] [roC (ci .i16) Aa0 ca0 a0]) ?_ ?_
  · skip
    refine CJ.block ?_
    refine CJ.loop (fun k F w1 => ∃ (y2 : Int) (y3 : Int), F = [(0, .slice Aa0 a0.length ca0), (1, .int .i64 y2), (5, .int .i64 y3)] ∧ St w no w1 [] [roC (ci .i16) Aa0 ca0 a0] ∧ laws_heldInt16S.l1 a0 k y2 y3 = some j247) k (F' := [(0, .slice Aa0 a0.length ca0), (1, .int .i64 a1), (5, .int .i64 0)]) ⟨rfl, rfl, rfl, trivial⟩ ⟨a1, 0, rfl, hS.pick [] [0] rfl, H⟩ ?_
    rintro k F w1 ⟨y2, y3, rfl, hS, H⟩
    cases k with
    | zero => rw [laws_heldInt16S.l1] at H; cases H
    | succ k =>
      rw [laws_heldInt16S.l1] at H
      refine CJ.seq ?_
      refine CJ.seq ?_
      refine CJ.region ?_
      refine OJ.pures tU_ok 4 rfl ?_
      refine OJ.nil (EJ.next ?_)
      refine CJ.cond rfl (fun hb => ?_) (fun hb => ?_)
      · replace H := pif_t (of_decide_eq_true hb) H
        refine CJ.skip (EJ.next ?_)
        refine CJ.seq ?_
        refine CJ.block ?_
        refine CJ.seq ?_
        refine CJ.seq ?_
        refine CJ.region ?_
        refine OJ.pures tU_ok 2 rfl ?_
        obtain ⟨t4, ht4, H⟩ := pbind H
        obtain ⟨ad4, e4⟩ := (hS.rd' (i := 0) rfl).some' ht4
        refine OJ.st rfl rfl rfl (SR.idxS tU_ok tI_ok rfl rfl rfl rfl e4 rfl (getI_some ht4).1) ?_
        refine OJ.st rfl rfl rfl (SR.load rfl rfl (fun w' hx => ld1 tU_ok rfl rfl (CA.ext ((hS.rd' (i := 0) rfl).at_ e4 ht4) hx) rfl)) ?_
        refine OJ.pures tU_ok 3 rfl ?_
        refine OJ.nil (EJ.next ?_)
        refine CJ.cond rfl (fun hb => ?_) (fun hb => ?_)
        · replace H := pif_t (of_decide_eq_true hb) H
          refine CJ.seq ?_
          refine CJ.region ?_
          refine OJ.pures tU_ok 1 rfl ?_
          refine OJ.nil (EJ.next ?_)
          refine CJ.ret (EJ.skR (EJ.bkR (EJ.skR (EJ.skR (EJ.bkR (EJ.skR (EJ.skR (?_))))))))
          first | (obtain rfl := Option.some.inj H; have H := K247) | (obtain ⟨q247, H2, e247⟩ := pbind H; obtain rfl := Option.some.inj e247; obtain rfl := Option.some.inj K247; have H := H2)
          obtain rfl := Option.some.inj H
          exact EJ.fin rfl (.tmp rfl .nil) ⟨rfl, hS.ext⟩
        · replace H := pif_f (of_decide_eq_false hb) H
          refine CJ.skip (EJ.next ?_)
          refine CJ.region ?_
          refine OJ.pures tU_ok 3 rfl ?_
          refine OJ.nil (EJ.blk (EJ.next ?_))
          refine CJ.region ?_
          refine OJ.pures tU_ok 3 rfl ?_
          refine OJ.nil ?_
          exact EJ.round k (F' := [(0, .slice Aa0 a0.length ca0), (1, .int .i64 (IntKind.i64.wrap (y2 + 1))), (5, .int .i64 (IntKind.i64.wrap (y3 + 1)))]) ⟨rfl, rfl, rfl, trivial⟩ (Nat.lt_succ_self _) ⟨(IntKind.i64.wrap (y2 + 1)), (IntKind.i64.wrap (y3 + 1)), rfl, hS.pick [] [0] rfl, H⟩
      · replace H := pif_f (of_decide_eq_false hb) H
        refine CJ.exit (EJ.skE (EJ.skE (EJ.hit (?_))))
        exact EJ.meet (F' := [(1, .int .i64 y2)]) ⟨rfl, trivial⟩ ⟨y2, H, rfl, hS.pick [] [0] rfl⟩
  · rintro F w1 ⟨y1, he, rfl, hS⟩
    obtain rfl := Option.some.inj he
    have H := K247
    refine EJ.next ?_
    refine CJ.seq ?_
    refine CJ.region ?_
    refine OJ.pures tU_ok 2 rfl ?_
    refine OJ.nil (EJ.next ?_)
    refine CJ.ret (?_)
    obtain rfl := Option.some.inj H
    exact EJ.fin rfl (.tmp rfl .nil) ⟨rfl, hS.ext⟩

def laws_heldUint16S.l1 (a0 : List Int) : Nat → Int → Int → Option (Int ⊕ Int)
  | 0, _, _ => none
  | k + 1, y2, y3 => if y3 < (a0.length : Int) then ((getI a0 y3).bind fun t4 => if t4 ≠ (IntKind.u16.wrap y2) then (some (Sum.inl (-1))) else (laws_heldUint16S.l1 a0 k (IntKind.i64.wrap (y2 + 1)) (IntKind.i64.wrap (y3 + 1)))) else (some (Sum.inr y2))
def laws_heldUint16S.f (k : Nat) (a0 : List Int) (a1 : Int) : Option Int := (laws_heldUint16S.l1 a0 k a1 0).bind fun s248 => match s248 with | .inl r => some r | .inr y1 => some y1
theorem laws_heldUint16S.c (k : Nat) (w : World) (Aa0 : Option Addr) (ca0 : Nat) (a0 : List Int) (hr0 : Rd (ci .u16) w Aa0 a0) (hc0 : a0.length ≤ ca0) (a1 : Int) (r : Int) (H : laws_heldUint16S.f k a0 a1 = some r) :
    CV Tryd.prog 82 [.slice Aa0 a0.length ca0, .int .i64 a1].toArray w fun v w' => v = .int .i64 r ∧ Ext w w' := by
  have hS := ((St.init w no).param (ci .u16) Aa0 ca0 a0 hr0 hc0)
  unfold laws_heldUint16S.f at H
  refine CV.body Tryd.func82 rfl Tryd.ntmps82 rfl ?_
  refine CJ.seq ?_
  refine CJ.region ?_
  refine OJ.pures tU_ok 1 rfl ?_
  refine OJ.nil (EJ.next ?_)
  refine CJ.seq ?_
  refine CJ.seq ?_
  refine CJ.region ?_
  refine OJ.pures tU_ok 1 rfl ?_
  refine OJ.nil (EJ.next ?_)
  obtain ⟨j248, H, K248⟩ := pbind H
  refine CJ.cut1 (fun F w1 => ∃ (y1 : Int) , (some (Sum.inr y1) : Option (Int ⊕ Int)) = some j248 ∧ F = [(1, .int .i64 y1)] ∧ St w no w1 [] [roC (ci .u16) Aa0 ca0 a0]) ?_ ?_
  · skip
    refine CJ.block ?_
    refine CJ.loop (fun k F w1 => ∃ (y2 : Int) (y3 : Int), F = [(0, .slice Aa0 a0.length ca0), (1, .int .i64 y2), (5, .int .i64 y3)] ∧ St w no w1 [] [roC (ci .u16) Aa0 ca0 a0] ∧ laws_heldUint16S.l1 a0 k y2 y3 = some j248) k (F' := [(0, .slice Aa0 a0.length ca0), (1, .int .i64 a1), (5, .int .i64 0)]) ⟨rfl, rfl, rfl, trivial⟩ ⟨a1, 0, rfl, hS.pick [] [0] rfl, H⟩ ?_
    rintro k F w1 ⟨y2, y3, rfl, hS, H⟩
    cases k with
    | zero => rw [laws_heldUint16S.l1] at H; cases H
    | succ k =>
      rw [laws_heldUint16S.l1] at H
      refine CJ.seq ?_
      refine CJ.seq ?_
      refine CJ.region ?_
      refine OJ.pures tU_ok 4 rfl ?_
      refine OJ.nil (EJ.next ?_)
      refine CJ.cond rfl (fun hb => ?_) (fun hb => ?_)
      · replace H := pif_t (of_decide_eq_true hb) H
        refine CJ.skip (EJ.next ?_)
        refine CJ.seq ?_
        refine CJ.block ?_
        refine CJ.seq ?_
        refine CJ.seq ?_
        refine CJ.region ?_
        refine OJ.pures tU_ok 2 rfl ?_
        obtain ⟨t4, ht4, H⟩ := pbind H
        obtain ⟨ad4, e4⟩ := (hS.rd' (i := 0) rfl).some' ht4
        refine OJ.st rfl rfl rfl (SR.idxS tU_ok tI_ok rfl rfl rfl rfl e4 rfl (getI_some ht4).1) ?_
        refine OJ.st rfl rfl rfl (SR.load rfl rfl (fun w' hx => ld1 tU_ok rfl rfl (CA.ext ((hS.rd' (i := 0) rfl).at_ e4 ht4) hx) rfl)) ?_
        refine OJ.pures tU_ok 3 rfl ?_
        refine OJ.nil (EJ.next ?_)
        refine CJ.cond rfl (fun hb => ?_) (fun hb => ?_)
        · replace H := pif_t (of_decide_eq_true hb) H
          refine CJ.seq ?_
          refine CJ.region ?_
          refine OJ.pures tU_ok 1 rfl ?_
          refine OJ.nil (EJ.next ?_)
          refine CJ.ret (EJ.skR (EJ.bkR (EJ.skR (EJ.skR (EJ.bkR (EJ.skR (EJ.skR (?_))))))))
          first | (obtain rfl := Option.some.inj H; have H := K248) | (obtain ⟨q248, H2, e248⟩ := pbind H; obtain rfl := Option.some.inj e248; obtain rfl := Option.some.inj K248; have H := H2)
          obtain rfl := Option.some.inj H
          exact EJ.fin rfl (.tmp rfl .nil) ⟨rfl, hS.ext⟩
        · replace H := pif_f (of_decide_eq_false hb) H
          refine CJ.skip (EJ.next ?_)
          refine CJ.region ?_
          refine OJ.pures tU_ok 3 rfl ?_
          refine OJ.nil (EJ.blk (EJ.next ?_))
          refine CJ.region ?_
          refine OJ.pures tU_ok 3 rfl ?_
          refine OJ.nil ?_
          exact EJ.round k (F' := [(0, .slice Aa0 a0.length ca0), (1, .int .i64 (IntKind.i64.wrap (y2 + 1))), (5, .int .i64 (IntKind.i64.wrap (y3 + 1)))]) ⟨rfl, rfl, rfl, trivial⟩ (Nat.lt_succ_self _) ⟨(IntKind.i64.wrap (y2 + 1)), (IntKind.i64.wrap (y3 + 1)), rfl, hS.pick [] [0] rfl, H⟩
      · replace H := pif_f (of_decide_eq_false hb) H
        refine CJ.exit (EJ.skE (EJ.skE (EJ.hit (?_))))
        exact EJ.meet (F' := [(1, .int .i64 y2)]) ⟨rfl, trivial⟩ ⟨y2, H, rfl, hS.pick [] [0] rfl⟩
  · rintro F w1 ⟨y1, he, rfl, hS⟩
    obtain rfl := Option.some.inj he
    have H := K248
    refine EJ.next ?_
    refine CJ.seq ?_
    refine CJ.region ?_
    refine OJ.pures tU_ok 2 rfl ?_
    refine OJ.nil (EJ.next ?_)
    refine CJ.ret (?_)
    obtain rfl := Option.some.inj H
    exact EJ.fin rfl (.tmp rfl .nil) ⟨rfl, hS.ext⟩

def slices_Clone_int64_int64.f (a0 : List Int) : Option (List Int) := (chk (([] : List Int).length + a0.length ≤ 4294967296)).bind fun _ => some a0
theorem slices_Clone_int64_int64.c (w : World) (A : Option Addr) (c : Nat) (a0 : List Int) (hr0 : Rd (ci .i64) w A a0) (hc0 : a0.length ≤ c) (r : List Int) (H : slices_Clone_int64_int64.f a0 = some r) :
    CV Tryd.prog 107 [.slice A a0.length c].toArray w fun v w' => ∃ (A0 : Option Addr) (c0 : Nat), v = .slice A0 r.length c0 ∧ St w no w' [rowC (ci .i64) A0 c0 2 r] [] := by
  have hS := ((St.init w no).param (ci .i64) A c a0 hr0 hc0)
  obtain ⟨u, hu, H⟩ := pbind H
  obtain rfl := Option.some.inj H
  refine CV.body Tryd.func107 rfl Tryd.ntmps107 rfl ?_
  refine CJ.seq ?_
  refine CJ.region ?_
  refine OJ.pures tU_ok 1 rfl ?_
  refine OJ.nil (EJ.next ?_)
  refine CJ.seq ?_
  refine CJ.seq ?_
  refine CJ.region ?_
  refine OJ.pures tU_ok 1 rfl ?_
  refine OJ.st rfl rfl rfl (SR.eqNil tU_ok rfl rfl rfl rfl) ?_
  refine OJ.nil (EJ.next ?_)
  refine CJ.cond rfl (fun hb => ?_) (fun hb => ?_)
  · obtain rfl := hr0.isNone hb
    refine CJ.seq ?_
    refine CJ.region ?_
    refine OJ.pures tU_ok 1 rfl ?_
    refine OJ.nil (EJ.next ?_)
    refine CJ.ret (EJ.skR ?_)
    replace hS := hS.addNil (ci .i64) 2 none
    exact EJ.fin rfl (.tmp rfl .nil) ⟨none, 0, rfl, hS.pick [0] [] rfl⟩
  · refine CJ.skip (EJ.next ?_)
    refine CJ.seq ?_
    refine CJ.region ?_
    refine OJ.ef rfl rfl rfl (Ef.lit tU_ok tI_ok hS (C := (ci .i64)) rfl rfl rfl rfl rfl rfl ([] : List Int) rfl rfl rfl rfl) ?_
    rintro _ w1 ⟨A1, rfl, hS⟩
    refine OJ.pures tU_ok 1 rfl ?_
    refine OJ.ew rfl rfl rfl (Ew.append tU_ok tI_ok (C := (ci .i64)) (xs := ([] : List Int)) (ys := a0) hS (i := 0) rfl rfl rfl rfl rfl rfl rfl rfl rfl rfl rfl rfl rfl (hS.rd' (i := 0) rfl) (chk_some hu)) ?_
    rintro _ w1 ⟨A2, c2, rfl, hS⟩
    refine OJ.pures tU_ok 1 rfl ?_
    refine OJ.nil (EJ.next ?_)
    exact CJ.ret (EJ.fin rfl (.tmp rfl .nil) ⟨A2, c2, rfl, hS.pick [0] [] rfl⟩)

def internal_bytealg_Cutover.f (a0 : Int) : Option Int := some (IntKind.i64.wrap (Int.tdiv (IntKind.i64.wrap (a0 + 16)) 8))
theorem internal_bytealg_Cutover.c (w : World) (a0 : Int) (r : Int) (H : internal_bytealg_Cutover.f a0 = some r) :
    CV Tryd.prog 130 [.int .i64 a0].toArray w fun v w' => v = .int .i64 r ∧ Ext w w' := by
  have hS := (St.init w no)
  unfold internal_bytealg_Cutover.f at H
  refine CV.body Tryd.func130 rfl Tryd.ntmps130 rfl ?_
  refine CJ.seq ?_
  refine CJ.region ?_
  refine OJ.pures tU_ok 1 rfl ?_
  refine OJ.nil (EJ.next ?_)
  refine CJ.seq ?_
  refine CJ.region ?_
  refine OJ.pures tU_ok 2 rfl ?_
  refine OJ.st rfl rfl rfl (SR.quo rfl rfl rfl (by decide)) ?_
  refine OJ.pures tU_ok 1 rfl ?_
  refine OJ.nil (EJ.next ?_)
  refine CJ.ret (?_)
  obtain rfl := Option.some.inj H
  exact EJ.fin rfl (.tmp rfl .nil) ⟨rfl, hS.ext⟩
end Go.Proofs.YtimpcenflahchaaDoor
