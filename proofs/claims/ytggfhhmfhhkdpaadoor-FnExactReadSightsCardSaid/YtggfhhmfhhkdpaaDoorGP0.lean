/-
  What the functions come to.
-/
import Derived.Test.YtggfhhmfhhkdpaaDoorGT
namespace Go.Proofs.YtggfhhmfhhkdpaaDoor
open G
set_option linter.unusedVariables false
set_option linter.unusedSimpArgs false
set_option maxRecDepth 100000
set_option maxHeartbeats 4000000
def spec_l01Split.l1 (a0 : ByteArray) (a1 : Int) : Nat → (List ByteArray) → Int → Int → Option ((List ByteArray) × Int)
  | 0, _, _, _ => none
  | k + 1, y6, y9, y10 => if y10 < (a0.size : Int) then ((getB a0 y10).bind fun t11 => if t11 = a1 then ((chk ((0 : Int) ≤ y9 ∧ y9 ≤ y10 ∧ y10 ≤ (a0.size : Int))).bind fun u12 => (chk (y6.length + ([a0.extract y9.toNat y10.toNat] : List ByteArray).length ≤ 4294967296)).bind fun u14 => spec_l01Split.l1 a0 a1 k (y6 ++ ([a0.extract y9.toNat y10.toNat] : List ByteArray)) (IntKind.i64.wrap (y10 + 1)) (IntKind.i64.wrap (y10 + 1))) else (spec_l01Split.l1 a0 a1 k y6 y9 (IntKind.i64.wrap (y10 + 1)))) else (some (y6, y9))
def spec_l01Split.f (k : Nat) (a0 : ByteArray) (a1 : Int) : Option (List ByteArray) := (spec_l01Split.l1 a0 a1 k ([] : List ByteArray) 0 0).bind fun (y2, y5) => (chk ((0 : Int) ≤ y5 ∧ y5 ≤ (a0.size : Int) ∧ (a0.size : Int) ≤ (a0.size : Int))).bind fun u17 => (chk (y2.length + ([a0.extract y5.toNat a0.size] : List ByteArray).length ≤ 4294967296)).bind fun u19 => some (y2 ++ ([a0.extract y5.toNat a0.size] : List ByteArray))
theorem spec_l01Split.c (k : Nat) (w : World) (a0 : ByteArray) (a1 : Int) (r : List ByteArray) (H : spec_l01Split.f k a0 a1 = some r) :
    CV Tryd.prog 23 [.string a0, .int .u8 a1].toArray w fun v w' => ∃ (A0 : Option Addr) (c0 : Nat), v = .slice A0 r.length c0 ∧ St w no w' [rowC G.cs A0 c0 9 r] [] := by
  have hS := (St.init w no)
  unfold spec_l01Split.f at H
  refine CV.body Tryd.func23 rfl Tryd.ntmps23 rfl ?_
  refine CJ.seq ?_
  refine CJ.region ?_
  refine OJ.pures tU_ok 1 rfl ?_
  refine OJ.nil (EJ.next ?_)
  refine CJ.seq ?_
  refine CJ.region ?_
  refine OJ.ef rfl rfl rfl (Ef.lit tU_ok tI_ok hS (C := G.cs) rfl rfl rfl rfl rfl rfl ([] : List ByteArray) rfl rfl rfl rfl) ?_
  rintro _ w1 ⟨A1, rfl, hS⟩
  refine OJ.pures tU_ok 1 rfl ?_
  refine OJ.nil (EJ.next ?_)
  refine CJ.seq ?_
  refine CJ.region ?_
  refine OJ.pures tU_ok 1 rfl ?_
  refine OJ.nil (EJ.next ?_)
  refine CJ.seq ?_
  refine CJ.seq ?_
  refine CJ.region ?_
  refine OJ.pures tU_ok 1 rfl ?_
  refine OJ.nil (EJ.next ?_)
  obtain ⟨j1, H, K1⟩ := pbind H
  refine CJ.cut1 (fun F w1 => ∃ (y2 : List ByteArray) (y5 : Int) (A3 : Option Addr) (c4 : Nat), (some (y2, y5) : Option ((List ByteArray) × Int)) = some j1 ∧ F = [(0, .string a0), (5, .slice A3 y2.length c4), (6, .int .i64 y5)] ∧ St w no w1 [rowC G.cs A3 c4 9 y2] []) ?_ ?_
  · skip
    refine CJ.block ?_
    refine CJ.loop (fun k F w1 => ∃ (y6 : List ByteArray) (y9 : Int) (y10 : Int) (A7 : Option Addr) (c8 : Nat), F = [(0, .string a0), (1, .int .u8 a1), (5, .slice A7 y6.length c8), (6, .int .i64 y9), (7, .int .i64 y10)] ∧ St w no w1 [rowC G.cs A7 c8 9 y6] [] ∧ spec_l01Split.l1 a0 a1 k y6 y9 y10 = some j1) k (F' := [(0, .string a0), (1, .int .u8 a1), (5, .slice A1 ([] : List ByteArray).length (([] : List ByteArray).length)), (6, .int .i64 0), (7, .int .i64 0)]) ⟨rfl, rfl, rfl, rfl, rfl, trivial⟩ ⟨([] : List ByteArray), 0, 0, A1, (([] : List ByteArray).length), rfl, hS.pick [0] [] rfl, H⟩ ?_
    rintro k F w1 ⟨y6, y9, y10, A7, c8, rfl, hS, H⟩
    cases k with
    | zero => rw [spec_l01Split.l1] at H; cases H
    | succ k =>
      rw [spec_l01Split.l1] at H
      refine CJ.seq ?_
      refine CJ.seq ?_
      refine CJ.region ?_
      refine OJ.pures tU_ok 4 rfl ?_
      refine OJ.nil (EJ.next ?_)
      refine CJ.cond rfl (fun hb => ?_) (fun hb => ?_)
      · replace H := pif_t (of_decide_eq_true hb) H
        refine CJ.skip (EJ.next ?_)
        refine CJ.seq ?_
        refine CJ.block ?_
        refine CJ.seq ?_
        refine CJ.region ?_
        refine OJ.pures tU_ok 2 rfl ?_
        obtain ⟨t11, ht11, H⟩ := pbind H
        refine OJ.st rfl rfl rfl (SR.idxStr tU_ok rfl rfl rfl rfl ht11) ?_
        refine OJ.pures tU_ok 2 rfl ?_
        refine OJ.nil (EJ.next ?_)
        refine CJ.cond rfl (fun hb => ?_) (fun hb => ?_)
        · replace H := pif_t (of_decide_eq_true hb) H
          refine CJ.seq ?_
          refine CJ.region ?_
          refine OJ.pures tU_ok 4 rfl ?_
          obtain ⟨u12, hu12, H⟩ := pbind H
          refine OJ.st rfl rfl rfl (SR.cutStr tU_ok (y9.toNat) (y10.toNat) rfl rfl rfl rfl rfl (.inr ⟨_, _, rfl, (chk_some hu12).1, rfl⟩) (.inr ⟨_, _, rfl, (by have := (chk_some hu12); omega), rfl⟩) (by have := (chk_some hu12); omega) (by have := (chk_some hu12); omega)) ?_
          refine OJ.ef rfl rfl rfl (Ef.lit tU_ok tI_ok hS (C := G.cs) rfl rfl rfl rfl rfl rfl ([a0.extract y9.toNat y10.toNat] : List ByteArray) rfl rfl rfl rfl) ?_
          rintro _ w1 ⟨A13, rfl, hS⟩
          obtain ⟨u14, hu14, H⟩ := pbind H
          refine OJ.ew rfl rfl rfl (Ew.append tU_ok tI_ok (C := G.cs) (xs := y6) (ys := ([a0.extract y9.toNat y10.toNat] : List ByteArray)) hS (i := 0) rfl rfl rfl rfl rfl rfl rfl rfl rfl rfl rfl rfl rfl (hS.rd (i := 1) rfl) (chk_some hu14)) ?_
          rintro _ w1 ⟨A15, c16, rfl, hS⟩
          refine OJ.pures tU_ok 1 rfl ?_
          refine OJ.nil (EJ.next ?_)
          refine CJ.region ?_
          refine OJ.pures tU_ok 3 rfl ?_
          refine OJ.nil (EJ.blk (EJ.next ?_))
          refine CJ.region ?_
          refine OJ.pures tU_ok 3 rfl ?_
          refine OJ.nil ?_
          exact EJ.round k (F' := [(0, .string a0), (1, .int .u8 a1), (5, .slice A15 (y6 ++ ([a0.extract y9.toNat y10.toNat] : List ByteArray)).length c16), (6, .int .i64 (IntKind.i64.wrap (y10 + 1))), (7, .int .i64 (IntKind.i64.wrap (y10 + 1)))]) ⟨rfl, rfl, rfl, rfl, rfl, trivial⟩ (Nat.lt_succ_self _) ⟨(y6 ++ ([a0.extract y9.toNat y10.toNat] : List ByteArray)), (IntKind.i64.wrap (y10 + 1)), (IntKind.i64.wrap (y10 + 1)), A15, c16, rfl, hS.pick [0] [] rfl, H⟩
        · replace H := pif_f (of_decide_eq_false hb) H
          refine CJ.skip (EJ.blk (EJ.next ?_))
          refine CJ.region ?_
          refine OJ.pures tU_ok 3 rfl ?_
          refine OJ.nil ?_
          exact EJ.round k (F' := [(0, .string a0), (1, .int .u8 a1), (5, .slice A7 y6.length c8), (6, .int .i64 y9), (7, .int .i64 (IntKind.i64.wrap (y10 + 1)))]) ⟨rfl, rfl, rfl, rfl, rfl, trivial⟩ (Nat.lt_succ_self _) ⟨y6, y9, (IntKind.i64.wrap (y10 + 1)), A7, c8, rfl, hS.pick [0] [] rfl, H⟩
      · replace H := pif_f (of_decide_eq_false hb) H
        refine CJ.exit (EJ.skE (EJ.skE (EJ.hit (?_))))
        exact EJ.meet (F' := [(0, .string a0), (5, .slice A7 y6.length c8), (6, .int .i64 y9)]) ⟨rfl, rfl, rfl, trivial⟩ ⟨y6, y9, A7, c8, H, rfl, hS.pick [0] [] rfl⟩
  · rintro F w1 ⟨y2, y5, A3, c4, he, rfl, hS⟩
    obtain rfl := Option.some.inj he
    have H := K1
    refine EJ.next ?_
    refine CJ.seq ?_
    refine CJ.region ?_
    refine OJ.pures tU_ok 3 rfl ?_
    obtain ⟨u17, hu17, H⟩ := pbind H
    refine OJ.st rfl rfl rfl (SR.cutStr tU_ok (y5.toNat) (a0.size) rfl rfl rfl rfl rfl (.inr ⟨_, _, rfl, (chk_some hu17).1, rfl⟩) (.inl ⟨rfl, rfl⟩) (by have := (chk_some hu17); omega) (by have := (chk_some hu17); omega)) ?_
    refine OJ.ef rfl rfl rfl (Ef.lit tU_ok tI_ok hS (C := G.cs) rfl rfl rfl rfl rfl rfl ([a0.extract y5.toNat a0.size] : List ByteArray) rfl rfl rfl rfl) ?_
    rintro _ w1 ⟨A18, rfl, hS⟩
    obtain ⟨u19, hu19, H⟩ := pbind H
    refine OJ.ew rfl rfl rfl (Ew.append tU_ok tI_ok (C := G.cs) (xs := y2) (ys := ([a0.extract y5.toNat a0.size] : List ByteArray)) hS (i := 0) rfl rfl rfl rfl rfl rfl rfl rfl rfl rfl rfl rfl rfl (hS.rd (i := 1) rfl) (chk_some hu19)) ?_
    rintro _ w1 ⟨A20, c21, rfl, hS⟩
    refine OJ.pures tU_ok 1 rfl ?_
    refine OJ.nil (EJ.next ?_)
    refine CJ.ret (?_)
    obtain rfl := Option.some.inj H
    exact EJ.fin rfl (.tmp rfl .nil) ⟨A20, c21, rfl, hS.pick [0] [] rfl⟩

def spec_l01Number.l1 (a0 : ByteArray) : Nat → Int → Int → Option ((Int × Bool) ⊕ Int)
  | 0, _, _ => none
  | k + 1, y4, y5 => if y5 < (a0.size : Int) then (((getB a0 y5).bind fun t7 => if t7 < 48 then (some true) else ((getB a0 y5).bind fun t8 => some (decide (57 < t8)))).bind fun y6 => if y6 = true then (some (Sum.inl (0, false))) else ((getB a0 y5).bind fun t9 => spec_l01Number.l1 a0 k (IntKind.i64.wrap ((IntKind.i64.wrap (10 * y4)) + (IntKind.i64.wrap (IntKind.u8.wrap (t9 - 48))))) (IntKind.i64.wrap (y5 + 1)))) else (some (Sum.inr y4))
def spec_l01Number.f (k : Nat) (a0 : ByteArray) : Option (Int × Bool) := (if a0 = ByteArray.empty then (some true) else (if 9 < (a0.size : Int) then (some true) else ((getB a0 0).bind fun t2 => if t2 = 48 then (some (decide (1 < (a0.size : Int)))) else (some false)))).bind fun y1 => if y1 = true then (some (0, false)) else ((spec_l01Number.l1 a0 k 0 0).bind fun s4 => match s4 with | .inl r => some r | .inr y3 => some (y3, true))
theorem spec_l01Number.c (k : Nat) (w : World) (a0 : ByteArray) (r : Int × Bool) (H : spec_l01Number.f k a0 = some r) :
    CV Tryd.prog 24 [.string a0].toArray w fun v w' => v = .tuple #[.int .i64 r.1, .bool r.2] ∧ Ext w w' := by
  have hS := (St.init w no)
  unfold spec_l01Number.f at H
  refine CV.body Tryd.func24 rfl Tryd.ntmps24 rfl ?_
  refine CJ.seq ?_
  refine CJ.region ?_
  refine OJ.pures tU_ok 2 rfl ?_
  refine OJ.nil (EJ.next ?_)
  refine CJ.seq ?_
  obtain ⟨j3, H, K3⟩ := pbind H
  refine CJ.cut (fun F w1 => ∃ (y1 : Bool) , (some y1 : Option Bool) = some j3 ∧ F = [(0, .string a0), (22, .bool y1)] ∧ St w no w1 [] []) ?_ ?_
  · skip
    refine CJ.region ?_
    refine OJ.pures tU_ok 3 rfl ?_
    refine OJ.split (t := 8) rfl (fun hb => ?_) (fun hb => ?_)
    · replace H := pif_t (of_decide_eq_true hb) H
      refine OJ.pures tU_ok 14 rfl ?_
      refine OJ.nil ?_
      exact EJ.meet (F' := [(0, .string a0), (22, .bool true)]) ⟨rfl, rfl, trivial⟩ ⟨true, H, rfl, hS.pick [] [] rfl⟩
    · replace H := pif_f (of_decide_eq_false hb) H
      refine OJ.pures tU_ok 5 rfl ?_
      refine OJ.split (t := 13) rfl (fun hb => ?_) (fun hb => ?_)
      · replace H := pif_t (of_decide_eq_true hb) H
        refine OJ.pures tU_ok 9 rfl ?_
        refine OJ.nil ?_
        exact EJ.meet (F' := [(0, .string a0), (22, .bool true)]) ⟨rfl, rfl, trivial⟩ ⟨true, H, rfl, hS.pick [] [] rfl⟩
      · replace H := pif_f (of_decide_eq_false hb) H
        refine OJ.pures tU_ok 1 rfl ?_
        obtain ⟨t2, ht2, H⟩ := pbind H
        refine OJ.st rfl rfl rfl (SR.idxStr tU_ok rfl rfl rfl rfl ht2) ?_
        refine OJ.pures tU_ok 2 rfl ?_
        refine OJ.split (t := 17) rfl (fun hb => ?_) (fun hb => ?_)
        · replace H := pif_t (of_decide_eq_true hb) H
          refine OJ.pures tU_ok 5 rfl ?_
          refine OJ.nil ?_
          exact EJ.meet (F' := [(0, .string a0), (22, .bool (decide (1 < (a0.size : Int))))]) ⟨rfl, rfl, trivial⟩ ⟨(decide (1 < (a0.size : Int))), H, rfl, hS.pick [] [] rfl⟩
        · replace H := pif_f (of_decide_eq_false hb) H
          refine OJ.pures tU_ok 5 rfl ?_
          refine OJ.nil ?_
          exact EJ.meet (F' := [(0, .string a0), (22, .bool false)]) ⟨rfl, rfl, trivial⟩ ⟨false, H, rfl, hS.pick [] [] rfl⟩
  · rintro F w1 ⟨y1, he, rfl, hS⟩
    obtain rfl := Option.some.inj he
    have H := K3
    refine CJ.cond rfl (fun hb => ?_) (fun hb => ?_)
    · replace H := pif_t hb H
      refine CJ.seq ?_
      refine CJ.region ?_
      refine OJ.pures tU_ok 2 rfl ?_
      refine OJ.nil (EJ.next ?_)
      refine CJ.ret (EJ.skR (?_))
      obtain rfl := Option.some.inj H
      exact EJ.fin rfl (.tmp rfl (.tmp rfl .nil)) ⟨rfl, hS.ext⟩
    · replace H := pifb_f hb H
      refine CJ.skip (EJ.next ?_)
      refine CJ.seq ?_
      refine CJ.region ?_
      refine OJ.pures tU_ok 1 rfl ?_
      refine OJ.nil (EJ.next ?_)
      refine CJ.seq ?_
      refine CJ.seq ?_
      refine CJ.region ?_
      refine OJ.pures tU_ok 1 rfl ?_
      refine OJ.nil (EJ.next ?_)
      obtain ⟨j4, H, K4⟩ := pbind H
      refine CJ.cut1 (fun F w1 => ∃ (y3 : Int) , (some (Sum.inr y3) : Option ((Int × Bool) ⊕ Int)) = some j4 ∧ F = [(4, .int .i64 y3)] ∧ St w no w1 [] []) ?_ ?_
      · skip
        refine CJ.block ?_
        refine CJ.loop (fun k F w1 => ∃ (y4 : Int) (y5 : Int), F = [(0, .string a0), (4, .int .i64 y4), (5, .int .i64 y5)] ∧ St w no w1 [] [] ∧ spec_l01Number.l1 a0 k y4 y5 = some j4) k (F' := [(0, .string a0), (4, .int .i64 0), (5, .int .i64 0)]) ⟨rfl, rfl, rfl, trivial⟩ ⟨0, 0, rfl, hS.pick [] [] rfl, H⟩ ?_
        rintro k F w1 ⟨y4, y5, rfl, hS, H⟩
        cases k with
        | zero => rw [spec_l01Number.l1] at H; cases H
        | succ k =>
          rw [spec_l01Number.l1] at H
          refine CJ.seq ?_
          refine CJ.seq ?_
          refine CJ.region ?_
          refine OJ.pures tU_ok 4 rfl ?_
          refine OJ.nil (EJ.next ?_)
          refine CJ.cond rfl (fun hb => ?_) (fun hb => ?_)
          · replace H := pif_t (of_decide_eq_true hb) H
            refine CJ.skip (EJ.next ?_)
            refine CJ.seq ?_
            refine CJ.block ?_
            refine CJ.seq ?_
            obtain ⟨j7, H, K7⟩ := pbind H
            refine CJ.cut (fun F w1 => ∃ (y6 : Bool) , (some y6 : Option Bool) = some j7 ∧ F = [(0, .string a0), (4, .int .i64 y4), (5, .int .i64 y5), (38, .bool y6)] ∧ St w no w1 [] []) ?_ ?_
            · skip
              refine CJ.region ?_
              refine OJ.pures tU_ok 2 rfl ?_
              obtain ⟨t7, ht7, H⟩ := pbind H
              refine OJ.st rfl rfl rfl (SR.idxStr tU_ok rfl rfl rfl rfl ht7) ?_
              refine OJ.pures tU_ok 2 rfl ?_
              refine OJ.split (t := 33) rfl (fun hb => ?_) (fun hb => ?_)
              · replace H := pif_t (of_decide_eq_true hb) H
                refine OJ.pures tU_ok 5 rfl ?_
                refine OJ.nil ?_
                exact EJ.meet (F' := [(0, .string a0), (4, .int .i64 y4), (5, .int .i64 y5), (38, .bool true)]) ⟨rfl, rfl, rfl, rfl, trivial⟩ ⟨true, H, rfl, hS.pick [] [] rfl⟩
              · replace H := pif_f (of_decide_eq_false hb) H
                refine OJ.pures tU_ok 2 rfl ?_
                obtain ⟨t8, ht8, H⟩ := pbind H
                refine OJ.st rfl rfl rfl (SR.idxStr tU_ok rfl rfl rfl rfl ht8) ?_
                refine OJ.pures tU_ok 2 rfl ?_
                refine OJ.nil ?_
                exact EJ.meet (F' := [(0, .string a0), (4, .int .i64 y4), (5, .int .i64 y5), (38, .bool (decide (57 < t8)))]) ⟨rfl, rfl, rfl, rfl, trivial⟩ ⟨(decide (57 < t8)), H, rfl, hS.pick [] [] rfl⟩
            · rintro F w1 ⟨y6, he, rfl, hS⟩
              obtain rfl := Option.some.inj he
              have H := K7
              refine CJ.cond rfl (fun hb => ?_) (fun hb => ?_)
              · replace H := pif_t hb H
                refine CJ.seq ?_
                refine CJ.region ?_
                refine OJ.pures tU_ok 2 rfl ?_
                refine OJ.nil (EJ.next ?_)
                refine CJ.ret (EJ.skR (EJ.bkR (EJ.skR (EJ.skR (EJ.bkR (EJ.skR (EJ.skR (?_))))))))
                first | (obtain rfl := Option.some.inj H; have H := K4) | (obtain ⟨q4, H2, e4⟩ := pbind H; obtain rfl := Option.some.inj e4; obtain rfl := Option.some.inj K4; have H := H2)
                obtain rfl := Option.some.inj H
                exact EJ.fin rfl (.tmp rfl (.tmp rfl .nil)) ⟨rfl, hS.ext⟩
              · replace H := pifb_f hb H
                refine CJ.skip (EJ.next ?_)
                refine CJ.region ?_
                refine OJ.pures tU_ok 4 rfl ?_
                obtain ⟨t9, ht9, H⟩ := pbind H
                refine OJ.st rfl rfl rfl (SR.idxStr tU_ok rfl rfl rfl rfl ht9) ?_
                refine OJ.pures tU_ok 4 rfl ?_
                refine OJ.nil (EJ.blk (EJ.next ?_))
                refine CJ.region ?_
                refine OJ.pures tU_ok 3 rfl ?_
                refine OJ.nil ?_
                exact EJ.round k (F' := [(0, .string a0), (4, .int .i64 (IntKind.i64.wrap ((IntKind.i64.wrap (10 * y4)) + (IntKind.i64.wrap (IntKind.u8.wrap (t9 - 48)))))), (5, .int .i64 (IntKind.i64.wrap (y5 + 1)))]) ⟨rfl, rfl, rfl, trivial⟩ (Nat.lt_succ_self _) ⟨(IntKind.i64.wrap ((IntKind.i64.wrap (10 * y4)) + (IntKind.i64.wrap (IntKind.u8.wrap (t9 - 48))))), (IntKind.i64.wrap (y5 + 1)), rfl, hS.pick [] [] rfl, H⟩
          · replace H := pif_f (of_decide_eq_false hb) H
            refine CJ.exit (EJ.skE (EJ.skE (EJ.hit (?_))))
            exact EJ.meet (F' := [(4, .int .i64 y4)]) ⟨rfl, trivial⟩ ⟨y4, H, rfl, hS.pick [] [] rfl⟩
      · rintro F w1 ⟨y3, he, rfl, hS⟩
        obtain rfl := Option.some.inj he
        have H := K4
        refine EJ.next ?_
        refine CJ.seq ?_
        refine CJ.region ?_
        refine OJ.pures tU_ok 3 rfl ?_
        refine OJ.nil (EJ.next ?_)
        refine CJ.ret (?_)
        obtain rfl := Option.some.inj H
        exact EJ.fin rfl (.tmp rfl (.tmp rfl .nil)) ⟨rfl, hS.ext⟩

def spec_l00In.f (a0 : Int) (a1 : Int) (a2 : Int) : Option Bool := if a1 ≤ a0 then (some (decide (a0 ≤ a2))) else (some false)
theorem spec_l00In.c (w : World) (a0 : Int) (a1 : Int) (a2 : Int) (r : Bool) (H : spec_l00In.f a0 a1 a2 = some r) :
    CV Tryd.prog 30 [.int .i64 a0, .int .i64 a1, .int .i64 a2].toArray w fun v w' => v = .bool r ∧ Ext w w' := by
  have hS := (St.init w no)
  unfold spec_l00In.f at H
  refine CV.body Tryd.func30 rfl Tryd.ntmps30 rfl ?_
  refine CJ.seq ?_
  refine CJ.region ?_
  refine OJ.pures tU_ok 1 rfl ?_
  refine OJ.nil (EJ.next ?_)
  refine CJ.seq ?_
  refine CJ.region ?_
  refine OJ.pures tU_ok 4 rfl ?_
  refine OJ.split (t := 10) rfl (fun hb => ?_) (fun hb => ?_)
  · replace H := pif_t (of_decide_eq_true hb) H
    refine OJ.pures tU_ok 5 rfl ?_
    refine OJ.nil (EJ.next ?_)
    refine CJ.ret (?_)
    obtain rfl := Option.some.inj H
    exact EJ.fin rfl (.tmp rfl .nil) ⟨rfl, hS.ext⟩
  · replace H := pif_f (of_decide_eq_false hb) H
    refine OJ.pures tU_ok 5 rfl ?_
    refine OJ.nil (EJ.next ?_)
    refine CJ.ret (?_)
    obtain rfl := Option.some.inj H
    exact EJ.fin rfl (.tmp rfl .nil) ⟨rfl, hS.ext⟩

def spec_l01Grass.f (a0 : Int) : Option Bool := (spec_l00In.f a0 0 1000).bind fun t1 => some t1
theorem spec_l01Grass.c (w : World) (a0 : Int) (r : Bool) (H : spec_l01Grass.f a0 = some r) :
    CV Tryd.prog 25 [.int .i64 a0].toArray w fun v w' => v = .bool r ∧ Ext w w' := by
  have hS := (St.init w no)
  unfold spec_l01Grass.f at H
  refine CV.body Tryd.func25 rfl Tryd.ntmps25 rfl ?_
  refine CJ.seq ?_
  refine CJ.region ?_
  refine OJ.pures tU_ok 1 rfl ?_
  refine OJ.nil (EJ.next ?_)
  refine CJ.seq ?_
  refine CJ.region ?_
  refine OJ.pures tU_ok 1 rfl ?_
  obtain ⟨t1, ht1, H⟩ := pbind H
  refine OJ.callF rfl rfl rfl rfl rfl hb30 rfl (spec_l00In.c _ a0 0 1000 _ ht1) ?_
  rintro _ w1 ⟨rfl, hs⟩
  replace hS := hS.grow hs
  refine OJ.pures tU_ok 1 rfl ?_
  refine OJ.nil (EJ.next ?_)
  refine CJ.ret (?_)
  obtain rfl := Option.some.inj H
  exact EJ.fin rfl (.tmp rfl .nil) ⟨rfl, hS.ext⟩

def spec_l07Seen.l1 (a0 : List Sight) : Nat → Int → Option (Bool ⊕ Unit)
  | 0, _ => none
  | k + 1, y1 => if y1 < (a0.length : Int) then ((getI a0 y1).bind fun t2 => (spec_l01Grass.f (IntKind.i64.wrap t2.Day)).bind fun t3 => if (!t3) = true then (some (Sum.inl false)) else (if 0 < y1 then ((getI a0 y1).bind fun t4 => (getI a0 (IntKind.i64.wrap (y1 - 1))).bind fun t5 => if t4.Day < t5.Day then (some (Sum.inl false)) else (spec_l07Seen.l1 a0 k (IntKind.i64.wrap (y1 + 1)))) else (spec_l07Seen.l1 a0 k (IntKind.i64.wrap (y1 + 1))))) else (some (Sum.inr ()))
def spec_l07Seen.f (k : Nat) (a0 : List Sight) : Option Bool := (spec_l07Seen.l1 a0 k 0).bind fun s11 => match s11 with | .inl r => some r | .inr _ => some (decide ((a0.length : Int) ≤ 40))
theorem spec_l07Seen.c (k : Nat) (w : World) (Aa0 : Option Addr) (ca0 : Nat) (a0 : List Sight) (hr0 : Rd cSight w Aa0 a0) (hc0 : a0.length ≤ ca0) (r : Bool) (H : spec_l07Seen.f k a0 = some r) :
    CV Tryd.prog 15 [.slice Aa0 a0.length ca0].toArray w fun v w' => v = .bool r ∧ Ext w w' := by
  have hS := ((St.init w no).param cSight Aa0 ca0 a0 hr0 hc0)
  unfold spec_l07Seen.f at H
  refine CV.body Tryd.func15 rfl Tryd.ntmps15 rfl ?_
  refine CJ.seq ?_
  refine CJ.region ?_
  refine OJ.pures tU_ok 1 rfl ?_
  refine OJ.nil (EJ.next ?_)
  refine CJ.seq ?_
  refine CJ.seq ?_
  refine CJ.region ?_
  refine OJ.pures tU_ok 1 rfl ?_
  refine OJ.nil (EJ.next ?_)
  obtain ⟨j11, H, K11⟩ := pbind H
  refine CJ.cut1 (fun F w1 => (some (Sum.inr ()) : Option (Bool ⊕ Unit)) = some j11 ∧ F = [(0, .slice Aa0 a0.length ca0)] ∧ St w no w1 [] [roC cSight Aa0 ca0 a0]) ?_ ?_
  · skip
    refine CJ.block ?_
    refine CJ.loop (fun k F w1 => ∃ (y1 : Int), F = [(0, .slice Aa0 a0.length ca0), (3, .int .i64 y1)] ∧ St w no w1 [] [roC cSight Aa0 ca0 a0] ∧ spec_l07Seen.l1 a0 k y1 = some j11) k (F' := [(0, .slice Aa0 a0.length ca0), (3, .int .i64 0)]) ⟨rfl, rfl, trivial⟩ ⟨0, rfl, hS.pick [] [0] rfl, H⟩ ?_
    rintro k F w1 ⟨y1, rfl, hS, H⟩
    cases k with
    | zero => rw [spec_l07Seen.l1] at H; cases H
    | succ k =>
      rw [spec_l07Seen.l1] at H
      refine CJ.seq ?_
      refine CJ.seq ?_
      refine CJ.region ?_
      refine OJ.pures tU_ok 4 rfl ?_
      refine OJ.nil (EJ.next ?_)
      refine CJ.cond rfl (fun hb => ?_) (fun hb => ?_)
      · replace H := pif_t (of_decide_eq_true hb) H
        refine CJ.skip (EJ.next ?_)
        refine CJ.seq ?_
        refine CJ.block ?_
        refine CJ.seq ?_
        refine CJ.draw [] [0, 1, 2, 3, 4, 5, 6, 7, 8, 9, 10, 11, 12, 13, 14, 15, 16, 17, 18, 19, 20, 21, 22, 23, 24, 25] mixed (by kernel_rfl) hS fun w1 hS => ?_
        refine DJ.pures tU_ok 2 rfl ?_
        obtain ⟨t2, ht2, H⟩ := pbind H
        obtain ⟨ad2, e2⟩ := (hS.rd' (i := 0) rfl).some' ht2
        refine DJ.st rfl rfl rfl rfl rfl (SR.idxS tU_ok tI_ok rfl rfl rfl rfl e2 rfl (getI_some ht2).1) ?_
        refine DJ.st rfl rfl rfl rfl rfl (SR.fieldAddr tU_ok tI_ok rfl rfl rfl rfl rfl rfl) ?_
        refine DJ.st rfl rfl rfl rfl rfl (SR.load rfl rfl (fun w' hx => ld1 tU_ok rfl rfl (CA.ext (CA.sub ((hS.rd' (i := 0) rfl).at_ e2 ht2) 0) hx) rfl)) ?_
        refine DJ.pures tU_ok 1 rfl ?_
        obtain ⟨t3, ht3, H⟩ := pbind H
        refine DJ.callF rfl rfl rfl rfl rfl rfl rfl hb25 rfl (spec_l01Grass.c _ (IntKind.i64.wrap t2.Day) _ ht3) (by rintro v w' ⟨rfl, hs⟩; exact hs) ?_
        rintro _ w1 ⟨rfl, hs⟩
        replace hS := hS.grow hs
        refine DJ.pures tU_ok 2 rfl ?_
        refine DJ.split (t := 18) rfl (fun hb => ?_) (fun hb => ?_)
        · replace H := pif_t hb H
          refine DJ.pures tU_ok 17 rfl ?_
          refine DJ.nil (EJ.next ?_)
          refine CJ.condT rfl ?_
          refine CJ.seq ?_
          refine CJ.region ?_
          refine OJ.pures tU_ok 1 rfl ?_
          refine OJ.nil (EJ.next ?_)
          refine CJ.ret (EJ.bkR (EJ.skR (EJ.skR (EJ.bkR (EJ.skR (EJ.skR (?_)))))))
          first | (obtain rfl := Option.some.inj H; have H := K11) | (obtain ⟨q11, H2, e11⟩ := pbind H; obtain rfl := Option.some.inj e11; obtain rfl := Option.some.inj K11; have H := H2)
          obtain rfl := Option.some.inj H
          exact EJ.fin rfl (.tmp rfl .nil) ⟨rfl, hS.ext⟩
        · replace H := pifb_f hb H
          refine DJ.pures tU_ok 3 rfl ?_
          refine DJ.split (t := 21) rfl (fun hb => ?_) (fun hb => ?_)
          · replace H := pif_t (of_decide_eq_true hb) H
            refine DJ.pures tU_ok 2 rfl ?_
            obtain ⟨t4, ht4, H⟩ := pbind H
            obtain ⟨ad4, e4⟩ := (hS.rd' (i := 0) rfl).some' ht4
            refine DJ.st rfl rfl rfl rfl rfl (SR.idxS tU_ok tI_ok rfl rfl rfl rfl e4 rfl (getI_some ht4).1) ?_
            refine DJ.st rfl rfl rfl rfl rfl (SR.fieldAddr tU_ok tI_ok rfl rfl rfl rfl rfl rfl) ?_
            refine DJ.st rfl rfl rfl rfl rfl (SR.load rfl rfl (fun w' hx => ld1 tU_ok rfl rfl (CA.ext (CA.sub ((hS.rd' (i := 0) rfl).at_ e4 ht4) 0) hx) rfl)) ?_
            refine DJ.pures tU_ok 3 rfl ?_
            obtain ⟨t5, ht5, H⟩ := pbind H
            obtain ⟨ad5, e5⟩ := (hS.rd' (i := 0) rfl).some' ht5
            refine DJ.st rfl rfl rfl rfl rfl (SR.idxS tU_ok tI_ok rfl rfl rfl rfl e5 rfl (getI_some ht5).1) ?_
            refine DJ.st rfl rfl rfl rfl rfl (SR.fieldAddr tU_ok tI_ok rfl rfl rfl rfl rfl rfl) ?_
            refine DJ.st rfl rfl rfl rfl rfl (SR.load rfl rfl (fun w' hx => ld1 tU_ok rfl rfl (CA.ext (CA.sub ((hS.rd' (i := 0) rfl).at_ e5 ht5) 0) hx) rfl)) ?_
            refine DJ.pures tU_ok 3 rfl ?_
            refine DJ.nil (EJ.next ?_)
            refine CJ.cond rfl (fun hb => ?_) (fun hb => ?_)
            · replace H := pif_t (of_decide_eq_true hb) H
              refine CJ.seq ?_
              refine CJ.region ?_
              refine OJ.pures tU_ok 1 rfl ?_
              refine OJ.nil (EJ.next ?_)
              refine CJ.ret (EJ.bkR (EJ.skR (EJ.skR (EJ.bkR (EJ.skR (EJ.skR (?_)))))))
              first | (obtain rfl := Option.some.inj H; have H := K11) | (obtain ⟨q11, H2, e11⟩ := pbind H; obtain rfl := Option.some.inj e11; obtain rfl := Option.some.inj K11; have H := H2)
              obtain rfl := Option.some.inj H
              exact EJ.fin rfl (.tmp rfl .nil) ⟨rfl, hS.ext⟩
            · replace H := pif_f (of_decide_eq_false hb) H
              refine CJ.skip (EJ.blk (EJ.next ?_))
              refine CJ.region ?_
              refine OJ.pures tU_ok 3 rfl ?_
              refine OJ.nil ?_
              exact EJ.round k (F' := [(0, .slice Aa0 a0.length ca0), (3, .int .i64 (IntKind.i64.wrap (y1 + 1)))]) ⟨rfl, rfl, trivial⟩ (Nat.lt_succ_self _) ⟨(IntKind.i64.wrap (y1 + 1)), rfl, hS.pick [] [0] rfl, H⟩
          · replace H := pif_f (of_decide_eq_false hb) H
            refine DJ.pures tU_ok 14 rfl ?_
            refine DJ.nil (EJ.next ?_)
            refine CJ.condF rfl ?_
            refine CJ.skip (EJ.blk (EJ.next ?_))
            refine CJ.region ?_
            refine OJ.pures tU_ok 3 rfl ?_
            refine OJ.nil ?_
            exact EJ.round k (F' := [(0, .slice Aa0 a0.length ca0), (3, .int .i64 (IntKind.i64.wrap (y1 + 1)))]) ⟨rfl, rfl, trivial⟩ (Nat.lt_succ_self _) ⟨(IntKind.i64.wrap (y1 + 1)), rfl, hS.pick [] [0] rfl, H⟩
      · replace H := pif_f (of_decide_eq_false hb) H
        refine CJ.exit (EJ.skE (EJ.skE (EJ.hit (?_))))
        exact EJ.meet (F' := [(0, .slice Aa0 a0.length ca0)]) ⟨rfl, trivial⟩ ⟨H, rfl, hS.pick [] [0] rfl⟩
  · rintro F w1 ⟨he, rfl, hS⟩
    obtain rfl := Option.some.inj he
    have H := K11
    refine EJ.next ?_
    refine CJ.seq ?_
    refine CJ.region ?_
    refine OJ.pures tU_ok 4 rfl ?_
    refine OJ.nil (EJ.next ?_)
    refine CJ.ret (?_)
    obtain rfl := Option.some.inj H
    exact EJ.fin rfl (.tmp rfl .nil) ⟨rfl, hS.ext⟩

def spec_ReadSights.l1 (t2 : List ByteArray) : Nat → (List Sight) → Int → Option ((List Sight × Int) ⊕ (List Sight))
  | 0, _, _ => none
  | k + 1, y9, y12 => if y12 < (t2.length : Int) then ((getI t2 y12).bind fun t13 => (spec_l01Split.f k t13 58).bind fun t14 => if (t14.length : Int) ≠ 2 then (some (Sum.inl (([] : List Sight), 5))) else ((getI t14 1).bind fun t18 => (spec_l01Split.f k t18 44).bind fun t19 => if (t19.length : Int) ≠ 2 then (some (Sum.inl (([] : List Sight), 5))) else ((getI t14 0).bind fun t23 => (spec_l01Number.f k t23).bind fun t24 => (getI t19 0).bind fun t25 => (spec_l01Number.f k t25).bind fun t26 => (getI t19 1).bind fun t27 => (spec_l01Number.f k t27).bind fun t28 => (if (!t24.2) = true then (some true) else (if (!t26.2) = true then (some true) else (if (!t28.2) = true then (some true) else ((spec_l01Grass.f t24.1).bind fun t30 => if (!t30) = true then (some true) else (if 10 ≤ t26.1 then (some true) else (some (decide (10 ≤ t28.1)))))))).bind fun y29 => if y29 = true then (some (Sum.inl (([] : List Sight), 5))) else ((chk (y9.length + ([(⟨IntKind.i16.wrap t24.1, (⟨IntKind.i8.wrap t26.1, IntKind.i8.wrap t28.1⟩ : Spot)⟩ : Sight)] : List Sight).length ≤ 4294967296)).bind fun u33 => spec_ReadSights.l1 t2 k (y9 ++ ([(⟨IntKind.i16.wrap t24.1, (⟨IntKind.i8.wrap t26.1, IntKind.i8.wrap t28.1⟩ : Spot)⟩ : Sight)] : List Sight)) (IntKind.i64.wrap (y12 + 1)))))) else (some (Sum.inr y9))
def spec_ReadSights.f (k : Nat) (a0 : ByteArray) : Option (List Sight × Int) := if a0 = ByteArray.empty then (some (([] : List Sight), 0)) else ((spec_l01Split.f k a0 32).bind fun t2 => if 40 < (t2.length : Int) then (some (([] : List Sight), 5)) else ((spec_ReadSights.l1 t2 k ([] : List Sight) 0).bind fun s2 => match s2 with | .inl r => some r | .inr y6 => (spec_l07Seen.f k y6).bind fun t36 => if (!t36) = true then (some (([] : List Sight), 5)) else (some (y6, 0))))
theorem spec_ReadSights.c (k : Nat) (w : World) (a0 : ByteArray) (r : List Sight × Int) (H : spec_ReadSights.f k a0 = some r) :
    CV Tryd.prog 10 [.string a0].toArray w fun v w' => ∃ (A0 : Option Addr) (c0 : Nat), v = .tuple #[.slice A0 r.1.length c0, .int .i64 r.2] ∧ St w no w' [rowC cSight A0 c0 39 r.1] [] := by
  have hS := (St.init w no)
  unfold spec_ReadSights.f at H
  refine CV.body Tryd.func10 rfl Tryd.ntmps10 rfl ?_
  refine CJ.seq ?_
  refine CJ.region ?_
  refine OJ.pures tU_ok 2 rfl ?_
  refine OJ.nil (EJ.next ?_)
  refine CJ.seq ?_
  refine CJ.region ?_
  refine OJ.ef rfl rfl rfl (Ef.lit tU_ok tI_ok hS (C := cSight) rfl rfl rfl rfl rfl rfl ([] : List Sight) rfl rfl rfl rfl) ?_
  rintro _ w1 ⟨A1, rfl, hS⟩
  refine OJ.pures tU_ok 1 rfl ?_
  refine OJ.nil (EJ.next ?_)
  refine CJ.seq ?_
  refine CJ.seq ?_
  refine CJ.region ?_
  refine OJ.pures tU_ok 2 rfl ?_
  refine OJ.nil (EJ.next ?_)
  refine CJ.cond rfl (fun hb => ?_) (fun hb => ?_)
  · replace H := pif_t (of_decide_eq_true hb) H
    refine CJ.seq ?_
    refine CJ.region ?_
    refine OJ.pures tU_ok 3 rfl ?_
    refine OJ.nil (EJ.next ?_)
    refine CJ.ret (EJ.skR (?_))
    obtain rfl := Option.some.inj H
    exact EJ.fin rfl (.tmp rfl (.tmp rfl .nil)) ⟨A1, (([] : List Sight).length), rfl, hS.pick [0] [] rfl⟩
  · replace H := pif_f (of_decide_eq_false hb) H
    refine CJ.skip (EJ.next ?_)
    refine CJ.seq ?_
    refine CJ.region ?_
    refine OJ.pures tU_ok 1 rfl ?_
    obtain ⟨t2, ht2, H⟩ := pbind H
    refine OJ.callF rfl rfl rfl rfl rfl hb23 rfl (spec_l01Split.c k _ a0 32 _ ht2) ?_
    rintro _ w1 ⟨A3, c4, rfl, hs⟩
    replace hS := hS.addN hs
    refine OJ.pures tU_ok 1 rfl ?_
    refine OJ.nil (EJ.next ?_)
    refine CJ.seq ?_
    refine CJ.seq ?_
    refine CJ.region ?_
    refine OJ.pures tU_ok 3 rfl ?_
    refine OJ.nil (EJ.next ?_)
    refine CJ.cond rfl (fun hb => ?_) (fun hb => ?_)
    · replace H := pif_t (of_decide_eq_true hb) H
      refine CJ.seq ?_
      refine CJ.region ?_
      refine OJ.ef rfl rfl rfl (Ef.lit tU_ok tI_ok hS (C := cSight) rfl rfl rfl rfl rfl rfl ([] : List Sight) rfl rfl rfl rfl) ?_
      rintro _ w1 ⟨A5, rfl, hS⟩
      refine OJ.pures tU_ok 2 rfl ?_
      refine OJ.nil (EJ.next ?_)
      refine CJ.ret (EJ.skR (?_))
      obtain rfl := Option.some.inj H
      exact EJ.fin rfl (.tmp rfl (.tmp rfl .nil)) ⟨A5, (([] : List Sight).length), rfl, hS.pick [2] [] rfl⟩
    · replace H := pif_f (of_decide_eq_false hb) H
      refine CJ.skip (EJ.next ?_)
      refine CJ.seq ?_
      refine CJ.seq ?_
      refine CJ.region ?_
      refine OJ.pures tU_ok 1 rfl ?_
      refine OJ.nil (EJ.next ?_)
      obtain ⟨j2, H, K2⟩ := pbind H
      refine CJ.cut1 (fun F w1 => ∃ (y6 : List Sight) (A7 : Option Addr) (c8 : Nat), (some (Sum.inr y6) : Option ((List Sight × Int) ⊕ (List Sight))) = some j2 ∧ F = [(4, .slice A7 y6.length c8)] ∧ St w no w1 [rowC cSight A7 c8 39 y6] []) ?_ ?_
      · skip
        refine CJ.block ?_
        refine CJ.loop (fun k F w1 => ∃ (y9 : List Sight) (y12 : Int) (A10 : Option Addr) (c11 : Nat), F = [(4, .slice A10 y9.length c11), (5, .slice A3 t2.length c4), (6, .int .i64 y12)] ∧ St w no w1 [rowC cSight A10 c11 39 y9, rowC G.cs A3 c4 9 t2] [] ∧ spec_ReadSights.l1 t2 k y9 y12 = some j2) k (F' := [(4, .slice A1 ([] : List Sight).length (([] : List Sight).length)), (5, .slice A3 t2.length c4), (6, .int .i64 0)]) ⟨rfl, rfl, rfl, trivial⟩ ⟨([] : List Sight), 0, A1, (([] : List Sight).length), rfl, hS.pick [0, 1] [] rfl, H⟩ ?_
        rintro k F w1 ⟨y9, y12, A10, c11, rfl, hS, H⟩
        cases k with
        | zero => rw [spec_ReadSights.l1] at H; cases H
        | succ k =>
          rw [spec_ReadSights.l1] at H
          refine CJ.seq ?_
          refine CJ.seq ?_
          refine CJ.region ?_
          refine OJ.pures tU_ok 4 rfl ?_
          refine OJ.nil (EJ.next ?_)
          refine CJ.cond rfl (fun hb => ?_) (fun hb => ?_)
          · replace H := pif_t (of_decide_eq_true hb) H
            refine CJ.skip (EJ.next ?_)
            refine CJ.seq ?_
            refine CJ.block ?_
            refine CJ.seq ?_
            refine CJ.region ?_
            refine OJ.pures tU_ok 2 rfl ?_
            obtain ⟨t13, ht13, H⟩ := pbind H
            obtain ⟨ad13, e13⟩ := (hS.rd (i := 1) rfl).some' ht13
            refine OJ.st rfl rfl rfl (SR.idxS tU_ok tI_ok rfl rfl rfl rfl e13 rfl (getI_some ht13).1) ?_
            refine OJ.st rfl rfl rfl (SR.load rfl rfl (fun w' hx => ld1 tU_ok rfl rfl (CA.ext ((hS.rd (i := 1) rfl).at_ e13 ht13) hx) rfl)) ?_
            obtain ⟨t14, ht14, H⟩ := pbind H
            refine OJ.callF rfl rfl rfl rfl rfl hb23 rfl (spec_l01Split.c k _ t13 58 _ ht14) ?_
            rintro _ w1 ⟨A15, c16, rfl, hs⟩
            replace hS := hS.addN hs
            refine OJ.pures tU_ok 1 rfl ?_
            refine OJ.nil (EJ.next ?_)
            refine CJ.seq ?_
            refine CJ.seq ?_
            refine CJ.region ?_
            refine OJ.pures tU_ok 3 rfl ?_
            refine OJ.nil (EJ.next ?_)
            refine CJ.cond rfl (fun hb => ?_) (fun hb => ?_)
            · replace H := pif_t (of_decide_eq_true hb) H
              refine CJ.seq ?_
              refine CJ.region ?_
              refine OJ.ef rfl rfl rfl (Ef.lit tU_ok tI_ok hS (C := cSight) rfl rfl rfl rfl rfl rfl ([] : List Sight) rfl rfl rfl rfl) ?_
              rintro _ w1 ⟨A17, rfl, hS⟩
              refine OJ.pures tU_ok 2 rfl ?_
              refine OJ.nil (EJ.next ?_)
              refine CJ.ret (EJ.skR (EJ.bkR (EJ.skR (EJ.skR (EJ.bkR (EJ.skR (EJ.skR (?_))))))))
              first | (obtain rfl := Option.some.inj H; have H := K2) | (obtain ⟨q2, H2, e2⟩ := pbind H; obtain rfl := Option.some.inj e2; obtain rfl := Option.some.inj K2; have H := H2)
              obtain rfl := Option.some.inj H
              exact EJ.fin rfl (.tmp rfl (.tmp rfl .nil)) ⟨A17, (([] : List Sight).length), rfl, hS.pick [3] [] rfl⟩
            · replace H := pif_f (of_decide_eq_false hb) H
              refine CJ.skip (EJ.next ?_)
              refine CJ.seq ?_
              refine CJ.region ?_
              refine OJ.pures tU_ok 1 rfl ?_
              obtain ⟨t18, ht18, H⟩ := pbind H
              obtain ⟨ad18, e18⟩ := (hS.rd (i := 2) rfl).some' ht18
              refine OJ.st rfl rfl rfl (SR.idxS tU_ok tI_ok rfl rfl rfl rfl e18 rfl (getI_some ht18).1) ?_
              refine OJ.st rfl rfl rfl (SR.load rfl rfl (fun w' hx => ld1 tU_ok rfl rfl (CA.ext ((hS.rd (i := 2) rfl).at_ e18 ht18) hx) rfl)) ?_
              obtain ⟨t19, ht19, H⟩ := pbind H
              refine OJ.callF rfl rfl rfl rfl rfl hb23 rfl (spec_l01Split.c k _ t18 44 _ ht19) ?_
              rintro _ w1 ⟨A20, c21, rfl, hs⟩
              replace hS := hS.addN hs
              refine OJ.pures tU_ok 1 rfl ?_
              refine OJ.nil (EJ.next ?_)
              refine CJ.seq ?_
              refine CJ.seq ?_
              refine CJ.region ?_
              refine OJ.pures tU_ok 3 rfl ?_
              refine OJ.nil (EJ.next ?_)
              refine CJ.cond rfl (fun hb => ?_) (fun hb => ?_)
              · replace H := pif_t (of_decide_eq_true hb) H
                refine CJ.seq ?_
                refine CJ.region ?_
                refine OJ.ef rfl rfl rfl (Ef.lit tU_ok tI_ok hS (C := cSight) rfl rfl rfl rfl rfl rfl ([] : List Sight) rfl rfl rfl rfl) ?_
                rintro _ w1 ⟨A22, rfl, hS⟩
                refine OJ.pures tU_ok 2 rfl ?_
                refine OJ.nil (EJ.next ?_)
                refine CJ.ret (EJ.skR (EJ.bkR (EJ.skR (EJ.skR (EJ.bkR (EJ.skR (EJ.skR (?_))))))))
                first | (obtain rfl := Option.some.inj H; have H := K2) | (obtain ⟨q2, H2, e2⟩ := pbind H; obtain rfl := Option.some.inj e2; obtain rfl := Option.some.inj K2; have H := H2)
                obtain rfl := Option.some.inj H
                exact EJ.fin rfl (.tmp rfl (.tmp rfl .nil)) ⟨A22, (([] : List Sight).length), rfl, hS.pick [4] [] rfl⟩
              · replace H := pif_f (of_decide_eq_false hb) H
                refine CJ.skip (EJ.next ?_)
                refine CJ.seq ?_
                refine CJ.region ?_
                refine OJ.pures tU_ok 1 rfl ?_
                obtain ⟨t23, ht23, H⟩ := pbind H
                obtain ⟨ad23, e23⟩ := (hS.rd (i := 2) rfl).some' ht23
                refine OJ.st rfl rfl rfl (SR.idxS tU_ok tI_ok rfl rfl rfl rfl e23 rfl (getI_some ht23).1) ?_
                refine OJ.st rfl rfl rfl (SR.load rfl rfl (fun w' hx => ld1 tU_ok rfl rfl (CA.ext ((hS.rd (i := 2) rfl).at_ e23 ht23) hx) rfl)) ?_
                obtain ⟨t24, ht24, H⟩ := pbind H
                refine OJ.callF rfl rfl rfl rfl rfl hb24 rfl (spec_l01Number.c k _ t23 _ ht24) ?_
                rintro _ w1 ⟨rfl, hs⟩
                replace hS := hS.grow hs
                refine OJ.pures tU_ok 5 rfl ?_
                refine OJ.nil (EJ.next ?_)
                refine CJ.seq ?_
                refine CJ.region ?_
                refine OJ.pures tU_ok 1 rfl ?_
                obtain ⟨t25, ht25, H⟩ := pbind H
                obtain ⟨ad25, e25⟩ := (hS.rd (i := 3) rfl).some' ht25
                refine OJ.st rfl rfl rfl (SR.idxS tU_ok tI_ok rfl rfl rfl rfl e25 rfl (getI_some ht25).1) ?_
                refine OJ.st rfl rfl rfl (SR.load rfl rfl (fun w' hx => ld1 tU_ok rfl rfl (CA.ext ((hS.rd (i := 3) rfl).at_ e25 ht25) hx) rfl)) ?_
                obtain ⟨t26, ht26, H⟩ := pbind H
                refine OJ.callF rfl rfl rfl rfl rfl hb24 rfl (spec_l01Number.c k _ t25 _ ht26) ?_
                rintro _ w1 ⟨rfl, hs⟩
                replace hS := hS.grow hs
                refine OJ.pures tU_ok 5 rfl ?_
                refine OJ.nil (EJ.next ?_)
                refine CJ.seq ?_
                refine CJ.region ?_
                refine OJ.pures tU_ok 1 rfl ?_
                obtain ⟨t27, ht27, H⟩ := pbind H
                obtain ⟨ad27, e27⟩ := (hS.rd (i := 3) rfl).some' ht27
                refine OJ.st rfl rfl rfl (SR.idxS tU_ok tI_ok rfl rfl rfl rfl e27 rfl (getI_some ht27).1) ?_
                refine OJ.st rfl rfl rfl (SR.load rfl rfl (fun w' hx => ld1 tU_ok rfl rfl (CA.ext ((hS.rd (i := 3) rfl).at_ e27 ht27) hx) rfl)) ?_
                obtain ⟨t28, ht28, H⟩ := pbind H
                refine OJ.callF rfl rfl rfl rfl rfl hb24 rfl (spec_l01Number.c k _ t27 _ ht28) ?_
                rintro _ w1 ⟨rfl, hs⟩
                replace hS := hS.grow hs
                refine OJ.pures tU_ok 5 rfl ?_
                refine OJ.nil (EJ.next ?_)
                refine CJ.seq ?_
                obtain ⟨j10, H, K10⟩ := pbind H
                refine CJ.cut (fun F w1 => ∃ (y29 : Bool) , (some y29 : Option Bool) = some j10 ∧ F = [(4, .slice A10 y9.length c11), (5, .slice A3 t2.length c4), (6, .int .i64 y12), (9, .int .i64 t24.1), (11, .int .i64 t26.1), (13, .int .i64 t28.1), (91, .bool y29)] ∧ St w no w1 [rowC cSight A10 c11 39 y9, rowC G.cs A3 c4 9 t2] []) ?_ ?_
                · skip
                  refine CJ.region ?_
                  refine OJ.pures tU_ok 3 rfl ?_
                  refine OJ.split (t := 71) rfl (fun hb => ?_) (fun hb => ?_)
                  · replace H := pif_t hb H
                    refine OJ.pures tU_ok 20 rfl ?_
                    refine OJ.nil ?_
                    exact EJ.meet (F' := [(4, .slice A10 y9.length c11), (5, .slice A3 t2.length c4), (6, .int .i64 y12), (9, .int .i64 t24.1), (11, .int .i64 t26.1), (13, .int .i64 t28.1), (91, .bool true)]) ⟨rfl, rfl, rfl, rfl, rfl, rfl, rfl, trivial⟩ ⟨true, H, rfl, hS.pick [0, 1] [] rfl⟩
                  · replace H := pifb_f hb H
                    refine OJ.pures tU_ok 4 rfl ?_
                    refine OJ.split (t := 75) rfl (fun hb => ?_) (fun hb => ?_)
                    · replace H := pif_t hb H
                      refine OJ.pures tU_ok 16 rfl ?_
                      refine OJ.nil ?_
                      exact EJ.meet (F' := [(4, .slice A10 y9.length c11), (5, .slice A3 t2.length c4), (6, .int .i64 y12), (9, .int .i64 t24.1), (11, .int .i64 t26.1), (13, .int .i64 t28.1), (91, .bool true)]) ⟨rfl, rfl, rfl, rfl, rfl, rfl, rfl, trivial⟩ ⟨true, H, rfl, hS.pick [0, 1] [] rfl⟩
                    · replace H := pifb_f hb H
                      refine OJ.pures tU_ok 4 rfl ?_
                      refine OJ.split (t := 79) rfl (fun hb => ?_) (fun hb => ?_)
                      · replace H := pif_t hb H
                        refine OJ.pures tU_ok 12 rfl ?_
                        refine OJ.nil ?_
                        exact EJ.meet (F' := [(4, .slice A10 y9.length c11), (5, .slice A3 t2.length c4), (6, .int .i64 y12), (9, .int .i64 t24.1), (11, .int .i64 t26.1), (13, .int .i64 t28.1), (91, .bool true)]) ⟨rfl, rfl, rfl, rfl, rfl, rfl, rfl, trivial⟩ ⟨true, H, rfl, hS.pick [0, 1] [] rfl⟩
                      · replace H := pifb_f hb H
                        refine OJ.pures tU_ok 1 rfl ?_
                        obtain ⟨t30, ht30, H⟩ := pbind H
                        refine OJ.callF rfl rfl rfl rfl rfl hb25 rfl (spec_l01Grass.c _ t24.1 _ ht30) ?_
                        rintro _ w1 ⟨rfl, hs⟩
                        replace hS := hS.grow hs
                        refine OJ.pures tU_ok 3 rfl ?_
                        refine OJ.split (t := 84) rfl (fun hb => ?_) (fun hb => ?_)
                        · replace H := pif_t hb H
                          refine OJ.pures tU_ok 7 rfl ?_
                          refine OJ.nil ?_
                          exact EJ.meet (F' := [(4, .slice A10 y9.length c11), (5, .slice A3 t2.length c4), (6, .int .i64 y12), (9, .int .i64 t24.1), (11, .int .i64 t26.1), (13, .int .i64 t28.1), (91, .bool true)]) ⟨rfl, rfl, rfl, rfl, rfl, rfl, rfl, trivial⟩ ⟨true, H, rfl, hS.pick [0, 1] [] rfl⟩
                        · replace H := pifb_f hb H
                          refine OJ.pures tU_ok 4 rfl ?_
                          refine OJ.split (t := 88) rfl (fun hb => ?_) (fun hb => ?_)
                          · replace H := pif_t (of_decide_eq_true hb) H
                            refine OJ.pures tU_ok 3 rfl ?_
                            refine OJ.nil ?_
                            exact EJ.meet (F' := [(4, .slice A10 y9.length c11), (5, .slice A3 t2.length c4), (6, .int .i64 y12), (9, .int .i64 t24.1), (11, .int .i64 t26.1), (13, .int .i64 t28.1), (91, .bool true)]) ⟨rfl, rfl, rfl, rfl, rfl, rfl, rfl, trivial⟩ ⟨true, H, rfl, hS.pick [0, 1] [] rfl⟩
                          · replace H := pif_f (of_decide_eq_false hb) H
                            refine OJ.pures tU_ok 3 rfl ?_
                            refine OJ.nil ?_
                            exact EJ.meet (F' := [(4, .slice A10 y9.length c11), (5, .slice A3 t2.length c4), (6, .int .i64 y12), (9, .int .i64 t24.1), (11, .int .i64 t26.1), (13, .int .i64 t28.1), (91, .bool (decide (10 ≤ t28.1)))]) ⟨rfl, rfl, rfl, rfl, rfl, rfl, rfl, trivial⟩ ⟨(decide (10 ≤ t28.1)), H, rfl, hS.pick [0, 1] [] rfl⟩
                · rintro F w1 ⟨y29, he, rfl, hS⟩
                  obtain rfl := Option.some.inj he
                  have H := K10
                  refine CJ.cond rfl (fun hb => ?_) (fun hb => ?_)
                  · replace H := pif_t hb H
                    refine CJ.seq ?_
                    refine CJ.region ?_
                    refine OJ.ef rfl rfl rfl (Ef.lit tU_ok tI_ok hS (C := cSight) rfl rfl rfl rfl rfl rfl ([] : List Sight) rfl rfl rfl rfl) ?_
                    rintro _ w1 ⟨A31, rfl, hS⟩
                    refine OJ.pures tU_ok 2 rfl ?_
                    refine OJ.nil (EJ.next ?_)
                    refine CJ.ret (EJ.skR (EJ.bkR (EJ.skR (EJ.skR (EJ.bkR (EJ.skR (EJ.skR (?_))))))))
                    first | (obtain rfl := Option.some.inj H; have H := K2) | (obtain ⟨q2, H2, e2⟩ := pbind H; obtain rfl := Option.some.inj e2; obtain rfl := Option.some.inj K2; have H := H2)
                    obtain rfl := Option.some.inj H
                    exact EJ.fin rfl (.tmp rfl (.tmp rfl .nil)) ⟨A31, (([] : List Sight).length), rfl, hS.pick [2] [] rfl⟩
                  · replace H := pifb_f hb H
                    refine CJ.skip (EJ.next ?_)
                    refine CJ.region ?_
                    refine OJ.pures tU_ok 7 rfl ?_
                    refine OJ.st rfl rfl rfl (SR.build (C := cSpot) tU_ok tI_ok rfl rfl rfl (zs := [.int .i8 0, .int .i8 0]) rfl rfl rfl (⟨IntKind.i8.wrap t26.1, IntKind.i8.wrap t28.1⟩ : Spot) rfl) ?_
                    refine OJ.st rfl rfl rfl (SR.build (C := cSight) tU_ok tI_ok rfl rfl rfl (zs := [.int .i16 0, .int .i8 0, .int .i8 0]) rfl rfl rfl (⟨IntKind.i16.wrap t24.1, (⟨IntKind.i8.wrap t26.1, IntKind.i8.wrap t28.1⟩ : Spot)⟩ : Sight) rfl) ?_
                    refine OJ.ef rfl rfl rfl (Ef.lit tU_ok tI_ok hS (C := cSight) rfl rfl rfl rfl rfl rfl ([(⟨IntKind.i16.wrap t24.1, (⟨IntKind.i8.wrap t26.1, IntKind.i8.wrap t28.1⟩ : Spot)⟩ : Sight)] : List Sight) rfl rfl rfl rfl) ?_
                    rintro _ w1 ⟨A32, rfl, hS⟩
                    obtain ⟨u33, hu33, H⟩ := pbind H
                    refine OJ.ew rfl rfl rfl (Ew.append tU_ok tI_ok (C := cSight) (xs := y9) (ys := ([(⟨IntKind.i16.wrap t24.1, (⟨IntKind.i8.wrap t26.1, IntKind.i8.wrap t28.1⟩ : Spot)⟩ : Sight)] : List Sight)) hS (i := 0) rfl rfl rfl rfl rfl rfl rfl rfl rfl rfl rfl rfl rfl (hS.rd (i := 2) rfl) (chk_some hu33)) ?_
                    rintro _ w1 ⟨A34, c35, rfl, hS⟩
                    refine OJ.pures tU_ok 1 rfl ?_
                    refine OJ.nil (EJ.blk (EJ.next ?_))
                    refine CJ.region ?_
                    refine OJ.pures tU_ok 3 rfl ?_
                    refine OJ.nil ?_
                    exact EJ.round k (F' := [(4, .slice A34 (y9 ++ ([(⟨IntKind.i16.wrap t24.1, (⟨IntKind.i8.wrap t26.1, IntKind.i8.wrap t28.1⟩ : Spot)⟩ : Sight)] : List Sight)).length c35), (5, .slice A3 t2.length c4), (6, .int .i64 (IntKind.i64.wrap (y12 + 1)))]) ⟨rfl, rfl, rfl, trivial⟩ (Nat.lt_succ_self _) ⟨(y9 ++ ([(⟨IntKind.i16.wrap t24.1, (⟨IntKind.i8.wrap t26.1, IntKind.i8.wrap t28.1⟩ : Spot)⟩ : Sight)] : List Sight)), (IntKind.i64.wrap (y12 + 1)), A34, c35, rfl, hS.pick [0, 1] [] rfl, H⟩
          · replace H := pif_f (of_decide_eq_false hb) H
            refine CJ.exit (EJ.skE (EJ.skE (EJ.hit (?_))))
            exact EJ.meet (F' := [(4, .slice A10 y9.length c11)]) ⟨rfl, trivial⟩ ⟨y9, A10, c11, H, rfl, hS.pick [0] [] rfl⟩
      · rintro F w1 ⟨y6, A7, c8, he, rfl, hS⟩
        obtain rfl := Option.some.inj he
        have H := K2
        refine EJ.next ?_
        refine CJ.seq ?_
        refine CJ.seq ?_
        refine CJ.region ?_
        refine OJ.pures tU_ok 1 rfl ?_
        obtain ⟨t36, ht36, H⟩ := pbind H
        refine OJ.callF rfl rfl rfl rfl rfl hb15 rfl (spec_l07Seen.c k _ A7 c8 y6 (hS.rd (i := 0) rfl) (hS.le (i := 0) rfl) _ ht36) ?_
        rintro _ w1 ⟨rfl, hs⟩
        replace hS := hS.grow hs
        refine OJ.pures tU_ok 1 rfl ?_
        refine OJ.nil (EJ.next ?_)
        refine CJ.cond rfl (fun hb => ?_) (fun hb => ?_)
        · replace H := pif_t hb H
          refine CJ.seq ?_
          refine CJ.region ?_
          refine OJ.ef rfl rfl rfl (Ef.lit tU_ok tI_ok hS (C := cSight) rfl rfl rfl rfl rfl rfl ([] : List Sight) rfl rfl rfl rfl) ?_
          rintro _ w1 ⟨A37, rfl, hS⟩
          refine OJ.pures tU_ok 2 rfl ?_
          refine OJ.nil (EJ.next ?_)
          refine CJ.ret (EJ.skR (?_))
          obtain rfl := Option.some.inj H
          exact EJ.fin rfl (.tmp rfl (.tmp rfl .nil)) ⟨A37, (([] : List Sight).length), rfl, hS.pick [1] [] rfl⟩
        · replace H := pifb_f hb H
          refine CJ.skip (EJ.next ?_)
          refine CJ.seq ?_
          refine CJ.region ?_
          refine OJ.pures tU_ok 3 rfl ?_
          refine OJ.nil (EJ.next ?_)
          refine CJ.ret (?_)
          obtain rfl := Option.some.inj H
          exact EJ.fin rfl (.tmp rfl (.tmp rfl .nil)) ⟨A7, c8, rfl, hS.pick [0] [] rfl⟩

def strings_Split.f (a0 : ByteArray) (a1 : ByteArray) : Option (List ByteArray) := (chk (a0.size < 4294967281 ∧ 1 ≤ a1.size)).bind fun _ => some (splitS a0 a1)
theorem strings_Split.c (w : World) (a0 : ByteArray) (a1 : ByteArray) (hT : (envC Tryd.prog 0).holds w) (r : List ByteArray) (H : strings_Split.f a0 a1 = some r) :
    CV Tryd.prog 26 [.string a0, .string a1].toArray w fun v w' => ∃ (A0 : Option Addr) (c0 : Nat), v = .slice A0 r.length c0 ∧ St w no w' [rowC G.cs A0 c0 9 r] [] := by
  unfold strings_Split.f at H
  obtain ⟨u, hu, H⟩ := pbind H
  have h := chk_some hu
  obtain rfl := Option.some.inj H
  exact split_cv hT (fun s sep m w h1 h2 h3 => Any.strings_Split { laySplit with } laySplit.i9 s sep m w h1 h2 h3) h.1 h.2

def strings_Cut.f (a0 : ByteArray) (a1 : ByteArray) : Option (ByteArray × ByteArray × Bool) := (chk (a0.size < 4294967281)).bind fun _ => some (cutS a0 a1)
theorem strings_Cut.c (w : World) (a0 : ByteArray) (a1 : ByteArray) (hT : (envC Tryd.prog 0).holds w) (r : ByteArray × ByteArray × Bool) (H : strings_Cut.f a0 a1 = some r) :
    CV Tryd.prog 27 [.string a0, .string a1].toArray w fun v w' => v = .tuple #[.string r.1, .string r.2.1, .bool r.2.2] ∧ Ext w w' := by
  unfold strings_Cut.f at H
  obtain ⟨u, hu, H⟩ := pbind H
  obtain rfl := Option.some.inj H
  exact cut_cv hT (fun s sep m w h1 h2 => Any.strings_Cut layCut s sep m w h1 h2) (chk_some hu)

def strconv_ParseInt.f (a0 : ByteArray) (a1 : Int) (a2 : Int) : Option (Int × Bool) := (chk (a0.size ≤ 4294967296 ∧ a1 = 10 ∧ a2 = 64)).bind fun _ => some (parseI a0)
theorem strconv_ParseInt.c (w : World) (a0 : ByteArray) (a1 : Int) (a2 : Int) (hT : (envC Tryd.prog 0).holds w) (r : Int × Bool) (H : strconv_ParseInt.f a0 a1 a2 = some r) :
    CV Tryd.prog 42 [.string a0, .int .i64 a1, .int .i64 a2].toArray w fun v w' => ∃ t q, v = .tuple #[.int .i64 r.1, errV r.2 t q] ∧ Ext w w' := by
  unfold strconv_ParseInt.f at H
  obtain ⟨u, hu, H⟩ := pbind H
  have h := chk_some hu
  obtain rfl := Option.some.inj H
  obtain ⟨h, rfl, rfl⟩ := h
  exact parse_cv hT (fun s h v hp w => (Any.strconv_ParseInt_10_at64_ok layParse s h v hp w).mono fun e w' ⟨he, hw⟩ => ⟨he, bytes_ext hw⟩)
    (fun s h hp tp p w hv => (Any.strconv_ParseInt_10_at64_syntax_var layParse s h hp tp p w hv).mono fun e w' ⟨N, he, _, _, hb⟩ => ⟨⟨_, _, he⟩, below_ext hb⟩)
    (fun s h hp tp p w hv => (Any.strconv_ParseInt_10_at64_range_var layParse s h hp tp p w hv).mono fun e w' ⟨N, he, _, _, hb⟩ => ⟨⟨_, _, he⟩, below_ext hb⟩) h

def strconv_FormatInt.f (a0 : Int) (a1 : Int) : Option ByteArray := (chk (a1 = 10 ∧ -9223372036854775808 ≤ a0 ∧ a0 ≤ 9223372036854775807)).bind fun _ => some (itoaB a0)
theorem strconv_FormatInt.c (w : World) (a0 : Int) (a1 : Int) (hT : (envC Tryd.prog 0).holds w) (r : ByteArray) (H : strconv_FormatInt.f a0 a1 = some r) :
    CV Tryd.prog 35 [.int .i64 a0, .int .i64 a1].toArray w fun v w' => v = .string r ∧ Ext w w' := by
  unfold strconv_FormatInt.f at H
  obtain ⟨u, hu, H⟩ := pbind H
  have h := chk_some hu
  obtain rfl := Option.some.inj H
  obtain ⟨rfl, h0, h1⟩ := h
  exact fmt_cv hT.1 h0 h1 (fun n h0 h1 w ht => Any.strconv_FormatInt_10 layFmt n h0 h1 w ht)

def impl_decimal.f (a0 : Int) : Option ByteArray := (strconv_FormatInt.f a0 10).bind fun t1 => some t1
theorem impl_decimal.c (w : World) (a0 : Int) (hT : (envC Tryd.prog 0).holds w) (r : ByteArray) (H : impl_decimal.f a0 = some r) :
    CV Tryd.prog 19 [.int .i64 a0].toArray w fun v w' => v = .string r ∧ Ext w w' := by
  have hS := ((St.init w no).paramT (envC Tryd.prog 0) hT)
  unfold impl_decimal.f at H
  refine CV.body Tryd.func19 rfl Tryd.ntmps19 rfl ?_
  refine CJ.seq ?_
  refine CJ.region ?_
  refine OJ.pures tU_ok 1 rfl ?_
  refine OJ.nil (EJ.next ?_)
  refine CJ.seq ?_
  refine CJ.region ?_
  refine OJ.pures tU_ok 1 rfl ?_
  obtain ⟨t1, ht1, H⟩ := pbind H
  refine OJ.callF rfl rfl rfl rfl rfl hb35 rfl (strconv_FormatInt.c _ a0 10 (hS.ro (i := 0) rfl) _ ht1) ?_
  rintro _ w1 ⟨rfl, hs⟩
  replace hS := hS.grow hs
  refine OJ.pures tU_ok 1 rfl ?_
  refine OJ.nil (EJ.next ?_)
  refine CJ.ret (?_)
  obtain rfl := Option.some.inj H
  exact EJ.fin rfl (.tmp rfl .nil) ⟨rfl, hS.ext⟩

def impl_within.f (a0 : Int) (a1 : Int) (a2 : Int) : Option Bool := if a1 ≤ a0 then (some (decide (a0 ≤ a2))) else (some false)
theorem impl_within.c (w : World) (a0 : Int) (a1 : Int) (a2 : Int) (r : Bool) (H : impl_within.f a0 a1 a2 = some r) :
    CV Tryd.prog 33 [.int .i64 a0, .int .i64 a1, .int .i64 a2].toArray w fun v w' => v = .bool r ∧ Ext w w' := by
  have hS := (St.init w no)
  unfold impl_within.f at H
  refine CV.body Tryd.func33 rfl Tryd.ntmps33 rfl ?_
  refine CJ.seq ?_
  refine CJ.region ?_
  refine OJ.pures tU_ok 1 rfl ?_
  refine OJ.nil (EJ.next ?_)
  refine CJ.seq ?_
  refine CJ.region ?_
  refine OJ.pures tU_ok 4 rfl ?_
  refine OJ.split (t := 10) rfl (fun hb => ?_) (fun hb => ?_)
  · replace H := pif_t (of_decide_eq_true hb) H
    refine OJ.pures tU_ok 5 rfl ?_
    refine OJ.nil (EJ.next ?_)
    refine CJ.ret (?_)
    obtain rfl := Option.some.inj H
    exact EJ.fin rfl (.tmp rfl .nil) ⟨rfl, hS.ext⟩
  · replace H := pif_f (of_decide_eq_false hb) H
    refine OJ.pures tU_ok 5 rfl ?_
    refine OJ.nil (EJ.next ?_)
    refine CJ.ret (?_)
    obtain rfl := Option.some.inj H
    exact EJ.fin rfl (.tmp rfl .nil) ⟨rfl, hS.ext⟩

def impl_number.f (a0 : ByteArray) (a1 : Int) : Option (Int × Bool) := (strconv_ParseInt.f a0 10 64).bind fun t1 => if t1.2 = true then (some (0, false)) else ((impl_decimal.f t1.1).bind fun t4 => if t4 ≠ a0 then (some (0, false)) else ((impl_within.f t1.1 0 a1).bind fun t5 => if (!t5) = true then (some (0, false)) else (some (t1.1, true))))
theorem impl_number.c (w : World) (a0 : ByteArray) (a1 : Int) (hT : (envC Tryd.prog 0).holds w) (r : Int × Bool) (H : impl_number.f a0 a1 = some r) :
    CV Tryd.prog 28 [.string a0, .int .i64 a1].toArray w fun v w' => v = .tuple #[.int .i64 r.1, .bool r.2] ∧ Ext w w' := by
  have hS := ((St.init w no).paramT (envC Tryd.prog 0) hT)
  unfold impl_number.f at H
  refine CV.body Tryd.func28 rfl Tryd.ntmps28 rfl ?_
  refine CJ.seq ?_
  refine CJ.region ?_
  refine OJ.pures tU_ok 2 rfl ?_
  refine OJ.nil (EJ.next ?_)
  refine CJ.seq ?_
  refine CJ.region ?_
  refine OJ.pures tU_ok 1 rfl ?_
  obtain ⟨t1, ht1, H⟩ := pbind H
  refine OJ.callF rfl rfl rfl rfl rfl hb42 rfl (strconv_ParseInt.c _ a0 10 64 (hS.ro (i := 0) rfl) _ ht1) ?_
  rintro _ w1 ⟨t2, q3, rfl, hs⟩
  replace hS := hS.grow hs
  refine OJ.pures tU_ok 5 rfl ?_
  refine OJ.nil (EJ.next ?_)
  refine CJ.seq ?_
  refine CJ.seq ?_
  refine CJ.region ?_
  refine OJ.pures tU_ok 1 rfl ?_
  refine OJ.st rfl rfl rfl (SR.neErr (by kernel_rfl) rfl rfl) ?_
  refine OJ.pures tU_ok 1 rfl ?_
  refine OJ.split (t := 15) rfl (fun hb => ?_) (fun hb => ?_)
  · replace H := pif_t hb H
    refine OJ.pures tU_ok 11 rfl ?_
    refine OJ.nil (EJ.next ?_)
    refine CJ.condT rfl ?_
    refine CJ.seq ?_
    refine CJ.region ?_
    refine OJ.pures tU_ok 2 rfl ?_
    refine OJ.nil (EJ.next ?_)
    refine CJ.ret (EJ.skR (?_))
    obtain rfl := Option.some.inj H
    exact EJ.fin rfl (.tmp rfl (.tmp rfl .nil)) ⟨rfl, hS.ext⟩
  · replace H := pifb_f hb H
    refine OJ.pures tU_ok 1 rfl ?_
    obtain ⟨t4, ht4, H⟩ := pbind H
    refine OJ.callF rfl rfl rfl rfl rfl hb19 rfl (impl_decimal.c _ t1.1 (hS.ro (i := 0) rfl) _ ht4) ?_
    rintro _ w1 ⟨rfl, hs⟩
    replace hS := hS.grow hs
    refine OJ.pures tU_ok 4 rfl ?_
    refine OJ.split (t := 21) rfl (fun hb => ?_) (fun hb => ?_)
    · replace H := pif_t (of_decide_eq_true hb) H
      refine OJ.pures tU_ok 5 rfl ?_
      refine OJ.nil (EJ.next ?_)
      refine CJ.condT rfl ?_
      refine CJ.seq ?_
      refine CJ.region ?_
      refine OJ.pures tU_ok 2 rfl ?_
      refine OJ.nil (EJ.next ?_)
      refine CJ.ret (EJ.skR (?_))
      obtain rfl := Option.some.inj H
      exact EJ.fin rfl (.tmp rfl (.tmp rfl .nil)) ⟨rfl, hS.ext⟩
    · replace H := pif_f (of_decide_eq_false hb) H
      refine OJ.pures tU_ok 2 rfl ?_
      obtain ⟨t5, ht5, H⟩ := pbind H
      refine OJ.callF rfl rfl rfl rfl rfl hb33 rfl (impl_within.c _ t1.1 0 a1 _ ht5) ?_
      rintro _ w1 ⟨rfl, hs⟩
      replace hS := hS.grow hs
      refine OJ.pures tU_ok 2 rfl ?_
      refine OJ.nil (EJ.next ?_)
      refine CJ.cond rfl (fun hb => ?_) (fun hb => ?_)
      · replace H := pif_t hb H
        refine CJ.seq ?_
        refine CJ.region ?_
        refine OJ.pures tU_ok 2 rfl ?_
        refine OJ.nil (EJ.next ?_)
        refine CJ.ret (EJ.skR (?_))
        obtain rfl := Option.some.inj H
        exact EJ.fin rfl (.tmp rfl (.tmp rfl .nil)) ⟨rfl, hS.ext⟩
      · replace H := pifb_f hb H
        refine CJ.skip (EJ.next ?_)
        refine CJ.seq ?_
        refine CJ.region ?_
        refine OJ.pures tU_ok 3 rfl ?_
        refine OJ.nil (EJ.next ?_)
        refine CJ.ret (?_)
        obtain rfl := Option.some.inj H
        exact EJ.fin rfl (.tmp rfl (.tmp rfl .nil)) ⟨rfl, hS.ext⟩

def impl_readSpot.f (a0 : ByteArray) : Option (Spot × Bool) := (strings_Cut.f a0 (⟨#[44]⟩ : ByteArray)).bind fun t2 => (impl_number.f t2.1 9).bind fun t3 => (impl_number.f t2.2.1 9).bind fun t4 => if t2.2.2 = true then (if t3.2 = true then (some ((⟨IntKind.i8.wrap t3.1, IntKind.i8.wrap t4.1⟩ : Spot), t4.2)) else (some ((⟨IntKind.i8.wrap t3.1, IntKind.i8.wrap t4.1⟩ : Spot), false))) else (some ((⟨IntKind.i8.wrap t3.1, IntKind.i8.wrap t4.1⟩ : Spot), false))
theorem impl_readSpot.c (w : World) (a0 : ByteArray) (hT : (envC Tryd.prog 0).holds w) (r : Spot × Bool) (H : impl_readSpot.f a0 = some r) :
    CV Tryd.prog 29 [.string a0].toArray w fun v w' => v = .tuple #[.agg (cSpot.enc r.1).toArray, .bool r.2] ∧ Ext w w' := by
  have hS := ((St.init w no).paramT (envC Tryd.prog 0) hT)
  unfold impl_readSpot.f at H
  refine CV.body Tryd.func29 rfl Tryd.ntmps29 rfl ?_
  refine CJ.seq ?_
  refine CJ.region ?_
  refine OJ.ef rfl rfl rfl (Ef.alloc hS tI_ok rfl rfl (cSpot.enc (⟨0, 0⟩ : Spot)) rfl) ?_
  rintro _ w1 ⟨b1, rfl, hS⟩
  refine OJ.pures tU_ok 1 rfl ?_
  refine OJ.nil (EJ.next ?_)
  refine CJ.seq ?_
  refine CJ.region ?_
  refine OJ.pures tU_ok 1 rfl ?_
  obtain ⟨t2, ht2, H⟩ := pbind H
  refine OJ.callF rfl rfl rfl rfl rfl hb27 rfl (strings_Cut.c _ a0 (⟨#[44]⟩ : ByteArray) (hS.ro (i := 0) rfl) _ ht2) ?_
  rintro _ w1 ⟨rfl, hs⟩
  replace hS := hS.grow hs
  refine OJ.pures tU_ok 7 rfl ?_
  refine OJ.nil (EJ.next ?_)
  refine CJ.seq ?_
  refine CJ.region ?_
  refine OJ.pures tU_ok 1 rfl ?_
  obtain ⟨t3, ht3, H⟩ := pbind H
  refine OJ.callF rfl rfl rfl rfl rfl hb28 rfl (impl_number.c _ t2.1 9 (hS.ro (i := 0) rfl) _ ht3) ?_
  rintro _ w1 ⟨rfl, hs⟩
  replace hS := hS.grow hs
  refine OJ.pures tU_ok 5 rfl ?_
  refine OJ.nil (EJ.next ?_)
  refine CJ.seq ?_
  refine CJ.region ?_
  refine OJ.pures tU_ok 1 rfl ?_
  obtain ⟨t4, ht4, H⟩ := pbind H
  refine OJ.callF rfl rfl rfl rfl rfl hb28 rfl (impl_number.c _ t2.2.1 9 (hS.ro (i := 0) rfl) _ ht4) ?_
  rintro _ w1 ⟨rfl, hs⟩
  replace hS := hS.grow hs
  refine OJ.pures tU_ok 5 rfl ?_
  refine OJ.nil (EJ.next ?_)
  refine CJ.seq ?_
  refine CJ.region ?_
  refine OJ.pures tU_ok 4 rfl ?_
  refine OJ.st rfl rfl rfl (SR.build (C := cSpot) tU_ok tI_ok rfl rfl rfl (zs := [.int .i8 0, .int .i8 0]) rfl rfl rfl (⟨IntKind.i8.wrap t3.1, IntKind.i8.wrap t4.1⟩ : Spot) rfl) ?_
  refine OJ.pures tU_ok 2 rfl ?_
  refine OJ.split (t := 33) rfl (fun hb => ?_) (fun hb => ?_)
  · replace H := pif_t hb H
    refine OJ.pures tU_ok 3 rfl ?_
    refine OJ.split (t := 36) rfl (fun hb => ?_) (fun hb => ?_)
    · replace H := pif_t hb H
      refine OJ.pures tU_ok 2 rfl ?_
      refine OJ.es rfl rfl (Es.store tI_ok hS (i := 0) rfl rfl rfl rfl rfl rfl (vs := cSpot.enc (⟨IntKind.i8.wrap t3.1, IntKind.i8.wrap t4.1⟩ : Spot)) rfl (cSpot.len _) (cSpot.one _) (Nat.le_of_ble_eq_true rfl) (cSpot.enc (⟨IntKind.i8.wrap t3.1, IntKind.i8.wrap t4.1⟩ : Spot)) rfl) ?_
      intro w1 hS
      refine OJ.pures tU_ok 1 rfl ?_
      refine OJ.nil (EJ.next ?_)
      refine CJ.ret (?_)
      obtain rfl := Option.some.inj H
      exact EJ.fin rfl (.cell rfl (ldE tU_ok tI_ok rfl rfl rfl (hS.cells (i := 0) rfl) rfl) (.tmp rfl .nil)) ⟨rfl, hS.ext⟩
    · replace H := pifb_f hb H
      refine OJ.pures tU_ok 2 rfl ?_
      refine OJ.es rfl rfl (Es.store tI_ok hS (i := 0) rfl rfl rfl rfl rfl rfl (vs := cSpot.enc (⟨IntKind.i8.wrap t3.1, IntKind.i8.wrap t4.1⟩ : Spot)) rfl (cSpot.len _) (cSpot.one _) (Nat.le_of_ble_eq_true rfl) (cSpot.enc (⟨IntKind.i8.wrap t3.1, IntKind.i8.wrap t4.1⟩ : Spot)) rfl) ?_
      intro w1 hS
      refine OJ.pures tU_ok 1 rfl ?_
      refine OJ.nil (EJ.next ?_)
      refine CJ.ret (?_)
      obtain rfl := Option.some.inj H
      exact EJ.fin rfl (.cell rfl (ldE tU_ok tI_ok rfl rfl rfl (hS.cells (i := 0) rfl) rfl) (.tmp rfl .nil)) ⟨rfl, hS.ext⟩
  · replace H := pifb_f hb H
    refine OJ.pures tU_ok 5 rfl ?_
    refine OJ.es rfl rfl (Es.store tI_ok hS (i := 0) rfl rfl rfl rfl rfl rfl (vs := cSpot.enc (⟨IntKind.i8.wrap t3.1, IntKind.i8.wrap t4.1⟩ : Spot)) rfl (cSpot.len _) (cSpot.one _) (Nat.le_of_ble_eq_true rfl) (cSpot.enc (⟨IntKind.i8.wrap t3.1, IntKind.i8.wrap t4.1⟩ : Spot)) rfl) ?_
    intro w1 hS
    refine OJ.pures tU_ok 1 rfl ?_
    refine OJ.nil (EJ.next ?_)
    refine CJ.ret (?_)
    obtain rfl := Option.some.inj H
    exact EJ.fin rfl (.cell rfl (ldE tU_ok tI_ok rfl rfl rfl (hS.cells (i := 0) rfl) rfl) (.tmp rfl .nil)) ⟨rfl, hS.ext⟩

def impl_Pasture_isCell.f (a0 : Pasture) (a1 : Spot) : Option Bool := (impl_within.f (IntKind.i64.wrap a1.X) 0 (IntKind.i64.wrap ((if 10 < (IntKind.i64.wrap a0.Wide) then 10 else (IntKind.i64.wrap a0.Wide)) - 1))).bind fun t3 => if t3 = true then ((impl_within.f (IntKind.i64.wrap a1.Y) 0 (IntKind.i64.wrap ((if 10 < (IntKind.i64.wrap a0.High) then 10 else (IntKind.i64.wrap a0.High)) - 1))).bind fun t4 => some t4) else (some false)
theorem impl_Pasture_isCell.c (w : World) (a0 : Pasture) (a1 : Spot) (r : Bool) (H : impl_Pasture_isCell.f a0 a1 = some r) :
    CV Tryd.prog 34 [.agg (cPasture.enc a0).toArray, .agg (cSpot.enc a1).toArray].toArray w fun v w' => v = .bool r ∧ Ext w w' := by
  have hS := (St.init w no)
  unfold impl_Pasture_isCell.f at H
  refine CV.body Tryd.func34 rfl Tryd.ntmps34 rfl ?_
  refine CJ.seq ?_
  refine CJ.region ?_
  refine OJ.ef rfl rfl rfl (Ef.box hS rfl rfl (cPasture.enc a0) rfl) ?_
  rintro _ w1 ⟨b1, rfl, hS⟩
  refine OJ.ef rfl rfl rfl (Ef.box hS rfl rfl (cSpot.enc a1) rfl) ?_
  rintro _ w1 ⟨b2, rfl, hS⟩
  refine OJ.pures tU_ok 1 rfl ?_
  refine OJ.nil (EJ.next ?_)
  refine CJ.seq ?_
  refine CJ.region ?_
  refine OJ.st rfl rfl rfl (SR.fieldAddr tU_ok tI_ok rfl rfl rfl rfl rfl rfl) ?_
  refine OJ.st rfl rfl rfl (SR.load rfl rfl (fun w' hx => ld1 tU_ok rfl rfl (CA.ext (CA.sub (hS.cells (i := 1) rfl) 0) hx) rfl)) ?_
  refine OJ.pures tU_ok 1 rfl ?_
  refine OJ.st rfl rfl rfl (SR.fieldAddr tU_ok tI_ok rfl rfl rfl rfl rfl rfl) ?_
  refine OJ.st rfl rfl rfl (SR.load rfl rfl (fun w' hx => ld1 tU_ok rfl rfl (CA.ext (CA.fld (hS.cells (i := 0) rfl) (mid_part (fe_Pasture_0 _) (fl_Pasture_0 _) ((ci .i8).len _))) hx) rfl)) ?_
  refine OJ.pures tU_ok 3 rfl ?_
  obtain ⟨t3, ht3, H⟩ := pbind H
  refine OJ.callF rfl rfl rfl rfl rfl hb33 rfl (impl_within.c _ (IntKind.i64.wrap a1.X) 0 (IntKind.i64.wrap ((if 10 < (IntKind.i64.wrap a0.Wide) then 10 else (IntKind.i64.wrap a0.Wide)) - 1)) _ ht3) ?_
  rintro _ w1 ⟨rfl, hs⟩
  replace hS := hS.grow hs
  refine OJ.pures tU_ok 1 rfl ?_
  refine OJ.split (t := 14) rfl (fun hb => ?_) (fun hb => ?_)
  · replace H := pif_t hb H
    refine OJ.st rfl rfl rfl (SR.fieldAddr tU_ok tI_ok rfl rfl rfl rfl rfl rfl) ?_
    refine OJ.st rfl rfl rfl (SR.load rfl rfl (fun w' hx => ld1 tU_ok rfl rfl (CA.ext (CA.sub (hS.cells (i := 1) rfl) 1) hx) rfl)) ?_
    refine OJ.pures tU_ok 1 rfl ?_
    refine OJ.st rfl rfl rfl (SR.fieldAddr tU_ok tI_ok rfl rfl rfl rfl rfl rfl) ?_
    refine OJ.st rfl rfl rfl (SR.load rfl rfl (fun w' hx => ld1 tU_ok rfl rfl (CA.ext (CA.fld (hS.cells (i := 0) rfl) (mid_part (fe_Pasture_1 _) (fl_Pasture_1 _) ((ci .i8).len _))) hx) rfl)) ?_
    refine OJ.pures tU_ok 3 rfl ?_
    obtain ⟨t4, ht4, H⟩ := pbind H
    refine OJ.callF rfl rfl rfl rfl rfl hb33 rfl (impl_within.c _ (IntKind.i64.wrap a1.Y) 0 (IntKind.i64.wrap ((if 10 < (IntKind.i64.wrap a0.High) then 10 else (IntKind.i64.wrap a0.High)) - 1)) _ ht4) ?_
    rintro _ w1 ⟨rfl, hs⟩
    replace hS := hS.grow hs
    refine OJ.pures tU_ok 2 rfl ?_
    refine OJ.nil (EJ.next ?_)
    refine CJ.ret (?_)
    obtain rfl := Option.some.inj H
    exact EJ.fin rfl (.tmp rfl .nil) ⟨rfl, hS.ext⟩
  · replace H := pifb_f hb H
    refine OJ.pures tU_ok 11 rfl ?_
    refine OJ.nil (EJ.next ?_)
    refine CJ.ret (?_)
    obtain rfl := Option.some.inj H
    exact EJ.fin rfl (.tmp rfl .nil) ⟨rfl, hS.ext⟩

def impl_Pasture_areSights.l1 (a0 : Pasture) (a1 : List Sight) : Nat → Int → Option (Bool ⊕ Unit)
  | 0, _ => none
  | k + 1, y2 => if y2 < (a1.length : Int) then ((getI a1 y2).bind fun t3 => (impl_within.f (IntKind.i64.wrap t3.Day) 0 1000).bind fun t5 => if (!t5) = true then (some (Sum.inl false)) else ((impl_Pasture_isCell.f a0 t3.At).bind fun t6 => if (!t6) = true then (some (Sum.inl false)) else (if 0 < y2 then ((getI a1 (IntKind.i64.wrap (y2 - 1))).bind fun t7 => if t3.Day < t7.Day then (some (Sum.inl false)) else (impl_Pasture_areSights.l1 a0 a1 k (IntKind.i64.wrap (y2 + 1)))) else (impl_Pasture_areSights.l1 a0 a1 k (IntKind.i64.wrap (y2 + 1)))))) else (some (Sum.inr ()))
def impl_Pasture_areSights.f (k : Nat) (a0 : Pasture) (a1 : List Sight) : Option Bool := (impl_Pasture_areSights.l1 a0 a1 k 0).bind fun s16 => match s16 with | .inl r => some r | .inr _ => some (decide ((a1.length : Int) ≤ 40))
theorem impl_Pasture_areSights.c (k : Nat) (w : World) (a0 : Pasture) (Aa1 : Option Addr) (ca1 : Nat) (a1 : List Sight) (hr1 : Rd cSight w Aa1 a1) (hc1 : a1.length ≤ ca1) (r : Bool) (H : impl_Pasture_areSights.f k a0 a1 = some r) :
    CV Tryd.prog 18 [.agg (cPasture.enc a0).toArray, .slice Aa1 a1.length ca1].toArray w fun v w' => v = .bool r ∧ Ext w w' := by
  have hS := ((St.init w no).param cSight Aa1 ca1 a1 hr1 hc1)
  unfold impl_Pasture_areSights.f at H
  refine CV.body Tryd.func18 rfl Tryd.ntmps18 rfl ?_
  refine CJ.seq ?_
  refine CJ.region ?_
  refine OJ.ef rfl rfl rfl (Ef.box hS rfl rfl (cPasture.enc a0) rfl) ?_
  rintro _ w1 ⟨b1, rfl, hS⟩
  refine OJ.pures tU_ok 1 rfl ?_
  refine OJ.nil (EJ.next ?_)
  refine CJ.seq ?_
  refine CJ.seq ?_
  refine CJ.region ?_
  refine OJ.pures tU_ok 3 rfl ?_
  refine OJ.nil (EJ.next ?_)
  obtain ⟨j16, H, K16⟩ := pbind H
  refine CJ.cut1 (fun F w1 => (some (Sum.inr ()) : Option (Bool ⊕ Unit)) = some j16 ∧ F = [(1, .slice Aa1 a1.length ca1)] ∧ St w no w1 [] [roC cSight Aa1 ca1 a1]) ?_ ?_
  · skip
    refine CJ.block ?_
    refine CJ.loop (fun k F w1 => ∃ (y2 : Int), F = [(1, .slice Aa1 a1.length ca1), (2, .pointer (some ⟨b1, 0, none⟩)), (7, .slice Aa1 a1.length ca1), (8, .int .i64 (a1.length : Int)), (9, .int .i64 y2)] ∧ St w no w1 [box b1 (cPasture.enc a0) 50] [roC cSight Aa1 ca1 a1] ∧ impl_Pasture_areSights.l1 a0 a1 k y2 = some j16) k (F' := [(1, .slice Aa1 a1.length ca1), (2, .pointer (some ⟨b1, 0, none⟩)), (7, .slice Aa1 a1.length ca1), (8, .int .i64 (a1.length : Int)), (9, .int .i64 0)]) ⟨rfl, rfl, rfl, rfl, rfl, trivial⟩ ⟨0, rfl, hS.pick [0] [0] rfl, H⟩ ?_
    rintro k F w1 ⟨y2, rfl, hS, H⟩
    cases k with
    | zero => rw [impl_Pasture_areSights.l1] at H; cases H
    | succ k =>
      rw [impl_Pasture_areSights.l1] at H
      refine CJ.seq ?_
      refine CJ.region ?_
      refine OJ.pures tU_ok 1 rfl ?_
      refine OJ.nil (EJ.next ?_)
      refine CJ.seq ?_
      refine CJ.cond rfl (fun hb => ?_) (fun hb => ?_)
      · replace H := pif_t (of_decide_eq_true hb) H
        refine CJ.skip (EJ.next ?_)
        refine CJ.seq ?_
        refine CJ.block ?_
        refine CJ.seq ?_
        refine CJ.region ?_
        refine OJ.pures tU_ok 1 rfl ?_
        obtain ⟨t3, ht3, H⟩ := pbind H
        obtain ⟨ad3, e3⟩ := (hS.rd' (i := 0) rfl).some' ht3
        refine OJ.st rfl rfl rfl (SR.idxS tU_ok tI_ok rfl rfl rfl rfl e3 rfl (getI_some ht3).1) ?_
        refine OJ.st rfl rfl rfl (SR.load rfl rfl (fun w' hx => ldE tU_ok tI_ok rfl rfl rfl (CA.ext ((hS.rd' (i := 0) rfl).at_ e3 ht3) hx) rfl)) ?_
        refine OJ.ef rfl rfl rfl (Ef.alloc hS tI_ok rfl rfl (cSight.enc (⟨0, (⟨0, 0⟩ : Spot)⟩ : Sight)) rfl) ?_
        rintro _ w1 ⟨b4, rfl, hS⟩
        refine OJ.pures tU_ok 1 rfl ?_
        refine OJ.es rfl rfl (Es.store tI_ok hS (i := 1) rfl rfl rfl rfl rfl rfl (vs := cSight.enc t3) rfl (cSight.len _) (cSight.one _) (Nat.le_of_ble_eq_true rfl) (cSight.enc t3) rfl) ?_
        intro w1 hS
        refine OJ.nil (EJ.next ?_)
        refine CJ.seq ?_
        refine CJ.draw [] [0, 1, 2, 3, 4, 5, 6, 7, 8, 9, 10, 11, 12, 13, 14, 15, 16, 17, 18, 19, 20, 21, 22, 23, 24, 25, 26] mixed (by kernel_rfl) hS fun w1 hS => ?_
        refine DJ.st rfl rfl rfl rfl rfl (SR.fieldAddr tU_ok tI_ok rfl rfl rfl rfl rfl rfl) ?_
        refine DJ.st rfl rfl rfl rfl rfl (SR.load rfl rfl (fun w' hx => ld1 tU_ok rfl rfl (CA.ext (CA.sub (hS.cells (i := 1) rfl) 0) hx) rfl)) ?_
        refine DJ.pures tU_ok 1 rfl ?_
        obtain ⟨t5, ht5, H⟩ := pbind H
        refine DJ.callF rfl rfl rfl rfl rfl rfl rfl hb33 rfl (impl_within.c _ (IntKind.i64.wrap t3.Day) 0 1000 _ ht5) (by rintro v w' ⟨rfl, hs⟩; exact hs) ?_
        rintro _ w1 ⟨rfl, hs⟩
        replace hS := hS.grow hs
        refine DJ.pures tU_ok 2 rfl ?_
        refine DJ.split (t := 19) rfl (fun hb => ?_) (fun hb => ?_)
        · replace H := pif_t hb H
          refine DJ.pures tU_ok 21 rfl ?_
          refine DJ.nil (EJ.next ?_)
          refine CJ.condT rfl ?_
          refine CJ.seq ?_
          refine CJ.region ?_
          refine OJ.pures tU_ok 1 rfl ?_
          refine OJ.nil (EJ.next ?_)
          refine CJ.ret (EJ.bkR (EJ.skR (EJ.skR (EJ.bkR (EJ.skR (EJ.skR (?_)))))))
          first | (obtain rfl := Option.some.inj H; have H := K16) | (obtain ⟨q16, H2, e16⟩ := pbind H; obtain rfl := Option.some.inj e16; obtain rfl := Option.some.inj K16; have H := H2)
          obtain rfl := Option.some.inj H
          exact EJ.fin rfl (.tmp rfl .nil) ⟨rfl, hS.ext⟩
        · replace H := pifb_f hb H
          refine DJ.st rfl rfl rfl rfl rfl (SR.load rfl rfl (fun w' hx => ldE tU_ok tI_ok rfl rfl rfl (CA.ext (hS.cells (i := 0) rfl) hx) rfl)) ?_
          refine DJ.st rfl rfl rfl rfl rfl (SR.fieldAddr tU_ok tI_ok rfl rfl rfl rfl rfl rfl) ?_
          refine DJ.st rfl rfl rfl rfl rfl (SR.load rfl rfl (fun w' hx => ldN tU_ok tI_ok rfl rfl rfl (CA.ext (CA.sub (hS.cells (i := 1) rfl) 1) hx) (cSpot.len _) rfl)) ?_
          obtain ⟨t6, ht6, H⟩ := pbind H
          refine DJ.callF rfl rfl rfl rfl rfl rfl rfl hb34 rfl (impl_Pasture_isCell.c _ a0 t3.At _ ht6) (by rintro v w' ⟨rfl, hs⟩; exact hs) ?_
          rintro _ w1 ⟨rfl, hs⟩
          replace hS := hS.grow hs
          refine DJ.pures tU_ok 3 rfl ?_
          refine DJ.split (t := 26) rfl (fun hb => ?_) (fun hb => ?_)
          · replace H := pif_t hb H
            refine DJ.pures tU_ok 14 rfl ?_
            refine DJ.nil (EJ.next ?_)
            refine CJ.condT rfl ?_
            refine CJ.seq ?_
            refine CJ.region ?_
            refine OJ.pures tU_ok 1 rfl ?_
            refine OJ.nil (EJ.next ?_)
            refine CJ.ret (EJ.bkR (EJ.skR (EJ.skR (EJ.bkR (EJ.skR (EJ.skR (?_)))))))
            first | (obtain rfl := Option.some.inj H; have H := K16) | (obtain ⟨q16, H2, e16⟩ := pbind H; obtain rfl := Option.some.inj e16; obtain rfl := Option.some.inj K16; have H := H2)
            obtain rfl := Option.some.inj H
            exact EJ.fin rfl (.tmp rfl .nil) ⟨rfl, hS.ext⟩
          · replace H := pifb_f hb H
            refine DJ.pures tU_ok 3 rfl ?_
            refine DJ.split (t := 29) rfl (fun hb => ?_) (fun hb => ?_)
            · replace H := pif_t (of_decide_eq_true hb) H
              refine DJ.st rfl rfl rfl rfl rfl (SR.fieldAddr tU_ok tI_ok rfl rfl rfl rfl rfl rfl) ?_
              refine DJ.st rfl rfl rfl rfl rfl (SR.load rfl rfl (fun w' hx => ld1 tU_ok rfl rfl (CA.ext (CA.sub (hS.cells (i := 1) rfl) 0) hx) rfl)) ?_
              refine DJ.pures tU_ok 3 rfl ?_
              obtain ⟨t7, ht7, H⟩ := pbind H
              obtain ⟨ad7, e7⟩ := (hS.rd' (i := 0) rfl).some' ht7
              refine DJ.st rfl rfl rfl rfl rfl (SR.idxS tU_ok tI_ok rfl rfl rfl rfl e7 rfl (getI_some ht7).1) ?_
              refine DJ.st rfl rfl rfl rfl rfl (SR.fieldAddr tU_ok tI_ok rfl rfl rfl rfl rfl rfl) ?_
              refine DJ.st rfl rfl rfl rfl rfl (SR.load rfl rfl (fun w' hx => ld1 tU_ok rfl rfl (CA.ext (CA.sub ((hS.rd' (i := 0) rfl).at_ e7 ht7) 0) hx) rfl)) ?_
              refine DJ.pures tU_ok 3 rfl ?_
              refine DJ.nil (EJ.next ?_)
              refine CJ.cond rfl (fun hb => ?_) (fun hb => ?_)
              · replace H := pif_t (of_decide_eq_true hb) H
                refine CJ.seq ?_
                refine CJ.region ?_
                refine OJ.pures tU_ok 1 rfl ?_
                refine OJ.nil (EJ.next ?_)
                refine CJ.ret (EJ.bkR (EJ.skR (EJ.skR (EJ.bkR (EJ.skR (EJ.skR (?_)))))))
                first | (obtain rfl := Option.some.inj H; have H := K16) | (obtain ⟨q16, H2, e16⟩ := pbind H; obtain rfl := Option.some.inj e16; obtain rfl := Option.some.inj K16; have H := H2)
                obtain rfl := Option.some.inj H
                exact EJ.fin rfl (.tmp rfl .nil) ⟨rfl, hS.ext⟩
              · replace H := pif_f (of_decide_eq_false hb) H
                refine CJ.skip (EJ.blk (EJ.next ?_))
                refine CJ.region ?_
                refine OJ.pures tU_ok 2 rfl ?_
                refine OJ.nil ?_
                exact EJ.round k (F' := [(1, .slice Aa1 a1.length ca1), (2, .pointer (some ⟨b1, 0, none⟩)), (7, .slice Aa1 a1.length ca1), (8, .int .i64 (a1.length : Int)), (9, .int .i64 (IntKind.i64.wrap (y2 + 1)))]) ⟨rfl, rfl, rfl, rfl, rfl, trivial⟩ (Nat.lt_succ_self _) ⟨(IntKind.i64.wrap (y2 + 1)), rfl, hS.pick [0] [0] rfl, H⟩
            · replace H := pif_f (of_decide_eq_false hb) H
              refine DJ.pures tU_ok 11 rfl ?_
              refine DJ.nil (EJ.next ?_)
              refine CJ.condF rfl ?_
              refine CJ.skip (EJ.blk (EJ.next ?_))
              refine CJ.region ?_
              refine OJ.pures tU_ok 2 rfl ?_
              refine OJ.nil ?_
              exact EJ.round k (F' := [(1, .slice Aa1 a1.length ca1), (2, .pointer (some ⟨b1, 0, none⟩)), (7, .slice Aa1 a1.length ca1), (8, .int .i64 (a1.length : Int)), (9, .int .i64 (IntKind.i64.wrap (y2 + 1)))]) ⟨rfl, rfl, rfl, rfl, rfl, trivial⟩ (Nat.lt_succ_self _) ⟨(IntKind.i64.wrap (y2 + 1)), rfl, hS.pick [0] [0] rfl, H⟩
      · replace H := pif_f (of_decide_eq_false hb) H
        refine CJ.exit (EJ.skE (EJ.skE (EJ.hit (?_))))
        exact EJ.meet (F' := [(1, .slice Aa1 a1.length ca1)]) ⟨rfl, trivial⟩ ⟨H, rfl, hS.pick [] [0] rfl⟩
  · rintro F w1 ⟨he, rfl, hS⟩
    obtain rfl := Option.some.inj he
    have H := K16
    refine EJ.next ?_
    refine CJ.seq ?_
    refine CJ.region ?_
    refine OJ.pures tU_ok 4 rfl ?_
    refine OJ.nil (EJ.next ?_)
    refine CJ.ret (?_)
    obtain rfl := Option.some.inj H
    exact EJ.fin rfl (.tmp rfl .nil) ⟨rfl, hS.ext⟩

def impl_Spot_text.f (a0 : Spot) : Option ByteArray := (impl_decimal.f (IntKind.i64.wrap a0.X)).bind fun t2 => (chk (t2.size + (⟨#[44]⟩ : ByteArray).size ≤ 4294967296)).bind fun u3 => (impl_decimal.f (IntKind.i64.wrap a0.Y)).bind fun t4 => (chk ((t2 ++ (⟨#[44]⟩ : ByteArray)).size + t4.size ≤ 4294967296)).bind fun u5 => some ((t2 ++ (⟨#[44]⟩ : ByteArray)) ++ t4)
theorem impl_Spot_text.c (w : World) (a0 : Spot) (hT : (envC Tryd.prog 0).holds w) (r : ByteArray) (H : impl_Spot_text.f a0 = some r) :
    CV Tryd.prog 20 [.agg (cSpot.enc a0).toArray].toArray w fun v w' => v = .string r ∧ Ext w w' := by
  have hS := ((St.init w no).paramT (envC Tryd.prog 0) hT)
  unfold impl_Spot_text.f at H
  refine CV.body Tryd.func20 rfl Tryd.ntmps20 rfl ?_
  refine CJ.seq ?_
  refine CJ.region ?_
  refine OJ.ef rfl rfl rfl (Ef.box hS rfl rfl (cSpot.enc a0) rfl) ?_
  rintro _ w1 ⟨b1, rfl, hS⟩
  refine OJ.pures tU_ok 1 rfl ?_
  refine OJ.nil (EJ.next ?_)
  refine CJ.seq ?_
  refine CJ.draw [] [0, 1, 2, 5, 6, 7, 3, 4, 8, 9, 10] mixed (by kernel_rfl) hS fun w1 hS => ?_
  refine DJ.st rfl rfl rfl rfl rfl (SR.fieldAddr tU_ok tI_ok rfl rfl rfl rfl rfl rfl) ?_
  refine DJ.st rfl rfl rfl rfl rfl (SR.load rfl rfl (fun w' hx => ld1 tU_ok rfl rfl (CA.ext (CA.sub (hS.cells (i := 0) rfl) 0) hx) rfl)) ?_
  refine DJ.pures tU_ok 1 rfl ?_
  refine DJ.st rfl rfl rfl rfl rfl (SR.fieldAddr tU_ok tI_ok rfl rfl rfl rfl rfl rfl) ?_
  refine DJ.st rfl rfl rfl rfl rfl (SR.load rfl rfl (fun w' hx => ld1 tU_ok rfl rfl (CA.ext (CA.sub (hS.cells (i := 0) rfl) 1) hx) rfl)) ?_
  refine DJ.pures tU_ok 1 rfl ?_
  obtain ⟨t2, ht2, H⟩ := pbind H
  refine DJ.callF rfl rfl rfl rfl rfl rfl rfl hb19 rfl (impl_decimal.c _ (IntKind.i64.wrap a0.X) (hS.ro (i := 0) rfl) _ ht2) (by rintro v w' ⟨rfl, hs⟩; exact hs) ?_
  rintro _ w1 ⟨rfl, hs⟩
  replace hS := hS.grow hs
  obtain ⟨u3, hu3, H⟩ := pbind H
  refine DJ.st rfl rfl rfl rfl rfl (SR.concat rfl rfl rfl (chk_some hu3)) ?_
  obtain ⟨t4, ht4, H⟩ := pbind H
  refine DJ.callF rfl rfl rfl rfl rfl rfl rfl hb19 rfl (impl_decimal.c _ (IntKind.i64.wrap a0.Y) (hS.ro (i := 0) rfl) _ ht4) (by rintro v w' ⟨rfl, hs⟩; exact hs) ?_
  rintro _ w1 ⟨rfl, hs⟩
  replace hS := hS.grow hs
  obtain ⟨u5, hu5, H⟩ := pbind H
  refine DJ.st rfl rfl rfl rfl rfl (SR.concat rfl rfl rfl (chk_some hu5)) ?_
  refine DJ.pures tU_ok 1 rfl ?_
  refine DJ.nil (EJ.next ?_)
  refine CJ.ret (?_)
  obtain rfl := Option.some.inj H
  exact EJ.fin rfl (.tmp rfl .nil) ⟨rfl, hS.ext⟩

def strings_Join.f (a0 : List ByteArray) (a1 : ByteArray) : Option (ByteArray × List ByteArray) := (chk (a0.length ≤ 4294967296 ∧ (joinB a0 a1).size ≤ 4294967296)).bind fun _ => some (joinB a0 a1, a0)
theorem strings_Join.c (w : World) (Aa0 : Option Addr) (ca0 : Nat) (a0 : List ByteArray) (a1 : ByteArray) (hin : St w (fpU [rowC G.cs Aa0 ca0 9 a0]) w [rowC G.cs Aa0 ca0 9 a0] []) (r : ByteArray × List ByteArray) (H : strings_Join.f a0 a1 = some r) :
    CV Tryd.prog 21 [.slice Aa0 a0.length ca0, .string a1].toArray w fun v w' => v = .string r.1 ∧ St w (fpU [rowC G.cs Aa0 ca0 9 a0]) w' [rowC G.cs Aa0 ca0 9 r.2] [] ∧ r.2.length = a0.length := by
  unfold strings_Join.f at H
  obtain ⟨u, hu, H⟩ := pbind H
  obtain rfl := Option.some.inj H
  exact join_cv hin (fun a c sep w => Any.strings_Join_none layJoin layExtra a c sep w) (fun bk o c xs sep w h1 h2 h3 h4 h5 => Any.strings_Join layJoin layExtra bk o c xs sep w h1 h2 h3 h4 h5) (chk_some hu).1 (chk_some hu).2

def impl_SightsText.l1 (a0 : List Sight) : Nat → (List ByteArray) → Int → Option (List ByteArray)
  | 0, _, _ => none
  | k + 1, y6, y9 => if y9 < (a0.length : Int) then ((getI a0 y9).bind fun t10 => (impl_decimal.f (IntKind.i64.wrap t10.Day)).bind fun t12 => (chk (t12.size + (⟨#[58]⟩ : ByteArray).size ≤ 4294967296)).bind fun u13 => (impl_Spot_text.f t10.At).bind fun t14 => (chk ((t12 ++ (⟨#[58]⟩ : ByteArray)).size + t14.size ≤ 4294967296)).bind fun u15 => (chk (y6.length + ([(t12 ++ (⟨#[58]⟩ : ByteArray)) ++ t14] : List ByteArray).length ≤ 4294967296)).bind fun u17 => impl_SightsText.l1 a0 k (y6 ++ ([(t12 ++ (⟨#[58]⟩ : ByteArray)) ++ t14] : List ByteArray)) (IntKind.i64.wrap (y9 + 1))) else (some y6)
def impl_SightsText.f (k : Nat) (a0 : List Sight) : Option ByteArray := (impl_Pasture_areSights.f k (⟨10, 10, (Arr.mk' (Arr.mk' 0 : Arr 10 Int) : Arr 10 (Arr 10 Int)), (Arr.mk' 0 : Arr 10 Int), (Arr.mk' 0 : Arr 10 Int)⟩ : Pasture) a0).bind fun t1 => if (!t1) = true then (some ByteArray.empty) else ((impl_SightsText.l1 a0 k ([] : List ByteArray) 0).bind fun y3 => (strings_Join.f y3 (⟨#[32]⟩ : ByteArray)).bind fun t20 => some t20.1)
theorem impl_SightsText.c (k : Nat) (w : World) (Aa0 : Option Addr) (ca0 : Nat) (a0 : List Sight) (hr0 : Rd cSight w Aa0 a0) (hc0 : a0.length ≤ ca0) (hT : (envC Tryd.prog 0).holds w) (r : ByteArray) (H : impl_SightsText.f k a0 = some r) :
    CV Tryd.prog 8 [.slice Aa0 a0.length ca0].toArray w fun v w' => v = .string r ∧ Ext w w' := by
  have hS := (((St.init w no).param cSight Aa0 ca0 a0 hr0 hc0).paramT (envC Tryd.prog 0) hT)
  unfold impl_SightsText.f at H
  refine CV.body Tryd.func8 rfl Tryd.ntmps8 rfl ?_
  refine CJ.seq ?_
  refine CJ.region ?_
  refine OJ.pures tU_ok 1 rfl ?_
  refine OJ.nil (EJ.next ?_)
  refine CJ.seq ?_
  refine CJ.seq ?_
  refine CJ.region ?_
  refine OJ.st rfl rfl rfl (SR.build (C := cPasture) tU_ok tI_ok rfl rfl rfl (zs := [.int .i8 0, .int .i8 0, .int .i16 0, .int .i16 0, .int .i16 0, .int .i16 0, .int .i16 0, .int .i16 0, .int .i16 0, .int .i16 0, .int .i16 0, .int .i16 0, .int .i16 0, .int .i16 0, .int .i16 0, .int .i16 0, .int .i16 0, .int .i16 0, .int .i16 0, .int .i16 0, .int .i16 0, .int .i16 0, .int .i16 0, .int .i16 0, .int .i16 0, .int .i16 0, .int .i16 0, .int .i16 0, .int .i16 0, .int .i16 0, .int .i16 0, .int .i16 0, .int .i16 0, .int .i16 0, .int .i16 0, .int .i16 0, .int .i16 0, .int .i16 0, .int .i16 0, .int .i16 0, .int .i16 0, .int .i16 0, .int .i16 0, .int .i16 0, .int .i16 0, .int .i16 0, .int .i16 0, .int .i16 0, .int .i16 0, .int .i16 0, .int .i16 0, .int .i16 0, .int .i16 0, .int .i16 0, .int .i16 0, .int .i16 0, .int .i16 0, .int .i16 0, .int .i16 0, .int .i16 0, .int .i16 0, .int .i16 0, .int .i16 0, .int .i16 0, .int .i16 0, .int .i16 0, .int .i16 0, .int .i16 0, .int .i16 0, .int .i16 0, .int .i16 0, .int .i16 0, .int .i16 0, .int .i16 0, .int .i16 0, .int .i16 0, .int .i16 0, .int .i16 0, .int .i16 0, .int .i16 0, .int .i16 0, .int .i16 0, .int .i16 0, .int .i16 0, .int .i16 0, .int .i16 0, .int .i16 0, .int .i16 0, .int .i16 0, .int .i16 0, .int .i16 0, .int .i16 0, .int .i16 0, .int .i16 0, .int .i16 0, .int .i16 0, .int .i16 0, .int .i16 0, .int .i16 0, .int .i16 0, .int .i16 0, .int .i16 0, .int .u16 0, .int .u16 0, .int .u16 0, .int .u16 0, .int .u16 0, .int .u16 0, .int .u16 0, .int .u16 0, .int .u16 0, .int .u16 0, .int .u16 0, .int .u16 0, .int .u16 0, .int .u16 0, .int .u16 0, .int .u16 0, .int .u16 0, .int .u16 0, .int .u16 0, .int .u16 0]) rfl rfl rfl (⟨10, 10, (Arr.mk' (Arr.mk' 0 : Arr 10 Int) : Arr 10 (Arr 10 Int)), (Arr.mk' 0 : Arr 10 Int), (Arr.mk' 0 : Arr 10 Int)⟩ : Pasture) rfl) ?_
  refine OJ.pures tU_ok 1 rfl ?_
  obtain ⟨t1, ht1, H⟩ := pbind H
  refine OJ.callF rfl rfl rfl rfl rfl hb18 rfl (impl_Pasture_areSights.c k _ (⟨10, 10, (Arr.mk' (Arr.mk' 0 : Arr 10 Int) : Arr 10 (Arr 10 Int)), (Arr.mk' 0 : Arr 10 Int), (Arr.mk' 0 : Arr 10 Int)⟩ : Pasture) Aa0 ca0 a0 (hS.rd' (i := 0) rfl) (hS.le' (i := 0) rfl) _ ht1) ?_
  rintro _ w1 ⟨rfl, hs⟩
  replace hS := hS.grow hs
  refine OJ.pures tU_ok 1 rfl ?_
  refine OJ.nil (EJ.next ?_)
  refine CJ.cond rfl (fun hb => ?_) (fun hb => ?_)
  · replace H := pif_t hb H
    refine CJ.seq ?_
    refine CJ.region ?_
    refine OJ.pures tU_ok 1 rfl ?_
    refine OJ.nil (EJ.next ?_)
    refine CJ.ret (EJ.skR (?_))
    obtain rfl := Option.some.inj H
    exact EJ.fin rfl (.tmp rfl .nil) ⟨rfl, hS.ext⟩
  · replace H := pifb_f hb H
    refine CJ.skip (EJ.next ?_)
    refine CJ.seq ?_
    refine CJ.region ?_
    refine OJ.ef rfl rfl rfl (Ef.lit tU_ok tI_ok hS (C := G.cs) rfl rfl rfl rfl rfl rfl ([] : List ByteArray) rfl rfl rfl rfl) ?_
    rintro _ w1 ⟨A2, rfl, hS⟩
    refine OJ.pures tU_ok 1 rfl ?_
    refine OJ.nil (EJ.next ?_)
    refine CJ.seq ?_
    refine CJ.seq ?_
    refine CJ.region ?_
    refine OJ.pures tU_ok 3 rfl ?_
    refine OJ.nil (EJ.next ?_)
    obtain ⟨j18, H, K18⟩ := pbind H
    refine CJ.cut1 (fun F w1 => ∃ (y3 : List ByteArray) (A4 : Option Addr) (c5 : Nat), (some y3 : Option (List ByteArray)) = some j18 ∧ F = [(3, .slice A4 y3.length c5)] ∧ St w no w1 [rowC G.cs A4 c5 9 y3] [roC cSight Aa0 ca0 a0, envC Tryd.prog 0]) ?_ ?_
    · skip
      refine CJ.block ?_
      refine CJ.loop (fun k F w1 => ∃ (y6 : List ByteArray) (y9 : Int) (A7 : Option Addr) (c8 : Nat), F = [(3, .slice A7 y6.length c8), (11, .slice Aa0 a0.length ca0), (12, .int .i64 (a0.length : Int)), (13, .int .i64 y9)] ∧ St w no w1 [rowC G.cs A7 c8 9 y6] [roC cSight Aa0 ca0 a0, envC Tryd.prog 0] ∧ impl_SightsText.l1 a0 k y6 y9 = some j18) k (F' := [(3, .slice A2 ([] : List ByteArray).length (([] : List ByteArray).length)), (11, .slice Aa0 a0.length ca0), (12, .int .i64 (a0.length : Int)), (13, .int .i64 0)]) ⟨rfl, rfl, rfl, rfl, trivial⟩ ⟨([] : List ByteArray), 0, A2, (([] : List ByteArray).length), rfl, hS.pick [0] [0, 1] rfl, H⟩ ?_
      rintro k F w1 ⟨y6, y9, A7, c8, rfl, hS, H⟩
      cases k with
      | zero => rw [impl_SightsText.l1] at H; cases H
      | succ k =>
        rw [impl_SightsText.l1] at H
        refine CJ.seq ?_
        refine CJ.region ?_
        refine OJ.pures tU_ok 1 rfl ?_
        refine OJ.nil (EJ.next ?_)
        refine CJ.seq ?_
        refine CJ.cond rfl (fun hb => ?_) (fun hb => ?_)
        · replace H := pif_t (of_decide_eq_true hb) H
          refine CJ.skip (EJ.next ?_)
          refine CJ.seq ?_
          refine CJ.block ?_
          refine CJ.seq ?_
          refine CJ.region ?_
          obtain ⟨t10, ht10, H⟩ := pbind H
          obtain ⟨ad10, e10⟩ := (hS.rd' (i := 0) rfl).some' ht10
          refine OJ.st rfl rfl rfl (SR.idxS tU_ok tI_ok rfl rfl rfl rfl e10 rfl (getI_some ht10).1) ?_
          refine OJ.st rfl rfl rfl (SR.load rfl rfl (fun w' hx => ldE tU_ok tI_ok rfl rfl rfl (CA.ext ((hS.rd' (i := 0) rfl).at_ e10 ht10) hx) rfl)) ?_
          refine OJ.ef rfl rfl rfl (Ef.alloc hS tI_ok rfl rfl (cSight.enc (⟨0, (⟨0, 0⟩ : Spot)⟩ : Sight)) rfl) ?_
          rintro _ w1 ⟨b11, rfl, hS⟩
          refine OJ.es rfl rfl (Es.store tI_ok hS (i := 1) rfl rfl rfl rfl rfl rfl (vs := cSight.enc t10) rfl (cSight.len _) (cSight.one _) (Nat.le_of_ble_eq_true rfl) (cSight.enc t10) rfl) ?_
          intro w1 hS
          refine OJ.nil (EJ.next ?_)
          refine CJ.draw [] [0, 1, 2, 3, 6, 7, 4, 5, 8, 9, 10, 11, 12] mixed (by kernel_rfl) hS fun w1 hS => ?_
          refine DJ.pures tU_ok 1 rfl ?_
          refine DJ.st rfl rfl rfl rfl rfl (SR.fieldAddr tU_ok tI_ok rfl rfl rfl rfl rfl rfl) ?_
          refine DJ.st rfl rfl rfl rfl rfl (SR.load rfl rfl (fun w' hx => ld1 tU_ok rfl rfl (CA.ext (CA.sub (hS.cells (i := 1) rfl) 0) hx) rfl)) ?_
          refine DJ.pures tU_ok 1 rfl ?_
          refine DJ.st rfl rfl rfl rfl rfl (SR.fieldAddr tU_ok tI_ok rfl rfl rfl rfl rfl rfl) ?_
          refine DJ.st rfl rfl rfl rfl rfl (SR.load rfl rfl (fun w' hx => ldN tU_ok tI_ok rfl rfl rfl (CA.ext (CA.sub (hS.cells (i := 1) rfl) 1) hx) (cSpot.len _) rfl)) ?_
          obtain ⟨t12, ht12, H⟩ := pbind H
          refine DJ.callF rfl rfl rfl rfl rfl rfl rfl hb19 rfl (impl_decimal.c _ (IntKind.i64.wrap t10.Day) (hS.ro (i := 1) rfl) _ ht12) (by rintro v w' ⟨rfl, hs⟩; exact hs) ?_
          rintro _ w1 ⟨rfl, hs⟩
          replace hS := hS.grow hs
          obtain ⟨u13, hu13, H⟩ := pbind H
          refine DJ.st rfl rfl rfl rfl rfl (SR.concat rfl rfl rfl (chk_some hu13)) ?_
          obtain ⟨t14, ht14, H⟩ := pbind H
          refine DJ.callF rfl rfl rfl rfl rfl rfl rfl hb20 rfl (impl_Spot_text.c _ t10.At (hS.ro (i := 1) rfl) _ ht14) (by rintro v w' ⟨rfl, hs⟩; exact hs) ?_
          rintro _ w1 ⟨rfl, hs⟩
          replace hS := hS.grow hs
          obtain ⟨u15, hu15, H⟩ := pbind H
          refine DJ.st rfl rfl rfl rfl rfl (SR.concat rfl rfl rfl (chk_some hu15)) ?_
          refine DJ.ef rfl rfl rfl rfl rfl (Ef.lit tU_ok tI_ok hS (C := G.cs) rfl rfl rfl rfl rfl rfl ([(t12 ++ (⟨#[58]⟩ : ByteArray)) ++ t14] : List ByteArray) rfl rfl rfl rfl) ?_
          rintro _ w1 ⟨A16, rfl, hS⟩
          obtain ⟨u17, hu17, H⟩ := pbind H
          refine DJ.ew rfl rfl rfl rfl rfl (Ew.append tU_ok tI_ok (C := G.cs) (xs := y6) (ys := ([(t12 ++ (⟨#[58]⟩ : ByteArray)) ++ t14] : List ByteArray)) hS (i := 0) rfl rfl rfl rfl rfl rfl rfl rfl rfl rfl rfl rfl rfl (hS.rd (i := 2) rfl) (chk_some hu17)) ?_
          rintro _ w1 ⟨A18, c19, rfl, hS⟩
          refine DJ.pures tU_ok 1 rfl ?_
          refine DJ.nil (EJ.blk (EJ.next ?_))
          refine CJ.region ?_
          refine OJ.pures tU_ok 2 rfl ?_
          refine OJ.nil ?_
          exact EJ.round k (F' := [(3, .slice A18 (y6 ++ ([(t12 ++ (⟨#[58]⟩ : ByteArray)) ++ t14] : List ByteArray)).length c19), (11, .slice Aa0 a0.length ca0), (12, .int .i64 (a0.length : Int)), (13, .int .i64 (IntKind.i64.wrap (y9 + 1)))]) ⟨rfl, rfl, rfl, rfl, trivial⟩ (Nat.lt_succ_self _) ⟨(y6 ++ ([(t12 ++ (⟨#[58]⟩ : ByteArray)) ++ t14] : List ByteArray)), (IntKind.i64.wrap (y9 + 1)), A18, c19, rfl, hS.pick [0] [0, 1] rfl, H⟩
        · replace H := pif_f (of_decide_eq_false hb) H
          refine CJ.exit (EJ.skE (EJ.skE (EJ.hit (?_))))
          exact EJ.meet (F' := [(3, .slice A7 y6.length c8)]) ⟨rfl, trivial⟩ ⟨y6, A7, c8, H, rfl, hS.pick [0] [0, 1] rfl⟩
    · rintro F w1 ⟨y3, A4, c5, he, rfl, hS⟩
      obtain rfl := Option.some.inj he
      have H := K18
      refine EJ.next ?_
      refine CJ.seq ?_
      refine CJ.region ?_
      refine OJ.pures tU_ok 1 rfl ?_
      obtain ⟨t20, ht20, H⟩ := pbind H
      refine OJ.callF rfl rfl rfl rfl rfl hb21 rfl (strings_Join.c _ A4 c5 y3 (⟨#[32]⟩ : ByteArray) ((hS.subs [0] [] [] rfl).pick [0] [] rfl) _ ht20) ?_
      rintro _ w1 ⟨rfl, hs, hlc0⟩
      replace hS := hS.back [0] rfl rfl [rowC G.cs A4 c5 9 t20.2] [] hs ⟨fun _ => Iff.rfl, trivial⟩
      refine OJ.as (t := 3) rfl (show _ = (.slice A4 t20.2.length c5 : Value) by simp only [hlc0]) ?_
      refine OJ.as (t := 30) rfl (show _ = (.slice A4 t20.2.length c5 : Value) by simp only [hlc0]) ?_
      refine OJ.pures tU_ok 1 rfl ?_
      refine OJ.nil (EJ.next ?_)
      refine CJ.ret (?_)
      obtain rfl := Option.some.inj H
      exact EJ.fin rfl (.tmp rfl .nil) ⟨rfl, hS.ext⟩

def impl_ReadSights.l1 (t2 : List ByteArray) : Nat → (List Sight) → Int → Option ((List Sight × Int) ⊕ (List Sight))
  | 0, _, _ => none
  | k + 1, y8, y11 => if y11 < (t2.length : Int) then ((getI t2 y11).bind fun t12 => (strings_Cut.f t12 (⟨#[58]⟩ : ByteArray)).bind fun t13 => (impl_number.f t13.1 1000).bind fun t14 => (impl_readSpot.f t13.2.1).bind fun t15 => (if (!t14.2) = true then (some true) else (some (!t15.2))).bind fun y17 => if y17 = true then (some (Sum.inl ([], 5))) else ((chk (y8.length + ([(⟨IntKind.i16.wrap t14.1, t15.1⟩ : Sight)] : List Sight).length ≤ 4294967296)).bind fun u19 => impl_ReadSights.l1 t2 k (y8 ++ ([(⟨IntKind.i16.wrap t14.1, t15.1⟩ : Sight)] : List Sight)) (IntKind.i64.wrap (y11 + 1)))) else (some (Sum.inr y8))
def impl_ReadSights.f (k : Nat) (a0 : ByteArray) : Option (List Sight × Int) := if a0 = ByteArray.empty then (some (([] : List Sight), 0)) else ((strings_Split.f a0 (⟨#[32]⟩ : ByteArray)).bind fun t2 => (impl_ReadSights.l1 t2 k ([] : List Sight) 0).bind fun s12 => match s12 with | .inl r => some r | .inr y5 => (impl_SightsText.f k y5).bind fun t22 => if t22 ≠ a0 then (some ([], 5)) else (some (y5, 0)))
theorem impl_ReadSights.c (k : Nat) (w : World) (a0 : ByteArray) (hT : (envC Tryd.prog 0).holds w) (r : List Sight × Int) (H : impl_ReadSights.f k a0 = some r) :
    CV Tryd.prog 11 [.string a0].toArray w fun v w' => ∃ (A0 : Option Addr) (c0 : Nat), v = .tuple #[.slice A0 r.1.length c0, .int .i64 r.2] ∧ St w no w' [rowC cSight A0 c0 39 r.1] [] := by
  have hS := ((St.init w no).paramT (envC Tryd.prog 0) hT)
  unfold impl_ReadSights.f at H
  refine CV.body Tryd.func11 rfl Tryd.ntmps11 rfl ?_
  refine CJ.seq ?_
  refine CJ.region ?_
  refine OJ.pures tU_ok 2 rfl ?_
  refine OJ.nil (EJ.next ?_)
  refine CJ.seq ?_
  refine CJ.region ?_
  refine OJ.ef rfl rfl rfl (Ef.lit tU_ok tI_ok hS (C := cSight) rfl rfl rfl rfl rfl rfl ([] : List Sight) rfl rfl rfl rfl) ?_
  rintro _ w1 ⟨A1, rfl, hS⟩
  refine OJ.pures tU_ok 1 rfl ?_
  refine OJ.nil (EJ.next ?_)
  refine CJ.seq ?_
  refine CJ.seq ?_
  refine CJ.region ?_
  refine OJ.pures tU_ok 2 rfl ?_
  refine OJ.nil (EJ.next ?_)
  refine CJ.cond rfl (fun hb => ?_) (fun hb => ?_)
  · replace H := pif_t (of_decide_eq_true hb) H
    refine CJ.seq ?_
    refine CJ.region ?_
    refine OJ.pures tU_ok 3 rfl ?_
    refine OJ.nil (EJ.next ?_)
    refine CJ.ret (EJ.skR (?_))
    obtain rfl := Option.some.inj H
    exact EJ.fin rfl (.tmp rfl (.tmp rfl .nil)) ⟨A1, (([] : List Sight).length), rfl, hS.pick [0] [] rfl⟩
  · replace H := pif_f (of_decide_eq_false hb) H
    refine CJ.skip (EJ.next ?_)
    refine CJ.seq ?_
    refine CJ.seq ?_
    refine CJ.region ?_
    refine OJ.pures tU_ok 1 rfl ?_
    obtain ⟨t2, ht2, H⟩ := pbind H
    refine OJ.callF rfl rfl rfl rfl rfl hb26 rfl (strings_Split.c _ a0 (⟨#[32]⟩ : ByteArray) (hS.ro (i := 0) rfl) _ ht2) ?_
    rintro _ w1 ⟨A3, c4, rfl, hs⟩
    replace hS := hS.addN hs
    refine OJ.pures tU_ok 2 rfl ?_
    refine OJ.nil (EJ.next ?_)
    obtain ⟨j12, H, K12⟩ := pbind H
    refine CJ.cut1 (fun F w1 => ∃ (y5 : List Sight) (A6 : Option Addr) (c7 : Nat), (some (Sum.inr y5) : Option ((List Sight × Int) ⊕ (List Sight))) = some j12 ∧ F = [(0, .string a0), (4, .slice A6 y5.length c7)] ∧ St w no w1 [rowC cSight A6 c7 39 y5] [envC Tryd.prog 0]) ?_ ?_
    · skip
      refine CJ.block ?_
      refine CJ.loop (fun k F w1 => ∃ (y8 : List Sight) (y11 : Int) (A9 : Option Addr) (c10 : Nat), F = [(0, .string a0), (4, .slice A9 y8.length c10), (19, .slice A3 t2.length c4), (20, .int .i64 (t2.length : Int)), (21, .int .i64 y11)] ∧ St w no w1 [rowC cSight A9 c10 39 y8, rowC G.cs A3 c4 9 t2] [envC Tryd.prog 0] ∧ impl_ReadSights.l1 t2 k y8 y11 = some j12) k (F' := [(0, .string a0), (4, .slice A1 ([] : List Sight).length (([] : List Sight).length)), (19, .slice A3 t2.length c4), (20, .int .i64 (t2.length : Int)), (21, .int .i64 0)]) ⟨rfl, rfl, rfl, rfl, rfl, trivial⟩ ⟨([] : List Sight), 0, A1, (([] : List Sight).length), rfl, hS.pick [0, 1] [0] rfl, H⟩ ?_
      rintro k F w1 ⟨y8, y11, A9, c10, rfl, hS, H⟩
      cases k with
      | zero => rw [impl_ReadSights.l1] at H; cases H
      | succ k =>
        rw [impl_ReadSights.l1] at H
        refine CJ.seq ?_
        refine CJ.region ?_
        refine OJ.pures tU_ok 1 rfl ?_
        refine OJ.nil (EJ.next ?_)
        refine CJ.seq ?_
        refine CJ.cond rfl (fun hb => ?_) (fun hb => ?_)
        · replace H := pif_t (of_decide_eq_true hb) H
          refine CJ.skip (EJ.next ?_)
          refine CJ.seq ?_
          refine CJ.block ?_
          refine CJ.seq ?_
          refine CJ.region ?_
          obtain ⟨t12, ht12, H⟩ := pbind H
          obtain ⟨ad12, e12⟩ := (hS.rd (i := 1) rfl).some' ht12
          refine OJ.st rfl rfl rfl (SR.idxS tU_ok tI_ok rfl rfl rfl rfl e12 rfl (getI_some ht12).1) ?_
          refine OJ.st rfl rfl rfl (SR.load rfl rfl (fun w' hx => ld1 tU_ok rfl rfl (CA.ext ((hS.rd (i := 1) rfl).at_ e12 ht12) hx) rfl)) ?_
          refine OJ.pures tU_ok 1 rfl ?_
          refine OJ.nil (EJ.next ?_)
          refine CJ.seq ?_
          refine CJ.region ?_
          refine OJ.pures tU_ok 1 rfl ?_
          obtain ⟨t13, ht13, H⟩ := pbind H
          refine OJ.callF rfl rfl rfl rfl rfl hb27 rfl (strings_Cut.c _ t12 (⟨#[58]⟩ : ByteArray) (hS.ro (i := 0) rfl) _ ht13) ?_
          rintro _ w1 ⟨rfl, hs⟩
          replace hS := hS.grow hs
          refine OJ.pures tU_ok 7 rfl ?_
          refine OJ.nil (EJ.next ?_)
          refine CJ.seq ?_
          refine CJ.region ?_
          refine OJ.pures tU_ok 1 rfl ?_
          obtain ⟨t14, ht14, H⟩ := pbind H
          refine OJ.callF rfl rfl rfl rfl rfl hb28 rfl (impl_number.c _ t13.1 1000 (hS.ro (i := 0) rfl) _ ht14) ?_
          rintro _ w1 ⟨rfl, hs⟩
          replace hS := hS.grow hs
          refine OJ.pures tU_ok 5 rfl ?_
          refine OJ.nil (EJ.next ?_)
          refine CJ.seq ?_
          refine CJ.region ?_
          refine OJ.pures tU_ok 1 rfl ?_
          obtain ⟨t15, ht15, H⟩ := pbind H
          refine OJ.callF rfl rfl rfl rfl rfl hb29 rfl (impl_readSpot.c _ t13.2.1 (hS.ro (i := 0) rfl) _ ht15) ?_
          rintro _ w1 ⟨rfl, hs⟩
          replace hS := hS.grow hs
          refine OJ.pures tU_ok 3 rfl ?_
          refine OJ.ef rfl rfl rfl (Ef.alloc hS tI_ok rfl rfl (cSpot.enc (⟨0, 0⟩ : Spot)) rfl) ?_
          rintro _ w1 ⟨b16, rfl, hS⟩
          refine OJ.es rfl rfl (Es.store tI_ok hS (i := 2) rfl rfl rfl rfl rfl rfl (vs := cSpot.enc t15.1) rfl (cSpot.len _) (cSpot.one _) (Nat.le_of_ble_eq_true rfl) (cSpot.enc t15.1) rfl) ?_
          intro w1 hS
          refine OJ.pures tU_ok 1 rfl ?_
          refine OJ.nil (EJ.next ?_)
          refine CJ.seq ?_
          obtain ⟨j15, H, K15⟩ := pbind H
          refine CJ.cut (fun F w1 => ∃ (y17 : Bool) , (some y17 : Option Bool) = some j15 ∧ F = [(0, .string a0), (4, .slice A9 y8.length c10), (10, .int .i64 t14.1), (12, .pointer (some ⟨b16, 0, none⟩)), (19, .slice A3 t2.length c4), (20, .int .i64 (t2.length : Int)), (21, .int .i64 y11), (46, .bool y17)] ∧ St w no w1 [rowC cSight A9 c10 39 y8, rowC G.cs A3 c4 9 t2, box b16 (cSpot.enc t15.1) 37] [envC Tryd.prog 0]) ?_ ?_
          · skip
            refine CJ.region ?_
            refine OJ.pures tU_ok 3 rfl ?_
            refine OJ.split (t := 43) rfl (fun hb => ?_) (fun hb => ?_)
            · replace H := pif_t hb H
              refine OJ.pures tU_ok 3 rfl ?_
              refine OJ.nil ?_
              exact EJ.meet (F' := [(0, .string a0), (4, .slice A9 y8.length c10), (10, .int .i64 t14.1), (12, .pointer (some ⟨b16, 0, none⟩)), (19, .slice A3 t2.length c4), (20, .int .i64 (t2.length : Int)), (21, .int .i64 y11), (46, .bool true)]) ⟨rfl, rfl, rfl, rfl, rfl, rfl, rfl, rfl, trivial⟩ ⟨true, H, rfl, hS.pick [0, 1, 2] [0] rfl⟩
            · replace H := pifb_f hb H
              refine OJ.pures tU_ok 3 rfl ?_
              refine OJ.nil ?_
              exact EJ.meet (F' := [(0, .string a0), (4, .slice A9 y8.length c10), (10, .int .i64 t14.1), (12, .pointer (some ⟨b16, 0, none⟩)), (19, .slice A3 t2.length c4), (20, .int .i64 (t2.length : Int)), (21, .int .i64 y11), (46, .bool (!t15.2))]) ⟨rfl, rfl, rfl, rfl, rfl, rfl, rfl, rfl, trivial⟩ ⟨(!t15.2), H, rfl, hS.pick [0, 1, 2] [0] rfl⟩
          · rintro F w1 ⟨y17, he, rfl, hS⟩
            obtain rfl := Option.some.inj he
            have H := K15
            refine CJ.cond rfl (fun hb => ?_) (fun hb => ?_)
            · replace H := pif_t hb H
              refine CJ.seq ?_
              refine CJ.region ?_
              refine OJ.pures tU_ok 2 rfl ?_
              refine OJ.nil (EJ.next ?_)
              refine CJ.ret (EJ.skR (EJ.bkR (EJ.skR (EJ.skR (EJ.bkR (EJ.skR (EJ.skR (?_))))))))
              first | (obtain rfl := Option.some.inj H; have H := K12) | (obtain ⟨q12, H2, e12⟩ := pbind H; obtain rfl := Option.some.inj e12; obtain rfl := Option.some.inj K12; have H := H2)
              replace hS := hS.addNil cSight 39 none
              obtain rfl := Option.some.inj H
              exact EJ.fin rfl (.tmp rfl (.tmp rfl .nil)) ⟨none, 0, rfl, hS.pick [3] [] rfl⟩
            · replace H := pifb_f hb H
              refine CJ.skip (EJ.next ?_)
              refine CJ.region ?_
              refine OJ.pures tU_ok 3 rfl ?_
              refine OJ.st rfl rfl rfl (SR.load rfl rfl (fun w' hx => ldE tU_ok tI_ok rfl rfl rfl (CA.ext (hS.cells (i := 2) rfl) hx) rfl)) ?_
              refine OJ.st rfl rfl rfl (SR.build (C := cSight) tU_ok tI_ok rfl rfl rfl (zs := [.int .i16 0, .int .i8 0, .int .i8 0]) rfl rfl rfl (⟨IntKind.i16.wrap t14.1, t15.1⟩ : Sight) rfl) ?_
              refine OJ.ef rfl rfl rfl (Ef.lit tU_ok tI_ok hS (C := cSight) rfl rfl rfl rfl rfl rfl ([(⟨IntKind.i16.wrap t14.1, t15.1⟩ : Sight)] : List Sight) rfl rfl rfl rfl) ?_
              rintro _ w1 ⟨A18, rfl, hS⟩
              obtain ⟨u19, hu19, H⟩ := pbind H
              refine OJ.ew rfl rfl rfl (Ew.append tU_ok tI_ok (C := cSight) (xs := y8) (ys := ([(⟨IntKind.i16.wrap t14.1, t15.1⟩ : Sight)] : List Sight)) hS (i := 0) rfl rfl rfl rfl rfl rfl rfl rfl rfl rfl rfl rfl rfl (hS.rd (i := 3) rfl) (chk_some hu19)) ?_
              rintro _ w1 ⟨A20, c21, rfl, hS⟩
              refine OJ.pures tU_ok 1 rfl ?_
              refine OJ.nil (EJ.blk (EJ.next ?_))
              refine CJ.region ?_
              refine OJ.pures tU_ok 2 rfl ?_
              refine OJ.nil ?_
              exact EJ.round k (F' := [(0, .string a0), (4, .slice A20 (y8 ++ ([(⟨IntKind.i16.wrap t14.1, t15.1⟩ : Sight)] : List Sight)).length c21), (19, .slice A3 t2.length c4), (20, .int .i64 (t2.length : Int)), (21, .int .i64 (IntKind.i64.wrap (y11 + 1)))]) ⟨rfl, rfl, rfl, rfl, rfl, trivial⟩ (Nat.lt_succ_self _) ⟨(y8 ++ ([(⟨IntKind.i16.wrap t14.1, t15.1⟩ : Sight)] : List Sight)), (IntKind.i64.wrap (y11 + 1)), A20, c21, rfl, hS.pick [0, 1] [0] rfl, H⟩
        · replace H := pif_f (of_decide_eq_false hb) H
          refine CJ.exit (EJ.skE (EJ.skE (EJ.hit (?_))))
          exact EJ.meet (F' := [(0, .string a0), (4, .slice A9 y8.length c10)]) ⟨rfl, rfl, trivial⟩ ⟨y8, A9, c10, H, rfl, hS.pick [0] [0] rfl⟩
    · rintro F w1 ⟨y5, A6, c7, he, rfl, hS⟩
      obtain rfl := Option.some.inj he
      have H := K12
      refine EJ.next ?_
      refine CJ.seq ?_
      refine CJ.seq ?_
      refine CJ.region ?_
      refine OJ.pures tU_ok 1 rfl ?_
      obtain ⟨t22, ht22, H⟩ := pbind H
      refine OJ.callF rfl rfl rfl rfl rfl hb8 rfl (impl_SightsText.c k _ A6 c7 y5 (hS.rd (i := 0) rfl) (hS.le (i := 0) rfl) (hS.ro (i := 0) rfl) _ ht22) ?_
      rintro _ w1 ⟨rfl, hs⟩
      replace hS := hS.grow hs
      refine OJ.pures tU_ok 2 rfl ?_
      refine OJ.nil (EJ.next ?_)
      refine CJ.cond rfl (fun hb => ?_) (fun hb => ?_)
      · replace H := pif_t (of_decide_eq_true hb) H
        refine CJ.seq ?_
        refine CJ.region ?_
        refine OJ.pures tU_ok 2 rfl ?_
        refine OJ.nil (EJ.next ?_)
        refine CJ.ret (EJ.skR (?_))
        replace hS := hS.addNil cSight 39 none
        obtain rfl := Option.some.inj H
        exact EJ.fin rfl (.tmp rfl (.tmp rfl .nil)) ⟨none, 0, rfl, hS.pick [1] [] rfl⟩
      · replace H := pif_f (of_decide_eq_false hb) H
        refine CJ.skip (EJ.next ?_)
        refine CJ.seq ?_
        refine CJ.region ?_
        refine OJ.pures tU_ok 3 rfl ?_
        refine OJ.nil (EJ.next ?_)
        refine CJ.ret (?_)
        obtain rfl := Option.some.inj H
        exact EJ.fin rfl (.tmp rfl (.tmp rfl .nil)) ⟨A6, c7, rfl, hS.pick [0] [] rfl⟩

def laws_eqSpot.f (a0 : Spot) (a1 : Spot) : Option Bool := if a0.X ≠ a1.X then (some false) else (if a0.Y ≠ a1.Y then (some false) else (some true))
theorem laws_eqSpot.c (w : World) (a0 : Spot) (a1 : Spot) (r : Bool) (H : laws_eqSpot.f a0 a1 = some r) :
    CV Tryd.prog 39 [.agg (cSpot.enc a0).toArray, .agg (cSpot.enc a1).toArray].toArray w fun v w' => v = .bool r ∧ Ext w w' := by
  have hS := (St.init w no)
  unfold laws_eqSpot.f at H
  refine CV.body Tryd.func39 rfl Tryd.ntmps39 rfl ?_
  refine CJ.seq ?_
  refine CJ.region ?_
  refine OJ.ef rfl rfl rfl (Ef.box hS rfl rfl (cSpot.enc a0) rfl) ?_
  rintro _ w1 ⟨b1, rfl, hS⟩
  refine OJ.ef rfl rfl rfl (Ef.box hS rfl rfl (cSpot.enc a1) rfl) ?_
  rintro _ w1 ⟨b2, rfl, hS⟩
  refine OJ.pures tU_ok 1 rfl ?_
  refine OJ.nil (EJ.next ?_)
  refine CJ.seq ?_
  refine CJ.seq ?_
  refine CJ.region ?_
  refine OJ.st rfl rfl rfl (SR.fieldAddr tU_ok tI_ok rfl rfl rfl rfl rfl rfl) ?_
  refine OJ.st rfl rfl rfl (SR.load rfl rfl (fun w' hx => ld1 tU_ok rfl rfl (CA.ext (CA.sub (hS.cells (i := 0) rfl) 0) hx) rfl)) ?_
  refine OJ.st rfl rfl rfl (SR.fieldAddr tU_ok tI_ok rfl rfl rfl rfl rfl rfl) ?_
  refine OJ.st rfl rfl rfl (SR.load rfl rfl (fun w' hx => ld1 tU_ok rfl rfl (CA.ext (CA.sub (hS.cells (i := 1) rfl) 0) hx) rfl)) ?_
  refine OJ.pures tU_ok 1 rfl ?_
  refine OJ.nil (EJ.next ?_)
  refine CJ.cond rfl (fun hb => ?_) (fun hb => ?_)
  · replace H := pif_t (of_decide_eq_true hb) H
    refine CJ.seq ?_
    refine CJ.region ?_
    refine OJ.pures tU_ok 1 rfl ?_
    refine OJ.nil (EJ.next ?_)
    refine CJ.ret (EJ.skR (?_))
    obtain rfl := Option.some.inj H
    exact EJ.fin rfl (.tmp rfl .nil) ⟨rfl, hS.ext⟩
  · replace H := pif_f (of_decide_eq_false hb) H
    refine CJ.skip (EJ.next ?_)
    refine CJ.seq ?_
    refine CJ.seq ?_
    refine CJ.region ?_
    refine OJ.st rfl rfl rfl (SR.fieldAddr tU_ok tI_ok rfl rfl rfl rfl rfl rfl) ?_
    refine OJ.st rfl rfl rfl (SR.load rfl rfl (fun w' hx => ld1 tU_ok rfl rfl (CA.ext (CA.sub (hS.cells (i := 0) rfl) 1) hx) rfl)) ?_
    refine OJ.st rfl rfl rfl (SR.fieldAddr tU_ok tI_ok rfl rfl rfl rfl rfl rfl) ?_
    refine OJ.st rfl rfl rfl (SR.load rfl rfl (fun w' hx => ld1 tU_ok rfl rfl (CA.ext (CA.sub (hS.cells (i := 1) rfl) 1) hx) rfl)) ?_
    refine OJ.pures tU_ok 1 rfl ?_
    refine OJ.nil (EJ.next ?_)
    refine CJ.cond rfl (fun hb => ?_) (fun hb => ?_)
    · replace H := pif_t (of_decide_eq_true hb) H
      refine CJ.seq ?_
      refine CJ.region ?_
      refine OJ.pures tU_ok 1 rfl ?_
      refine OJ.nil (EJ.next ?_)
      refine CJ.ret (EJ.skR (?_))
      obtain rfl := Option.some.inj H
      exact EJ.fin rfl (.tmp rfl .nil) ⟨rfl, hS.ext⟩
    · replace H := pif_f (of_decide_eq_false hb) H
      refine CJ.skip (EJ.next ?_)
      refine CJ.seq ?_
      refine CJ.region ?_
      refine OJ.pures tU_ok 1 rfl ?_
      refine OJ.nil (EJ.next ?_)
      refine CJ.ret (?_)
      obtain rfl := Option.some.inj H
      exact EJ.fin rfl (.tmp rfl .nil) ⟨rfl, hS.ext⟩

def laws_eqSight.f (a0 : Sight) (a1 : Sight) : Option Bool := if a0.Day ≠ a1.Day then (some false) else ((laws_eqSpot.f a0.At a1.At).bind fun t3 => if (!t3) = true then (some false) else (some true))
theorem laws_eqSight.c (w : World) (a0 : Sight) (a1 : Sight) (r : Bool) (H : laws_eqSight.f a0 a1 = some r) :
    CV Tryd.prog 22 [.agg (cSight.enc a0).toArray, .agg (cSight.enc a1).toArray].toArray w fun v w' => v = .bool r ∧ Ext w w' := by
  have hS := (St.init w no)
  unfold laws_eqSight.f at H
  refine CV.body Tryd.func22 rfl Tryd.ntmps22 rfl ?_
  refine CJ.seq ?_
  refine CJ.region ?_
  refine OJ.ef rfl rfl rfl (Ef.box hS rfl rfl (cSight.enc a0) rfl) ?_
  rintro _ w1 ⟨b1, rfl, hS⟩
  refine OJ.ef rfl rfl rfl (Ef.box hS rfl rfl (cSight.enc a1) rfl) ?_
  rintro _ w1 ⟨b2, rfl, hS⟩
  refine OJ.pures tU_ok 1 rfl ?_
  refine OJ.nil (EJ.next ?_)
  refine CJ.seq ?_
  refine CJ.seq ?_
  refine CJ.region ?_
  refine OJ.st rfl rfl rfl (SR.fieldAddr tU_ok tI_ok rfl rfl rfl rfl rfl rfl) ?_
  refine OJ.st rfl rfl rfl (SR.load rfl rfl (fun w' hx => ld1 tU_ok rfl rfl (CA.ext (CA.sub (hS.cells (i := 0) rfl) 0) hx) rfl)) ?_
  refine OJ.st rfl rfl rfl (SR.fieldAddr tU_ok tI_ok rfl rfl rfl rfl rfl rfl) ?_
  refine OJ.st rfl rfl rfl (SR.load rfl rfl (fun w' hx => ld1 tU_ok rfl rfl (CA.ext (CA.sub (hS.cells (i := 1) rfl) 0) hx) rfl)) ?_
  refine OJ.pures tU_ok 1 rfl ?_
  refine OJ.nil (EJ.next ?_)
  refine CJ.cond rfl (fun hb => ?_) (fun hb => ?_)
  · replace H := pif_t (of_decide_eq_true hb) H
    refine CJ.seq ?_
    refine CJ.region ?_
    refine OJ.pures tU_ok 1 rfl ?_
    refine OJ.nil (EJ.next ?_)
    refine CJ.ret (EJ.skR (?_))
    obtain rfl := Option.some.inj H
    exact EJ.fin rfl (.tmp rfl .nil) ⟨rfl, hS.ext⟩
  · replace H := pif_f (of_decide_eq_false hb) H
    refine CJ.skip (EJ.next ?_)
    refine CJ.seq ?_
    refine CJ.seq ?_
    refine CJ.region ?_
    refine OJ.st rfl rfl rfl (SR.fieldAddr tU_ok tI_ok rfl rfl rfl rfl rfl rfl) ?_
    refine OJ.st rfl rfl rfl (SR.load rfl rfl (fun w' hx => ldN tU_ok tI_ok rfl rfl rfl (CA.ext (CA.sub (hS.cells (i := 0) rfl) 1) hx) (cSpot.len _) rfl)) ?_
    refine OJ.st rfl rfl rfl (SR.fieldAddr tU_ok tI_ok rfl rfl rfl rfl rfl rfl) ?_
    refine OJ.st rfl rfl rfl (SR.load rfl rfl (fun w' hx => ldN tU_ok tI_ok rfl rfl rfl (CA.ext (CA.sub (hS.cells (i := 1) rfl) 1) hx) (cSpot.len _) rfl)) ?_
    obtain ⟨t3, ht3, H⟩ := pbind H
    refine OJ.callF rfl rfl rfl rfl rfl hb39 rfl (laws_eqSpot.c _ a0.At a1.At _ ht3) ?_
    rintro _ w1 ⟨rfl, hs⟩
    replace hS := hS.grow hs
    refine OJ.pures tU_ok 1 rfl ?_
    refine OJ.nil (EJ.next ?_)
    refine CJ.cond rfl (fun hb => ?_) (fun hb => ?_)
    · replace H := pif_t hb H
      refine CJ.seq ?_
      refine CJ.region ?_
      refine OJ.pures tU_ok 1 rfl ?_
      refine OJ.nil (EJ.next ?_)
      refine CJ.ret (EJ.skR (?_))
      obtain rfl := Option.some.inj H
      exact EJ.fin rfl (.tmp rfl .nil) ⟨rfl, hS.ext⟩
    · replace H := pifb_f hb H
      refine CJ.skip (EJ.next ?_)
      refine CJ.seq ?_
      refine CJ.region ?_
      refine OJ.pures tU_ok 1 rfl ?_
      refine OJ.nil (EJ.next ?_)
      refine CJ.ret (?_)
      obtain rfl := Option.some.inj H
      exact EJ.fin rfl (.tmp rfl .nil) ⟨rfl, hS.ext⟩

def laws_eqSightS.l1 (a0 : List Sight) (a1 : List Sight) : Nat → Int → Option (Bool ⊕ Unit)
  | 0, _ => none
  | k + 1, y1 => if y1 < (a0.length : Int) then ((getI a0 y1).bind fun t2 => (getI a1 y1).bind fun t3 => (laws_eqSight.f t2 t3).bind fun t4 => if (!t4) = true then (some (Sum.inl false)) else (laws_eqSightS.l1 a0 a1 k (IntKind.i64.wrap (y1 + 1)))) else (some (Sum.inr ()))
def laws_eqSightS.f (k : Nat) (a0 : List Sight) (a1 : List Sight) : Option Bool := if (a0.length : Int) ≠ (a1.length : Int) then (some false) else ((laws_eqSightS.l1 a0 a1 k 0).bind fun s20 => match s20 with | .inl r => some r | .inr _ => some true)
theorem laws_eqSightS.c (k : Nat) (w : World) (Aa0 : Option Addr) (ca0 : Nat) (a0 : List Sight) (hr0 : Rd cSight w Aa0 a0) (hc0 : a0.length ≤ ca0) (Aa1 : Option Addr) (ca1 : Nat) (a1 : List Sight) (hr1 : Rd cSight w Aa1 a1) (hc1 : a1.length ≤ ca1) (r : Bool) (H : laws_eqSightS.f k a0 a1 = some r) :
    CV Tryd.prog 9 [.slice Aa0 a0.length ca0, .slice Aa1 a1.length ca1].toArray w fun v w' => v = .bool r ∧ Ext w w' := by
  have hS := (((St.init w no).param cSight Aa0 ca0 a0 hr0 hc0).param cSight Aa1 ca1 a1 hr1 hc1)
  unfold laws_eqSightS.f at H
  refine CV.body Tryd.func9 rfl Tryd.ntmps9 rfl ?_
  refine CJ.seq ?_
  refine CJ.region ?_
  refine OJ.pures tU_ok 1 rfl ?_
  refine OJ.nil (EJ.next ?_)
  refine CJ.seq ?_
  refine CJ.seq ?_
  refine CJ.region ?_
  refine OJ.pures tU_ok 5 rfl ?_
  refine OJ.nil (EJ.next ?_)
  refine CJ.cond rfl (fun hb => ?_) (fun hb => ?_)
  · replace H := pif_t (of_decide_eq_true hb) H
    refine CJ.seq ?_
    refine CJ.region ?_
    refine OJ.pures tU_ok 1 rfl ?_
    refine OJ.nil (EJ.next ?_)
    refine CJ.ret (EJ.skR (?_))
    obtain rfl := Option.some.inj H
    exact EJ.fin rfl (.tmp rfl .nil) ⟨rfl, hS.ext⟩
  · replace H := pif_f (of_decide_eq_false hb) H
    refine CJ.skip (EJ.next ?_)
    refine CJ.seq ?_
    refine CJ.seq ?_
    refine CJ.region ?_
    refine OJ.pures tU_ok 1 rfl ?_
    refine OJ.nil (EJ.next ?_)
    obtain ⟨j20, H, K20⟩ := pbind H
    refine CJ.cut1 (fun F w1 => (some (Sum.inr ()) : Option (Bool ⊕ Unit)) = some j20 ∧ F = [] ∧ St w no w1 [] [roC cSight Aa0 ca0 a0, roC cSight Aa1 ca1 a1]) ?_ ?_
    · skip
      refine CJ.block ?_
      refine CJ.loop (fun k F w1 => ∃ (y1 : Int), F = [(0, .slice Aa0 a0.length ca0), (1, .slice Aa1 a1.length ca1), (5, .int .i64 y1)] ∧ St w no w1 [] [roC cSight Aa0 ca0 a0, roC cSight Aa1 ca1 a1] ∧ laws_eqSightS.l1 a0 a1 k y1 = some j20) k (F' := [(0, .slice Aa0 a0.length ca0), (1, .slice Aa1 a1.length ca1), (5, .int .i64 0)]) ⟨rfl, rfl, rfl, trivial⟩ ⟨0, rfl, hS.pick [] [0, 1] rfl, H⟩ ?_
      rintro k F w1 ⟨y1, rfl, hS, H⟩
      cases k with
      | zero => rw [laws_eqSightS.l1] at H; cases H
      | succ k =>
        rw [laws_eqSightS.l1] at H
        refine CJ.seq ?_
        refine CJ.seq ?_
        refine CJ.region ?_
        refine OJ.pures tU_ok 4 rfl ?_
        refine OJ.nil (EJ.next ?_)
        refine CJ.cond rfl (fun hb => ?_) (fun hb => ?_)
        · replace H := pif_t (of_decide_eq_true hb) H
          refine CJ.skip (EJ.next ?_)
          refine CJ.seq ?_
          refine CJ.block ?_
          refine CJ.seq ?_
          refine CJ.draw [] [0, 1, 2, 3, 4, 5, 6, 7, 8, 9] mixed (by kernel_rfl) hS fun w1 hS => ?_
          refine DJ.pures tU_ok 2 rfl ?_
          obtain ⟨t2, ht2, H⟩ := pbind H
          obtain ⟨ad2, e2⟩ := (hS.rd' (i := 0) rfl).some' ht2
          refine DJ.st rfl rfl rfl rfl rfl (SR.idxS tU_ok tI_ok rfl rfl rfl rfl e2 rfl (getI_some ht2).1) ?_
          refine DJ.st rfl rfl rfl rfl rfl (SR.load rfl rfl (fun w' hx => ldE tU_ok tI_ok rfl rfl rfl (CA.ext ((hS.rd' (i := 0) rfl).at_ e2 ht2) hx) rfl)) ?_
          refine DJ.pures tU_ok 2 rfl ?_
          obtain ⟨t3, ht3, H⟩ := pbind H
          obtain ⟨ad3, e3⟩ := (hS.rd' (i := 1) rfl).some' ht3
          refine DJ.st rfl rfl rfl rfl rfl (SR.idxS tU_ok tI_ok rfl rfl rfl rfl e3 rfl (getI_some ht3).1) ?_
          refine DJ.st rfl rfl rfl rfl rfl (SR.load rfl rfl (fun w' hx => ldE tU_ok tI_ok rfl rfl rfl (CA.ext ((hS.rd' (i := 1) rfl).at_ e3 ht3) hx) rfl)) ?_
          obtain ⟨t4, ht4, H⟩ := pbind H
          refine DJ.callF rfl rfl rfl rfl rfl rfl rfl hb22 rfl (laws_eqSight.c _ t2 t3 _ ht4) (by rintro v w' ⟨rfl, hs⟩; exact hs) ?_
          rintro _ w1 ⟨rfl, hs⟩
          replace hS := hS.grow hs
          refine DJ.pures tU_ok 1 rfl ?_
          refine DJ.nil (EJ.next ?_)
          refine CJ.cond rfl (fun hb => ?_) (fun hb => ?_)
          · replace H := pif_t hb H
            refine CJ.seq ?_
            refine CJ.region ?_
            refine OJ.pures tU_ok 1 rfl ?_
            refine OJ.nil (EJ.next ?_)
            refine CJ.ret (EJ.bkR (EJ.skR (EJ.skR (EJ.bkR (EJ.skR (EJ.skR (?_)))))))
            first | (obtain rfl := Option.some.inj H; have H := K20) | (obtain ⟨q20, H2, e20⟩ := pbind H; obtain rfl := Option.some.inj e20; obtain rfl := Option.some.inj K20; have H := H2)
            obtain rfl := Option.some.inj H
            exact EJ.fin rfl (.tmp rfl .nil) ⟨rfl, hS.ext⟩
          · replace H := pifb_f hb H
            refine CJ.skip (EJ.blk (EJ.next ?_))
            refine CJ.region ?_
            refine OJ.pures tU_ok 3 rfl ?_
            refine OJ.nil ?_
            exact EJ.round k (F' := [(0, .slice Aa0 a0.length ca0), (1, .slice Aa1 a1.length ca1), (5, .int .i64 (IntKind.i64.wrap (y1 + 1)))]) ⟨rfl, rfl, rfl, trivial⟩ (Nat.lt_succ_self _) ⟨(IntKind.i64.wrap (y1 + 1)), rfl, hS.pick [] [0, 1] rfl, H⟩
        · replace H := pif_f (of_decide_eq_false hb) H
          refine CJ.exit (EJ.skE (EJ.skE (EJ.hit (?_))))
          exact EJ.meet (F' := []) trivial ⟨H, rfl, hS.pick [] [0, 1] rfl⟩
    · rintro F w1 ⟨he, rfl, hS⟩
      obtain rfl := Option.some.inj he
      have H := K20
      refine EJ.next ?_
      refine CJ.seq ?_
      refine CJ.region ?_
      refine OJ.pures tU_ok 1 rfl ?_
      refine OJ.nil (EJ.next ?_)
      refine CJ.ret (?_)
      obtain rfl := Option.some.inj H
      exact EJ.fin rfl (.tmp rfl .nil) ⟨rfl, hS.ext⟩

def laws_markSightS.l1 (a0 : List Sight) : Nat → (List Sight) → Int → Int → Option ((List Sight) × Int)
  | 0, _, _, _ => none
  | k + 1, y3, y4, y5 => if y5 < (a0.length : Int) then ((getI y3 y5).bind fun t6 => (getI (y3.set y5.toNat (⟨IntKind.i16.wrap y4, t6.At⟩ : Sight)) y5).bind fun t7 => (getI ((y3.set y5.toNat (⟨IntKind.i16.wrap y4, t6.At⟩ : Sight)).set y5.toNat (⟨t7.Day, (⟨IntKind.i8.wrap (IntKind.i64.wrap (y4 + 1)), t7.At.Y⟩ : Spot)⟩ : Sight)) y5).bind fun t8 => laws_markSightS.l1 a0 k (((y3.set y5.toNat (⟨IntKind.i16.wrap y4, t6.At⟩ : Sight)).set y5.toNat (⟨t7.Day, (⟨IntKind.i8.wrap (IntKind.i64.wrap (y4 + 1)), t7.At.Y⟩ : Spot)⟩ : Sight)).set y5.toNat (⟨t8.Day, (⟨t8.At.X, IntKind.i8.wrap (IntKind.i64.wrap ((IntKind.i64.wrap (y4 + 1)) + 1))⟩ : Spot)⟩ : Sight)) (IntKind.i64.wrap ((IntKind.i64.wrap ((IntKind.i64.wrap (y4 + 1)) + 1)) + 1)) (IntKind.i64.wrap (y5 + 1))) else (some (y3, y4))
def laws_markSightS.f (k : Nat) (a0 : List Sight) (a1 : Int) : Option (Int × List Sight) := (laws_markSightS.l1 a0 k a0 a1 0).bind fun (y1, y2) => some (y2, y1)
theorem laws_markSightS.c (k : Nat) (w : World) (Aa0 : Option Addr) (ca0 : Nat) (a0 : List Sight) (a1 : Int) (hin : St w (fpU [rowC cSight Aa0 ca0 39 a0]) w [rowC cSight Aa0 ca0 39 a0] []) (r : Int × List Sight) (H : laws_markSightS.f k a0 a1 = some r) :
    CV Tryd.prog 12 [.slice Aa0 a0.length ca0, .int .i64 a1].toArray w fun v w' => v = .int .i64 r.1 ∧ St w (fpU [rowC cSight Aa0 ca0 39 a0]) w' [rowC cSight Aa0 ca0 39 r.2] [] ∧ r.2.length = a0.length := by
  have hS := hin
  unfold laws_markSightS.f at H
  refine CV.body Tryd.func12 rfl Tryd.ntmps12 rfl ?_
  have hl0 : a0.length = a0.length := rfl
  refine CJ.seq ?_
  refine CJ.region ?_
  refine OJ.pures tU_ok 1 rfl ?_
  refine OJ.nil (EJ.next ?_)
  refine CJ.seq ?_
  refine CJ.seq ?_
  refine CJ.region ?_
  refine OJ.pures tU_ok 1 rfl ?_
  refine OJ.nil (EJ.next ?_)
  obtain ⟨j22, H, K22⟩ := pbind H
  refine CJ.cut1 (fun F w1 => ∃ (y1 : List Sight) (y2 : Int) , (some (y1, y2) : Option ((List Sight) × Int)) = some j22 ∧ F = [(1, .int .i64 y2)] ∧ St w (fpU [rowC cSight Aa0 ca0 39 a0]) w1 [rowC cSight Aa0 ca0 39 y1] [] ∧ y1.length = a0.length) ?_ ?_
  · skip
    refine CJ.block ?_
    refine CJ.loop (fun k F w1 => ∃ (y3 : List Sight) (y4 : Int) (y5 : Int), F = [(0, .slice Aa0 a0.length ca0), (1, .int .i64 y4), (5, .int .i64 y5)] ∧ St w (fpU [rowC cSight Aa0 ca0 39 a0]) w1 [rowC cSight Aa0 ca0 39 y3] [] ∧ y3.length = a0.length ∧ laws_markSightS.l1 a0 k y3 y4 y5 = some j22) k (F' := [(0, .slice Aa0 a0.length ca0), (1, .int .i64 a1), (5, .int .i64 0)]) ⟨rfl, rfl, rfl, trivial⟩ ⟨a0, a1, 0, rfl, hS.pick [0] [] rfl, (by first | exact hl0 | (simp only [List.length_set]; exact hl0) | (simp only [List.length_set]; done)), H⟩ ?_
    rintro k F w1 ⟨y3, y4, y5, rfl, hS, hl0, H⟩
    cases k with
    | zero => rw [laws_markSightS.l1] at H; cases H
    | succ k =>
      rw [laws_markSightS.l1] at H
      refine CJ.seq ?_
      refine CJ.seq ?_
      refine CJ.region ?_
      refine OJ.pures tU_ok 4 rfl ?_
      refine OJ.nil (EJ.next ?_)
      refine CJ.cond rfl (fun hb => ?_) (fun hb => ?_)
      · replace H := pif_t (of_decide_eq_true hb) H
        refine CJ.skip (EJ.next ?_)
        refine CJ.seq ?_
        refine CJ.block ?_
        refine CJ.seq ?_
        refine CJ.region ?_
        refine OJ.pures tU_ok 4 rfl ?_
        obtain ⟨t6, ht6, H⟩ := pbind H
        obtain ⟨ad6, e6⟩ := (hS.rd (i := 0) rfl).some' ht6
        refine OJ.st rfl rfl rfl (SR.idxS tU_ok tI_ok rfl rfl rfl rfl e6 rfl (by have hg := (getI_some ht6).1; (first | rw [hl0] at hg | (simp only [List.length_set] at hg; rw [hl0] at hg)); exact hg)) ?_
        refine OJ.st rfl rfl rfl (SR.fieldAddr tU_ok tI_ok rfl rfl rfl rfl rfl rfl) ?_
        refine OJ.es rfl rfl (Es.storeR tI_ok hS (i := 0) (off := 0) rfl rfl ht6 e6 rfl (add_add _ _ _) rfl rfl (vs := (ci .i16).enc (IntKind.i16.wrap y4)) rfl rfl (one1 rfl) (Nat.le_of_ble_eq_true rfl) (⟨IntKind.i16.wrap y4, t6.At⟩ : Sight) rfl) ?_
        intro w1 hS
        refine OJ.nil (EJ.next ?_)
        refine CJ.seq ?_
        refine CJ.region ?_
        refine OJ.pures tU_ok 3 rfl ?_
        refine OJ.nil (EJ.next ?_)
        refine CJ.seq ?_
        refine CJ.region ?_
        refine OJ.pures tU_ok 4 rfl ?_
        obtain ⟨t7, ht7, H⟩ := pbind H
        obtain ⟨ad7, e7⟩ := (hS.rd (i := 0) rfl).some' ht7
        refine OJ.st rfl rfl rfl (SR.idxS tU_ok tI_ok rfl rfl rfl rfl e7 rfl (by have hg := (getI_some ht7).1; (first | rw [hl0] at hg | (simp only [List.length_set] at hg; rw [hl0] at hg)); exact hg)) ?_
        refine OJ.st rfl rfl rfl (SR.fieldAddr tU_ok tI_ok rfl rfl rfl rfl rfl rfl) ?_
        refine OJ.st rfl rfl rfl (SR.fieldAddr tU_ok tI_ok rfl rfl rfl rfl rfl rfl) ?_
        refine OJ.es rfl rfl (Es.storeR tI_ok hS (i := 0) (off := 1) rfl rfl ht7 e7 rfl (by simp only [add_add, Nat.add_assoc]; rfl) rfl rfl (vs := (ci .i8).enc (IntKind.i8.wrap (IntKind.i64.wrap (y4 + 1)))) rfl rfl (one1 rfl) (Nat.le_of_ble_eq_true rfl) (⟨t7.Day, (⟨IntKind.i8.wrap (IntKind.i64.wrap (y4 + 1)), t7.At.Y⟩ : Spot)⟩ : Sight) rfl) ?_
        intro w1 hS
        refine OJ.nil (EJ.next ?_)
        refine CJ.seq ?_
        refine CJ.region ?_
        refine OJ.pures tU_ok 3 rfl ?_
        refine OJ.nil (EJ.next ?_)
        refine CJ.seq ?_
        refine CJ.region ?_
        refine OJ.pures tU_ok 4 rfl ?_
        obtain ⟨t8, ht8, H⟩ := pbind H
        obtain ⟨ad8, e8⟩ := (hS.rd (i := 0) rfl).some' ht8
        refine OJ.st rfl rfl rfl (SR.idxS tU_ok tI_ok rfl rfl rfl rfl e8 rfl (by have hg := (getI_some ht8).1; (first | rw [hl0] at hg | (simp only [List.length_set] at hg; rw [hl0] at hg)); exact hg)) ?_
        refine OJ.st rfl rfl rfl (SR.fieldAddr tU_ok tI_ok rfl rfl rfl rfl rfl rfl) ?_
        refine OJ.st rfl rfl rfl (SR.fieldAddr tU_ok tI_ok rfl rfl rfl rfl rfl rfl) ?_
        refine OJ.es rfl rfl (Es.storeR tI_ok hS (i := 0) (off := 2) rfl rfl ht8 e8 rfl (by simp only [add_add, Nat.add_assoc]; rfl) rfl rfl (vs := (ci .i8).enc (IntKind.i8.wrap (IntKind.i64.wrap ((IntKind.i64.wrap (y4 + 1)) + 1)))) rfl rfl (one1 rfl) (Nat.le_of_ble_eq_true rfl) (⟨t8.Day, (⟨t8.At.X, IntKind.i8.wrap (IntKind.i64.wrap ((IntKind.i64.wrap (y4 + 1)) + 1))⟩ : Spot)⟩ : Sight) rfl) ?_
        intro w1 hS
        refine OJ.nil (EJ.next ?_)
        refine CJ.region ?_
        refine OJ.pures tU_ok 3 rfl ?_
        refine OJ.nil (EJ.blk (EJ.next ?_))
        refine CJ.region ?_
        refine OJ.pures tU_ok 3 rfl ?_
        refine OJ.nil ?_
        exact EJ.round k (F' := [(0, .slice Aa0 a0.length ca0), (1, .int .i64 (IntKind.i64.wrap ((IntKind.i64.wrap ((IntKind.i64.wrap (y4 + 1)) + 1)) + 1))), (5, .int .i64 (IntKind.i64.wrap (y5 + 1)))]) ⟨rfl, rfl, rfl, trivial⟩ (Nat.lt_succ_self _) ⟨(((y3.set y5.toNat (⟨IntKind.i16.wrap y4, t6.At⟩ : Sight)).set y5.toNat (⟨t7.Day, (⟨IntKind.i8.wrap (IntKind.i64.wrap (y4 + 1)), t7.At.Y⟩ : Spot)⟩ : Sight)).set y5.toNat (⟨t8.Day, (⟨t8.At.X, IntKind.i8.wrap (IntKind.i64.wrap ((IntKind.i64.wrap (y4 + 1)) + 1))⟩ : Spot)⟩ : Sight)), (IntKind.i64.wrap ((IntKind.i64.wrap ((IntKind.i64.wrap (y4 + 1)) + 1)) + 1)), (IntKind.i64.wrap (y5 + 1)), rfl, hS.pick [0] [] rfl, (by first | exact hl0 | (simp only [List.length_set]; exact hl0) | (simp only [List.length_set]; done)), H⟩
      · replace H := pif_f (of_decide_eq_false hb) H
        refine CJ.exit (EJ.skE (EJ.skE (EJ.hit (?_))))
        exact EJ.meet (F' := [(1, .int .i64 y4)]) ⟨rfl, trivial⟩ ⟨y3, y4, H, rfl, hS.pick [0] [] rfl, (by first | exact hl0 | (simp only [List.length_set]; exact hl0) | (simp only [List.length_set]; done))⟩
  · rintro F w1 ⟨y1, y2, he, rfl, hS, hl0⟩
    obtain rfl := Option.some.inj he
    have H := K22
    refine EJ.next ?_
    refine CJ.seq ?_
    refine CJ.region ?_
    refine OJ.pures tU_ok 2 rfl ?_
    refine OJ.nil (EJ.next ?_)
    refine CJ.ret (?_)
    obtain rfl := Option.some.inj H
    exact EJ.fin rfl (.tmp rfl .nil) ⟨rfl, hS.pick [0] [] rfl, (by first | exact hl0 | (simp only [List.length_set]; exact hl0) | (simp only [List.length_set]; done))⟩

def laws_heldSightS.l1 (a0 : List Sight) : Nat → Int → Int → Option (Int ⊕ Int)
  | 0, _, _ => none
  | k + 1, y2, y3 => if y3 < (a0.length : Int) then ((getI a0 y3).bind fun t4 => if t4.Day ≠ (IntKind.i16.wrap y2) then (some (Sum.inl (-1))) else ((getI a0 y3).bind fun t5 => if t5.At.X ≠ (IntKind.i8.wrap (IntKind.i64.wrap (y2 + 1))) then (some (Sum.inl (-1))) else ((getI a0 y3).bind fun t6 => if t6.At.Y ≠ (IntKind.i8.wrap (IntKind.i64.wrap ((IntKind.i64.wrap (y2 + 1)) + 1))) then (some (Sum.inl (-1))) else (laws_heldSightS.l1 a0 k (IntKind.i64.wrap ((IntKind.i64.wrap ((IntKind.i64.wrap (y2 + 1)) + 1)) + 1)) (IntKind.i64.wrap (y3 + 1)))))) else (some (Sum.inr y2))
def laws_heldSightS.f (k : Nat) (a0 : List Sight) (a1 : Int) : Option Int := (laws_heldSightS.l1 a0 k a1 0).bind fun s23 => match s23 with | .inl r => some r | .inr y1 => some y1
theorem laws_heldSightS.c (k : Nat) (w : World) (Aa0 : Option Addr) (ca0 : Nat) (a0 : List Sight) (hr0 : Rd cSight w Aa0 a0) (hc0 : a0.length ≤ ca0) (a1 : Int) (r : Int) (H : laws_heldSightS.f k a0 a1 = some r) :
    CV Tryd.prog 13 [.slice Aa0 a0.length ca0, .int .i64 a1].toArray w fun v w' => v = .int .i64 r ∧ Ext w w' := by
  have hS := ((St.init w no).param cSight Aa0 ca0 a0 hr0 hc0)
  unfold laws_heldSightS.f at H
  refine CV.body Tryd.func13 rfl Tryd.ntmps13 rfl ?_
  refine CJ.seq ?_
  refine CJ.region ?_
  refine OJ.pures tU_ok 1 rfl ?_
  refine OJ.nil (EJ.next ?_)
  refine CJ.seq ?_
  refine CJ.seq ?_
  refine CJ.region ?_
  refine OJ.pures tU_ok 1 rfl ?_
  refine OJ.nil (EJ.next ?_)
  obtain ⟨j23, H, K23⟩ := pbind H
  refine CJ.cut1 (fun F w1 => ∃ (y1 : Int) , (some (Sum.inr y1) : Option (Int ⊕ Int)) = some j23 ∧ F = [(1, .int .i64 y1)] ∧ St w no w1 [] [roC cSight Aa0 ca0 a0]) ?_ ?_
  · skip
    refine CJ.block ?_
    refine CJ.loop (fun k F w1 => ∃ (y2 : Int) (y3 : Int), F = [(0, .slice Aa0 a0.length ca0), (1, .int .i64 y2), (5, .int .i64 y3)] ∧ St w no w1 [] [roC cSight Aa0 ca0 a0] ∧ laws_heldSightS.l1 a0 k y2 y3 = some j23) k (F' := [(0, .slice Aa0 a0.length ca0), (1, .int .i64 a1), (5, .int .i64 0)]) ⟨rfl, rfl, rfl, trivial⟩ ⟨a1, 0, rfl, hS.pick [] [0] rfl, H⟩ ?_
    rintro k F w1 ⟨y2, y3, rfl, hS, H⟩
    cases k with
    | zero => rw [laws_heldSightS.l1] at H; cases H
    | succ k =>
      rw [laws_heldSightS.l1] at H
      refine CJ.seq ?_
      refine CJ.seq ?_
      refine CJ.region ?_
      refine OJ.pures tU_ok 4 rfl ?_
      refine OJ.nil (EJ.next ?_)
      refine CJ.cond rfl (fun hb => ?_) (fun hb => ?_)
      · replace H := pif_t (of_decide_eq_true hb) H
        refine CJ.skip (EJ.next ?_)
        refine CJ.seq ?_
        refine CJ.block ?_
        refine CJ.seq ?_
        refine CJ.seq ?_
        refine CJ.region ?_
        refine OJ.pures tU_ok 2 rfl ?_
        obtain ⟨t4, ht4, H⟩ := pbind H
        obtain ⟨ad4, e4⟩ := (hS.rd' (i := 0) rfl).some' ht4
        refine OJ.st rfl rfl rfl (SR.idxS tU_ok tI_ok rfl rfl rfl rfl e4 rfl (getI_some ht4).1) ?_
        refine OJ.st rfl rfl rfl (SR.fieldAddr tU_ok tI_ok rfl rfl rfl rfl rfl rfl) ?_
        refine OJ.st rfl rfl rfl (SR.load rfl rfl (fun w' hx => ld1 tU_ok rfl rfl (CA.ext (CA.sub ((hS.rd' (i := 0) rfl).at_ e4 ht4) 0) hx) rfl)) ?_
        refine OJ.pures tU_ok 3 rfl ?_
        refine OJ.nil (EJ.next ?_)
        refine CJ.cond rfl (fun hb => ?_) (fun hb => ?_)
        · replace H := pif_t (of_decide_eq_true hb) H
          refine CJ.seq ?_
          refine CJ.region ?_
          refine OJ.pures tU_ok 1 rfl ?_
          refine OJ.nil (EJ.next ?_)
          refine CJ.ret (EJ.skR (EJ.bkR (EJ.skR (EJ.skR (EJ.bkR (EJ.skR (EJ.skR (?_))))))))
          first | (obtain rfl := Option.some.inj H; have H := K23) | (obtain ⟨q23, H2, e23⟩ := pbind H; obtain rfl := Option.some.inj e23; obtain rfl := Option.some.inj K23; have H := H2)
          obtain rfl := Option.some.inj H
          exact EJ.fin rfl (.tmp rfl .nil) ⟨rfl, hS.ext⟩
        · replace H := pif_f (of_decide_eq_false hb) H
          refine CJ.skip (EJ.next ?_)
          refine CJ.seq ?_
          refine CJ.region ?_
          refine OJ.pures tU_ok 3 rfl ?_
          refine OJ.nil (EJ.next ?_)
          refine CJ.seq ?_
          refine CJ.seq ?_
          refine CJ.region ?_
          refine OJ.pures tU_ok 2 rfl ?_
          obtain ⟨t5, ht5, H⟩ := pbind H
          obtain ⟨ad5, e5⟩ := (hS.rd' (i := 0) rfl).some' ht5
          refine OJ.st rfl rfl rfl (SR.idxS tU_ok tI_ok rfl rfl rfl rfl e5 rfl (getI_some ht5).1) ?_
          refine OJ.st rfl rfl rfl (SR.fieldAddr tU_ok tI_ok rfl rfl rfl rfl rfl rfl) ?_
          refine OJ.st rfl rfl rfl (SR.fieldAddr tU_ok tI_ok rfl rfl rfl rfl rfl rfl) ?_
          refine OJ.st rfl rfl rfl (SR.load rfl rfl (fun w' hx => ld1 tU_ok rfl rfl (CA.ext (CA.sub (CA.sub ((hS.rd' (i := 0) rfl).at_ e5 ht5) 1) 0) hx) rfl)) ?_
          refine OJ.pures tU_ok 3 rfl ?_
          refine OJ.nil (EJ.next ?_)
          refine CJ.cond rfl (fun hb => ?_) (fun hb => ?_)
          · replace H := pif_t (of_decide_eq_true hb) H
            refine CJ.seq ?_
            refine CJ.region ?_
            refine OJ.pures tU_ok 1 rfl ?_
            refine OJ.nil (EJ.next ?_)
            refine CJ.ret (EJ.skR (EJ.bkR (EJ.skR (EJ.skR (EJ.bkR (EJ.skR (EJ.skR (?_))))))))
            first | (obtain rfl := Option.some.inj H; have H := K23) | (obtain ⟨q23, H2, e23⟩ := pbind H; obtain rfl := Option.some.inj e23; obtain rfl := Option.some.inj K23; have H := H2)
            obtain rfl := Option.some.inj H
            exact EJ.fin rfl (.tmp rfl .nil) ⟨rfl, hS.ext⟩
          · replace H := pif_f (of_decide_eq_false hb) H
            refine CJ.skip (EJ.next ?_)
            refine CJ.seq ?_
            refine CJ.region ?_
            refine OJ.pures tU_ok 3 rfl ?_
            refine OJ.nil (EJ.next ?_)
            refine CJ.seq ?_
            refine CJ.seq ?_
            refine CJ.region ?_
            refine OJ.pures tU_ok 2 rfl ?_
            obtain ⟨t6, ht6, H⟩ := pbind H
            obtain ⟨ad6, e6⟩ := (hS.rd' (i := 0) rfl).some' ht6
            refine OJ.st rfl rfl rfl (SR.idxS tU_ok tI_ok rfl rfl rfl rfl e6 rfl (getI_some ht6).1) ?_
            refine OJ.st rfl rfl rfl (SR.fieldAddr tU_ok tI_ok rfl rfl rfl rfl rfl rfl) ?_
            refine OJ.st rfl rfl rfl (SR.fieldAddr tU_ok tI_ok rfl rfl rfl rfl rfl rfl) ?_
            refine OJ.st rfl rfl rfl (SR.load rfl rfl (fun w' hx => ld1 tU_ok rfl rfl (CA.ext (CA.sub (CA.sub ((hS.rd' (i := 0) rfl).at_ e6 ht6) 1) 1) hx) rfl)) ?_
            refine OJ.pures tU_ok 3 rfl ?_
            refine OJ.nil (EJ.next ?_)
            refine CJ.cond rfl (fun hb => ?_) (fun hb => ?_)
            · replace H := pif_t (of_decide_eq_true hb) H
              refine CJ.seq ?_
              refine CJ.region ?_
              refine OJ.pures tU_ok 1 rfl ?_
              refine OJ.nil (EJ.next ?_)
              refine CJ.ret (EJ.skR (EJ.bkR (EJ.skR (EJ.skR (EJ.bkR (EJ.skR (EJ.skR (?_))))))))
              first | (obtain rfl := Option.some.inj H; have H := K23) | (obtain ⟨q23, H2, e23⟩ := pbind H; obtain rfl := Option.some.inj e23; obtain rfl := Option.some.inj K23; have H := H2)
              obtain rfl := Option.some.inj H
              exact EJ.fin rfl (.tmp rfl .nil) ⟨rfl, hS.ext⟩
            · replace H := pif_f (of_decide_eq_false hb) H
              refine CJ.skip (EJ.next ?_)
              refine CJ.region ?_
              refine OJ.pures tU_ok 3 rfl ?_
              refine OJ.nil (EJ.blk (EJ.next ?_))
              refine CJ.region ?_
              refine OJ.pures tU_ok 3 rfl ?_
              refine OJ.nil ?_
              exact EJ.round k (F' := [(0, .slice Aa0 a0.length ca0), (1, .int .i64 (IntKind.i64.wrap ((IntKind.i64.wrap ((IntKind.i64.wrap (y2 + 1)) + 1)) + 1))), (5, .int .i64 (IntKind.i64.wrap (y3 + 1)))]) ⟨rfl, rfl, rfl, trivial⟩ (Nat.lt_succ_self _) ⟨(IntKind.i64.wrap ((IntKind.i64.wrap ((IntKind.i64.wrap (y2 + 1)) + 1)) + 1)), (IntKind.i64.wrap (y3 + 1)), rfl, hS.pick [] [0] rfl, H⟩
      · replace H := pif_f (of_decide_eq_false hb) H
        refine CJ.exit (EJ.skE (EJ.skE (EJ.hit (?_))))
        exact EJ.meet (F' := [(1, .int .i64 y2)]) ⟨rfl, trivial⟩ ⟨y2, H, rfl, hS.pick [] [0] rfl⟩
  · rintro F w1 ⟨y1, he, rfl, hS⟩
    obtain rfl := Option.some.inj he
    have H := K23
    refine EJ.next ?_
    refine CJ.seq ?_
    refine CJ.region ?_
    refine OJ.pures tU_ok 2 rfl ?_
    refine OJ.nil (EJ.next ?_)
    refine CJ.ret (?_)
    obtain rfl := Option.some.inj H
    exact EJ.fin rfl (.tmp rfl .nil) ⟨rfl, hS.ext⟩

def laws_FnExactReadSights.f (k : Nat) (a0 : ByteArray) : Option Bool := if 1048576 < (a0.size : Int) then (some true) else ((spec_ReadSights.f k a0).bind fun t1 => (impl_ReadSights.f k a0).bind fun t4 => ((laws_eqSightS.f k t4.1 t1.1).bind fun t8 => if (!t8) = true then (some true) else (some (decide (t4.2 ≠ t1.2)))).bind fun y7 => if y7 = true then (some false) else ((laws_markSightS.f k t4.1 1).bind fun t9 => (laws_heldSightS.f k t9.2 1).bind fun t10 => if t10 < 0 then (some false) else (if t10 ≠ t9.1 then (some false) else ((impl_ReadSights.f k a0).bind fun t11 => ((laws_eqSightS.f k t11.1 t1.1).bind fun t15 => if (!t15) = true then (some true) else (some (decide (t11.2 ≠ t1.2)))).bind fun y14 => if y14 = true then (some false) else ((laws_heldSightS.f k t9.2 1).bind fun t16 => if t16 < 0 then (some false) else (if t16 ≠ t9.1 then (some false) else (some true)))))))
theorem laws_FnExactReadSights.c (k : Nat) (w : World) (a0 : ByteArray) (hT : (envC Tryd.prog 0).holds w) (r : Bool) (H : laws_FnExactReadSights.f k a0 = some r) :
    CV Tryd.prog 4 [.string a0].toArray w fun v w' => v = .bool r ∧ Ext w w' := by
  have hS := ((St.init w no).paramT (envC Tryd.prog 0) hT)
  unfold laws_FnExactReadSights.f at H
  refine CV.body Tryd.func4 rfl Tryd.ntmps4 rfl ?_
  refine CJ.seq ?_
  refine CJ.region ?_
  refine OJ.pures tU_ok 1 rfl ?_
  refine OJ.nil (EJ.next ?_)
  refine CJ.seq ?_
  refine CJ.seq ?_
  refine CJ.region ?_
  refine OJ.pures tU_ok 3 rfl ?_
  refine OJ.nil (EJ.next ?_)
  refine CJ.cond rfl (fun hb => ?_) (fun hb => ?_)
  · replace H := pif_t (of_decide_eq_true hb) H
    refine CJ.seq ?_
    refine CJ.region ?_
    refine OJ.pures tU_ok 1 rfl ?_
    refine OJ.nil (EJ.next ?_)
    refine CJ.ret (EJ.skR (?_))
    obtain rfl := Option.some.inj H
    exact EJ.fin rfl (.tmp rfl .nil) ⟨rfl, hS.ext⟩
  · replace H := pif_f (of_decide_eq_false hb) H
    refine CJ.skip (EJ.next ?_)
    refine CJ.seq ?_
    refine CJ.region ?_
    refine OJ.pures tU_ok 1 rfl ?_
    obtain ⟨t1, ht1, H⟩ := pbind H
    refine OJ.callF rfl rfl rfl rfl rfl hb10 rfl (spec_ReadSights.c k _ a0 _ ht1) ?_
    rintro _ w1 ⟨A2, c3, rfl, hs⟩
    replace hS := hS.addN hs
    refine OJ.pures tU_ok 5 rfl ?_
    refine OJ.nil (EJ.next ?_)
    refine CJ.seq ?_
    refine CJ.region ?_
    refine OJ.pures tU_ok 1 rfl ?_
    obtain ⟨t4, ht4, H⟩ := pbind H
    refine OJ.callF rfl rfl rfl rfl rfl hb11 rfl (impl_ReadSights.c k _ a0 (hS.ro (i := 0) rfl) _ ht4) ?_
    rintro _ w1 ⟨A5, c6, rfl, hs⟩
    replace hS := hS.addN hs
    refine OJ.pures tU_ok 5 rfl ?_
    refine OJ.nil (EJ.next ?_)
    refine CJ.seq ?_
    obtain ⟨j19, H, K19⟩ := pbind H
    refine CJ.cut (fun F w1 => ∃ (y7 : Bool) , (some y7 : Option Bool) = some j19 ∧ F = [(0, .string a0), (3, .slice A2 t1.1.length c3), (4, .int .i64 t1.2), (5, .slice A5 t4.1.length c6), (32, .bool y7)] ∧ St w no w1 [rowC cSight A2 c3 39 t1.1, rowC cSight A5 c6 39 t4.1] [envC Tryd.prog 0]) ?_ ?_
    · skip
      refine CJ.region ?_
      refine OJ.pures tU_ok 2 rfl ?_
      obtain ⟨t8, ht8, H⟩ := pbind H
      refine OJ.callF rfl rfl rfl rfl rfl hb9 rfl (laws_eqSightS.c k _ A5 c6 t4.1 (hS.rd (i := 1) rfl) (hS.le (i := 1) rfl) A2 c3 t1.1 (hS.rd (i := 0) rfl) (hS.le (i := 0) rfl) _ ht8) ?_
      rintro _ w1 ⟨rfl, hs⟩
      replace hS := hS.grow hs
      refine OJ.pures tU_ok 2 rfl ?_
      refine OJ.split (t := 28) rfl (fun hb => ?_) (fun hb => ?_)
      · replace H := pif_t hb H
        refine OJ.pures tU_ok 4 rfl ?_
        refine OJ.nil ?_
        exact EJ.meet (F' := [(0, .string a0), (3, .slice A2 t1.1.length c3), (4, .int .i64 t1.2), (5, .slice A5 t4.1.length c6), (32, .bool true)]) ⟨rfl, rfl, rfl, rfl, rfl, trivial⟩ ⟨true, H, rfl, hS.pick [0, 1] [0] rfl⟩
      · replace H := pifb_f hb H
        refine OJ.pures tU_ok 4 rfl ?_
        refine OJ.nil ?_
        exact EJ.meet (F' := [(0, .string a0), (3, .slice A2 t1.1.length c3), (4, .int .i64 t1.2), (5, .slice A5 t4.1.length c6), (32, .bool (decide (t4.2 ≠ t1.2)))]) ⟨rfl, rfl, rfl, rfl, rfl, trivial⟩ ⟨(decide (t4.2 ≠ t1.2)), H, rfl, hS.pick [0, 1] [0] rfl⟩
    · rintro F w1 ⟨y7, he, rfl, hS⟩
      obtain rfl := Option.some.inj he
      have H := K19
      refine CJ.cond rfl (fun hb => ?_) (fun hb => ?_)
      · replace H := pif_t hb H
        refine CJ.seq ?_
        refine CJ.region ?_
        refine OJ.pures tU_ok 1 rfl ?_
        refine OJ.nil (EJ.next ?_)
        refine CJ.ret (EJ.skR (?_))
        obtain rfl := Option.some.inj H
        exact EJ.fin rfl (.tmp rfl .nil) ⟨rfl, hS.ext⟩
      · replace H := pifb_f hb H
        refine CJ.skip (EJ.next ?_)
        refine CJ.seq ?_
        refine CJ.region ?_
        refine OJ.pures tU_ok 1 rfl ?_
        refine OJ.nil (EJ.next ?_)
        refine CJ.seq ?_
        refine CJ.region ?_
        refine OJ.pures tU_ok 2 rfl ?_
        obtain ⟨t9, ht9, H⟩ := pbind H
        refine OJ.callF rfl rfl rfl rfl rfl hb12 rfl (laws_markSightS.c k _ A5 c6 t4.1 1 ((hS.subs [1] [] [] rfl).pick [0] [] rfl) _ ht9) ?_
        rintro _ w1 ⟨rfl, hs, hlc0⟩
        replace hS := hS.back [1] rfl rfl [rowC cSight A5 c6 39 t9.2] [] hs ⟨fun _ => Iff.rfl, trivial⟩
        refine OJ.as (t := 5) rfl (show _ = (.slice A5 t9.2.length c6 : Value) by simp only [hlc0]) ?_
        refine OJ.as (t := 33) rfl (show _ = (.slice A5 t9.2.length c6 : Value) by simp only [hlc0]) ?_
        refine OJ.pures tU_ok 1 rfl ?_
        refine OJ.nil (EJ.next ?_)
        refine CJ.seq ?_
        refine CJ.region ?_
        refine OJ.pures tU_ok 1 rfl ?_
        refine OJ.nil (EJ.next ?_)
        refine CJ.seq ?_
        refine CJ.region ?_
        refine OJ.pures tU_ok 2 rfl ?_
        obtain ⟨t10, ht10, H⟩ := pbind H
        refine OJ.callF rfl rfl rfl rfl rfl hb13 rfl (laws_heldSightS.c k _ A5 c6 t9.2 (hS.rd (i := 1) rfl) (hS.le (i := 1) rfl) 1 _ ht10) ?_
        rintro _ w1 ⟨rfl, hs⟩
        replace hS := hS.grow hs
        refine OJ.pures tU_ok 1 rfl ?_
        refine OJ.nil (EJ.next ?_)
        refine CJ.seq ?_
        refine CJ.seq ?_
        refine CJ.region ?_
        refine OJ.pures tU_ok 2 rfl ?_
        refine OJ.nil (EJ.next ?_)
        refine CJ.cond rfl (fun hb => ?_) (fun hb => ?_)
        · replace H := pif_t (of_decide_eq_true hb) H
          refine CJ.seq ?_
          refine CJ.region ?_
          refine OJ.pures tU_ok 1 rfl ?_
          refine OJ.nil (EJ.next ?_)
          refine CJ.ret (EJ.skR (?_))
          obtain rfl := Option.some.inj H
          exact EJ.fin rfl (.tmp rfl .nil) ⟨rfl, hS.ext⟩
        · replace H := pif_f (of_decide_eq_false hb) H
          refine CJ.skip (EJ.next ?_)
          refine CJ.seq ?_
          refine CJ.seq ?_
          refine CJ.region ?_
          refine OJ.pures tU_ok 3 rfl ?_
          refine OJ.nil (EJ.next ?_)
          refine CJ.cond rfl (fun hb => ?_) (fun hb => ?_)
          · replace H := pif_t (of_decide_eq_true hb) H
            refine CJ.seq ?_
            refine CJ.region ?_
            refine OJ.pures tU_ok 1 rfl ?_
            refine OJ.nil (EJ.next ?_)
            refine CJ.ret (EJ.skR (?_))
            obtain rfl := Option.some.inj H
            exact EJ.fin rfl (.tmp rfl .nil) ⟨rfl, hS.ext⟩
          · replace H := pif_f (of_decide_eq_false hb) H
            refine CJ.skip (EJ.next ?_)
            refine CJ.seq ?_
            refine CJ.region ?_
            refine OJ.pures tU_ok 1 rfl ?_
            obtain ⟨t11, ht11, H⟩ := pbind H
            refine OJ.callF rfl rfl rfl rfl rfl hb11 rfl (impl_ReadSights.c k _ a0 (hS.ro (i := 0) rfl) _ ht11) ?_
            rintro _ w1 ⟨A12, c13, rfl, hs⟩
            replace hS := hS.addN hs
            refine OJ.pures tU_ok 5 rfl ?_
            refine OJ.nil (EJ.next ?_)
            refine CJ.seq ?_
            obtain ⟨j24, H, K24⟩ := pbind H
            refine CJ.cut (fun F w1 => ∃ (y14 : Bool) , (some y14 : Option Bool) = some j24 ∧ F = [(5, .slice A5 t9.2.length c6), (7, .int .i64 t9.1), (57, .bool y14)] ∧ St w no w1 [rowC cSight A5 c6 39 t9.2] [envC Tryd.prog 0]) ?_ ?_
            · skip
              refine CJ.region ?_
              refine OJ.pures tU_ok 2 rfl ?_
              obtain ⟨t15, ht15, H⟩ := pbind H
              refine OJ.callF rfl rfl rfl rfl rfl hb9 rfl (laws_eqSightS.c k _ A12 c13 t11.1 (hS.rd (i := 2) rfl) (hS.le (i := 2) rfl) A2 c3 t1.1 (hS.rd (i := 0) rfl) (hS.le (i := 0) rfl) _ ht15) ?_
              rintro _ w1 ⟨rfl, hs⟩
              replace hS := hS.grow hs
              refine OJ.pures tU_ok 2 rfl ?_
              refine OJ.split (t := 53) rfl (fun hb => ?_) (fun hb => ?_)
              · replace H := pif_t hb H
                refine OJ.pures tU_ok 4 rfl ?_
                refine OJ.nil ?_
                exact EJ.meet (F' := [(5, .slice A5 t9.2.length c6), (7, .int .i64 t9.1), (57, .bool true)]) ⟨rfl, rfl, rfl, trivial⟩ ⟨true, H, rfl, hS.pick [1] [0] rfl⟩
              · replace H := pifb_f hb H
                refine OJ.pures tU_ok 4 rfl ?_
                refine OJ.nil ?_
                exact EJ.meet (F' := [(5, .slice A5 t9.2.length c6), (7, .int .i64 t9.1), (57, .bool (decide (t11.2 ≠ t1.2)))]) ⟨rfl, rfl, rfl, trivial⟩ ⟨(decide (t11.2 ≠ t1.2)), H, rfl, hS.pick [1] [0] rfl⟩
            · rintro F w1 ⟨y14, he, rfl, hS⟩
              obtain rfl := Option.some.inj he
              have H := K24
              refine CJ.cond rfl (fun hb => ?_) (fun hb => ?_)
              · replace H := pif_t hb H
                refine CJ.seq ?_
                refine CJ.region ?_
                refine OJ.pures tU_ok 1 rfl ?_
                refine OJ.nil (EJ.next ?_)
                refine CJ.ret (EJ.skR (?_))
                obtain rfl := Option.some.inj H
                exact EJ.fin rfl (.tmp rfl .nil) ⟨rfl, hS.ext⟩
              · replace H := pifb_f hb H
                refine CJ.skip (EJ.next ?_)
                refine CJ.seq ?_
                refine CJ.region ?_
                refine OJ.pures tU_ok 1 rfl ?_
                refine OJ.nil (EJ.next ?_)
                refine CJ.seq ?_
                refine CJ.region ?_
                refine OJ.pures tU_ok 2 rfl ?_
                obtain ⟨t16, ht16, H⟩ := pbind H
                refine OJ.callF rfl rfl rfl rfl rfl hb13 rfl (laws_heldSightS.c k _ A5 c6 t9.2 (hS.rd (i := 0) rfl) (hS.le (i := 0) rfl) 1 _ ht16) ?_
                rintro _ w1 ⟨rfl, hs⟩
                replace hS := hS.grow hs
                refine OJ.pures tU_ok 1 rfl ?_
                refine OJ.nil (EJ.next ?_)
                refine CJ.seq ?_
                refine CJ.seq ?_
                refine CJ.region ?_
                refine OJ.pures tU_ok 2 rfl ?_
                refine OJ.nil (EJ.next ?_)
                refine CJ.cond rfl (fun hb => ?_) (fun hb => ?_)
                · replace H := pif_t (of_decide_eq_true hb) H
                  refine CJ.seq ?_
                  refine CJ.region ?_
                  refine OJ.pures tU_ok 1 rfl ?_
                  refine OJ.nil (EJ.next ?_)
                  refine CJ.ret (EJ.skR (?_))
                  obtain rfl := Option.some.inj H
                  exact EJ.fin rfl (.tmp rfl .nil) ⟨rfl, hS.ext⟩
                · replace H := pif_f (of_decide_eq_false hb) H
                  refine CJ.skip (EJ.next ?_)
                  refine CJ.seq ?_
                  refine CJ.seq ?_
                  refine CJ.region ?_
                  refine OJ.pures tU_ok 3 rfl ?_
                  refine OJ.nil (EJ.next ?_)
                  refine CJ.cond rfl (fun hb => ?_) (fun hb => ?_)
                  · replace H := pif_t (of_decide_eq_true hb) H
                    refine CJ.seq ?_
                    refine CJ.region ?_
                    refine OJ.pures tU_ok 1 rfl ?_
                    refine OJ.nil (EJ.next ?_)
                    refine CJ.ret (EJ.skR (?_))
                    obtain rfl := Option.some.inj H
                    exact EJ.fin rfl (.tmp rfl .nil) ⟨rfl, hS.ext⟩
                  · replace H := pif_f (of_decide_eq_false hb) H
                    refine CJ.skip (EJ.next ?_)
                    refine CJ.seq ?_
                    refine CJ.region ?_
                    refine OJ.pures tU_ok 1 rfl ?_
                    refine OJ.nil (EJ.next ?_)
                    refine CJ.ret (?_)
                    obtain rfl := Option.some.inj H
                    exact EJ.fin rfl (.tmp rfl .nil) ⟨rfl, hS.ext⟩
end Go.Proofs.YtggfhhmfhhkdpaaDoor
