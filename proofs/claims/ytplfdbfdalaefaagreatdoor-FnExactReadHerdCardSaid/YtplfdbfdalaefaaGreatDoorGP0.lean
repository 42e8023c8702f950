/-
  What the functions come to.
-/
import Derived.Test.YtplfdbfdalaefaaGreatDoorGT
namespace Go.Proofs.YtplfdbfdalaefaaGreatDoor
open G
set_option linter.unusedVariables false
set_option linter.unusedSimpArgs false
set_option maxRecDepth 100000
set_option maxHeartbeats 4000000
def spec_l01Split.l1 (a0 : ByteArray) (a1 : Int) : Nat → (List ByteArray) → Int → Int → Option ((List ByteArray) × Int)
  | 0, _, _, _ => none
  | k + 1, y6, y9, y10 => if y10 < (a0.size : Int) then ((getB a0 y10).bind fun t11 => if t11 = a1 then ((chk ((0 : Int) ≤ y9 ∧ y9 ≤ y10 ∧ y10 ≤ (a0.size : Int))).bind fun u12 => (chk (y6.length + ([a0.extract y9.toNat y10.toNat] : List ByteArray).length ≤ 4294967296)).bind fun u14 => spec_l01Split.l1 a0 a1 k (y6 ++ ([a0.extract y9.toNat y10.toNat] : List ByteArray)) (IntKind.i64.wrap (y10 + 1)) (IntKind.i64.wrap (y10 + 1))) else (spec_l01Split.l1 a0 a1 k y6 y9 (IntKind.i64.wrap (y10 + 1)))) else (some (y6, y9))
def spec_l01Split.f (k : Nat) (a0 : ByteArray) (a1 : Int) : Option (List ByteArray) := (spec_l01Split.l1 a0 a1 k ([] : List ByteArray) 0 0).bind fun (y2, y5) => (chk ((0 : Int) ≤ y5 ∧ y5 ≤ (a0.size : Int) ∧ (a0.size : Int) ≤ (a0.size : Int))).bind fun u17 => (chk (y2.length + ([a0.extract y5.toNat a0.size] : List ByteArray).length ≤ 4294967296)).bind fun u19 => some (y2 ++ ([a0.extract y5.toNat a0.size] : List ByteArray))
theorem spec_l01Split.c (k : Nat) (w : World) (a0 : ByteArray) (a1 : Int) (r : List ByteArray) (H : spec_l01Split.f k a0 a1 = some r) :
    CV Tryz.prog 83 [.string a0, .int .u8 a1].toArray w fun v w' => ∃ (A0 : Option Addr) (c0 : Nat), v = .slice A0 r.length c0 ∧ St w no w' [rowC G.cs A0 c0 9 r] [] := by
  have hS := (St.init w no)
  unfold spec_l01Split.f at H
  refine CV.body Tryz.func83 rfl Tryz.ntmps83 rfl ?_
  refine CJ.seq ?_
  refine CJ.region ?_
  refine OJ.pures tU_ok 1 rfl ?_
  refine OJ.nil (EJ.next ?_)
  refine CJ.seq ?_
  refine CJ.region ?_
  refine OJ.ef rfl rfl rfl (Ef.lit tU_ok tI_ok hS (C := G.cs) rfl rfl rfl rfl rfl rfl ([] : List ByteArray) rfl rfl rfl rfl) ?_
  rintro _ w1 ⟨A1, rfl, hS⟩
  refine OJ.pures tU_ok 1 rfl ?_
  refine OJ.nil (EJ.next ?_)
  refine CJ.seq ?_
  refine CJ.region ?_
  refine OJ.pures tU_ok 1 rfl ?_
  refine OJ.nil (EJ.next ?_)
  refine CJ.seq ?_
  refine CJ.seq ?_
  refine CJ.region ?_
  refine OJ.pures tU_ok 1 rfl ?_
  refine OJ.nil (EJ.next ?_)
  obtain ⟨j1, H, K1⟩ := pbind H
  refine CJ.cut1 (fun F w1 => ∃ (y2 : List ByteArray) (y5 : Int) (A3 : Option Addr) (c4 : Nat), (some (y2, y5) : Option ((List ByteArray) × Int)) = some j1 ∧ F = [(0, .string a0), (5, .slice A3 y2.length c4), (6, .int .i64 y5)] ∧ St w no w1 [rowC G.cs A3 c4 9 y2] []) ?_ ?_
  · skip
    refine CJ.block ?_
    refine CJ.loop (fun k F w1 => ∃ (y6 : List ByteArray) (y9 : Int) (y10 : Int) (A7 : Option Addr) (c8 : Nat), F = [(0, .string a0), (1, .int .u8 a1), (5, .slice A7 y6.length c8), (6, .int .i64 y9), (7, .int .i64 y10)] ∧ St w no w1 [rowC G.cs A7 c8 9 y6] [] ∧ spec_l01Split.l1 a0 a1 k y6 y9 y10 = some j1) k (F' := [(0, .string a0), (1, .int .u8 a1), (5, .slice A1 ([] : List ByteArray).length (([] : List ByteArray).length)), (6, .int .i64 0), (7, .int .i64 0)]) ⟨rfl, rfl, rfl, rfl, rfl, trivial⟩ ⟨([] : List ByteArray), 0, 0, A1, (([] : List ByteArray).length), rfl, hS.pick [0] [] rfl, H⟩ ?_
    rintro k F w1 ⟨y6, y9, y10, A7, c8, rfl, hS, H⟩
    cases k with
    | zero => rw [spec_l01Split.l1] at H; cases H
    | succ k =>
      rw [spec_l01Split.l1] at H
      refine CJ.seq ?_
      refine CJ.seq ?_
      refine CJ.region ?_
      refine OJ.pures tU_ok 4 rfl ?_
      refine OJ.nil (EJ.next ?_)
      refine CJ.cond rfl (fun hb => ?_) (fun hb => ?_)
      · replace H := pif_t (of_decide_eq_true hb) H
        refine CJ.skip (EJ.next ?_)
        refine CJ.seq ?_
        refine CJ.block ?_
        refine CJ.seq ?_
        refine CJ.region ?_
        refine OJ.pures tU_ok 2 rfl ?_
        obtain ⟨t11, ht11, H⟩ := pbind H
        refine OJ.st rfl rfl rfl (SR.idxStr tU_ok rfl rfl rfl rfl ht11) ?_
        refine OJ.pures tU_ok 2 rfl ?_
        refine OJ.nil (EJ.next ?_)
        refine CJ.cond rfl (fun hb => ?_) (fun hb => ?_)
        · replace H := pif_t (of_decide_eq_true hb) H
          refine CJ.seq ?_
          refine CJ.region ?_
          refine OJ.pures tU_ok 4 rfl ?_
          obtain ⟨u12, hu12, H⟩ := pbind H
          refine OJ.st rfl rfl rfl (SR.cutStr tU_ok (y9.toNat) (y10.toNat) rfl rfl rfl rfl rfl (.inr ⟨_, _, rfl, (chk_some hu12).1, rfl⟩) (.inr ⟨_, _, rfl, (by have := (chk_some hu12); omega), rfl⟩) (by have := (chk_some hu12); omega) (by have := (chk_some hu12); omega)) ?_
          refine OJ.ef rfl rfl rfl (Ef.lit tU_ok tI_ok hS (C := G.cs) rfl rfl rfl rfl rfl rfl ([a0.extract y9.toNat y10.toNat] : List ByteArray) rfl rfl rfl rfl) ?_
          rintro _ w1 ⟨A13, rfl, hS⟩
          obtain ⟨u14, hu14, H⟩ := pbind H
          refine OJ.ew rfl rfl rfl (Ew.append tU_ok tI_ok (C := G.cs) (xs := y6) (ys := ([a0.extract y9.toNat y10.toNat] : List ByteArray)) hS (i := 0) rfl rfl rfl rfl rfl rfl rfl rfl rfl rfl rfl rfl rfl (hS.rd (i := 1) rfl) (chk_some hu14)) ?_
          rintro _ w1 ⟨A15, c16, rfl, hS⟩
          refine OJ.pures tU_ok 1 rfl ?_
          refine OJ.nil (EJ.next ?_)
          refine CJ.region ?_
          refine OJ.pures tU_ok 3 rfl ?_
          refine OJ.nil (EJ.blk (EJ.next ?_))
          refine CJ.region ?_
          refine OJ.pures tU_ok 3 rfl ?_
          refine OJ.nil ?_
          exact EJ.round k (F' := [(0, .string a0), (1, .int .u8 a1), (5, .slice A15 (y6 ++ ([a0.extract y9.toNat y10.toNat] : List ByteArray)).length c16), (6, .int .i64 (IntKind.i64.wrap (y10 + 1))), (7, .int .i64 (IntKind.i64.wrap (y10 + 1)))]) ⟨rfl, rfl, rfl, rfl, rfl, trivial⟩ (Nat.lt_succ_self _) ⟨(y6 ++ ([a0.extract y9.toNat y10.toNat] : List ByteArray)), (IntKind.i64.wrap (y10 + 1)), (IntKind.i64.wrap (y10 + 1)), A15, c16, rfl, hS.pick [0] [] rfl, H⟩
        · replace H := pif_f (of_decide_eq_false hb) H
          refine CJ.skip (EJ.blk (EJ.next ?_))
          refine CJ.region ?_
          refine OJ.pures tU_ok 3 rfl ?_
          refine OJ.nil ?_
          exact EJ.round k (F' := [(0, .string a0), (1, .int .u8 a1), (5, .slice A7 y6.length c8), (6, .int .i64 y9), (7, .int .i64 (IntKind.i64.wrap (y10 + 1)))]) ⟨rfl, rfl, rfl, rfl, rfl, trivial⟩ (Nat.lt_succ_self _) ⟨y6, y9, (IntKind.i64.wrap (y10 + 1)), A7, c8, rfl, hS.pick [0] [] rfl, H⟩
      · replace H := pif_f (of_decide_eq_false hb) H
        refine CJ.exit (EJ.skE (EJ.skE (EJ.hit (?_))))
        exact EJ.meet (F' := [(0, .string a0), (5, .slice A7 y6.length c8), (6, .int .i64 y9)]) ⟨rfl, rfl, rfl, trivial⟩ ⟨y6, y9, A7, c8, H, rfl, hS.pick [0] [] rfl⟩
  · rintro F w1 ⟨y2, y5, A3, c4, he, rfl, hS⟩
    obtain rfl := Option.some.inj he
    have H := K1
    refine EJ.next ?_
    refine CJ.seq ?_
    refine CJ.region ?_
    refine OJ.pures tU_ok 3 rfl ?_
    obtain ⟨u17, hu17, H⟩ := pbind H
    refine OJ.st rfl rfl rfl (SR.cutStr tU_ok (y5.toNat) (a0.size) rfl rfl rfl rfl rfl (.inr ⟨_, _, rfl, (chk_some hu17).1, rfl⟩) (.inl ⟨rfl, rfl⟩) (by have := (chk_some hu17); omega) (by have := (chk_some hu17); omega)) ?_
    refine OJ.ef rfl rfl rfl (Ef.lit tU_ok tI_ok hS (C := G.cs) rfl rfl rfl rfl rfl rfl ([a0.extract y5.toNat a0.size] : List ByteArray) rfl rfl rfl rfl) ?_
    rintro _ w1 ⟨A18, rfl, hS⟩
    obtain ⟨u19, hu19, H⟩ := pbind H
    refine OJ.ew rfl rfl rfl (Ew.append tU_ok tI_ok (C := G.cs) (xs := y2) (ys := ([a0.extract y5.toNat a0.size] : List ByteArray)) hS (i := 0) rfl rfl rfl rfl rfl rfl rfl rfl rfl rfl rfl rfl rfl (hS.rd (i := 1) rfl) (chk_some hu19)) ?_
    rintro _ w1 ⟨A20, c21, rfl, hS⟩
    refine OJ.pures tU_ok 1 rfl ?_
    refine OJ.nil (EJ.next ?_)
    refine CJ.ret (?_)
    obtain rfl := Option.some.inj H
    exact EJ.fin rfl (.tmp rfl .nil) ⟨A20, c21, rfl, hS.pick [0] [] rfl⟩

def spec_l01Number.l1 (a0 : ByteArray) : Nat → Int → Int → Option ((Int × Bool) ⊕ Int)
  | 0, _, _ => none
  | k + 1, y4, y5 => if y5 < (a0.size : Int) then (((getB a0 y5).bind fun t7 => if t7 < 48 then (some true) else ((getB a0 y5).bind fun t8 => some (decide (57 < t8)))).bind fun y6 => if y6 = true then (some (Sum.inl (0, false))) else ((getB a0 y5).bind fun t9 => spec_l01Number.l1 a0 k (IntKind.i64.wrap ((IntKind.i64.wrap (10 * y4)) + (IntKind.i64.wrap (IntKind.u8.wrap (t9 - 48))))) (IntKind.i64.wrap (y5 + 1)))) else (some (Sum.inr y4))
def spec_l01Number.f (k : Nat) (a0 : ByteArray) : Option (Int × Bool) := (if a0 = ByteArray.empty then (some true) else (if 9 < (a0.size : Int) then (some true) else ((getB a0 0).bind fun t2 => if t2 = 48 then (some (decide (1 < (a0.size : Int)))) else (some false)))).bind fun y1 => if y1 = true then (some (0, false)) else ((spec_l01Number.l1 a0 k 0 0).bind fun s5 => match s5 with | .inl r => some r | .inr y3 => some (y3, true))
theorem spec_l01Number.c (k : Nat) (w : World) (a0 : ByteArray) (r : Int × Bool) (H : spec_l01Number.f k a0 = some r) :
    CV Tryz.prog 84 [.string a0].toArray w fun v w' => v = .tuple #[.int .i64 r.1, .bool r.2] ∧ Ext w w' := by
  have hS := (St.init w no)
  unfold spec_l01Number.f at H
  refine CV.body Tryz.func84 rfl Tryz.ntmps84 rfl ?_
  refine CJ.seq ?_
  refine CJ.region ?_
  refine OJ.pures tU_ok 2 rfl ?_
  refine OJ.nil (EJ.next ?_)
  refine CJ.seq ?_
  obtain ⟨j4, H, K4⟩ := pbind H
  refine CJ.cut (fun F w1 => ∃ (y1 : Bool) , (some y1 : Option Bool) = some j4 ∧ F = [(0, .string a0), (22, .bool y1)] ∧ St w no w1 [] []) ?_ ?_
  · skip
    refine CJ.region ?_
    refine OJ.pures tU_ok 3 rfl ?_
    refine OJ.split (t := 8) rfl (fun hb => ?_) (fun hb => ?_)
    · replace H := pif_t (of_decide_eq_true hb) H
      refine OJ.pures tU_ok 14 rfl ?_
      refine OJ.nil ?_
      exact EJ.meet (F' := [(0, .string a0), (22, .bool true)]) ⟨rfl, rfl, trivial⟩ ⟨true, H, rfl, hS.pick [] [] rfl⟩
    · replace H := pif_f (of_decide_eq_false hb) H
      refine OJ.pures tU_ok 5 rfl ?_
      refine OJ.split (t := 13) rfl (fun hb => ?_) (fun hb => ?_)
      · replace H := pif_t (of_decide_eq_true hb) H
        refine OJ.pures tU_ok 9 rfl ?_
        refine OJ.nil ?_
        exact EJ.meet (F' := [(0, .string a0), (22, .bool true)]) ⟨rfl, rfl, trivial⟩ ⟨true, H, rfl, hS.pick [] [] rfl⟩
      · replace H := pif_f (of_decide_eq_false hb) H
        refine OJ.pures tU_ok 1 rfl ?_
        obtain ⟨t2, ht2, H⟩ := pbind H
        refine OJ.st rfl rfl rfl (SR.idxStr tU_ok rfl rfl rfl rfl ht2) ?_
        refine OJ.pures tU_ok 2 rfl ?_
        refine OJ.split (t := 17) rfl (fun hb => ?_) (fun hb => ?_)
        · replace H := pif_t (of_decide_eq_true hb) H
          refine OJ.pures tU_ok 5 rfl ?_
          refine OJ.nil ?_
          exact EJ.meet (F' := [(0, .string a0), (22, .bool (decide (1 < (a0.size : Int))))]) ⟨rfl, rfl, trivial⟩ ⟨(decide (1 < (a0.size : Int))), H, rfl, hS.pick [] [] rfl⟩
        · replace H := pif_f (of_decide_eq_false hb) H
          refine OJ.pures tU_ok 5 rfl ?_
          refine OJ.nil ?_
          exact EJ.meet (F' := [(0, .string a0), (22, .bool false)]) ⟨rfl, rfl, trivial⟩ ⟨false, H, rfl, hS.pick [] [] rfl⟩
  · rintro F w1 ⟨y1, he, rfl, hS⟩
    obtain rfl := Option.some.inj he
    have H := K4
    refine CJ.cond rfl (fun hb => ?_) (fun hb => ?_)
    · replace H := pif_t hb H
      refine CJ.seq ?_
      refine CJ.region ?_
      refine OJ.pures tU_ok 2 rfl ?_
      refine OJ.nil (EJ.next ?_)
      refine CJ.ret (EJ.skR (?_))
      obtain rfl := Option.some.inj H
      exact EJ.fin rfl (.tmp rfl (.tmp rfl .nil)) ⟨rfl, hS.ext⟩
    · replace H := pifb_f hb H
      refine CJ.skip (EJ.next ?_)
      refine CJ.seq ?_
      refine CJ.region ?_
      refine OJ.pures tU_ok 1 rfl ?_
      refine OJ.nil (EJ.next ?_)
      refine CJ.seq ?_
      refine CJ.seq ?_
      refine CJ.region ?_
      refine OJ.pures tU_ok 1 rfl ?_
      refine OJ.nil (EJ.next ?_)
      obtain ⟨j5, H, K5⟩ := pbind H
      refine CJ.cut1 (fun F w1 => ∃ (y3 : Int) , (some (Sum.inr y3) : Option ((Int × Bool) ⊕ Int)) = some j5 ∧ F = [(4, .int .i64 y3)] ∧ St w no w1 [] []) ?_ ?_
      · skip
        refine CJ.block ?_
        refine CJ.loop (fun k F w1 => ∃ (y4 : Int) (y5 : Int), F = [(0, .string a0), (4, .int .i64 y4), (5, .int .i64 y5)] ∧ St w no w1 [] [] ∧ spec_l01Number.l1 a0 k y4 y5 = some j5) k (F' := [(0, .string a0), (4, .int .i64 0), (5, .int .i64 0)]) ⟨rfl, rfl, rfl, trivial⟩ ⟨0, 0, rfl, hS.pick [] [] rfl, H⟩ ?_
        rintro k F w1 ⟨y4, y5, rfl, hS, H⟩
        cases k with
        | zero => rw [spec_l01Number.l1] at H; cases H
        | succ k =>
          rw [spec_l01Number.l1] at H
          refine CJ.seq ?_
          refine CJ.seq ?_
          refine CJ.region ?_
          refine OJ.pures tU_ok 4 rfl ?_
          refine OJ.nil (EJ.next ?_)
          refine CJ.cond rfl (fun hb => ?_) (fun hb => ?_)
          · replace H := pif_t (of_decide_eq_true hb) H
            refine CJ.skip (EJ.next ?_)
            refine CJ.seq ?_
            refine CJ.block ?_
            refine CJ.seq ?_
            obtain ⟨j8, H, K8⟩ := pbind H
            refine CJ.cut (fun F w1 => ∃ (y6 : Bool) , (some y6 : Option Bool) = some j8 ∧ F = [(0, .string a0), (4, .int .i64 y4), (5, .int .i64 y5), (38, .bool y6)] ∧ St w no w1 [] []) ?_ ?_
            · skip
              refine CJ.region ?_
              refine OJ.pures tU_ok 2 rfl ?_
              obtain ⟨t7, ht7, H⟩ := pbind H
              refine OJ.st rfl rfl rfl (SR.idxStr tU_ok rfl rfl rfl rfl ht7) ?_
              refine OJ.pures tU_ok 2 rfl ?_
              refine OJ.split (t := 33) rfl (fun hb => ?_) (fun hb => ?_)
              · replace H := pif_t (of_decide_eq_true hb) H
                refine OJ.pures tU_ok 5 rfl ?_
                refine OJ.nil ?_
                exact EJ.meet (F' := [(0, .string a0), (4, .int .i64 y4), (5, .int .i64 y5), (38, .bool true)]) ⟨rfl, rfl, rfl, rfl, trivial⟩ ⟨true, H, rfl, hS.pick [] [] rfl⟩
              · replace H := pif_f (of_decide_eq_false hb) H
                refine OJ.pures tU_ok 2 rfl ?_
                obtain ⟨t8, ht8, H⟩ := pbind H
                refine OJ.st rfl rfl rfl (SR.idxStr tU_ok rfl rfl rfl rfl ht8) ?_
                refine OJ.pures tU_ok 2 rfl ?_
                refine OJ.nil ?_
                exact EJ.meet (F' := [(0, .string a0), (4, .int .i64 y4), (5, .int .i64 y5), (38, .bool (decide (57 < t8)))]) ⟨rfl, rfl, rfl, rfl, trivial⟩ ⟨(decide (57 < t8)), H, rfl, hS.pick [] [] rfl⟩
            · rintro F w1 ⟨y6, he, rfl, hS⟩
              obtain rfl := Option.some.inj he
              have H := K8
              refine CJ.cond rfl (fun hb => ?_) (fun hb => ?_)
              · replace H := pif_t hb H
                refine CJ.seq ?_
                refine CJ.region ?_
                refine OJ.pures tU_ok 2 rfl ?_
                refine OJ.nil (EJ.next ?_)
                refine CJ.ret (EJ.skR (EJ.bkR (EJ.skR (EJ.skR (EJ.bkR (EJ.skR (EJ.skR (?_))))))))
                first | (obtain rfl := Option.some.inj H; have H := K5) | (obtain ⟨q5, H2, e5⟩ := pbind H; obtain rfl := Option.some.inj e5; obtain rfl := Option.some.inj K5; have H := H2)
                obtain rfl := Option.some.inj H
                exact EJ.fin rfl (.tmp rfl (.tmp rfl .nil)) ⟨rfl, hS.ext⟩
              · replace H := pifb_f hb H
                refine CJ.skip (EJ.next ?_)
                refine CJ.region ?_
                refine OJ.pures tU_ok 4 rfl ?_
                obtain ⟨t9, ht9, H⟩ := pbind H
                refine OJ.st rfl rfl rfl (SR.idxStr tU_ok rfl rfl rfl rfl ht9) ?_
                refine OJ.pures tU_ok 4 rfl ?_
                refine OJ.nil (EJ.blk (EJ.next ?_))
                refine CJ.region ?_
                refine OJ.pures tU_ok 3 rfl ?_
                refine OJ.nil ?_
                exact EJ.round k (F' := [(0, .string a0), (4, .int .i64 (IntKind.i64.wrap ((IntKind.i64.wrap (10 * y4)) + (IntKind.i64.wrap (IntKind.u8.wrap (t9 - 48)))))), (5, .int .i64 (IntKind.i64.wrap (y5 + 1)))]) ⟨rfl, rfl, rfl, trivial⟩ (Nat.lt_succ_self _) ⟨(IntKind.i64.wrap ((IntKind.i64.wrap (10 * y4)) + (IntKind.i64.wrap (IntKind.u8.wrap (t9 - 48))))), (IntKind.i64.wrap (y5 + 1)), rfl, hS.pick [] [] rfl, H⟩
          · replace H := pif_f (of_decide_eq_false hb) H
            refine CJ.exit (EJ.skE (EJ.skE (EJ.hit (?_))))
            exact EJ.meet (F' := [(4, .int .i64 y4)]) ⟨rfl, trivial⟩ ⟨y4, H, rfl, hS.pick [] [] rfl⟩
      · rintro F w1 ⟨y3, he, rfl, hS⟩
        obtain rfl := Option.some.inj he
        have H := K5
        refine EJ.next ?_
        refine CJ.seq ?_
        refine CJ.region ?_
        refine OJ.pures tU_ok 3 rfl ?_
        refine OJ.nil (EJ.next ?_)
        refine CJ.ret (?_)
        obtain rfl := Option.some.inj H
        exact EJ.fin rfl (.tmp rfl (.tmp rfl .nil)) ⟨rfl, hS.ext⟩

def spec_l00In.f (a0 : Int) (a1 : Int) (a2 : Int) : Option Bool := if a1 ≤ a0 then (some (decide (a0 ≤ a2))) else (some false)
theorem spec_l00In.c (w : World) (a0 : Int) (a1 : Int) (a2 : Int) (r : Bool) (H : spec_l00In.f a0 a1 a2 = some r) :
    CV Tryz.prog 75 [.int .i64 a0, .int .i64 a1, .int .i64 a2].toArray w fun v w' => v = .bool r ∧ Ext w w' := by
  have hS := (St.init w no)
  unfold spec_l00In.f at H
  refine CV.body Tryz.func75 rfl Tryz.ntmps75 rfl ?_
  refine CJ.seq ?_
  refine CJ.region ?_
  refine OJ.pures tU_ok 1 rfl ?_
  refine OJ.nil (EJ.next ?_)
  refine CJ.seq ?_
  refine CJ.region ?_
  refine OJ.pures tU_ok 4 rfl ?_
  refine OJ.split (t := 10) rfl (fun hb => ?_) (fun hb => ?_)
  · replace H := pif_t (of_decide_eq_true hb) H
    refine OJ.pures tU_ok 5 rfl ?_
    refine OJ.nil (EJ.next ?_)
    refine CJ.ret (?_)
    obtain rfl := Option.some.inj H
    exact EJ.fin rfl (.tmp rfl .nil) ⟨rfl, hS.ext⟩
  · replace H := pif_f (of_decide_eq_false hb) H
    refine OJ.pures tU_ok 5 rfl ?_
    refine OJ.nil (EJ.next ?_)
    refine CJ.ret (?_)
    obtain rfl := Option.some.inj H
    exact EJ.fin rfl (.tmp rfl .nil) ⟨rfl, hS.ext⟩

def spec_l06Name.l1 (a0 : ByteArray) : Nat → Int → Option (Bool ⊕ Unit)
  | 0, _ => none
  | k + 1, y1 => if y1 < (a0.size : Int) then ((getB a0 y1).bind fun t2 => if t2 < 97 then (some (Sum.inl false)) else ((getB a0 y1).bind fun t3 => if 122 < t3 then (some (Sum.inl false)) else (spec_l06Name.l1 a0 k (IntKind.i64.wrap (y1 + 1))))) else (some (Sum.inr ()))
def spec_l06Name.f (k : Nat) (a0 : ByteArray) : Option Bool := (spec_l06Name.l1 a0 k 0).bind fun s80 => match s80 with | .inl r => some r | .inr _ => (spec_l00In.f (a0.size : Int) 1 8).bind fun t4 => some t4
theorem spec_l06Name.c (k : Nat) (w : World) (a0 : ByteArray) (r : Bool) (H : spec_l06Name.f k a0 = some r) :
    CV Tryz.prog 106 [.string a0].toArray w fun v w' => v = .bool r ∧ Ext w w' := by
  have hS := (St.init w no)
  unfold spec_l06Name.f at H
  refine CV.body Tryz.func106 rfl Tryz.ntmps106 rfl ?_
  refine CJ.seq ?_
  refine CJ.region ?_
  refine OJ.pures tU_ok 1 rfl ?_
  refine OJ.nil (EJ.next ?_)
  refine CJ.seq ?_
  refine CJ.seq ?_
  refine CJ.region ?_
  refine OJ.pures tU_ok 1 rfl ?_
  refine OJ.nil (EJ.next ?_)
  obtain ⟨j80, H, K80⟩ := pbind H
  refine CJ.cut1 (fun F w1 => (some (Sum.inr ()) : Option (Bool ⊕ Unit)) = some j80 ∧ F = [(0, .string a0)] ∧ St w no w1 [] []) ?_ ?_
  · skip
    refine CJ.block ?_
    refine CJ.loop (fun k F w1 => ∃ (y1 : Int), F = [(0, .string a0), (3, .int .i64 y1)] ∧ St w no w1 [] [] ∧ spec_l06Name.l1 a0 k y1 = some j80) k (F' := [(0, .string a0), (3, .int .i64 0)]) ⟨rfl, rfl, trivial⟩ ⟨0, rfl, hS.pick [] [] rfl, H⟩ ?_
    rintro k F w1 ⟨y1, rfl, hS, H⟩
    cases k with
    | zero => rw [spec_l06Name.l1] at H; cases H
    | succ k =>
      rw [spec_l06Name.l1] at H
      refine CJ.seq ?_
      refine CJ.seq ?_
      refine CJ.region ?_
      refine OJ.pures tU_ok 4 rfl ?_
      refine OJ.nil (EJ.next ?_)
      refine CJ.cond rfl (fun hb => ?_) (fun hb => ?_)
      · replace H := pif_t (of_decide_eq_true hb) H
        refine CJ.skip (EJ.next ?_)
        refine CJ.seq ?_
        refine CJ.block ?_
        refine CJ.seq ?_
        refine CJ.region ?_
        refine OJ.pures tU_ok 2 rfl ?_
        obtain ⟨t2, ht2, H⟩ := pbind H
        refine OJ.st rfl rfl rfl (SR.idxStr tU_ok rfl rfl rfl rfl ht2) ?_
        refine OJ.pures tU_ok 2 rfl ?_
        refine OJ.split (t := 14) rfl (fun hb => ?_) (fun hb => ?_)
        · replace H := pif_t (of_decide_eq_true hb) H
          refine OJ.pures tU_ok 5 rfl ?_
          refine OJ.nil (EJ.next ?_)
          refine CJ.condT rfl ?_
          refine CJ.seq ?_
          refine CJ.region ?_
          refine OJ.pures tU_ok 1 rfl ?_
          refine OJ.nil (EJ.next ?_)
          refine CJ.ret (EJ.bkR (EJ.skR (EJ.skR (EJ.bkR (EJ.skR (EJ.skR (?_)))))))
          first | (obtain rfl := Option.some.inj H; have H := K80) | (obtain ⟨q80, H2, e80⟩ := pbind H; obtain rfl := Option.some.inj e80; obtain rfl := Option.some.inj K80; have H := H2)
          obtain rfl := Option.some.inj H
          exact EJ.fin rfl (.tmp rfl .nil) ⟨rfl, hS.ext⟩
        · replace H := pif_f (of_decide_eq_false hb) H
          refine OJ.pures tU_ok 2 rfl ?_
          obtain ⟨t3, ht3, H⟩ := pbind H
          refine OJ.st rfl rfl rfl (SR.idxStr tU_ok rfl rfl rfl rfl ht3) ?_
          refine OJ.pures tU_ok 2 rfl ?_
          refine OJ.nil (EJ.next ?_)
          refine CJ.cond rfl (fun hb => ?_) (fun hb => ?_)
          · replace H := pif_t (of_decide_eq_true hb) H
            refine CJ.seq ?_
            refine CJ.region ?_
            refine OJ.pures tU_ok 1 rfl ?_
            refine OJ.nil (EJ.next ?_)
            refine CJ.ret (EJ.bkR (EJ.skR (EJ.skR (EJ.bkR (EJ.skR (EJ.skR (?_)))))))
            first | (obtain rfl := Option.some.inj H; have H := K80) | (obtain ⟨q80, H2, e80⟩ := pbind H; obtain rfl := Option.some.inj e80; obtain rfl := Option.some.inj K80; have H := H2)
            obtain rfl := Option.some.inj H
            exact EJ.fin rfl (.tmp rfl .nil) ⟨rfl, hS.ext⟩
          · replace H := pif_f (of_decide_eq_false hb) H
            refine CJ.skip (EJ.blk (EJ.next ?_))
            refine CJ.region ?_
            refine OJ.pures tU_ok 3 rfl ?_
            refine OJ.nil ?_
            exact EJ.round k (F' := [(0, .string a0), (3, .int .i64 (IntKind.i64.wrap (y1 + 1)))]) ⟨rfl, rfl, trivial⟩ (Nat.lt_succ_self _) ⟨(IntKind.i64.wrap (y1 + 1)), rfl, hS.pick [] [] rfl, H⟩
      · replace H := pif_f (of_decide_eq_false hb) H
        refine CJ.exit (EJ.skE (EJ.skE (EJ.hit (?_))))
        exact EJ.meet (F' := [(0, .string a0)]) ⟨rfl, trivial⟩ ⟨H, rfl, hS.pick [] [] rfl⟩
  · rintro F w1 ⟨he, rfl, hS⟩
    obtain rfl := Option.some.inj he
    have H := K80
    refine EJ.next ?_
    refine CJ.seq ?_
    refine CJ.region ?_
    refine OJ.pures tU_ok 2 rfl ?_
    obtain ⟨t4, ht4, H⟩ := pbind H
    refine OJ.callF rfl rfl rfl rfl rfl hb75 rfl (spec_l00In.c _ (a0.size : Int) 1 8 _ ht4) ?_
    rintro _ w1 ⟨rfl, hs⟩
    replace hS := hS.grow hs
    refine OJ.pures tU_ok 1 rfl ?_
    refine OJ.nil (EJ.next ?_)
    refine CJ.ret (?_)
    obtain rfl := Option.some.inj H
    exact EJ.fin rfl (.tmp rfl .nil) ⟨rfl, hS.ext⟩

def spec_l06Are.f (a0 : Herd) (a1 : Int) (a2 : Int) : Option Bool := (getI a0.Foes a1).bind fun t1 => (chk (0 ≤ (IntKind.u64.wrap a2))).bind fun u2 => some (decide ((Int.tmod (shrI .u16 t1 (IntKind.u64.wrap a2)) 2) = 1))
theorem spec_l06Are.c (w : World) (Aa0_0 : Option Addr) (ca0_0 : Nat) (Aa0_1 : Option Addr) (ca0_1 : Nat) (Aa0_2 : Option Addr) (ca0_2 : Nat) (a0 : Herd) (hr0_0 : Rd G.cs w Aa0_0 a0.Names) (hc0_0 : a0.Names.length ≤ ca0_0) (hr0_1 : Rd (ci .i16) w Aa0_1 a0.Eats) (hc0_1 : a0.Eats.length ≤ ca0_1) (hr0_2 : Rd (ci .u16) w Aa0_2 a0.Foes) (hc0_2 : a0.Foes.length ≤ ca0_2) (pa0 : Addr) (hp0 : CA w pa0 ([.slice Aa0_0 a0.Names.length ca0_0, .slice Aa0_1 a0.Eats.length ca0_1, .slice Aa0_2 a0.Foes.length ca0_2])) (a1 : Int) (a2 : Int) (r : Bool) (H : spec_l06Are.f a0 a1 a2 = some r) :
    CV Tryz.prog 107 [.pointer (some pa0), .int .i64 a1, .int .i64 a2].toArray w fun v w' => v = .bool r ∧ Ext w w' := by
  have hS := (((((St.init w no).param G.cs Aa0_0 ca0_0 a0.Names hr0_0 hc0_0).param (ci .i16) Aa0_1 ca0_1 a0.Eats hr0_1 hc0_1).param (ci .u16) Aa0_2 ca0_2 a0.Foes hr0_2 hc0_2).paramP pa0 ([.slice Aa0_0 a0.Names.length ca0_0, .slice Aa0_1 a0.Eats.length ca0_1, .slice Aa0_2 a0.Foes.length ca0_2]) hp0)
  unfold spec_l06Are.f at H
  refine CV.body Tryz.func107 rfl Tryz.ntmps107 rfl ?_
  refine CJ.seq ?_
  refine CJ.region ?_
  refine OJ.pures tU_ok 1 rfl ?_
  refine OJ.nil (EJ.next ?_)
  refine CJ.seq ?_
  refine CJ.region ?_
  refine OJ.pures tU_ok 2 rfl ?_
  refine OJ.st rfl rfl rfl (SR.fieldAddr tU_ok tI_ok rfl rfl rfl rfl rfl rfl) ?_
  refine OJ.st rfl rfl rfl (SR.load rfl rfl (fun w' hx => ld1 tU_ok rfl rfl (CA.ext (CA.sub (hS.ca (i := 3) rfl) 2) hx) rfl)) ?_
  refine OJ.pures tU_ok 1 rfl ?_
  obtain ⟨t1, ht1, H⟩ := pbind H
  obtain ⟨ad1, e1⟩ := (hS.rd' (i := 2) rfl).some' ht1
  refine OJ.st rfl rfl rfl (SR.idxS tU_ok tI_ok rfl rfl rfl rfl e1 rfl (getI_some ht1).1) ?_
  refine OJ.st rfl rfl rfl (SR.load rfl rfl (fun w' hx => ld1 tU_ok rfl rfl (CA.ext ((hS.rd' (i := 2) rfl).at_ e1 ht1) hx) rfl)) ?_
  refine OJ.pures tU_ok 2 rfl ?_
  obtain ⟨u2, hu2, H⟩ := pbind H
  refine OJ.st rfl rfl rfl (SR.shr rfl rfl rfl (chk_some hu2)) ?_
  refine OJ.st rfl rfl rfl (SR.rem rfl rfl rfl (by decide)) ?_
  refine OJ.pures tU_ok 2 rfl ?_
  refine OJ.nil (EJ.next ?_)
  refine CJ.ret (?_)
  obtain rfl := Option.some.inj H
  exact EJ.fin rfl (.tmp rfl .nil) ⟨rfl, hS.ext⟩

def spec_l06Ok.l2 (a0 : Herd) (y2 : Int) : Nat → Int → Option (((Bool ⊕ Unit) ⊕ Unit) ⊕ Unit)
  | 0, _ => none
  | k + 1, y11 => if y11 < y2 then ((getI a0.Names y11).bind fun t12 => (getI a0.Names y2).bind fun t13 => if t12 = t13 then (some (Sum.inl (Sum.inl (Sum.inl false)))) else ((spec_l06Are.f a0 y2 y11).bind fun t14 => (spec_l06Are.f a0 y11 y2).bind fun t15 => if t14 ≠ t15 then (some (Sum.inl (Sum.inl (Sum.inl false)))) else (spec_l06Ok.l2 a0 y2 k (IntKind.i64.wrap (y11 + 1))))) else (some (Sum.inr ()))
def spec_l06Ok.l1 (a0 : Herd) : Nat → Int → Option (Bool ⊕ Unit)
  | 0, _ => none
  | k + 1, y2 => if y2 < (a0.Names.length : Int) then ((((getI a0.Names y2).bind fun t4 => (spec_l06Name.f k t4).bind fun t5 => if (!t5) = true then (some true) else ((getI a0.Eats y2).bind fun t6 => (spec_l00In.f (IntKind.i64.wrap t6) 0 100).bind fun t7 => if (!t7) = true then (some true) else ((getI a0.Foes y2).bind fun t8 => (chk (0 ≤ (IntKind.u64.wrap (a0.Names.length : Int)))).bind fun u9 => if (shrI .u16 t8 (IntKind.u64.wrap (a0.Names.length : Int))) ≠ 0 then (some true) else ((spec_l06Are.f a0 y2 y2).bind fun t10 => some t10)))).bind fun y3 => if y3 = true then (some (Sum.inl (Sum.inl false))) else ((spec_l06Ok.l2 a0 y2 k 0).bind fun s93 => match s93 with | .inl r => some r | .inr _ => some (Sum.inr ()))).bind fun s89 => match s89 with | .inl r => some r | .inr _ => spec_l06Ok.l1 a0 k (IntKind.i64.wrap (y2 + 1))) else (some (Sum.inr ()))
def spec_l06Ok.f (k : Nat) (a0 : Herd) : Option Bool := (if 14 < (a0.Names.length : Int) then (some true) else (if (a0.Eats.length : Int) ≠ (a0.Names.length : Int) then (some true) else (some (decide ((a0.Foes.length : Int) ≠ (a0.Names.length : Int)))))).bind fun y1 => if y1 = true then (some false) else ((spec_l06Ok.l1 a0 k 0).bind fun s77 => match s77 with | .inl r => some r | .inr _ => some true)
theorem spec_l06Ok.c (k : Nat) (w : World) (Aa0_0 : Option Addr) (ca0_0 : Nat) (Aa0_1 : Option Addr) (ca0_1 : Nat) (Aa0_2 : Option Addr) (ca0_2 : Nat) (a0 : Herd) (hr0_0 : Rd G.cs w Aa0_0 a0.Names) (hc0_0 : a0.Names.length ≤ ca0_0) (hr0_1 : Rd (ci .i16) w Aa0_1 a0.Eats) (hc0_1 : a0.Eats.length ≤ ca0_1) (hr0_2 : Rd (ci .u16) w Aa0_2 a0.Foes) (hc0_2 : a0.Foes.length ≤ ca0_2) (pa0 : Addr) (hp0 : CA w pa0 ([.slice Aa0_0 a0.Names.length ca0_0, .slice Aa0_1 a0.Eats.length ca0_1, .slice Aa0_2 a0.Foes.length ca0_2])) (r : Bool) (H : spec_l06Ok.f k a0 = some r) :
    CV Tryz.prog 47 [.pointer (some pa0)].toArray w fun v w' => v = .bool r ∧ Ext w w' := by
  have hS := (((((St.init w no).param G.cs Aa0_0 ca0_0 a0.Names hr0_0 hc0_0).param (ci .i16) Aa0_1 ca0_1 a0.Eats hr0_1 hc0_1).param (ci .u16) Aa0_2 ca0_2 a0.Foes hr0_2 hc0_2).paramP pa0 ([.slice Aa0_0 a0.Names.length ca0_0, .slice Aa0_1 a0.Eats.length ca0_1, .slice Aa0_2 a0.Foes.length ca0_2]) hp0)
  unfold spec_l06Ok.f at H
  refine CV.body Tryz.func47 rfl Tryz.ntmps47 rfl ?_
  refine CJ.seq ?_
  refine CJ.region ?_
  refine OJ.pures tU_ok 1 rfl ?_
  refine OJ.nil (EJ.next ?_)
  refine CJ.seq ?_
  refine CJ.region ?_
  refine OJ.pures tU_ok 2 rfl ?_
  refine OJ.st rfl rfl rfl (SR.fieldAddr tU_ok tI_ok rfl rfl rfl rfl rfl rfl) ?_
  refine OJ.st rfl rfl rfl (SR.load rfl rfl (fun w' hx => ld1 tU_ok rfl rfl (CA.ext (CA.sub (hS.ca (i := 3) rfl) 0) hx) rfl)) ?_
  refine OJ.pures tU_ok 2 rfl ?_
  refine OJ.nil (EJ.next ?_)
  refine CJ.seq ?_
  obtain ⟨j76, H, K76⟩ := pbind H
  refine CJ.cut (fun F w1 => ∃ (y1 : Bool) , (some y1 : Option Bool) = some j76 ∧ F = [(0, .pointer (some pa0)), (3, .int .i64 (a0.Names.length : Int)), (30, .bool y1)] ∧ St w no w1 [] [roC G.cs Aa0_0 ca0_0 a0.Names, roC (ci .i16) Aa0_1 ca0_1 a0.Eats, roC (ci .u16) Aa0_2 ca0_2 a0.Foes, roP pa0 ([.slice Aa0_0 a0.Names.length ca0_0, .slice Aa0_1 a0.Eats.length ca0_1, .slice Aa0_2 a0.Foes.length ca0_2])]) ?_ ?_
  · skip
    refine CJ.region ?_
    refine OJ.pures tU_ok 3 rfl ?_
    refine OJ.split (t := 13) rfl (fun hb => ?_) (fun hb => ?_)
    · replace H := pif_t (of_decide_eq_true hb) H
      refine OJ.pures tU_ok 17 rfl ?_
      refine OJ.nil ?_
      exact EJ.meet (F' := [(0, .pointer (some pa0)), (3, .int .i64 (a0.Names.length : Int)), (30, .bool true)]) ⟨rfl, rfl, rfl, trivial⟩ ⟨true, H, rfl, hS.pick [] [0, 1, 2, 3] rfl⟩
    · replace H := pif_f (of_decide_eq_false hb) H
      refine OJ.pures tU_ok 2 rfl ?_
      refine OJ.st rfl rfl rfl (SR.fieldAddr tU_ok tI_ok rfl rfl rfl rfl rfl rfl) ?_
      refine OJ.st rfl rfl rfl (SR.load rfl rfl (fun w' hx => ld1 tU_ok rfl rfl (CA.ext (CA.sub (hS.ca (i := 3) rfl) 1) hx) rfl)) ?_
      refine OJ.pures tU_ok 5 rfl ?_
      refine OJ.split (t := 22) rfl (fun hb => ?_) (fun hb => ?_)
      · replace H := pif_t (of_decide_eq_true hb) H
        refine OJ.pures tU_ok 8 rfl ?_
        refine OJ.nil ?_
        exact EJ.meet (F' := [(0, .pointer (some pa0)), (3, .int .i64 (a0.Names.length : Int)), (30, .bool true)]) ⟨rfl, rfl, rfl, trivial⟩ ⟨true, H, rfl, hS.pick [] [0, 1, 2, 3] rfl⟩
      · replace H := pif_f (of_decide_eq_false hb) H
        refine OJ.pures tU_ok 2 rfl ?_
        refine OJ.st rfl rfl rfl (SR.fieldAddr tU_ok tI_ok rfl rfl rfl rfl rfl rfl) ?_
        refine OJ.st rfl rfl rfl (SR.load rfl rfl (fun w' hx => ld1 tU_ok rfl rfl (CA.ext (CA.sub (hS.ca (i := 3) rfl) 2) hx) rfl)) ?_
        refine OJ.pures tU_ok 4 rfl ?_
        refine OJ.nil ?_
        exact EJ.meet (F' := [(0, .pointer (some pa0)), (3, .int .i64 (a0.Names.length : Int)), (30, .bool (decide ((a0.Foes.length : Int) ≠ (a0.Names.length : Int))))]) ⟨rfl, rfl, rfl, trivial⟩ ⟨(decide ((a0.Foes.length : Int) ≠ (a0.Names.length : Int))), H, rfl, hS.pick [] [0, 1, 2, 3] rfl⟩
  · rintro F w1 ⟨y1, he, rfl, hS⟩
    obtain rfl := Option.some.inj he
    have H := K76
    refine CJ.cond rfl (fun hb => ?_) (fun hb => ?_)
    · replace H := pif_t hb H
      refine CJ.seq ?_
      refine CJ.region ?_
      refine OJ.pures tU_ok 1 rfl ?_
      refine OJ.nil (EJ.next ?_)
      refine CJ.ret (EJ.skR (?_))
      obtain rfl := Option.some.inj H
      exact EJ.fin rfl (.tmp rfl .nil) ⟨rfl, hS.ext⟩
    · replace H := pifb_f hb H
      refine CJ.skip (EJ.next ?_)
      refine CJ.seq ?_
      refine CJ.seq ?_
      refine CJ.region ?_
      refine OJ.pures tU_ok 1 rfl ?_
      refine OJ.nil (EJ.next ?_)
      obtain ⟨j77, H, K77⟩ := pbind H
      refine CJ.cut1 (fun F w1 => (some (Sum.inr ()) : Option (Bool ⊕ Unit)) = some j77 ∧ F = [] ∧ St w no w1 [] [roC G.cs Aa0_0 ca0_0 a0.Names, roC (ci .i16) Aa0_1 ca0_1 a0.Eats, roC (ci .u16) Aa0_2 ca0_2 a0.Foes, roP pa0 ([.slice Aa0_0 a0.Names.length ca0_0, .slice Aa0_1 a0.Eats.length ca0_1, .slice Aa0_2 a0.Foes.length ca0_2])]) ?_ ?_
      · skip
        refine CJ.block ?_
        refine CJ.loop (fun k F w1 => ∃ (y2 : Int), F = [(0, .pointer (some pa0)), (3, .int .i64 (a0.Names.length : Int)), (4, .int .i64 y2)] ∧ St w no w1 [] [roC G.cs Aa0_0 ca0_0 a0.Names, roC (ci .i16) Aa0_1 ca0_1 a0.Eats, roC (ci .u16) Aa0_2 ca0_2 a0.Foes, roP pa0 ([.slice Aa0_0 a0.Names.length ca0_0, .slice Aa0_1 a0.Eats.length ca0_1, .slice Aa0_2 a0.Foes.length ca0_2])] ∧ spec_l06Ok.l1 a0 k y2 = some j77) k (F' := [(0, .pointer (some pa0)), (3, .int .i64 (a0.Names.length : Int)), (4, .int .i64 0)]) ⟨rfl, rfl, rfl, trivial⟩ ⟨0, rfl, hS.pick [] [0, 1, 2, 3] rfl, H⟩ ?_
        rintro k F w1 ⟨y2, rfl, hS, H⟩
        cases k with
        | zero => rw [spec_l06Ok.l1] at H; cases H
        | succ k =>
          rw [spec_l06Ok.l1] at H
          refine CJ.seq ?_
          refine CJ.seq ?_
          refine CJ.region ?_
          refine OJ.pures tU_ok 3 rfl ?_
          refine OJ.nil (EJ.next ?_)
          refine CJ.cond rfl (fun hb => ?_) (fun hb => ?_)
          · replace H := pif_t (of_decide_eq_true hb) H
            refine CJ.skip (EJ.next ?_)
            obtain ⟨j89, H, K89⟩ := pbind H
            refine CJ.cut (fun F w1 => (some (Sum.inr ()) : Option ((Bool ⊕ Unit) ⊕ Unit)) = some j89 ∧ F = [(0, .pointer (some pa0)), (3, .int .i64 (a0.Names.length : Int)), (4, .int .i64 y2)] ∧ St w no w1 [] [roC G.cs Aa0_0 ca0_0 a0.Names, roC (ci .i16) Aa0_1 ca0_1 a0.Eats, roC (ci .u16) Aa0_2 ca0_2 a0.Foes, roP pa0 ([.slice Aa0_0 a0.Names.length ca0_0, .slice Aa0_1 a0.Eats.length ca0_1, .slice Aa0_2 a0.Foes.length ca0_2])]) ?_ ?_
            · skip
              refine CJ.block ?_
              refine CJ.seq ?_
              obtain ⟨j92, H, K92⟩ := pbind H
              refine CJ.cut (fun F w1 => ∃ (y3 : Bool) , (some y3 : Option Bool) = some j92 ∧ F = [(0, .pointer (some pa0)), (3, .int .i64 (a0.Names.length : Int)), (4, .int .i64 y2), (75, .bool y3)] ∧ St w no w1 [] [roC G.cs Aa0_0 ca0_0 a0.Names, roC (ci .i16) Aa0_1 ca0_1 a0.Eats, roC (ci .u16) Aa0_2 ca0_2 a0.Foes, roP pa0 ([.slice Aa0_0 a0.Names.length ca0_0, .slice Aa0_1 a0.Eats.length ca0_1, .slice Aa0_2 a0.Foes.length ca0_2])]) ?_ ?_
              · skip
                refine CJ.region ?_
                refine OJ.pures tU_ok 2 rfl ?_
                refine OJ.st rfl rfl rfl (SR.fieldAddr tU_ok tI_ok rfl rfl rfl rfl rfl rfl) ?_
                refine OJ.st rfl rfl rfl (SR.load rfl rfl (fun w' hx => ld1 tU_ok rfl rfl (CA.ext (CA.sub (hS.ca (i := 3) rfl) 0) hx) rfl)) ?_
                refine OJ.pures tU_ok 1 rfl ?_
                obtain ⟨t4, ht4, H⟩ := pbind H
                obtain ⟨ad4, e4⟩ := (hS.rd' (i := 0) rfl).some' ht4
                refine OJ.st rfl rfl rfl (SR.idxS tU_ok tI_ok rfl rfl rfl rfl e4 rfl (getI_some ht4).1) ?_
                refine OJ.st rfl rfl rfl (SR.load rfl rfl (fun w' hx => ld1 tU_ok rfl rfl (CA.ext ((hS.rd' (i := 0) rfl).at_ e4 ht4) hx) rfl)) ?_
                obtain ⟨t5, ht5, H⟩ := pbind H
                refine OJ.callF rfl rfl rfl rfl rfl hb106 rfl (spec_l06Name.c k _ t4 _ ht5) ?_
                rintro _ w1 ⟨rfl, hs⟩
                replace hS := hS.grow hs
                refine OJ.pures tU_ok 2 rfl ?_
                refine OJ.split (t := 45) rfl (fun hb => ?_) (fun hb => ?_)
                · replace H := pif_t hb H
                  refine OJ.pures tU_ok 30 rfl ?_
                  refine OJ.nil ?_
                  exact EJ.meet (F' := [(0, .pointer (some pa0)), (3, .int .i64 (a0.Names.length : Int)), (4, .int .i64 y2), (75, .bool true)]) ⟨rfl, rfl, rfl, rfl, trivial⟩ ⟨true, H, rfl, hS.pick [] [0, 1, 2, 3] rfl⟩
                · replace H := pifb_f hb H
                  refine OJ.pures tU_ok 2 rfl ?_
                  refine OJ.st rfl rfl rfl (SR.fieldAddr tU_ok tI_ok rfl rfl rfl rfl rfl rfl) ?_
                  refine OJ.st rfl rfl rfl (SR.load rfl rfl (fun w' hx => ld1 tU_ok rfl rfl (CA.ext (CA.sub (hS.ca (i := 3) rfl) 1) hx) rfl)) ?_
                  refine OJ.pures tU_ok 1 rfl ?_
                  obtain ⟨t6, ht6, H⟩ := pbind H
                  obtain ⟨ad6, e6⟩ := (hS.rd' (i := 1) rfl).some' ht6
                  refine OJ.st rfl rfl rfl (SR.idxS tU_ok tI_ok rfl rfl rfl rfl e6 rfl (getI_some ht6).1) ?_
                  refine OJ.st rfl rfl rfl (SR.load rfl rfl (fun w' hx => ld1 tU_ok rfl rfl (CA.ext ((hS.rd' (i := 1) rfl).at_ e6 ht6) hx) rfl)) ?_
                  refine OJ.pures tU_ok 1 rfl ?_
                  obtain ⟨t7, ht7, H⟩ := pbind H
                  refine OJ.callF rfl rfl rfl rfl rfl hb75 rfl (spec_l00In.c _ (IntKind.i64.wrap t6) 0 100 _ ht7) ?_
                  rintro _ w1 ⟨rfl, hs⟩
                  replace hS := hS.grow hs
                  refine OJ.pures tU_ok 3 rfl ?_
                  refine OJ.split (t := 57) rfl (fun hb => ?_) (fun hb => ?_)
                  · replace H := pif_t hb H
                    refine OJ.pures tU_ok 18 rfl ?_
                    refine OJ.nil ?_
                    exact EJ.meet (F' := [(0, .pointer (some pa0)), (3, .int .i64 (a0.Names.length : Int)), (4, .int .i64 y2), (75, .bool true)]) ⟨rfl, rfl, rfl, rfl, trivial⟩ ⟨true, H, rfl, hS.pick [] [0, 1, 2, 3] rfl⟩
                  · replace H := pifb_f hb H
                    refine OJ.pures tU_ok 2 rfl ?_
                    refine OJ.st rfl rfl rfl (SR.fieldAddr tU_ok tI_ok rfl rfl rfl rfl rfl rfl) ?_
                    refine OJ.st rfl rfl rfl (SR.load rfl rfl (fun w' hx => ld1 tU_ok rfl rfl (CA.ext (CA.sub (hS.ca (i := 3) rfl) 2) hx) rfl)) ?_
                    refine OJ.pures tU_ok 1 rfl ?_
                    obtain ⟨t8, ht8, H⟩ := pbind H
                    obtain ⟨ad8, e8⟩ := (hS.rd' (i := 2) rfl).some' ht8
                    refine OJ.st rfl rfl rfl (SR.idxS tU_ok tI_ok rfl rfl rfl rfl e8 rfl (getI_some ht8).1) ?_
                    refine OJ.st rfl rfl rfl (SR.load rfl rfl (fun w' hx => ld1 tU_ok rfl rfl (CA.ext ((hS.rd' (i := 2) rfl).at_ e8 ht8) hx) rfl)) ?_
                    refine OJ.pures tU_ok 2 rfl ?_
                    obtain ⟨u9, hu9, H⟩ := pbind H
                    refine OJ.st rfl rfl rfl (SR.shr rfl rfl rfl (chk_some hu9)) ?_
                    refine OJ.pures tU_ok 3 rfl ?_
                    refine OJ.split (t := 70) rfl (fun hb => ?_) (fun hb => ?_)
                    · replace H := pif_t (of_decide_eq_true hb) H
                      refine OJ.pures tU_ok 5 rfl ?_
                      refine OJ.nil ?_
                      exact EJ.meet (F' := [(0, .pointer (some pa0)), (3, .int .i64 (a0.Names.length : Int)), (4, .int .i64 y2), (75, .bool true)]) ⟨rfl, rfl, rfl, rfl, trivial⟩ ⟨true, H, rfl, hS.pick [] [0, 1, 2, 3] rfl⟩
                    · replace H := pif_f (of_decide_eq_false hb) H
                      refine OJ.pures tU_ok 3 rfl ?_
                      obtain ⟨t10, ht10, H⟩ := pbind H
                      refine OJ.callF rfl rfl rfl rfl rfl hb107 rfl (spec_l06Are.c _ Aa0_0 ca0_0 Aa0_1 ca0_1 Aa0_2 ca0_2 a0 (hS.rd' (i := 0) rfl) (hS.le' (i := 0) rfl) (hS.rd' (i := 1) rfl) (hS.le' (i := 1) rfl) (hS.rd' (i := 2) rfl) (hS.le' (i := 2) rfl) pa0 (hS.ca (i := 3) rfl) y2 y2 _ ht10) ?_
                      rintro _ w1 ⟨rfl, hs⟩
                      replace hS := hS.grow hs
                      refine OJ.pures tU_ok 1 rfl ?_
                      refine OJ.nil ?_
                      exact EJ.meet (F' := [(0, .pointer (some pa0)), (3, .int .i64 (a0.Names.length : Int)), (4, .int .i64 y2), (75, .bool t10)]) ⟨rfl, rfl, rfl, rfl, trivial⟩ ⟨t10, H, rfl, hS.pick [] [0, 1, 2, 3] rfl⟩
              · rintro F w1 ⟨y3, he, rfl, hS⟩
                obtain rfl := Option.some.inj he
                have H := K92
                refine CJ.cond rfl (fun hb => ?_) (fun hb => ?_)
                · replace H := pif_t hb H
                  refine CJ.seq ?_
                  refine CJ.region ?_
                  refine OJ.pures tU_ok 1 rfl ?_
                  refine OJ.nil (EJ.next ?_)
                  refine CJ.ret (EJ.skR (EJ.bkR (EJ.skR (EJ.skR (EJ.bkR (EJ.skR (EJ.skR (?_))))))))
                  first | (obtain rfl := Option.some.inj H; have H := K89) | (obtain ⟨q89, H2, e89⟩ := pbind H; obtain rfl := Option.some.inj e89; obtain rfl := Option.some.inj K89; have H := H2)
                  first | (obtain rfl := Option.some.inj H; have H := K77) | (obtain ⟨q77, H2, e77⟩ := pbind H; obtain rfl := Option.some.inj e77; obtain rfl := Option.some.inj K77; have H := H2)
                  obtain rfl := Option.some.inj H
                  exact EJ.fin rfl (.tmp rfl .nil) ⟨rfl, hS.ext⟩
                · replace H := pifb_f hb H
                  refine CJ.skip (EJ.next ?_)
                  refine CJ.seq ?_
                  refine CJ.region ?_
                  refine OJ.pures tU_ok 1 rfl ?_
                  refine OJ.nil (EJ.next ?_)
                  obtain ⟨j93, H, K93⟩ := pbind H
                  refine CJ.cut1 (fun F w1 => (some (Sum.inr ()) : Option (((Bool ⊕ Unit) ⊕ Unit) ⊕ Unit)) = some j93 ∧ F = [(0, .pointer (some pa0)), (3, .int .i64 (a0.Names.length : Int)), (4, .int .i64 y2)] ∧ St w no w1 [] [roC G.cs Aa0_0 ca0_0 a0.Names, roC (ci .i16) Aa0_1 ca0_1 a0.Eats, roC (ci .u16) Aa0_2 ca0_2 a0.Foes, roP pa0 ([.slice Aa0_0 a0.Names.length ca0_0, .slice Aa0_1 a0.Eats.length ca0_1, .slice Aa0_2 a0.Foes.length ca0_2])]) ?_ ?_
                  · skip
                    refine CJ.block ?_
                    refine CJ.loop (fun k F w1 => ∃ (y11 : Int), F = [(0, .pointer (some pa0)), (3, .int .i64 (a0.Names.length : Int)), (4, .int .i64 y2), (5, .int .i64 y11)] ∧ St w no w1 [] [roC G.cs Aa0_0 ca0_0 a0.Names, roC (ci .i16) Aa0_1 ca0_1 a0.Eats, roC (ci .u16) Aa0_2 ca0_2 a0.Foes, roP pa0 ([.slice Aa0_0 a0.Names.length ca0_0, .slice Aa0_1 a0.Eats.length ca0_1, .slice Aa0_2 a0.Foes.length ca0_2])] ∧ spec_l06Ok.l2 a0 y2 k y11 = some j93) k (F' := [(0, .pointer (some pa0)), (3, .int .i64 (a0.Names.length : Int)), (4, .int .i64 y2), (5, .int .i64 0)]) ⟨rfl, rfl, rfl, rfl, trivial⟩ ⟨0, rfl, hS.pick [] [0, 1, 2, 3] rfl, H⟩ ?_
                    rintro k F w1 ⟨y11, rfl, hS, H⟩
                    cases k with
                    | zero => rw [spec_l06Ok.l2] at H; cases H
                    | succ k =>
                      rw [spec_l06Ok.l2] at H
                      refine CJ.seq ?_
                      refine CJ.seq ?_
                      refine CJ.region ?_
                      refine OJ.pures tU_ok 3 rfl ?_
                      refine OJ.nil (EJ.next ?_)
                      refine CJ.cond rfl (fun hb => ?_) (fun hb => ?_)
                      · replace H := pif_t (of_decide_eq_true hb) H
                        refine CJ.skip (EJ.next ?_)
                        refine CJ.seq ?_
                        refine CJ.block ?_
                        refine CJ.seq ?_
                        refine CJ.draw [] [0, 1, 2, 3, 4, 5, 6, 7, 8, 9, 10, 11, 12, 13, 14, 15, 16, 17, 18, 20, 21, 22, 19, 23, 24, 25] mixed (by kernel_rfl) hS fun w1 hS => ?_
                        refine DJ.pures tU_ok 2 rfl ?_
                        refine DJ.st rfl rfl rfl rfl rfl (SR.fieldAddr tU_ok tI_ok rfl rfl rfl rfl rfl rfl) ?_
                        refine DJ.st rfl rfl rfl rfl rfl (SR.load rfl rfl (fun w' hx => ld1 tU_ok rfl rfl (CA.ext (CA.sub (hS.ca (i := 3) rfl) 0) hx) rfl)) ?_
                        refine DJ.pures tU_ok 1 rfl ?_
                        obtain ⟨t12, ht12, H⟩ := pbind H
                        obtain ⟨ad12, e12⟩ := (hS.rd' (i := 0) rfl).some' ht12
                        refine DJ.st rfl rfl rfl rfl rfl (SR.idxS tU_ok tI_ok rfl rfl rfl rfl e12 rfl (getI_some ht12).1) ?_
                        refine DJ.st rfl rfl rfl rfl rfl (SR.load rfl rfl (fun w' hx => ld1 tU_ok rfl rfl (CA.ext ((hS.rd' (i := 0) rfl).at_ e12 ht12) hx) rfl)) ?_
                        refine DJ.pures tU_ok 2 rfl ?_
                        refine DJ.st rfl rfl rfl rfl rfl (SR.fieldAddr tU_ok tI_ok rfl rfl rfl rfl rfl rfl) ?_
                        refine DJ.st rfl rfl rfl rfl rfl (SR.load rfl rfl (fun w' hx => ld1 tU_ok rfl rfl (CA.ext (CA.sub (hS.ca (i := 3) rfl) 0) hx) rfl)) ?_
                        refine DJ.pures tU_ok 1 rfl ?_
                        obtain ⟨t13, ht13, H⟩ := pbind H
                        obtain ⟨ad13, e13⟩ := (hS.rd' (i := 0) rfl).some' ht13
                        refine DJ.st rfl rfl rfl rfl rfl (SR.idxS tU_ok tI_ok rfl rfl rfl rfl e13 rfl (getI_some ht13).1) ?_
                        refine DJ.st rfl rfl rfl rfl rfl (SR.load rfl rfl (fun w' hx => ld1 tU_ok rfl rfl (CA.ext ((hS.rd' (i := 0) rfl).at_ e13 ht13) hx) rfl)) ?_
                        refine DJ.pures tU_ok 2 rfl ?_
                        refine DJ.split (t := 96) rfl (fun hb => ?_) (fun hb => ?_)
                        · replace H := pif_t (of_decide_eq_true hb) H
                          refine DJ.pures tU_ok 10 rfl ?_
                          refine DJ.nil (EJ.next ?_)
                          refine CJ.condT rfl ?_
                          refine CJ.seq ?_
                          refine CJ.region ?_
                          refine OJ.pures tU_ok 1 rfl ?_
                          refine OJ.nil (EJ.next ?_)
                          refine CJ.ret (EJ.bkR (EJ.skR (EJ.skR (EJ.bkR (EJ.skR (EJ.bkR (EJ.skR (EJ.skR (EJ.bkR (EJ.skR (EJ.skR (?_))))))))))))
                          first | (obtain rfl := Option.some.inj H; have H := K93) | (obtain ⟨q93, H2, e93⟩ := pbind H; obtain rfl := Option.some.inj e93; obtain rfl := Option.some.inj K93; have H := H2)
                          first | (obtain rfl := Option.some.inj H; have H := K89) | (obtain ⟨q89, H2, e89⟩ := pbind H; obtain rfl := Option.some.inj e89; obtain rfl := Option.some.inj K89; have H := H2)
                          first | (obtain rfl := Option.some.inj H; have H := K77) | (obtain ⟨q77, H2, e77⟩ := pbind H; obtain rfl := Option.some.inj e77; obtain rfl := Option.some.inj K77; have H := H2)
                          obtain rfl := Option.some.inj H
                          exact EJ.fin rfl (.tmp rfl .nil) ⟨rfl, hS.ext⟩
                        · replace H := pif_f (of_decide_eq_false hb) H
                          refine DJ.pures tU_ok 6 rfl ?_
                          obtain ⟨t14, ht14, H⟩ := pbind H
                          refine DJ.callF rfl rfl rfl rfl rfl rfl rfl hb107 rfl (spec_l06Are.c _ Aa0_0 ca0_0 Aa0_1 ca0_1 Aa0_2 ca0_2 a0 (hS.rd' (i := 0) rfl) (hS.le' (i := 0) rfl) (hS.rd' (i := 1) rfl) (hS.le' (i := 1) rfl) (hS.rd' (i := 2) rfl) (hS.le' (i := 2) rfl) pa0 (hS.ca (i := 3) rfl) y2 y11 _ ht14) (by rintro v w' ⟨rfl, hs⟩; exact hs) ?_
                          rintro _ w1 ⟨rfl, hs⟩
                          replace hS := hS.grow hs
                          obtain ⟨t15, ht15, H⟩ := pbind H
                          refine DJ.callF rfl rfl rfl rfl rfl rfl rfl hb107 rfl (spec_l06Are.c _ Aa0_0 ca0_0 Aa0_1 ca0_1 Aa0_2 ca0_2 a0 (hS.rd' (i := 0) rfl) (hS.le' (i := 0) rfl) (hS.rd' (i := 1) rfl) (hS.le' (i := 1) rfl) (hS.rd' (i := 2) rfl) (hS.le' (i := 2) rfl) pa0 (hS.ca (i := 3) rfl) y11 y2 _ ht15) (by rintro v w' ⟨rfl, hs⟩; exact hs) ?_
                          rintro _ w1 ⟨rfl, hs⟩
                          replace hS := hS.grow hs
                          refine DJ.st rfl rfl rfl rfl rfl (SR.neB tU_ok rfl rfl rfl rfl) ?_
                          refine DJ.pures tU_ok 1 rfl ?_
                          refine DJ.nil (EJ.next ?_)
                          refine CJ.cond rfl (fun hb => ?_) (fun hb => ?_)
                          · replace H := pif_t (of_decide_eq_true hb) H
                            refine CJ.seq ?_
                            refine CJ.region ?_
                            refine OJ.pures tU_ok 1 rfl ?_
                            refine OJ.nil (EJ.next ?_)
                            refine CJ.ret (EJ.bkR (EJ.skR (EJ.skR (EJ.bkR (EJ.skR (EJ.bkR (EJ.skR (EJ.skR (EJ.bkR (EJ.skR (EJ.skR (?_))))))))))))
                            first | (obtain rfl := Option.some.inj H; have H := K93) | (obtain ⟨q93, H2, e93⟩ := pbind H; obtain rfl := Option.some.inj e93; obtain rfl := Option.some.inj K93; have H := H2)
                            first | (obtain rfl := Option.some.inj H; have H := K89) | (obtain ⟨q89, H2, e89⟩ := pbind H; obtain rfl := Option.some.inj e89; obtain rfl := Option.some.inj K89; have H := H2)
                            first | (obtain rfl := Option.some.inj H; have H := K77) | (obtain ⟨q77, H2, e77⟩ := pbind H; obtain rfl := Option.some.inj e77; obtain rfl := Option.some.inj K77; have H := H2)
                            obtain rfl := Option.some.inj H
                            exact EJ.fin rfl (.tmp rfl .nil) ⟨rfl, hS.ext⟩
                          · replace H := pif_f (of_decide_eq_false hb) H
                            refine CJ.skip (EJ.blk (EJ.next ?_))
                            refine CJ.region ?_
                            refine OJ.pures tU_ok 3 rfl ?_
                            refine OJ.nil ?_
                            exact EJ.round k (F' := [(0, .pointer (some pa0)), (3, .int .i64 (a0.Names.length : Int)), (4, .int .i64 y2), (5, .int .i64 (IntKind.i64.wrap (y11 + 1)))]) ⟨rfl, rfl, rfl, rfl, trivial⟩ (Nat.lt_succ_self _) ⟨(IntKind.i64.wrap (y11 + 1)), rfl, hS.pick [] [0, 1, 2, 3] rfl, H⟩
                      · replace H := pif_f (of_decide_eq_false hb) H
                        refine CJ.exit (EJ.skE (EJ.skE (EJ.hit (?_))))
                        exact EJ.meet (F' := [(0, .pointer (some pa0)), (3, .int .i64 (a0.Names.length : Int)), (4, .int .i64 y2)]) ⟨rfl, rfl, rfl, trivial⟩ ⟨H, rfl, hS.pick [] [0, 1, 2, 3] rfl⟩
                  · rintro F w1 ⟨he, rfl, hS⟩
                    obtain rfl := Option.some.inj he
                    have H := K93
                    refine EJ.blk (?_)
                    exact EJ.meet (F' := [(0, .pointer (some pa0)), (3, .int .i64 (a0.Names.length : Int)), (4, .int .i64 y2)]) ⟨rfl, rfl, rfl, trivial⟩ ⟨H, rfl, hS.pick [] [0, 1, 2, 3] rfl⟩
            · rintro F w1 ⟨he, rfl, hS⟩
              obtain rfl := Option.some.inj he
              have H := K89
              refine CJ.region ?_
              refine OJ.pures tU_ok 3 rfl ?_
              refine OJ.nil ?_
              exact EJ.round k (F' := [(0, .pointer (some pa0)), (3, .int .i64 (a0.Names.length : Int)), (4, .int .i64 (IntKind.i64.wrap (y2 + 1)))]) ⟨rfl, rfl, rfl, trivial⟩ (Nat.lt_succ_self _) ⟨(IntKind.i64.wrap (y2 + 1)), rfl, hS.pick [] [0, 1, 2, 3] rfl, H⟩
          · replace H := pif_f (of_decide_eq_false hb) H
            refine CJ.exit (EJ.skE (EJ.skE (EJ.hit (?_))))
            exact EJ.meet (F' := []) trivial ⟨H, rfl, hS.pick [] [0, 1, 2, 3] rfl⟩
      · rintro F w1 ⟨he, rfl, hS⟩
        obtain rfl := Option.some.inj he
        have H := K77
        refine EJ.next ?_
        refine CJ.seq ?_
        refine CJ.region ?_
        refine OJ.pures tU_ok 1 rfl ?_
        refine OJ.nil (EJ.next ?_)
        refine CJ.ret (?_)
        obtain rfl := Option.some.inj H
        exact EJ.fin rfl (.tmp rfl .nil) ⟨rfl, hS.ext⟩

def spec_Decimal.f : Nat → Int → Option ByteArray
  | 0, _ => none
  | k + 1, a0 => if a0 < 10 then (some (bstr ([IntKind.u8.wrap (IntKind.i64.wrap (48 + (Int.tmod a0 10)))] : List Int))) else (((spec_Decimal.f k) (IntKind.i64.wrap (Int.tdiv a0 10))).bind fun t2 => (chk (t2.size + (bstr ([IntKind.u8.wrap (IntKind.i64.wrap (48 + (Int.tmod a0 10)))] : List Int)).size ≤ 4294967296)).bind fun u4 => some (t2 ++ (bstr ([IntKind.u8.wrap (IntKind.i64.wrap (48 + (Int.tmod a0 10)))] : List Int))))
theorem spec_Decimal.c : ∀ (k : Nat) (w : World) (a0 : Int) (r : ByteArray) (H : spec_Decimal.f k a0 = some r),
    CV Tryz.prog 136 [.int .i64 a0].toArray w fun v w' => v = .string r ∧ Ext w w' := by
  intro k
  induction k
  · intro w a0 r H; rw [spec_Decimal.f] at H; cases H
  rename_i k ih
  intro w a0 r H
  have hS := (St.init w no)
  rw [spec_Decimal.f] at H
  generalize spec_Decimal.f k = self at H ih
  refine CV.body Tryz.func136 rfl Tryz.ntmps136 rfl ?_
  refine CJ.seq ?_
  refine CJ.region ?_
  refine OJ.pures tU_ok 1 rfl ?_
  refine OJ.nil (EJ.next ?_)
  refine CJ.seq ?_
  refine CJ.seq ?_
  refine CJ.region ?_
  refine OJ.pures tU_ok 2 rfl ?_
  refine OJ.nil (EJ.next ?_)
  refine CJ.cond rfl (fun hb => ?_) (fun hb => ?_)
  · replace H := pif_t (of_decide_eq_true hb) H
    refine CJ.seq ?_
    refine CJ.region ?_
    refine OJ.pures tU_ok 1 rfl ?_
    refine OJ.st rfl rfl rfl (SR.rem rfl rfl rfl (by decide)) ?_
    refine OJ.pures tU_ok 2 rfl ?_
    refine OJ.ef rfl rfl rfl (Ef.lit tU_ok tI_ok hS (C := (ci .u8)) rfl rfl rfl rfl rfl rfl ([IntKind.u8.wrap (IntKind.i64.wrap (48 + (Int.tmod a0 10)))] : List Int) rfl rfl rfl rfl) ?_
    rintro _ w1 ⟨A1, rfl, hS⟩
    refine OJ.st rfl rfl rfl (SR.b2s tU_ok rfl rfl rfl rfl rfl (hS.rd (i := 0) rfl)) ?_
    refine OJ.pures tU_ok 1 rfl ?_
    refine OJ.nil (EJ.next ?_)
    refine CJ.ret (EJ.skR (?_))
    obtain rfl := Option.some.inj H
    exact EJ.fin rfl (.tmp rfl .nil) ⟨rfl, hS.ext⟩
  · replace H := pif_f (of_decide_eq_false hb) H
    refine CJ.skip (EJ.next ?_)
    refine CJ.seq ?_
    obtain ⟨t2, ht2, H⟩ := pbind H
    obtain ⟨u4, hu4, H⟩ := pbind H
    refine CJ.cut1 (fun F w1 => ∃ (A3 : Option Addr), F = [(2, .string (t2 ++ (bstr ([IntKind.u8.wrap (IntKind.i64.wrap (48 + (Int.tmod a0 10)))] : List Int))))] ∧ St w no w1 [rowC (ci .u8) A3 (([IntKind.u8.wrap (IntKind.i64.wrap (48 + (Int.tmod a0 10)))] : List Int).length) 5 ([IntKind.u8.wrap (IntKind.i64.wrap (48 + (Int.tmod a0 10)))] : List Int)] []) ?_ ?_
    · skip
      refine CJ.drawT [] [2, 7, 8] (.one 0 (.one 1 (.one 3 (.one 4 (.one 5 (.one 6 (.br (.alt 2 (.one 7 (.one 8 (.one 9 (.one 10 (.fin))))) (.alt 7 (.br (.alt 2 (.one 8 (.one 9 (.one 10 (.fin)))) (.alt 8 (.one 2 (.one 9 (.one 10 (.fin)))) (.stop)))) (.stop)))))))))) mixed (by kernel_rfl) hS [] fun w1 hS hY hV => ?_
      refine TJ.pures tU_ok 1 rfl ?_
      refine TJ.sp rfl rfl rfl rfl rfl (fun w2 => SR.quo rfl rfl rfl (by decide)) ?_
      refine TJ.pures tU_ok 1 rfl ?_
      refine TJ.sp rfl rfl rfl rfl rfl (fun w2 => SR.rem rfl rfl rfl (by decide)) ?_
      refine TJ.pures tU_ok 2 rfl ?_
      refine TJ.br ?_
      refine TJ.alt ?_ ?_
      · skip
        refine TJ.callF hY rfl rfl rfl rfl rfl rfl rfl hb136 rfl (ih _ (IntKind.i64.wrap (Int.tdiv a0 10)) _ ht2) (by rintro v w' ⟨rfl, hs⟩; exact hs) ?_
        rintro _ w1 hY ⟨rfl, hs⟩
        replace hS := hS.grow hs
        refine TJ.ef hY rfl rfl rfl rfl rfl (Ef.lit tU_ok tI_ok hS (C := (ci .u8)) rfl rfl rfl rfl rfl rfl ([IntKind.u8.wrap (IntKind.i64.wrap (48 + (Int.tmod a0 10)))] : List Int) rfl rfl rfl rfl) ?_
        rintro _ w1 hY ⟨A5, rfl, hS⟩
        refine TJ.se hY rfl rfl rfl rfl rfl (SR.b2s tU_ok rfl rfl rfl rfl rfl (hS.rd (i := 0) rfl)) ?_
        refine TJ.sp rfl rfl rfl rfl rfl (fun w2 => SR.concat rfl rfl rfl (chk_some hu4)) ?_
        refine TJ.pures tU_ok 1 rfl ?_
        refine TJ.nil ?_
        exact EJ.meet (F' := [(2, .string (t2 ++ (bstr ([IntKind.u8.wrap (IntKind.i64.wrap (48 + (Int.tmod a0 10)))] : List Int))))]) ⟨rfl, trivial⟩ ⟨A5, rfl, hS.pick [0] [] rfl⟩
      refine TJ.alt ?_ ?_
      · skip
        refine TJ.ef hY rfl rfl rfl rfl rfl (Ef.lit tU_ok tI_ok hS (C := (ci .u8)) rfl rfl rfl rfl rfl rfl ([IntKind.u8.wrap (IntKind.i64.wrap (48 + (Int.tmod a0 10)))] : List Int) rfl rfl rfl rfl) ?_
        rintro _ w1 hY ⟨A6, rfl, hS⟩
        refine TJ.br ?_
        refine TJ.alt ?_ ?_
        · skip
          refine TJ.callF hY rfl rfl rfl rfl rfl rfl rfl hb136 rfl (ih _ (IntKind.i64.wrap (Int.tdiv a0 10)) _ ht2) (by rintro v w' ⟨rfl, hs⟩; exact hs) ?_
          rintro _ w1 hY ⟨rfl, hs⟩
          replace hS := hS.grow hs
          refine TJ.se hY rfl rfl rfl rfl rfl (SR.b2s tU_ok rfl rfl rfl rfl rfl (hS.rd (i := 0) rfl)) ?_
          refine TJ.sp rfl rfl rfl rfl rfl (fun w2 => SR.concat rfl rfl rfl (chk_some hu4)) ?_
          refine TJ.pures tU_ok 1 rfl ?_
          refine TJ.nil ?_
          exact EJ.meet (F' := [(2, .string (t2 ++ (bstr ([IntKind.u8.wrap (IntKind.i64.wrap (48 + (Int.tmod a0 10)))] : List Int))))]) ⟨rfl, trivial⟩ ⟨A6, rfl, hS.pick [0] [] rfl⟩
        refine TJ.alt ?_ ?_
        · skip
          refine TJ.se hY rfl rfl rfl rfl rfl (SR.b2s tU_ok rfl rfl rfl rfl rfl (hS.rd (i := 0) rfl)) ?_
          refine TJ.callF hY rfl rfl rfl rfl rfl rfl rfl hb136 rfl (ih _ (IntKind.i64.wrap (Int.tdiv a0 10)) _ ht2) (by rintro v w' ⟨rfl, hs⟩; exact hs) ?_
          rintro _ w1 hY ⟨rfl, hs⟩
          replace hS := hS.grow hs
          refine TJ.sp rfl rfl rfl rfl rfl (fun w2 => SR.concat rfl rfl rfl (chk_some hu4)) ?_
          refine TJ.pures tU_ok 1 rfl ?_
          refine TJ.nil ?_
          exact EJ.meet (F' := [(2, .string (t2 ++ (bstr ([IntKind.u8.wrap (IntKind.i64.wrap (48 + (Int.tmod a0 10)))] : List Int))))]) ⟨rfl, trivial⟩ ⟨A6, rfl, hS.pick [0] [] rfl⟩
        exact TJ.stop
      exact TJ.stop
    · rintro F w1 ⟨A3, rfl, hS⟩
      refine EJ.next ?_
      refine CJ.ret (?_)
      obtain rfl := Option.some.inj H
      exact EJ.fin rfl (.tmp rfl .nil) ⟨rfl, hS.ext⟩

def spec_l06Text.l2 (a0 : Herd) (y3 : Int) : Nat → ByteArray → Int → Option ByteArray
  | 0, _, _ => none
  | k + 1, y12, y13 => if y13 < (a0.Names.length : Int) then ((spec_l06Are.f a0 y3 y13).bind fun t14 => if t14 = true then ((getI a0.Names y13).bind fun t15 => (chk ((⟨#[32]⟩ : ByteArray).size + t15.size ≤ 4294967296)).bind fun u16 => (chk (y12.size + ((⟨#[32]⟩ : ByteArray) ++ t15).size ≤ 4294967296)).bind fun u17 => spec_l06Text.l2 a0 y3 k (y12 ++ ((⟨#[32]⟩ : ByteArray) ++ t15)) (IntKind.i64.wrap (y13 + 1))) else (spec_l06Text.l2 a0 y3 k y12 (IntKind.i64.wrap (y13 + 1)))) else (some y12)
def spec_l06Text.l1 (a0 : Herd) : Nat → ByteArray → Int → Option ByteArray
  | 0, _, _ => none
  | k + 1, y2, y3 => if y3 < (a0.Names.length : Int) then (((getI a0.Names y3).bind fun t5 => (chk (t5.size + (⟨#[32]⟩ : ByteArray).size ≤ 4294967296)).bind fun u6 => (getI a0.Eats y3).bind fun t7 => (spec_Decimal.f k (IntKind.i64.wrap t7)).bind fun t8 => (chk ((t5 ++ (⟨#[32]⟩ : ByteArray)).size + t8.size ≤ 4294967296)).bind fun u9 => (chk (y2.size + ((t5 ++ (⟨#[32]⟩ : ByteArray)) ++ t8).size ≤ 4294967296)).bind fun u10 => (spec_l06Text.l2 a0 y3 k (y2 ++ ((t5 ++ (⟨#[32]⟩ : ByteArray)) ++ t8)) 0).bind fun y11 => (chk (y11.size + (⟨#[10]⟩ : ByteArray).size ≤ 4294967296)).bind fun u18 => some (y11 ++ (⟨#[10]⟩ : ByteArray))).bind fun y4 => spec_l06Text.l1 a0 k y4 (IntKind.i64.wrap (y3 + 1))) else (some y2)
def spec_l06Text.f (k : Nat) (a0 : Herd) : Option ByteArray := (spec_l06Text.l1 a0 k ByteArray.empty 0).bind fun y1 => some y1
theorem spec_l06Text.c (k : Nat) (w : World) (Aa0_0 : Option Addr) (ca0_0 : Nat) (Aa0_1 : Option Addr) (ca0_1 : Nat) (Aa0_2 : Option Addr) (ca0_2 : Nat) (a0 : Herd) (hr0_0 : Rd G.cs w Aa0_0 a0.Names) (hc0_0 : a0.Names.length ≤ ca0_0) (hr0_1 : Rd (ci .i16) w Aa0_1 a0.Eats) (hc0_1 : a0.Eats.length ≤ ca0_1) (hr0_2 : Rd (ci .u16) w Aa0_2 a0.Foes) (hc0_2 : a0.Foes.length ≤ ca0_2) (pa0 : Addr) (hp0 : CA w pa0 ([.slice Aa0_0 a0.Names.length ca0_0, .slice Aa0_1 a0.Eats.length ca0_1, .slice Aa0_2 a0.Foes.length ca0_2])) (r : ByteArray) (H : spec_l06Text.f k a0 = some r) :
    CV Tryz.prog 85 [.pointer (some pa0)].toArray w fun v w' => v = .string r ∧ Ext w w' := by
  have hS := (((((St.init w no).param G.cs Aa0_0 ca0_0 a0.Names hr0_0 hc0_0).param (ci .i16) Aa0_1 ca0_1 a0.Eats hr0_1 hc0_1).param (ci .u16) Aa0_2 ca0_2 a0.Foes hr0_2 hc0_2).paramP pa0 ([.slice Aa0_0 a0.Names.length ca0_0, .slice Aa0_1 a0.Eats.length ca0_1, .slice Aa0_2 a0.Foes.length ca0_2]) hp0)
  unfold spec_l06Text.f at H
  refine CV.body Tryz.func85 rfl Tryz.ntmps85 rfl ?_
  refine CJ.seq ?_
  refine CJ.region ?_
  refine OJ.pures tU_ok 1 rfl ?_
  refine OJ.nil (EJ.next ?_)
  refine CJ.seq ?_
  refine CJ.region ?_
  refine OJ.pures tU_ok 1 rfl ?_
  refine OJ.nil (EJ.next ?_)
  refine CJ.seq ?_
  refine CJ.seq ?_
  refine CJ.region ?_
  refine OJ.pures tU_ok 1 rfl ?_
  refine OJ.nil (EJ.next ?_)
  obtain ⟨j94, H, K94⟩ := pbind H
  refine CJ.cut1 (fun F w1 => ∃ (y1 : ByteArray) , (some y1 : Option ByteArray) = some j94 ∧ F = [(3, .string y1)] ∧ St w no w1 [] [roC G.cs Aa0_0 ca0_0 a0.Names, roC (ci .i16) Aa0_1 ca0_1 a0.Eats, roC (ci .u16) Aa0_2 ca0_2 a0.Foes, roP pa0 ([.slice Aa0_0 a0.Names.length ca0_0, .slice Aa0_1 a0.Eats.length ca0_1, .slice Aa0_2 a0.Foes.length ca0_2])]) ?_ ?_
  · skip
    refine CJ.block ?_
    refine CJ.loop (fun k F w1 => ∃ (y2 : ByteArray) (y3 : Int), F = [(0, .pointer (some pa0)), (3, .string y2), (4, .int .i64 y3)] ∧ St w no w1 [] [roC G.cs Aa0_0 ca0_0 a0.Names, roC (ci .i16) Aa0_1 ca0_1 a0.Eats, roC (ci .u16) Aa0_2 ca0_2 a0.Foes, roP pa0 ([.slice Aa0_0 a0.Names.length ca0_0, .slice Aa0_1 a0.Eats.length ca0_1, .slice Aa0_2 a0.Foes.length ca0_2])] ∧ spec_l06Text.l1 a0 k y2 y3 = some j94) k (F' := [(0, .pointer (some pa0)), (3, .string ByteArray.empty), (4, .int .i64 0)]) ⟨rfl, rfl, rfl, trivial⟩ ⟨ByteArray.empty, 0, rfl, hS.pick [] [0, 1, 2, 3] rfl, H⟩ ?_
    rintro k F w1 ⟨y2, y3, rfl, hS, H⟩
    cases k with
    | zero => rw [spec_l06Text.l1] at H; cases H
    | succ k =>
      rw [spec_l06Text.l1] at H
      refine CJ.seq ?_
      refine CJ.seq ?_
      refine CJ.region ?_
      refine OJ.pures tU_ok 3 rfl ?_
      refine OJ.st rfl rfl rfl (SR.fieldAddr tU_ok tI_ok rfl rfl rfl rfl rfl rfl) ?_
      refine OJ.st rfl rfl rfl (SR.load rfl rfl (fun w' hx => ld1 tU_ok rfl rfl (CA.ext (CA.sub (hS.ca (i := 3) rfl) 0) hx) rfl)) ?_
      refine OJ.pures tU_ok 2 rfl ?_
      refine OJ.nil (EJ.next ?_)
      refine CJ.cond rfl (fun hb => ?_) (fun hb => ?_)
      · replace H := pif_t (of_decide_eq_true hb) H
        refine CJ.skip (EJ.next ?_)
        obtain ⟨j101, H, K101⟩ := pbind H
        refine CJ.cut (fun F w1 => ∃ (y4 : ByteArray) , (some y4 : Option ByteArray) = some j101 ∧ F = [(0, .pointer (some pa0)), (3, .string y4), (4, .int .i64 y3)] ∧ St w no w1 [] [roC G.cs Aa0_0 ca0_0 a0.Names, roC (ci .i16) Aa0_1 ca0_1 a0.Eats, roC (ci .u16) Aa0_2 ca0_2 a0.Foes, roP pa0 ([.slice Aa0_0 a0.Names.length ca0_0, .slice Aa0_1 a0.Eats.length ca0_1, .slice Aa0_2 a0.Foes.length ca0_2])]) ?_ ?_
        · skip
          refine CJ.block ?_
          refine CJ.seq ?_
          refine CJ.draw [] [0, 1, 2, 3, 4, 5, 6, 7, 8, 9, 10, 11, 12, 13, 14, 15, 16, 17, 18, 19, 20] mixed (by kernel_rfl) hS fun w1 hS => ?_
          refine DJ.pures tU_ok 3 rfl ?_
          refine DJ.st rfl rfl rfl rfl rfl (SR.fieldAddr tU_ok tI_ok rfl rfl rfl rfl rfl rfl) ?_
          refine DJ.st rfl rfl rfl rfl rfl (SR.load rfl rfl (fun w' hx => ld1 tU_ok rfl rfl (CA.ext (CA.sub (hS.ca (i := 3) rfl) 0) hx) rfl)) ?_
          refine DJ.pures tU_ok 1 rfl ?_
          obtain ⟨t5, ht5, H⟩ := pbind H
          obtain ⟨ad5, e5⟩ := (hS.rd' (i := 0) rfl).some' ht5
          refine DJ.st rfl rfl rfl rfl rfl (SR.idxS tU_ok tI_ok rfl rfl rfl rfl e5 rfl (getI_some ht5).1) ?_
          refine DJ.st rfl rfl rfl rfl rfl (SR.load rfl rfl (fun w' hx => ld1 tU_ok rfl rfl (CA.ext ((hS.rd' (i := 0) rfl).at_ e5 ht5) hx) rfl)) ?_
          obtain ⟨u6, hu6, H⟩ := pbind H
          refine DJ.st rfl rfl rfl rfl rfl (SR.concat rfl rfl rfl (chk_some hu6)) ?_
          refine DJ.pures tU_ok 2 rfl ?_
          refine DJ.st rfl rfl rfl rfl rfl (SR.fieldAddr tU_ok tI_ok rfl rfl rfl rfl rfl rfl) ?_
          refine DJ.st rfl rfl rfl rfl rfl (SR.load rfl rfl (fun w' hx => ld1 tU_ok rfl rfl (CA.ext (CA.sub (hS.ca (i := 3) rfl) 1) hx) rfl)) ?_
          refine DJ.pures tU_ok 1 rfl ?_
          obtain ⟨t7, ht7, H⟩ := pbind H
          obtain ⟨ad7, e7⟩ := (hS.rd' (i := 1) rfl).some' ht7
          refine DJ.st rfl rfl rfl rfl rfl (SR.idxS tU_ok tI_ok rfl rfl rfl rfl e7 rfl (getI_some ht7).1) ?_
          refine DJ.st rfl rfl rfl rfl rfl (SR.load rfl rfl (fun w' hx => ld1 tU_ok rfl rfl (CA.ext ((hS.rd' (i := 1) rfl).at_ e7 ht7) hx) rfl)) ?_
          refine DJ.pures tU_ok 1 rfl ?_
          obtain ⟨t8, ht8, H⟩ := pbind H
          refine DJ.callF rfl rfl rfl rfl rfl rfl rfl hb136 rfl (spec_Decimal.c k _ (IntKind.i64.wrap t7) _ ht8) (by rintro v w' ⟨rfl, hs⟩; exact hs) ?_
          rintro _ w1 ⟨rfl, hs⟩
          replace hS := hS.grow hs
          obtain ⟨u9, hu9, H⟩ := pbind H
          refine DJ.st rfl rfl rfl rfl rfl (SR.concat rfl rfl rfl (chk_some hu9)) ?_
          obtain ⟨u10, hu10, H⟩ := pbind H
          refine DJ.st rfl rfl rfl rfl rfl (SR.concat rfl rfl rfl (chk_some hu10)) ?_
          refine DJ.pures tU_ok 1 rfl ?_
          refine DJ.nil (EJ.next ?_)
          refine CJ.seq ?_
          refine CJ.seq ?_
          refine CJ.region ?_
          refine OJ.pures tU_ok 1 rfl ?_
          refine OJ.nil (EJ.next ?_)
          obtain ⟨j103, H, K103⟩ := pbind H
          refine CJ.cut1 (fun F w1 => ∃ (y11 : ByteArray) , (some y11 : Option ByteArray) = some j103 ∧ F = [(0, .pointer (some pa0)), (3, .string y11), (4, .int .i64 y3)] ∧ St w no w1 [] [roC G.cs Aa0_0 ca0_0 a0.Names, roC (ci .i16) Aa0_1 ca0_1 a0.Eats, roC (ci .u16) Aa0_2 ca0_2 a0.Foes, roP pa0 ([.slice Aa0_0 a0.Names.length ca0_0, .slice Aa0_1 a0.Eats.length ca0_1, .slice Aa0_2 a0.Foes.length ca0_2])]) ?_ ?_
          · skip
            refine CJ.block ?_
            refine CJ.loop (fun k F w1 => ∃ (y12 : ByteArray) (y13 : Int), F = [(0, .pointer (some pa0)), (3, .string y12), (4, .int .i64 y3), (5, .int .i64 y13)] ∧ St w no w1 [] [roC G.cs Aa0_0 ca0_0 a0.Names, roC (ci .i16) Aa0_1 ca0_1 a0.Eats, roC (ci .u16) Aa0_2 ca0_2 a0.Foes, roP pa0 ([.slice Aa0_0 a0.Names.length ca0_0, .slice Aa0_1 a0.Eats.length ca0_1, .slice Aa0_2 a0.Foes.length ca0_2])] ∧ spec_l06Text.l2 a0 y3 k y12 y13 = some j103) k (F' := [(0, .pointer (some pa0)), (3, .string (y2 ++ ((t5 ++ (⟨#[32]⟩ : ByteArray)) ++ t8))), (4, .int .i64 y3), (5, .int .i64 0)]) ⟨rfl, rfl, rfl, rfl, trivial⟩ ⟨(y2 ++ ((t5 ++ (⟨#[32]⟩ : ByteArray)) ++ t8)), 0, rfl, hS.pick [] [0, 1, 2, 3] rfl, H⟩ ?_
            rintro k F w1 ⟨y12, y13, rfl, hS, H⟩
            cases k with
            | zero => rw [spec_l06Text.l2] at H; cases H
            | succ k =>
              rw [spec_l06Text.l2] at H
              refine CJ.seq ?_
              refine CJ.seq ?_
              refine CJ.region ?_
              refine OJ.pures tU_ok 3 rfl ?_
              refine OJ.st rfl rfl rfl (SR.fieldAddr tU_ok tI_ok rfl rfl rfl rfl rfl rfl) ?_
              refine OJ.st rfl rfl rfl (SR.load rfl rfl (fun w' hx => ld1 tU_ok rfl rfl (CA.ext (CA.sub (hS.ca (i := 3) rfl) 0) hx) rfl)) ?_
              refine OJ.pures tU_ok 2 rfl ?_
              refine OJ.nil (EJ.next ?_)
              refine CJ.cond rfl (fun hb => ?_) (fun hb => ?_)
              · replace H := pif_t (of_decide_eq_true hb) H
                refine CJ.skip (EJ.next ?_)
                refine CJ.seq ?_
                refine CJ.block ?_
                refine CJ.seq ?_
                refine CJ.region ?_
                refine OJ.pures tU_ok 3 rfl ?_
                obtain ⟨t14, ht14, H⟩ := pbind H
                refine OJ.callF rfl rfl rfl rfl rfl hb107 rfl (spec_l06Are.c _ Aa0_0 ca0_0 Aa0_1 ca0_1 Aa0_2 ca0_2 a0 (hS.rd' (i := 0) rfl) (hS.le' (i := 0) rfl) (hS.rd' (i := 1) rfl) (hS.le' (i := 1) rfl) (hS.rd' (i := 2) rfl) (hS.le' (i := 2) rfl) pa0 (hS.ca (i := 3) rfl) y3 y13 _ ht14) ?_
                rintro _ w1 ⟨rfl, hs⟩
                replace hS := hS.grow hs
                refine OJ.nil (EJ.next ?_)
                refine CJ.cond rfl (fun hb => ?_) (fun hb => ?_)
                · replace H := pif_t hb H
                  refine CJ.region ?_
                  refine OJ.pures tU_ok 3 rfl ?_
                  refine OJ.st rfl rfl rfl (SR.fieldAddr tU_ok tI_ok rfl rfl rfl rfl rfl rfl) ?_
                  refine OJ.st rfl rfl rfl (SR.load rfl rfl (fun w' hx => ld1 tU_ok rfl rfl (CA.ext (CA.sub (hS.ca (i := 3) rfl) 0) hx) rfl)) ?_
                  refine OJ.pures tU_ok 1 rfl ?_
                  obtain ⟨t15, ht15, H⟩ := pbind H
                  obtain ⟨ad15, e15⟩ := (hS.rd' (i := 0) rfl).some' ht15
                  refine OJ.st rfl rfl rfl (SR.idxS tU_ok tI_ok rfl rfl rfl rfl e15 rfl (getI_some ht15).1) ?_
                  refine OJ.st rfl rfl rfl (SR.load rfl rfl (fun w' hx => ld1 tU_ok rfl rfl (CA.ext ((hS.rd' (i := 0) rfl).at_ e15 ht15) hx) rfl)) ?_
                  obtain ⟨u16, hu16, H⟩ := pbind H
                  refine OJ.st rfl rfl rfl (SR.concat rfl rfl rfl (chk_some hu16)) ?_
                  obtain ⟨u17, hu17, H⟩ := pbind H
                  refine OJ.st rfl rfl rfl (SR.concat rfl rfl rfl (chk_some hu17)) ?_
                  refine OJ.pures tU_ok 1 rfl ?_
                  refine OJ.nil (EJ.blk (EJ.next ?_))
                  refine CJ.region ?_
                  refine OJ.pures tU_ok 3 rfl ?_
                  refine OJ.nil ?_
                  exact EJ.round k (F' := [(0, .pointer (some pa0)), (3, .string (y12 ++ ((⟨#[32]⟩ : ByteArray) ++ t15))), (4, .int .i64 y3), (5, .int .i64 (IntKind.i64.wrap (y13 + 1)))]) ⟨rfl, rfl, rfl, rfl, trivial⟩ (Nat.lt_succ_self _) ⟨(y12 ++ ((⟨#[32]⟩ : ByteArray) ++ t15)), (IntKind.i64.wrap (y13 + 1)), rfl, hS.pick [] [0, 1, 2, 3] rfl, H⟩
                · replace H := pifb_f hb H
                  refine CJ.skip (EJ.blk (EJ.next ?_))
                  refine CJ.region ?_
                  refine OJ.pures tU_ok 3 rfl ?_
                  refine OJ.nil ?_
                  exact EJ.round k (F' := [(0, .pointer (some pa0)), (3, .string y12), (4, .int .i64 y3), (5, .int .i64 (IntKind.i64.wrap (y13 + 1)))]) ⟨rfl, rfl, rfl, rfl, trivial⟩ (Nat.lt_succ_self _) ⟨y12, (IntKind.i64.wrap (y13 + 1)), rfl, hS.pick [] [0, 1, 2, 3] rfl, H⟩
              · replace H := pif_f (of_decide_eq_false hb) H
                refine CJ.exit (EJ.skE (EJ.skE (EJ.hit (?_))))
                exact EJ.meet (F' := [(0, .pointer (some pa0)), (3, .string y12), (4, .int .i64 y3)]) ⟨rfl, rfl, rfl, trivial⟩ ⟨y12, H, rfl, hS.pick [] [0, 1, 2, 3] rfl⟩
          · rintro F w1 ⟨y11, he, rfl, hS⟩
            obtain rfl := Option.some.inj he
            have H := K103
            refine EJ.next ?_
            refine CJ.region ?_
            refine OJ.pures tU_ok 1 rfl ?_
            obtain ⟨u18, hu18, H⟩ := pbind H
            refine OJ.st rfl rfl rfl (SR.concat rfl rfl rfl (chk_some hu18)) ?_
            refine OJ.pures tU_ok 1 rfl ?_
            refine OJ.nil (EJ.blk (?_))
            exact EJ.meet (F' := [(0, .pointer (some pa0)), (3, .string (y11 ++ (⟨#[10]⟩ : ByteArray))), (4, .int .i64 y3)]) ⟨rfl, rfl, rfl, trivial⟩ ⟨(y11 ++ (⟨#[10]⟩ : ByteArray)), H, rfl, hS.pick [] [0, 1, 2, 3] rfl⟩
        · rintro F w1 ⟨y4, he, rfl, hS⟩
          obtain rfl := Option.some.inj he
          have H := K101
          refine CJ.region ?_
          refine OJ.pures tU_ok 3 rfl ?_
          refine OJ.nil ?_
          exact EJ.round k (F' := [(0, .pointer (some pa0)), (3, .string y4), (4, .int .i64 (IntKind.i64.wrap (y3 + 1)))]) ⟨rfl, rfl, rfl, trivial⟩ (Nat.lt_succ_self _) ⟨y4, (IntKind.i64.wrap (y3 + 1)), rfl, hS.pick [] [0, 1, 2, 3] rfl, H⟩
      · replace H := pif_f (of_decide_eq_false hb) H
        refine CJ.exit (EJ.skE (EJ.skE (EJ.hit (?_))))
        exact EJ.meet (F' := [(3, .string y2)]) ⟨rfl, trivial⟩ ⟨y2, H, rfl, hS.pick [] [0, 1, 2, 3] rfl⟩
  · rintro F w1 ⟨y1, he, rfl, hS⟩
    obtain rfl := Option.some.inj he
    have H := K94
    refine EJ.next ?_
    refine CJ.seq ?_
    refine CJ.region ?_
    refine OJ.pures tU_ok 2 rfl ?_
    refine OJ.nil (EJ.next ?_)
    refine CJ.ret (?_)
    obtain rfl := Option.some.inj H
    exact EJ.fin rfl (.tmp rfl .nil) ⟨rfl, hS.ext⟩

def spec_ReadHerd.l1 (t2 : List ByteArray) : Nat → Int → (List ByteArray) → (List Int) → (List Int) → Option ((Herd × Int) ⊕ ((List ByteArray) × (List Int) × (List Int)))
  | 0, _, _, _, _ => none
  | k + 1, y17, y18, y21, y24 => if y17 < (IntKind.i64.wrap ((t2.length : Int) - 1)) then ((getI t2 y17).bind fun t27 => (spec_l01Split.f k t27 32).bind fun t28 => if (t28.length : Int) < 2 then (some (Sum.inl ((⟨[], [], []⟩ : Herd), 5))) else ((getI t28 1).bind fun t31 => (spec_l01Number.f k t31).bind fun t32 => (if (!t32.2) = true then (some true) else (some (decide (100 < t32.1)))).bind fun y33 => if y33 = true then (some (Sum.inl ((⟨[], [], []⟩ : Herd), 5))) else ((getI t28 0).bind fun t34 => (chk (y18.length + ([t34] : List ByteArray).length ≤ 4294967296)).bind fun u36 => (chk (y21.length + ([IntKind.i16.wrap t32.1] : List Int).length ≤ 4294967296)).bind fun u40 => (chk (y24.length + ([0] : List Int).length ≤ 4294967296)).bind fun u44 => spec_ReadHerd.l1 t2 k (IntKind.i64.wrap (y17 + 1)) (y18 ++ ([t34] : List ByteArray)) (y21 ++ ([IntKind.i16.wrap t32.1] : List Int)) (y24 ++ ([0] : List Int))))) else (some (Sum.inr (y18, y21, y24)))
def spec_ReadHerd.l4 (t2 : List ByteArray) (y8 : List ByteArray) (y49 : Int) (t52 : List ByteArray) (y57 : Int) : Nat → (List Int) → Int → Option (List Int)
  | 0, _, _ => none
  | k + 1, y60, y61 => if y61 < (IntKind.i64.wrap ((t2.length : Int) - 1)) then ((getI y8 y61).bind fun t62 => (getI t52 y57).bind fun t63 => if t62 = t63 then ((getI y60 y49).bind fun t64 => (chk (0 ≤ (IntKind.u64.wrap y61))).bind fun u65 => (getI y60 y49).bind fun t66 => spec_ReadHerd.l4 t2 y8 y49 t52 y57 k (y60.set y49.toNat (orI .u16 t64 (shlI .u16 1 (IntKind.u64.wrap y61)))) (IntKind.i64.wrap (y61 + 1))) else (spec_ReadHerd.l4 t2 y8 y49 t52 y57 k y60 (IntKind.i64.wrap (y61 + 1)))) else (some y60)
def spec_ReadHerd.l3 (t2 : List ByteArray) (y8 : List ByteArray) (y49 : Int) (t52 : List ByteArray) : Nat → (List Int) → Int → Option (List Int)
  | 0, _, _ => none
  | k + 1, y56, y57 => if y57 < (t52.length : Int) then (((spec_ReadHerd.l4 t2 y8 y49 t52 y57 k y56 0).bind fun y59 => some y59).bind fun y58 => spec_ReadHerd.l3 t2 y8 y49 t52 k y58 (IntKind.i64.wrap (y57 + 1))) else (some y56)
def spec_ReadHerd.l2 (t2 : List ByteArray) (y8 : List ByteArray) : Nat → (List Int) → Int → Option (List Int)
  | 0, _, _ => none
  | k + 1, y48, y49 => if y49 < (IntKind.i64.wrap ((t2.length : Int) - 1)) then (((getI t2 y49).bind fun t51 => (spec_l01Split.f k t51 32).bind fun t52 => (spec_ReadHerd.l3 t2 y8 y49 t52 k y48 2).bind fun y55 => some y55).bind fun y50 => spec_ReadHerd.l2 t2 y8 k y50 (IntKind.i64.wrap (y49 + 1))) else (some y48)
def spec_ReadHerd.f (k : Nat) (a0 : ByteArray) : Option (Herd × Int) := (spec_l01Split.f k a0 10).bind fun t2 => ((getI t2 (IntKind.i64.wrap ((t2.length : Int) - 1))).bind fun t6 => if t6 ≠ ByteArray.empty then (some true) else (some (decide (14 < (IntKind.i64.wrap ((t2.length : Int) - 1)))))).bind fun y5 => if y5 = true then (some ((⟨[], [], []⟩ : Herd), 5)) else ((spec_ReadHerd.l1 t2 k 0 ([] : List ByteArray) ([] : List Int) ([] : List Int)).bind fun s3 => match s3 with | .inl r => some r | .inr (y8, y11, y14) => (spec_ReadHerd.l2 t2 y8 k y14 0).bind fun y47 => (spec_l06Ok.f k (⟨y8, y11, y47⟩ : Herd)).bind fun t67 => if (!t67) = true then (some ((⟨[], [], []⟩ : Herd), 5)) else ((spec_l06Text.f k (⟨y8, y11, y47⟩ : Herd)).bind fun t68 => if t68 ≠ a0 then (some ((⟨[], [], []⟩ : Herd), 5)) else (some ((⟨y8, y11, y47⟩ : Herd), 0))))
theorem spec_ReadHerd.c (k : Nat) (w : World) (a0 : ByteArray) (r : Herd × Int) (H : spec_ReadHerd.f k a0 = some r) :
    CV Tryz.prog 31 [.string a0].toArray w fun v w' => ∃ (A0_0 : Option Addr) (c0_0 : Nat) (A0_1 : Option Addr) (c0_1 : Nat) (A0_2 : Option Addr) (c0_2 : Nat), v = .tuple #[.agg [.slice A0_0 r.1.Names.length c0_0, .slice A0_1 r.1.Eats.length c0_1, .slice A0_2 r.1.Foes.length c0_2].toArray, .int .i64 r.2] ∧ St w no w' [rowC G.cs A0_0 c0_0 9 r.1.Names, rowC (ci .i16) A0_1 c0_1 49 r.1.Eats, rowC (ci .u16) A0_2 c0_2 55 r.1.Foes] [] := by
  have hS := (St.init w no)
  unfold spec_ReadHerd.f at H
  refine CV.body Tryz.func31 rfl Tryz.ntmps31 rfl ?_
  refine CJ.seq ?_
  refine CJ.region ?_
  refine OJ.ef rfl rfl rfl (Ef.alloc hS tI_ok rfl rfl ([.slice none 0 0, .slice none 0 0, .slice none 0 0]) rfl) ?_
  rintro _ w1 ⟨b1, rfl, hS⟩
  refine OJ.pures tU_ok 1 rfl ?_
  refine OJ.nil (EJ.next ?_)
  refine CJ.seq ?_
  refine CJ.region ?_
  refine OJ.pures tU_ok 1 rfl ?_
  obtain ⟨t2, ht2, H⟩ := pbind H
  refine OJ.callF rfl rfl rfl rfl rfl hb83 rfl (spec_l01Split.c k _ a0 10 _ ht2) ?_
  rintro _ w1 ⟨A3, c4, rfl, hs⟩
  replace hS := hS.addN hs
  refine OJ.pures tU_ok 1 rfl ?_
  refine OJ.nil (EJ.next ?_)
  refine CJ.seq ?_
  refine CJ.region ?_
  refine OJ.pures tU_ok 4 rfl ?_
  refine OJ.nil (EJ.next ?_)
  refine CJ.seq ?_
  obtain ⟨j2, H, K2⟩ := pbind H
  refine CJ.cut (fun F w1 => ∃ (y5 : Bool) , (some y5 : Option Bool) = some j2 ∧ F = [(0, .string a0), (2, .pointer (some ⟨b1, 0, none⟩)), (4, .slice A3 t2.length c4), (5, .int .i64 (IntKind.i64.wrap ((t2.length : Int) - 1))), (28, .bool y5)] ∧ St w no w1 [box b1 ([.slice none 0 0, .slice none 0 0, .slice none 0 0]) 28, rowC G.cs A3 c4 9 t2] []) ?_ ?_
  · skip
    refine CJ.region ?_
    refine OJ.pures tU_ok 2 rfl ?_
    obtain ⟨t6, ht6, H⟩ := pbind H
    obtain ⟨ad6, e6⟩ := (hS.rd (i := 1) rfl).some' ht6
    refine OJ.st rfl rfl rfl (SR.idxS tU_ok tI_ok rfl rfl rfl rfl e6 rfl (getI_some ht6).1) ?_
    refine OJ.st rfl rfl rfl (SR.load rfl rfl (fun w' hx => ld1 tU_ok rfl rfl (CA.ext ((hS.rd (i := 1) rfl).at_ e6 ht6) hx) rfl)) ?_
    refine OJ.pures tU_ok 2 rfl ?_
    refine OJ.split (t := 25) rfl (fun hb => ?_) (fun hb => ?_)
    · replace H := pif_t (of_decide_eq_true hb) H
      refine OJ.pures tU_ok 3 rfl ?_
      refine OJ.nil ?_
      exact EJ.meet (F' := [(0, .string a0), (2, .pointer (some ⟨b1, 0, none⟩)), (4, .slice A3 t2.length c4), (5, .int .i64 (IntKind.i64.wrap ((t2.length : Int) - 1))), (28, .bool true)]) ⟨rfl, rfl, rfl, rfl, rfl, trivial⟩ ⟨true, H, rfl, hS.pick [0, 1] [] rfl⟩
    · replace H := pif_f (of_decide_eq_false hb) H
      refine OJ.pures tU_ok 3 rfl ?_
      refine OJ.nil ?_
      exact EJ.meet (F' := [(0, .string a0), (2, .pointer (some ⟨b1, 0, none⟩)), (4, .slice A3 t2.length c4), (5, .int .i64 (IntKind.i64.wrap ((t2.length : Int) - 1))), (28, .bool (decide (14 < (IntKind.i64.wrap ((t2.length : Int) - 1)))))]) ⟨rfl, rfl, rfl, rfl, rfl, trivial⟩ ⟨(decide (14 < (IntKind.i64.wrap ((t2.length : Int) - 1)))), H, rfl, hS.pick [0, 1] [] rfl⟩
  · rintro F w1 ⟨y5, he, rfl, hS⟩
    obtain rfl := Option.some.inj he
    have H := K2
    refine CJ.cond rfl (fun hb => ?_) (fun hb => ?_)
    · replace H := pif_t hb H
      refine CJ.seq ?_
      refine CJ.region ?_
      refine OJ.st rfl rfl rfl (SR.build' tU_ok tI_ok rfl rfl rfl (zs := [.slice none 0 0, .slice none 0 0, .slice none 0 0]) rfl rfl rfl ([.slice none 0 0, .slice none 0 0, .slice none 0 0]) rfl) ?_
      refine OJ.es rfl rfl (Es.store tI_ok hS (i := 0) (vs := [.slice none 0 0, .slice none 0 0, .slice none 0 0]) rfl rfl rfl rfl rfl rfl rfl rfl (by intro u hu; simp only [List.mem_cons, List.not_mem_nil, or_false] at hu; rcases hu with rfl | rfl | rfl <;> rfl) (Nat.le_of_ble_eq_true rfl) ([.slice none 0 0, .slice none 0 0, .slice none 0 0]) rfl) ?_
      intro w1 hS
      refine OJ.pures tU_ok 1 rfl ?_
      refine OJ.nil (EJ.next ?_)
      refine CJ.ret (EJ.skR (?_))
      replace hS := hS.addNil G.cs 9 none
      replace hS := hS.addNil (ci .i16) 49 none
      replace hS := hS.addNil (ci .u16) 55 none
      obtain rfl := Option.some.inj H
      exact EJ.fin rfl (.cell rfl (ldN tU_ok tI_ok rfl rfl rfl (hS.cells (i := 0) rfl) (ds := [.slice none 0 0, .slice none 0 0, .slice none 0 0]) rfl rfl) (.tmp rfl .nil)) ⟨none, 0, none, 0, none, 0, rfl, hS.pick [2, 3, 4] [] rfl⟩
    · replace H := pifb_f hb H
      refine CJ.skip (EJ.next ?_)
      refine CJ.seq ?_
      refine CJ.region ?_
      refine OJ.st rfl rfl rfl (SR.build' tU_ok tI_ok rfl rfl rfl (zs := [.slice none 0 0, .slice none 0 0, .slice none 0 0]) rfl rfl rfl ([.slice none 0 0, .slice none 0 0, .slice none 0 0]) rfl) ?_
      refine OJ.ef rfl rfl rfl (Ef.alloc hS tI_ok rfl rfl ([.slice none 0 0, .slice none 0 0, .slice none 0 0]) rfl) ?_
      rintro _ w1 ⟨b7, rfl, hS⟩
      refine OJ.es rfl rfl (Es.store tI_ok hS (i := 2) (vs := [.slice none 0 0, .slice none 0 0, .slice none 0 0]) rfl rfl rfl rfl rfl rfl rfl rfl (by intro u hu; simp only [List.mem_cons, List.not_mem_nil, or_false] at hu; rcases hu with rfl | rfl | rfl <;> rfl) (Nat.le_of_ble_eq_true rfl) ([.slice none 0 0, .slice none 0 0, .slice none 0 0]) rfl) ?_
      intro w1 hS
      refine OJ.nil (EJ.next ?_)
      refine CJ.seq ?_
      refine CJ.seq ?_
      refine CJ.region ?_
      refine OJ.pures tU_ok 1 rfl ?_
      refine OJ.nil (EJ.next ?_)
      obtain ⟨j3, H, K3⟩ := pbind H
      refine CJ.cut1 (fun F w1 => ∃ (y8 : List ByteArray) (y11 : List Int) (y14 : List Int) (A9 : Option Addr) (c10 : Nat) (A12 : Option Addr) (c13 : Nat) (A15 : Option Addr) (c16 : Nat), (some (Sum.inr (y8, y11, y14)) : Option ((Herd × Int) ⊕ ((List ByteArray) × (List Int) × (List Int)))) = some j3 ∧ F = [(0, .string a0), (2, .pointer (some ⟨b1, 0, none⟩)), (4, .slice A3 t2.length c4), (5, .int .i64 (IntKind.i64.wrap ((t2.length : Int) - 1))), (6, .pointer (some ⟨b7, 0, none⟩))] ∧ St w no w1 [box b1 ([.slice none 0 0, .slice none 0 0, .slice none 0 0]) 28, rowC G.cs A3 c4 9 t2, box b7 ([.slice A9 y8.length c10, .slice A12 y11.length c13, .slice A15 y14.length c16]) 28, rowC G.cs A9 c10 9 y8, rowC (ci .i16) A12 c13 49 y11, rowC (ci .u16) A15 c16 55 y14] []) ?_ ?_
      · skip
        refine CJ.block ?_
        replace hS := hS.addNil G.cs 9 none
        replace hS := hS.addNil (ci .i16) 49 none
        replace hS := hS.addNil (ci .u16) 55 none
        refine CJ.loop (fun k F w1 => ∃ (y17 : Int) (y18 : List ByteArray) (y21 : List Int) (y24 : List Int) (A19 : Option Addr) (c20 : Nat) (A22 : Option Addr) (c23 : Nat) (A25 : Option Addr) (c26 : Nat), F = [(0, .string a0), (2, .pointer (some ⟨b1, 0, none⟩)), (4, .slice A3 t2.length c4), (5, .int .i64 (IntKind.i64.wrap ((t2.length : Int) - 1))), (6, .pointer (some ⟨b7, 0, none⟩)), (7, .int .i64 y17)] ∧ St w no w1 [box b1 ([.slice none 0 0, .slice none 0 0, .slice none 0 0]) 28, rowC G.cs A3 c4 9 t2, box b7 ([.slice A19 y18.length c20, .slice A22 y21.length c23, .slice A25 y24.length c26]) 28, rowC G.cs A19 c20 9 y18, rowC (ci .i16) A22 c23 49 y21, rowC (ci .u16) A25 c26 55 y24] [] ∧ spec_ReadHerd.l1 t2 k y17 y18 y21 y24 = some j3) k (F' := [(0, .string a0), (2, .pointer (some ⟨b1, 0, none⟩)), (4, .slice A3 t2.length c4), (5, .int .i64 (IntKind.i64.wrap ((t2.length : Int) - 1))), (6, .pointer (some ⟨b7, 0, none⟩)), (7, .int .i64 0)]) ⟨rfl, rfl, rfl, rfl, rfl, rfl, trivial⟩ ⟨0, ([] : List ByteArray), ([] : List Int), ([] : List Int), none, 0, none, 0, none, 0, rfl, hS.pick [0, 1, 2, 3, 4, 5] [] rfl, H⟩ ?_
        rintro k F w1 ⟨y17, y18, y21, y24, A19, c20, A22, c23, A25, c26, rfl, hS, H⟩
        cases k with
        | zero => rw [spec_ReadHerd.l1] at H; cases H
        | succ k =>
          rw [spec_ReadHerd.l1] at H
          refine CJ.seq ?_
          refine CJ.seq ?_
          refine CJ.region ?_
          refine OJ.pures tU_ok 3 rfl ?_
          refine OJ.nil (EJ.next ?_)
          refine CJ.cond rfl (fun hb => ?_) (fun hb => ?_)
          · replace H := pif_t (of_decide_eq_true hb) H
            refine CJ.skip (EJ.next ?_)
            refine CJ.seq ?_
            refine CJ.block ?_
            refine CJ.seq ?_
            refine CJ.region ?_
            refine OJ.pures tU_ok 2 rfl ?_
            obtain ⟨t27, ht27, H⟩ := pbind H
            obtain ⟨ad27, e27⟩ := (hS.rd (i := 1) rfl).some' ht27
            refine OJ.st rfl rfl rfl (SR.idxS tU_ok tI_ok rfl rfl rfl rfl e27 rfl (getI_some ht27).1) ?_
            refine OJ.st rfl rfl rfl (SR.load rfl rfl (fun w' hx => ld1 tU_ok rfl rfl (CA.ext ((hS.rd (i := 1) rfl).at_ e27 ht27) hx) rfl)) ?_
            obtain ⟨t28, ht28, H⟩ := pbind H
            refine OJ.callF rfl rfl rfl rfl rfl hb83 rfl (spec_l01Split.c k _ t27 32 _ ht28) ?_
            rintro _ w1 ⟨A29, c30, rfl, hs⟩
            replace hS := hS.addN hs
            have hS : St w no w1 [box b1 ([.slice none 0 0, .slice none 0 0, .slice none 0 0]) 28, rowC G.cs A3 c4 9 t2, box b7 ([.slice A19 y18.length c20, .slice A22 y21.length c23, .slice A25 y24.length c26]) 28, rowC G.cs A19 c20 9 y18, rowC (ci .i16) A22 c23 49 y21, rowC (ci .u16) A25 c26 55 y24, rowC G.cs A29 c30 9 t28] [] := hS
            refine OJ.pures tU_ok 1 rfl ?_
            refine OJ.nil (EJ.next ?_)
            refine CJ.seq ?_
            refine CJ.seq ?_
            refine CJ.region ?_
            refine OJ.pures tU_ok 3 rfl ?_
            refine OJ.nil (EJ.next ?_)
            refine CJ.cond rfl (fun hb => ?_) (fun hb => ?_)
            · replace H := pif_t (of_decide_eq_true hb) H
              refine CJ.seq ?_
              refine CJ.region ?_
              refine OJ.st rfl rfl rfl (SR.build' tU_ok tI_ok rfl rfl rfl (zs := [.slice none 0 0, .slice none 0 0, .slice none 0 0]) rfl rfl rfl ([.slice none 0 0, .slice none 0 0, .slice none 0 0]) rfl) ?_
              refine OJ.es rfl rfl (Es.store tI_ok hS (i := 0) (vs := [.slice none 0 0, .slice none 0 0, .slice none 0 0]) rfl rfl rfl rfl rfl rfl rfl rfl (by intro u hu; simp only [List.mem_cons, List.not_mem_nil, or_false] at hu; rcases hu with rfl | rfl | rfl <;> rfl) (Nat.le_of_ble_eq_true rfl) ([.slice none 0 0, .slice none 0 0, .slice none 0 0]) rfl) ?_
              intro w1 hS
              refine OJ.pures tU_ok 1 rfl ?_
              refine OJ.nil (EJ.next ?_)
              refine CJ.ret (EJ.skR (EJ.bkR (EJ.skR (EJ.skR (EJ.bkR (EJ.skR (EJ.skR (?_))))))))
              first | (obtain rfl := Option.some.inj H; have H := K3) | (obtain ⟨q3, H2, e3⟩ := pbind H; obtain rfl := Option.some.inj e3; obtain rfl := Option.some.inj K3; have H := H2)
              replace hS := hS.addNil G.cs 9 none
              replace hS := hS.addNil (ci .i16) 49 none
              replace hS := hS.addNil (ci .u16) 55 none
              obtain rfl := Option.some.inj H
              exact EJ.fin rfl (.cell rfl (ldN tU_ok tI_ok rfl rfl rfl (hS.cells (i := 0) rfl) (ds := [.slice none 0 0, .slice none 0 0, .slice none 0 0]) rfl rfl) (.tmp rfl .nil)) ⟨none, 0, none, 0, none, 0, rfl, hS.pick [7, 8, 9] [] rfl⟩
            · replace H := pif_f (of_decide_eq_false hb) H
              refine CJ.skip (EJ.next ?_)
              refine CJ.seq ?_
              refine CJ.region ?_
              refine OJ.pures tU_ok 1 rfl ?_
              obtain ⟨t31, ht31, H⟩ := pbind H
              obtain ⟨ad31, e31⟩ := (hS.rd (i := 6) rfl).some' ht31
              refine OJ.st rfl rfl rfl (SR.idxS tU_ok tI_ok rfl rfl rfl rfl e31 rfl (getI_some ht31).1) ?_
              refine OJ.st rfl rfl rfl (SR.load rfl rfl (fun w' hx => ld1 tU_ok rfl rfl (CA.ext ((hS.rd (i := 6) rfl).at_ e31 ht31) hx) rfl)) ?_
              obtain ⟨t32, ht32, H⟩ := pbind H
              refine OJ.callF rfl rfl rfl rfl rfl hb84 rfl (spec_l01Number.c k _ t31 _ ht32) ?_
              rintro _ w1 ⟨rfl, hs⟩
              replace hS := hS.grow hs
              refine OJ.pures tU_ok 5 rfl ?_
              refine OJ.nil (EJ.next ?_)
              refine CJ.seq ?_
              obtain ⟨j11, H, K11⟩ := pbind H
              refine CJ.cut (fun F w1 => ∃ (y33 : Bool) , (some y33 : Option Bool) = some j11 ∧ F = [(0, .string a0), (2, .pointer (some ⟨b1, 0, none⟩)), (4, .slice A3 t2.length c4), (5, .int .i64 (IntKind.i64.wrap ((t2.length : Int) - 1))), (6, .pointer (some ⟨b7, 0, none⟩)), (7, .int .i64 y17), (8, .slice A29 t28.length c30), (9, .int .i64 t32.1), (57, .bool y33)] ∧ St w no w1 [box b1 ([.slice none 0 0, .slice none 0 0, .slice none 0 0]) 28, rowC G.cs A3 c4 9 t2, box b7 ([.slice A19 y18.length c20, .slice A22 y21.length c23, .slice A25 y24.length c26]) 28, rowC G.cs A19 c20 9 y18, rowC (ci .i16) A22 c23 49 y21, rowC (ci .u16) A25 c26 55 y24, rowC G.cs A29 c30 9 t28] []) ?_ ?_
              · skip
                refine CJ.region ?_
                refine OJ.pures tU_ok 3 rfl ?_
                refine OJ.split (t := 54) rfl (fun hb => ?_) (fun hb => ?_)
                · replace H := pif_t hb H
                  refine OJ.pures tU_ok 3 rfl ?_
                  refine OJ.nil ?_
                  exact EJ.meet (F' := [(0, .string a0), (2, .pointer (some ⟨b1, 0, none⟩)), (4, .slice A3 t2.length c4), (5, .int .i64 (IntKind.i64.wrap ((t2.length : Int) - 1))), (6, .pointer (some ⟨b7, 0, none⟩)), (7, .int .i64 y17), (8, .slice A29 t28.length c30), (9, .int .i64 t32.1), (57, .bool true)]) ⟨rfl, rfl, rfl, rfl, rfl, rfl, rfl, rfl, rfl, trivial⟩ ⟨true, H, rfl, hS.pick [0, 1, 2, 3, 4, 5, 6] [] rfl⟩
                · replace H := pifb_f hb H
                  refine OJ.pures tU_ok 3 rfl ?_
                  refine OJ.nil ?_
                  exact EJ.meet (F' := [(0, .string a0), (2, .pointer (some ⟨b1, 0, none⟩)), (4, .slice A3 t2.length c4), (5, .int .i64 (IntKind.i64.wrap ((t2.length : Int) - 1))), (6, .pointer (some ⟨b7, 0, none⟩)), (7, .int .i64 y17), (8, .slice A29 t28.length c30), (9, .int .i64 t32.1), (57, .bool (decide (100 < t32.1)))]) ⟨rfl, rfl, rfl, rfl, rfl, rfl, rfl, rfl, rfl, trivial⟩ ⟨(decide (100 < t32.1)), H, rfl, hS.pick [0, 1, 2, 3, 4, 5, 6] [] rfl⟩
              · rintro F w1 ⟨y33, he, rfl, hS⟩
                obtain rfl := Option.some.inj he
                have H := K11
                refine CJ.cond rfl (fun hb => ?_) (fun hb => ?_)
                · replace H := pif_t hb H
                  refine CJ.seq ?_
                  refine CJ.region ?_
                  refine OJ.st rfl rfl rfl (SR.build' tU_ok tI_ok rfl rfl rfl (zs := [.slice none 0 0, .slice none 0 0, .slice none 0 0]) rfl rfl rfl ([.slice none 0 0, .slice none 0 0, .slice none 0 0]) rfl) ?_
                  refine OJ.es rfl rfl (Es.store tI_ok hS (i := 0) (vs := [.slice none 0 0, .slice none 0 0, .slice none 0 0]) rfl rfl rfl rfl rfl rfl rfl rfl (by intro u hu; simp only [List.mem_cons, List.not_mem_nil, or_false] at hu; rcases hu with rfl | rfl | rfl <;> rfl) (Nat.le_of_ble_eq_true rfl) ([.slice none 0 0, .slice none 0 0, .slice none 0 0]) rfl) ?_
                  intro w1 hS
                  refine OJ.pures tU_ok 1 rfl ?_
                  refine OJ.nil (EJ.next ?_)
                  refine CJ.ret (EJ.skR (EJ.bkR (EJ.skR (EJ.skR (EJ.bkR (EJ.skR (EJ.skR (?_))))))))
                  first | (obtain rfl := Option.some.inj H; have H := K3) | (obtain ⟨q3, H2, e3⟩ := pbind H; obtain rfl := Option.some.inj e3; obtain rfl := Option.some.inj K3; have H := H2)
                  replace hS := hS.addNil G.cs 9 none
                  replace hS := hS.addNil (ci .i16) 49 none
                  replace hS := hS.addNil (ci .u16) 55 none
                  obtain rfl := Option.some.inj H
                  exact EJ.fin rfl (.cell rfl (ldN tU_ok tI_ok rfl rfl rfl (hS.cells (i := 0) rfl) (ds := [.slice none 0 0, .slice none 0 0, .slice none 0 0]) rfl rfl) (.tmp rfl .nil)) ⟨none, 0, none, 0, none, 0, rfl, hS.pick [7, 8, 9] [] rfl⟩
                · replace H := pifb_f hb H
                  refine CJ.skip (EJ.next ?_)
                  refine CJ.seq ?_
                  refine CJ.draw [] [0, 1, 2, 3, 4, 5, 6, 7, 8] mixed (by kernel_rfl) hS fun w1 hS => ?_
                  refine DJ.st rfl rfl rfl rfl rfl (SR.fieldAddr tU_ok tI_ok rfl rfl rfl rfl rfl rfl) ?_
                  refine DJ.st rfl rfl rfl rfl rfl (SR.load rfl rfl (fun w' hx => ld1 tU_ok rfl rfl (CA.ext (CA.sub (hS.cells (i := 2) rfl) 0) hx) rfl)) ?_
                  refine DJ.pures tU_ok 1 rfl ?_
                  obtain ⟨t34, ht34, H⟩ := pbind H
                  obtain ⟨ad34, e34⟩ := (hS.rd (i := 6) rfl).some' ht34
                  refine DJ.st rfl rfl rfl rfl rfl (SR.idxS tU_ok tI_ok rfl rfl rfl rfl e34 rfl (getI_some ht34).1) ?_
                  refine DJ.st rfl rfl rfl rfl rfl (SR.load rfl rfl (fun w' hx => ld1 tU_ok rfl rfl (CA.ext ((hS.rd (i := 6) rfl).at_ e34 ht34) hx) rfl)) ?_
                  refine DJ.ef rfl rfl rfl rfl rfl (Ef.lit tU_ok tI_ok hS (C := G.cs) rfl rfl rfl rfl rfl rfl ([t34] : List ByteArray) rfl rfl rfl rfl) ?_
                  rintro _ w1 ⟨A35, rfl, hS⟩
                  obtain ⟨u36, hu36, H⟩ := pbind H
                  refine DJ.ew rfl rfl rfl rfl rfl (Ew.append tU_ok tI_ok (C := G.cs) (xs := y18) (ys := ([t34] : List ByteArray)) hS (i := 3) rfl rfl rfl rfl rfl rfl rfl rfl rfl rfl rfl rfl rfl (hS.rd (i := 7) rfl) (chk_some hu36)) ?_
                  rintro _ w1 ⟨A37, c38, rfl, hS⟩
                  refine DJ.st rfl rfl rfl rfl rfl (SR.fieldAddr tU_ok tI_ok rfl rfl rfl rfl rfl rfl) ?_
                  refine DJ.es rfl rfl rfl rfl (Es.store tI_ok hS (i := 2) (vs := [.slice A37 (y18 ++ ([t34] : List ByteArray)).length c38]) rfl rfl rfl (G.ad1 _ _) rfl rfl rfl rfl (one1 rfl) (Nat.le_of_ble_eq_true rfl) ([.slice A37 (y18 ++ ([t34] : List ByteArray)).length c38, .slice A22 y21.length c23, .slice A25 y24.length c26]) rfl) ?_
                  intro w1 hS
                  refine DJ.nil (EJ.next ?_)
                  refine CJ.seq ?_
                  refine CJ.region ?_
                  refine OJ.st rfl rfl rfl (SR.fieldAddr tU_ok tI_ok rfl rfl rfl rfl rfl rfl) ?_
                  refine OJ.st rfl rfl rfl (SR.load rfl rfl (fun w' hx => ld1 tU_ok rfl rfl (CA.ext (CA.sub (hS.cells (i := 2) rfl) 1) hx) rfl)) ?_
                  refine OJ.pures tU_ok 2 rfl ?_
                  refine OJ.ef rfl rfl rfl (Ef.lit tU_ok tI_ok hS (C := (ci .i16)) rfl rfl rfl rfl rfl rfl ([IntKind.i16.wrap t32.1] : List Int) rfl rfl rfl rfl) ?_
                  rintro _ w1 ⟨A39, rfl, hS⟩
                  obtain ⟨u40, hu40, H⟩ := pbind H
                  refine OJ.ew rfl rfl rfl (Ew.append tU_ok tI_ok (C := (ci .i16)) (xs := y21) (ys := ([IntKind.i16.wrap t32.1] : List Int)) hS (i := 4) rfl rfl rfl rfl rfl rfl rfl rfl rfl rfl rfl rfl rfl (hS.rd (i := 8) rfl) (chk_some hu40)) ?_
                  rintro _ w1 ⟨A41, c42, rfl, hS⟩
                  refine OJ.st rfl rfl rfl (SR.fieldAddr tU_ok tI_ok rfl rfl rfl rfl rfl rfl) ?_
                  refine OJ.es rfl rfl (Es.store tI_ok hS (i := 2) (vs := [.slice A41 (y21 ++ ([IntKind.i16.wrap t32.1] : List Int)).length c42]) rfl rfl rfl (G.ad1 _ _) rfl rfl rfl rfl (one1 rfl) (Nat.le_of_ble_eq_true rfl) ([.slice A37 (y18 ++ ([t34] : List ByteArray)).length c38, .slice A41 (y21 ++ ([IntKind.i16.wrap t32.1] : List Int)).length c42, .slice A25 y24.length c26]) rfl) ?_
                  intro w1 hS
                  refine OJ.nil (EJ.next ?_)
                  refine CJ.region ?_
                  refine OJ.st rfl rfl rfl (SR.fieldAddr tU_ok tI_ok rfl rfl rfl rfl rfl rfl) ?_
                  refine OJ.st rfl rfl rfl (SR.load rfl rfl (fun w' hx => ld1 tU_ok rfl rfl (CA.ext (CA.sub (hS.cells (i := 2) rfl) 2) hx) rfl)) ?_
                  refine OJ.ef rfl rfl rfl (Ef.lit tU_ok tI_ok hS (C := (ci .u16)) rfl rfl rfl rfl rfl rfl ([0] : List Int) rfl rfl rfl rfl) ?_
                  rintro _ w1 ⟨A43, rfl, hS⟩
                  obtain ⟨u44, hu44, H⟩ := pbind H
                  refine OJ.ew rfl rfl rfl (Ew.append tU_ok tI_ok (C := (ci .u16)) (xs := y24) (ys := ([0] : List Int)) hS (i := 5) rfl rfl rfl rfl rfl rfl rfl rfl rfl rfl rfl rfl rfl (hS.rd (i := 9) rfl) (chk_some hu44)) ?_
                  rintro _ w1 ⟨A45, c46, rfl, hS⟩
                  refine OJ.st rfl rfl rfl (SR.fieldAddr tU_ok tI_ok rfl rfl rfl rfl rfl rfl) ?_
                  refine OJ.es rfl rfl (Es.store tI_ok hS (i := 2) (vs := [.slice A45 (y24 ++ ([0] : List Int)).length c46]) rfl rfl rfl (G.ad1 _ _) rfl rfl rfl rfl (one1 rfl) (Nat.le_of_ble_eq_true rfl) ([.slice A37 (y18 ++ ([t34] : List ByteArray)).length c38, .slice A41 (y21 ++ ([IntKind.i16.wrap t32.1] : List Int)).length c42, .slice A45 (y24 ++ ([0] : List Int)).length c46]) rfl) ?_
                  intro w1 hS
                  refine OJ.nil (EJ.blk (EJ.next ?_))
                  refine CJ.region ?_
                  refine OJ.pures tU_ok 3 rfl ?_
                  refine OJ.nil ?_
                  exact EJ.round k (F' := [(0, .string a0), (2, .pointer (some ⟨b1, 0, none⟩)), (4, .slice A3 t2.length c4), (5, .int .i64 (IntKind.i64.wrap ((t2.length : Int) - 1))), (6, .pointer (some ⟨b7, 0, none⟩)), (7, .int .i64 (IntKind.i64.wrap (y17 + 1)))]) ⟨rfl, rfl, rfl, rfl, rfl, rfl, trivial⟩ (Nat.lt_succ_self _) ⟨(IntKind.i64.wrap (y17 + 1)), (y18 ++ ([t34] : List ByteArray)), (y21 ++ ([IntKind.i16.wrap t32.1] : List Int)), (y24 ++ ([0] : List Int)), A37, c38, A41, c42, A45, c46, rfl, hS.pick [0, 1, 2, 3, 4, 5] [] rfl, H⟩
          · replace H := pif_f (of_decide_eq_false hb) H
            refine CJ.exit (EJ.skE (EJ.skE (EJ.hit (?_))))
            exact EJ.meet (F' := [(0, .string a0), (2, .pointer (some ⟨b1, 0, none⟩)), (4, .slice A3 t2.length c4), (5, .int .i64 (IntKind.i64.wrap ((t2.length : Int) - 1))), (6, .pointer (some ⟨b7, 0, none⟩))]) ⟨rfl, rfl, rfl, rfl, rfl, trivial⟩ ⟨y18, y21, y24, A19, c20, A22, c23, A25, c26, H, rfl, hS.pick [0, 1, 2, 3, 4, 5] [] rfl⟩
      · rintro F w1 ⟨y8, y11, y14, A9, c10, A12, c13, A15, c16, he, rfl, hS⟩
        obtain rfl := Option.some.inj he
        have H := K3
        refine EJ.next ?_
        refine CJ.seq ?_
        refine CJ.seq ?_
        refine CJ.region ?_
        refine OJ.pures tU_ok 1 rfl ?_
        refine OJ.nil (EJ.next ?_)
        obtain ⟨j12, H, K12⟩ := pbind H
        refine CJ.cut1 (fun F w1 => ∃ (y47 : List Int) , (some y47 : Option (List Int)) = some j12 ∧ F = [(0, .string a0), (2, .pointer (some ⟨b1, 0, none⟩)), (6, .pointer (some ⟨b7, 0, none⟩))] ∧ St w no w1 [box b1 ([.slice none 0 0, .slice none 0 0, .slice none 0 0]) 28, box b7 ([.slice A9 y8.length c10, .slice A12 y11.length c13, .slice A15 y47.length c16]) 28, rowC G.cs A9 c10 9 y8, rowC (ci .i16) A12 c13 49 y11, rowC (ci .u16) A15 c16 55 y47] []) ?_ ?_
        · skip
          refine CJ.block ?_
          refine CJ.loop (fun k F w1 => ∃ (y48 : List Int) (y49 : Int), F = [(0, .string a0), (2, .pointer (some ⟨b1, 0, none⟩)), (4, .slice A3 t2.length c4), (5, .int .i64 (IntKind.i64.wrap ((t2.length : Int) - 1))), (6, .pointer (some ⟨b7, 0, none⟩)), (11, .int .i64 y49)] ∧ St w no w1 [box b1 ([.slice none 0 0, .slice none 0 0, .slice none 0 0]) 28, rowC G.cs A3 c4 9 t2, box b7 ([.slice A9 y8.length c10, .slice A12 y11.length c13, .slice A15 y48.length c16]) 28, rowC G.cs A9 c10 9 y8, rowC (ci .i16) A12 c13 49 y11, rowC (ci .u16) A15 c16 55 y48] [] ∧ spec_ReadHerd.l2 t2 y8 k y48 y49 = some j12) k (F' := [(0, .string a0), (2, .pointer (some ⟨b1, 0, none⟩)), (4, .slice A3 t2.length c4), (5, .int .i64 (IntKind.i64.wrap ((t2.length : Int) - 1))), (6, .pointer (some ⟨b7, 0, none⟩)), (11, .int .i64 0)]) ⟨rfl, rfl, rfl, rfl, rfl, rfl, trivial⟩ ⟨y14, 0, rfl, hS.pick [0, 1, 2, 3, 4, 5] [] rfl, H⟩ ?_
          rintro k F w1 ⟨y48, y49, rfl, hS, H⟩
          cases k with
          | zero => rw [spec_ReadHerd.l2] at H; cases H
          | succ k =>
            rw [spec_ReadHerd.l2] at H
            refine CJ.seq ?_
            refine CJ.seq ?_
            refine CJ.region ?_
            refine OJ.pures tU_ok 3 rfl ?_
            refine OJ.nil (EJ.next ?_)
            refine CJ.cond rfl (fun hb => ?_) (fun hb => ?_)
            · replace H := pif_t (of_decide_eq_true hb) H
              refine CJ.skip (EJ.next ?_)
              obtain ⟨j55, H, K55⟩ := pbind H
              refine CJ.cut (fun F w1 => ∃ (y50 : List Int) , (some y50 : Option (List Int)) = some j55 ∧ F = [(0, .string a0), (2, .pointer (some ⟨b1, 0, none⟩)), (4, .slice A3 t2.length c4), (5, .int .i64 (IntKind.i64.wrap ((t2.length : Int) - 1))), (6, .pointer (some ⟨b7, 0, none⟩)), (11, .int .i64 y49)] ∧ St w no w1 [box b1 ([.slice none 0 0, .slice none 0 0, .slice none 0 0]) 28, rowC G.cs A3 c4 9 t2, box b7 ([.slice A9 y8.length c10, .slice A12 y11.length c13, .slice A15 y50.length c16]) 28, rowC G.cs A9 c10 9 y8, rowC (ci .i16) A12 c13 49 y11, rowC (ci .u16) A15 c16 55 y50] []) ?_ ?_
              · skip
                refine CJ.block ?_
                refine CJ.seq ?_
                refine CJ.region ?_
                refine OJ.pures tU_ok 2 rfl ?_
                obtain ⟨t51, ht51, H⟩ := pbind H
                obtain ⟨ad51, e51⟩ := (hS.rd (i := 1) rfl).some' ht51
                refine OJ.st rfl rfl rfl (SR.idxS tU_ok tI_ok rfl rfl rfl rfl e51 rfl (getI_some ht51).1) ?_
                refine OJ.st rfl rfl rfl (SR.load rfl rfl (fun w' hx => ld1 tU_ok rfl rfl (CA.ext ((hS.rd (i := 1) rfl).at_ e51 ht51) hx) rfl)) ?_
                obtain ⟨t52, ht52, H⟩ := pbind H
                refine OJ.callF rfl rfl rfl rfl rfl hb83 rfl (spec_l01Split.c k _ t51 32 _ ht52) ?_
                rintro _ w1 ⟨A53, c54, rfl, hs⟩
                replace hS := hS.addN hs
                have hS : St w no w1 [box b1 ([.slice none 0 0, .slice none 0 0, .slice none 0 0]) 28, rowC G.cs A3 c4 9 t2, box b7 ([.slice A9 y8.length c10, .slice A12 y11.length c13, .slice A15 y48.length c16]) 28, rowC G.cs A9 c10 9 y8, rowC (ci .i16) A12 c13 49 y11, rowC (ci .u16) A15 c16 55 y48, rowC G.cs A53 c54 9 t52] [] := hS
                refine OJ.pures tU_ok 1 rfl ?_
                refine OJ.nil (EJ.next ?_)
                refine CJ.seq ?_
                refine CJ.region ?_
                refine OJ.pures tU_ok 1 rfl ?_
                refine OJ.nil (EJ.next ?_)
                obtain ⟨j66, H, K66⟩ := pbind H
                refine CJ.cut1 (fun F w1 => ∃ (y55 : List Int) , (some y55 : Option (List Int)) = some j66 ∧ F = [(0, .string a0), (2, .pointer (some ⟨b1, 0, none⟩)), (4, .slice A3 t2.length c4), (5, .int .i64 (IntKind.i64.wrap ((t2.length : Int) - 1))), (6, .pointer (some ⟨b7, 0, none⟩)), (11, .int .i64 y49)] ∧ St w no w1 [box b1 ([.slice none 0 0, .slice none 0 0, .slice none 0 0]) 28, rowC G.cs A3 c4 9 t2, box b7 ([.slice A9 y8.length c10, .slice A12 y11.length c13, .slice A15 y55.length c16]) 28, rowC G.cs A9 c10 9 y8, rowC (ci .i16) A12 c13 49 y11, rowC (ci .u16) A15 c16 55 y55] []) ?_ ?_
                · skip
                  refine CJ.block ?_
                  refine CJ.loop (fun k F w1 => ∃ (y56 : List Int) (y57 : Int), F = [(0, .string a0), (2, .pointer (some ⟨b1, 0, none⟩)), (4, .slice A3 t2.length c4), (5, .int .i64 (IntKind.i64.wrap ((t2.length : Int) - 1))), (6, .pointer (some ⟨b7, 0, none⟩)), (11, .int .i64 y49), (12, .slice A53 t52.length c54), (13, .int .i64 y57)] ∧ St w no w1 [box b1 ([.slice none 0 0, .slice none 0 0, .slice none 0 0]) 28, rowC G.cs A3 c4 9 t2, box b7 ([.slice A9 y8.length c10, .slice A12 y11.length c13, .slice A15 y56.length c16]) 28, rowC G.cs A9 c10 9 y8, rowC (ci .i16) A12 c13 49 y11, rowC (ci .u16) A15 c16 55 y56, rowC G.cs A53 c54 9 t52] [] ∧ spec_ReadHerd.l3 t2 y8 y49 t52 k y56 y57 = some j66) k (F' := [(0, .string a0), (2, .pointer (some ⟨b1, 0, none⟩)), (4, .slice A3 t2.length c4), (5, .int .i64 (IntKind.i64.wrap ((t2.length : Int) - 1))), (6, .pointer (some ⟨b7, 0, none⟩)), (11, .int .i64 y49), (12, .slice A53 t52.length c54), (13, .int .i64 2)]) ⟨rfl, rfl, rfl, rfl, rfl, rfl, rfl, rfl, trivial⟩ ⟨y48, 2, rfl, hS.pick [0, 1, 2, 3, 4, 5, 6] [] rfl, H⟩ ?_
                  rintro k F w1 ⟨y56, y57, rfl, hS, H⟩
                  cases k with
                  | zero => rw [spec_ReadHerd.l3] at H; cases H
                  | succ k =>
                    rw [spec_ReadHerd.l3] at H
                    refine CJ.seq ?_
                    refine CJ.seq ?_
                    refine CJ.region ?_
                    refine OJ.pures tU_ok 4 rfl ?_
                    refine OJ.nil (EJ.next ?_)
                    refine CJ.cond rfl (fun hb => ?_) (fun hb => ?_)
                    · replace H := pif_t (of_decide_eq_true hb) H
                      refine CJ.skip (EJ.next ?_)
                      obtain ⟨j73, H, K73⟩ := pbind H
                      refine CJ.cut (fun F w1 => ∃ (y58 : List Int) , (some y58 : Option (List Int)) = some j73 ∧ F = [(0, .string a0), (2, .pointer (some ⟨b1, 0, none⟩)), (4, .slice A3 t2.length c4), (5, .int .i64 (IntKind.i64.wrap ((t2.length : Int) - 1))), (6, .pointer (some ⟨b7, 0, none⟩)), (11, .int .i64 y49), (12, .slice A53 t52.length c54), (13, .int .i64 y57)] ∧ St w no w1 [box b1 ([.slice none 0 0, .slice none 0 0, .slice none 0 0]) 28, rowC G.cs A3 c4 9 t2, box b7 ([.slice A9 y8.length c10, .slice A12 y11.length c13, .slice A15 y58.length c16]) 28, rowC G.cs A9 c10 9 y8, rowC (ci .i16) A12 c13 49 y11, rowC (ci .u16) A15 c16 55 y58, rowC G.cs A53 c54 9 t52] []) ?_ ?_
                      · skip
                        refine CJ.block ?_
                        refine CJ.seq ?_
                        refine CJ.region ?_
                        refine OJ.pures tU_ok 1 rfl ?_
                        refine OJ.nil (EJ.next ?_)
                        obtain ⟨j75, H, K75⟩ := pbind H
                        refine CJ.cut1 (fun F w1 => ∃ (y59 : List Int) , (some y59 : Option (List Int)) = some j75 ∧ F = [(0, .string a0), (2, .pointer (some ⟨b1, 0, none⟩)), (4, .slice A3 t2.length c4), (5, .int .i64 (IntKind.i64.wrap ((t2.length : Int) - 1))), (6, .pointer (some ⟨b7, 0, none⟩)), (11, .int .i64 y49), (12, .slice A53 t52.length c54), (13, .int .i64 y57)] ∧ St w no w1 [box b1 ([.slice none 0 0, .slice none 0 0, .slice none 0 0]) 28, rowC G.cs A3 c4 9 t2, box b7 ([.slice A9 y8.length c10, .slice A12 y11.length c13, .slice A15 y59.length c16]) 28, rowC G.cs A9 c10 9 y8, rowC (ci .i16) A12 c13 49 y11, rowC (ci .u16) A15 c16 55 y59, rowC G.cs A53 c54 9 t52] []) ?_ ?_
                        · skip
                          refine CJ.block ?_
                          refine CJ.loop (fun k F w1 => ∃ (y60 : List Int) (y61 : Int), F = [(0, .string a0), (2, .pointer (some ⟨b1, 0, none⟩)), (4, .slice A3 t2.length c4), (5, .int .i64 (IntKind.i64.wrap ((t2.length : Int) - 1))), (6, .pointer (some ⟨b7, 0, none⟩)), (11, .int .i64 y49), (12, .slice A53 t52.length c54), (13, .int .i64 y57), (14, .int .i64 y61)] ∧ St w no w1 [box b1 ([.slice none 0 0, .slice none 0 0, .slice none 0 0]) 28, rowC G.cs A3 c4 9 t2, box b7 ([.slice A9 y8.length c10, .slice A12 y11.length c13, .slice A15 y60.length c16]) 28, rowC G.cs A9 c10 9 y8, rowC (ci .i16) A12 c13 49 y11, rowC (ci .u16) A15 c16 55 y60, rowC G.cs A53 c54 9 t52] [] ∧ spec_ReadHerd.l4 t2 y8 y49 t52 y57 k y60 y61 = some j75) k (F' := [(0, .string a0), (2, .pointer (some ⟨b1, 0, none⟩)), (4, .slice A3 t2.length c4), (5, .int .i64 (IntKind.i64.wrap ((t2.length : Int) - 1))), (6, .pointer (some ⟨b7, 0, none⟩)), (11, .int .i64 y49), (12, .slice A53 t52.length c54), (13, .int .i64 y57), (14, .int .i64 0)]) ⟨rfl, rfl, rfl, rfl, rfl, rfl, rfl, rfl, rfl, trivial⟩ ⟨y56, 0, rfl, hS.pick [0, 1, 2, 3, 4, 5, 6] [] rfl, H⟩ ?_
                          rintro k F w1 ⟨y60, y61, rfl, hS, H⟩
                          cases k with
                          | zero => rw [spec_ReadHerd.l4] at H; cases H
                          | succ k =>
                            rw [spec_ReadHerd.l4] at H
                            refine CJ.seq ?_
                            refine CJ.seq ?_
                            refine CJ.region ?_
                            refine OJ.pures tU_ok 3 rfl ?_
                            refine OJ.nil (EJ.next ?_)
                            refine CJ.cond rfl (fun hb => ?_) (fun hb => ?_)
                            · replace H := pif_t (of_decide_eq_true hb) H
                              refine CJ.skip (EJ.next ?_)
                              refine CJ.seq ?_
                              refine CJ.block ?_
                              refine CJ.seq ?_
                              refine CJ.draw [] [0, 1, 2, 3, 4, 5, 6, 7, 8, 9] mixed (by kernel_rfl) hS fun w1 hS => ?_
                              refine DJ.st rfl rfl rfl rfl rfl (SR.fieldAddr tU_ok tI_ok rfl rfl rfl rfl rfl rfl) ?_
                              refine DJ.st rfl rfl rfl rfl rfl (SR.load rfl rfl (fun w' hx => ld1 tU_ok rfl rfl (CA.ext (CA.sub (hS.cells (i := 2) rfl) 0) hx) rfl)) ?_
                              refine DJ.pures tU_ok 1 rfl ?_
                              obtain ⟨t62, ht62, H⟩ := pbind H
                              obtain ⟨ad62, e62⟩ := (hS.rd (i := 3) rfl).some' ht62
                              refine DJ.st rfl rfl rfl rfl rfl (SR.idxS tU_ok tI_ok rfl rfl rfl rfl e62 rfl (getI_some ht62).1) ?_
                              refine DJ.st rfl rfl rfl rfl rfl (SR.load rfl rfl (fun w' hx => ld1 tU_ok rfl rfl (CA.ext ((hS.rd (i := 3) rfl).at_ e62 ht62) hx) rfl)) ?_
                              refine DJ.pures tU_ok 2 rfl ?_
                              obtain ⟨t63, ht63, H⟩ := pbind H
                              obtain ⟨ad63, e63⟩ := (hS.rd (i := 6) rfl).some' ht63
                              refine DJ.st rfl rfl rfl rfl rfl (SR.idxS tU_ok tI_ok rfl rfl rfl rfl e63 rfl (getI_some ht63).1) ?_
                              refine DJ.st rfl rfl rfl rfl rfl (SR.load rfl rfl (fun w' hx => ld1 tU_ok rfl rfl (CA.ext ((hS.rd (i := 6) rfl).at_ e63 ht63) hx) rfl)) ?_
                              refine DJ.pures tU_ok 1 rfl ?_
                              refine DJ.nil (EJ.next ?_)
                              refine CJ.cond rfl (fun hb => ?_) (fun hb => ?_)
                              · replace H := pif_t (of_decide_eq_true hb) H
                                refine CJ.draw [] [0, 1, 2, 3, 4, 5, 6, 7, 8, 9, 10, 11, 12, 13] mixed (by kernel_rfl) hS fun w1 hS => ?_
                                refine DJ.st rfl rfl rfl rfl rfl (SR.fieldAddr tU_ok tI_ok rfl rfl rfl rfl rfl rfl) ?_
                                refine DJ.st rfl rfl rfl rfl rfl (SR.load rfl rfl (fun w' hx => ld1 tU_ok rfl rfl (CA.ext (CA.sub (hS.cells (i := 2) rfl) 2) hx) rfl)) ?_
                                refine DJ.pures tU_ok 1 rfl ?_
                                refine DJ.st rfl rfl rfl rfl rfl (SR.fieldAddr tU_ok tI_ok rfl rfl rfl rfl rfl rfl) ?_
                                refine DJ.st rfl rfl rfl rfl rfl (SR.load rfl rfl (fun w' hx => ld1 tU_ok rfl rfl (CA.ext (CA.sub (hS.cells (i := 2) rfl) 2) hx) rfl)) ?_
                                refine DJ.pures tU_ok 1 rfl ?_
                                obtain ⟨t64, ht64, H⟩ := pbind H
                                obtain ⟨ad64, e64⟩ := (hS.rd (i := 5) rfl).some' ht64
                                refine DJ.st rfl rfl rfl rfl rfl (SR.idxS tU_ok tI_ok rfl rfl rfl rfl e64 rfl (getI_some ht64).1) ?_
                                refine DJ.st rfl rfl rfl rfl rfl (SR.load rfl rfl (fun w' hx => ld1 tU_ok rfl rfl (CA.ext ((hS.rd (i := 5) rfl).at_ e64 ht64) hx) rfl)) ?_
                                refine DJ.pures tU_ok 2 rfl ?_
                                obtain ⟨u65, hu65, H⟩ := pbind H
                                refine DJ.st rfl rfl rfl rfl rfl (SR.shl rfl rfl rfl (chk_some hu65)) ?_
                                refine DJ.pures tU_ok 1 rfl ?_
                                obtain ⟨t66, ht66, H⟩ := pbind H
                                obtain ⟨ad66, e66⟩ := (hS.rd (i := 5) rfl).some' ht66
                                refine DJ.st rfl rfl rfl rfl rfl (SR.idxS tU_ok tI_ok rfl rfl rfl rfl e66 rfl (getI_some ht66).1) ?_
                                refine DJ.es rfl rfl rfl rfl (Es.storeR tI_ok hS (i := 5) (off := 0) rfl rfl ht66 e66 rfl rfl rfl rfl (vs := (ci .u16).enc (orI .u16 t64 (shlI .u16 1 (IntKind.u64.wrap y61)))) rfl rfl (one1 rfl) (Nat.le_of_ble_eq_true rfl) (orI .u16 t64 (shlI .u16 1 (IntKind.u64.wrap y61))) rfl) ?_
                                intro w1 hS
                                refine DJ.as (t := 111) rfl (show _ = (.slice A15 (y60.set y49.toNat (orI .u16 t64 (shlI .u16 1 (IntKind.u64.wrap y61)))).length c16 : Value) by simp only [List.length_set]) ?_
                                refine DJ.as (t := 114) rfl (show _ = (.slice A15 (y60.set y49.toNat (orI .u16 t64 (shlI .u16 1 (IntKind.u64.wrap y61)))).length c16 : Value) by simp only [List.length_set]) ?_
                                replace hS := hS.boxAs (i := 2) rfl (show _ = ([.slice A9 y8.length c10, .slice A12 y11.length c13, .slice A15 (y60.set y49.toNat (orI .u16 t64 (shlI .u16 1 (IntKind.u64.wrap y61)))).length c16] : List Value) by simp only [List.length_set])
                                refine DJ.nil (EJ.blk (EJ.next ?_))
                                refine CJ.region ?_
                                refine OJ.pures tU_ok 3 rfl ?_
                                refine OJ.nil ?_
                                exact EJ.round k (F' := [(0, .string a0), (2, .pointer (some ⟨b1, 0, none⟩)), (4, .slice A3 t2.length c4), (5, .int .i64 (IntKind.i64.wrap ((t2.length : Int) - 1))), (6, .pointer (some ⟨b7, 0, none⟩)), (11, .int .i64 y49), (12, .slice A53 t52.length c54), (13, .int .i64 y57), (14, .int .i64 (IntKind.i64.wrap (y61 + 1)))]) ⟨rfl, rfl, rfl, rfl, rfl, rfl, rfl, rfl, rfl, trivial⟩ (Nat.lt_succ_self _) ⟨(y60.set y49.toNat (orI .u16 t64 (shlI .u16 1 (IntKind.u64.wrap y61)))), (IntKind.i64.wrap (y61 + 1)), rfl, hS.pick [0, 1, 2, 3, 4, 5, 6] [] rfl, H⟩
                              · replace H := pif_f (of_decide_eq_false hb) H
                                refine CJ.skip (EJ.blk (EJ.next ?_))
                                refine CJ.region ?_
                                refine OJ.pures tU_ok 3 rfl ?_
                                refine OJ.nil ?_
                                exact EJ.round k (F' := [(0, .string a0), (2, .pointer (some ⟨b1, 0, none⟩)), (4, .slice A3 t2.length c4), (5, .int .i64 (IntKind.i64.wrap ((t2.length : Int) - 1))), (6, .pointer (some ⟨b7, 0, none⟩)), (11, .int .i64 y49), (12, .slice A53 t52.length c54), (13, .int .i64 y57), (14, .int .i64 (IntKind.i64.wrap (y61 + 1)))]) ⟨rfl, rfl, rfl, rfl, rfl, rfl, rfl, rfl, rfl, trivial⟩ (Nat.lt_succ_self _) ⟨y60, (IntKind.i64.wrap (y61 + 1)), rfl, hS.pick [0, 1, 2, 3, 4, 5, 6] [] rfl, H⟩
                            · replace H := pif_f (of_decide_eq_false hb) H
                              refine CJ.exit (EJ.skE (EJ.skE (EJ.hit (?_))))
                              exact EJ.meet (F' := [(0, .string a0), (2, .pointer (some ⟨b1, 0, none⟩)), (4, .slice A3 t2.length c4), (5, .int .i64 (IntKind.i64.wrap ((t2.length : Int) - 1))), (6, .pointer (some ⟨b7, 0, none⟩)), (11, .int .i64 y49), (12, .slice A53 t52.length c54), (13, .int .i64 y57)]) ⟨rfl, rfl, rfl, rfl, rfl, rfl, rfl, rfl, trivial⟩ ⟨y60, H, rfl, hS.pick [0, 1, 2, 3, 4, 5, 6] [] rfl⟩
                        · rintro F w1 ⟨y59, he, rfl, hS⟩
                          obtain rfl := Option.some.inj he
                          have H := K75
                          refine EJ.blk (?_)
                          exact EJ.meet (F' := [(0, .string a0), (2, .pointer (some ⟨b1, 0, none⟩)), (4, .slice A3 t2.length c4), (5, .int .i64 (IntKind.i64.wrap ((t2.length : Int) - 1))), (6, .pointer (some ⟨b7, 0, none⟩)), (11, .int .i64 y49), (12, .slice A53 t52.length c54), (13, .int .i64 y57)]) ⟨rfl, rfl, rfl, rfl, rfl, rfl, rfl, rfl, trivial⟩ ⟨y59, H, rfl, hS.pick [0, 1, 2, 3, 4, 5, 6] [] rfl⟩
                      · rintro F w1 ⟨y58, he, rfl, hS⟩
                        obtain rfl := Option.some.inj he
                        have H := K73
                        refine CJ.region ?_
                        refine OJ.pures tU_ok 3 rfl ?_
                        refine OJ.nil ?_
                        exact EJ.round k (F' := [(0, .string a0), (2, .pointer (some ⟨b1, 0, none⟩)), (4, .slice A3 t2.length c4), (5, .int .i64 (IntKind.i64.wrap ((t2.length : Int) - 1))), (6, .pointer (some ⟨b7, 0, none⟩)), (11, .int .i64 y49), (12, .slice A53 t52.length c54), (13, .int .i64 (IntKind.i64.wrap (y57 + 1)))]) ⟨rfl, rfl, rfl, rfl, rfl, rfl, rfl, rfl, trivial⟩ (Nat.lt_succ_self _) ⟨y58, (IntKind.i64.wrap (y57 + 1)), rfl, hS.pick [0, 1, 2, 3, 4, 5, 6] [] rfl, H⟩
                    · replace H := pif_f (of_decide_eq_false hb) H
                      refine CJ.exit (EJ.skE (EJ.skE (EJ.hit (?_))))
                      exact EJ.meet (F' := [(0, .string a0), (2, .pointer (some ⟨b1, 0, none⟩)), (4, .slice A3 t2.length c4), (5, .int .i64 (IntKind.i64.wrap ((t2.length : Int) - 1))), (6, .pointer (some ⟨b7, 0, none⟩)), (11, .int .i64 y49)]) ⟨rfl, rfl, rfl, rfl, rfl, rfl, trivial⟩ ⟨y56, H, rfl, hS.pick [0, 1, 2, 3, 4, 5] [] rfl⟩
                · rintro F w1 ⟨y55, he, rfl, hS⟩
                  obtain rfl := Option.some.inj he
                  have H := K66
                  refine EJ.blk (?_)
                  exact EJ.meet (F' := [(0, .string a0), (2, .pointer (some ⟨b1, 0, none⟩)), (4, .slice A3 t2.length c4), (5, .int .i64 (IntKind.i64.wrap ((t2.length : Int) - 1))), (6, .pointer (some ⟨b7, 0, none⟩)), (11, .int .i64 y49)]) ⟨rfl, rfl, rfl, rfl, rfl, rfl, trivial⟩ ⟨y55, H, rfl, hS.pick [0, 1, 2, 3, 4, 5] [] rfl⟩
              · rintro F w1 ⟨y50, he, rfl, hS⟩
                obtain rfl := Option.some.inj he
                have H := K55
                refine CJ.region ?_
                refine OJ.pures tU_ok 3 rfl ?_
                refine OJ.nil ?_
                exact EJ.round k (F' := [(0, .string a0), (2, .pointer (some ⟨b1, 0, none⟩)), (4, .slice A3 t2.length c4), (5, .int .i64 (IntKind.i64.wrap ((t2.length : Int) - 1))), (6, .pointer (some ⟨b7, 0, none⟩)), (11, .int .i64 (IntKind.i64.wrap (y49 + 1)))]) ⟨rfl, rfl, rfl, rfl, rfl, rfl, trivial⟩ (Nat.lt_succ_self _) ⟨y50, (IntKind.i64.wrap (y49 + 1)), rfl, hS.pick [0, 1, 2, 3, 4, 5] [] rfl, H⟩
            · replace H := pif_f (of_decide_eq_false hb) H
              refine CJ.exit (EJ.skE (EJ.skE (EJ.hit (?_))))
              exact EJ.meet (F' := [(0, .string a0), (2, .pointer (some ⟨b1, 0, none⟩)), (6, .pointer (some ⟨b7, 0, none⟩))]) ⟨rfl, rfl, rfl, trivial⟩ ⟨y48, H, rfl, hS.pick [0, 2, 3, 4, 5] [] rfl⟩
        · rintro F w1 ⟨y47, he, rfl, hS⟩
          obtain rfl := Option.some.inj he
          have H := K12
          refine EJ.next ?_
          refine CJ.seq ?_
          refine CJ.seq ?_
          refine CJ.region ?_
          obtain ⟨t67, ht67, H⟩ := pbind H
          refine OJ.callF rfl rfl rfl rfl rfl hb47 rfl (spec_l06Ok.c k _ A9 c10 A12 c13 A15 c16 (⟨y8, y11, y47⟩ : Herd) (hS.rd (i := 2) rfl) (hS.le (i := 2) rfl) (hS.rd (i := 3) rfl) (hS.le (i := 3) rfl) (hS.rd (i := 4) rfl) (hS.le (i := 4) rfl) ⟨b7, 0, none⟩ (hS.cells (i := 1) rfl) _ ht67) ?_
          rintro _ w1 ⟨rfl, hs⟩
          replace hS := hS.grow hs
          refine OJ.pures tU_ok 2 rfl ?_
          refine OJ.split (t := 125) rfl (fun hb => ?_) (fun hb => ?_)
          · replace H := pif_t hb H
            refine OJ.pures tU_ok 4 rfl ?_
            refine OJ.nil (EJ.next ?_)
            refine CJ.condT rfl ?_
            refine CJ.seq ?_
            refine CJ.region ?_
            refine OJ.st rfl rfl rfl (SR.build' tU_ok tI_ok rfl rfl rfl (zs := [.slice none 0 0, .slice none 0 0, .slice none 0 0]) rfl rfl rfl ([.slice none 0 0, .slice none 0 0, .slice none 0 0]) rfl) ?_
            refine OJ.es rfl rfl (Es.store tI_ok hS (i := 0) (vs := [.slice none 0 0, .slice none 0 0, .slice none 0 0]) rfl rfl rfl rfl rfl rfl rfl rfl (by intro u hu; simp only [List.mem_cons, List.not_mem_nil, or_false] at hu; rcases hu with rfl | rfl | rfl <;> rfl) (Nat.le_of_ble_eq_true rfl) ([.slice none 0 0, .slice none 0 0, .slice none 0 0]) rfl) ?_
            intro w1 hS
            refine OJ.pures tU_ok 1 rfl ?_
            refine OJ.nil (EJ.next ?_)
            refine CJ.ret (EJ.skR (?_))
            replace hS := hS.addNil G.cs 9 none
            replace hS := hS.addNil (ci .i16) 49 none
            replace hS := hS.addNil (ci .u16) 55 none
            obtain rfl := Option.some.inj H
            exact EJ.fin rfl (.cell rfl (ldN tU_ok tI_ok rfl rfl rfl (hS.cells (i := 0) rfl) (ds := [.slice none 0 0, .slice none 0 0, .slice none 0 0]) rfl rfl) (.tmp rfl .nil)) ⟨none, 0, none, 0, none, 0, rfl, hS.pick [5, 6, 7] [] rfl⟩
          · replace H := pifb_f hb H
            obtain ⟨t68, ht68, H⟩ := pbind H
            refine OJ.callF rfl rfl rfl rfl rfl hb85 rfl (spec_l06Text.c k _ A9 c10 A12 c13 A15 c16 (⟨y8, y11, y47⟩ : Herd) (hS.rd (i := 2) rfl) (hS.le (i := 2) rfl) (hS.rd (i := 3) rfl) (hS.le (i := 3) rfl) (hS.rd (i := 4) rfl) (hS.le (i := 4) rfl) ⟨b7, 0, none⟩ (hS.cells (i := 1) rfl) _ ht68) ?_
            rintro _ w1 ⟨rfl, hs⟩
            replace hS := hS.grow hs
            refine OJ.pures tU_ok 3 rfl ?_
            refine OJ.nil (EJ.next ?_)
            refine CJ.cond rfl (fun hb => ?_) (fun hb => ?_)
            · replace H := pif_t (of_decide_eq_true hb) H
              refine CJ.seq ?_
              refine CJ.region ?_
              refine OJ.st rfl rfl rfl (SR.build' tU_ok tI_ok rfl rfl rfl (zs := [.slice none 0 0, .slice none 0 0, .slice none 0 0]) rfl rfl rfl ([.slice none 0 0, .slice none 0 0, .slice none 0 0]) rfl) ?_
              refine OJ.es rfl rfl (Es.store tI_ok hS (i := 0) (vs := [.slice none 0 0, .slice none 0 0, .slice none 0 0]) rfl rfl rfl rfl rfl rfl rfl rfl (by intro u hu; simp only [List.mem_cons, List.not_mem_nil, or_false] at hu; rcases hu with rfl | rfl | rfl <;> rfl) (Nat.le_of_ble_eq_true rfl) ([.slice none 0 0, .slice none 0 0, .slice none 0 0]) rfl) ?_
              intro w1 hS
              refine OJ.pures tU_ok 1 rfl ?_
              refine OJ.nil (EJ.next ?_)
              refine CJ.ret (EJ.skR (?_))
              replace hS := hS.addNil G.cs 9 none
              replace hS := hS.addNil (ci .i16) 49 none
              replace hS := hS.addNil (ci .u16) 55 none
              obtain rfl := Option.some.inj H
              exact EJ.fin rfl (.cell rfl (ldN tU_ok tI_ok rfl rfl rfl (hS.cells (i := 0) rfl) (ds := [.slice none 0 0, .slice none 0 0, .slice none 0 0]) rfl rfl) (.tmp rfl .nil)) ⟨none, 0, none, 0, none, 0, rfl, hS.pick [5, 6, 7] [] rfl⟩
            · replace H := pif_f (of_decide_eq_false hb) H
              refine CJ.skip (EJ.next ?_)
              refine CJ.seq ?_
              refine CJ.region ?_
              refine OJ.st rfl rfl rfl (SR.load rfl rfl (fun w' hx => ldN tU_ok tI_ok rfl rfl rfl (CA.ext (hS.cells (i := 1) rfl) hx) (ds := [.slice A9 y8.length c10, .slice A12 y11.length c13, .slice A15 y47.length c16]) rfl rfl)) ?_
              refine OJ.es rfl rfl (Es.store tI_ok hS (i := 0) (vs := [.slice A9 y8.length c10, .slice A12 y11.length c13, .slice A15 y47.length c16]) rfl rfl rfl rfl rfl rfl rfl rfl (by intro u hu; simp only [List.mem_cons, List.not_mem_nil, or_false] at hu; rcases hu with rfl | rfl | rfl <;> rfl) (Nat.le_of_ble_eq_true rfl) ([.slice A9 y8.length c10, .slice A12 y11.length c13, .slice A15 y47.length c16]) rfl) ?_
              intro w1 hS
              refine OJ.pures tU_ok 1 rfl ?_
              refine OJ.nil (EJ.next ?_)
              refine CJ.ret (?_)
              obtain rfl := Option.some.inj H
              exact EJ.fin rfl (.cell rfl (ldN tU_ok tI_ok rfl rfl rfl (hS.cells (i := 0) rfl) (ds := [.slice A9 y8.length c10, .slice A12 y11.length c13, .slice A15 y47.length c16]) rfl rfl) (.tmp rfl .nil)) ⟨A9, c10, A12, c13, A15, c16, rfl, hS.pick [2, 3, 4] [] rfl⟩

def linesF : Nat → ByteArray → List ByteArray
  | 0, _ => []
  | k + 1, s => if s.size = 0 then [] else if 0 ≤ Go.Lib.indexByte s.data.toList 10 then s.extract 0 (Go.Lib.indexByte s.data.toList 10 + 1).toNat :: linesF k (s.extract (Go.Lib.indexByte s.data.toList 10 + 1).toNat s.size) else [s]
def linesB (s : ByteArray) : List ByteArray := linesF s.size s
theorem idx_lt : ∀ (l : List UInt8) (c : UInt8), Go.Lib.indexByte l c < (l.length : Int) ∨ l = []
  | [], c => .inr rfl
  | b :: l, c => by
    left
    unfold Go.Lib.indexByte
    split
    · simp
    · split
      · rw [List.length_cons]; omega
      · rename_i h1 h2
        rcases idx_lt l c with h | h
        · rw [List.length_cons]; omega
        · subst h
          simp [Go.Lib.indexByte] at h2
theorem size_listL (s : ByteArray) : s.data.toList.length = s.size := by simp
theorem linesF_eq : ∀ (k k' : Nat) (s : ByteArray), s.size ≤ k → s.size ≤ k' → linesF k s = linesF k' s
  | 0, 0, s, _, _ => rfl
  | 0, k' + 1, s, h, _ => by rw [linesF, linesF, if_pos (by omega)]
  | k + 1, 0, s, _, h => by rw [linesF, linesF, if_pos (by omega)]
  | k + 1, k' + 1, s, h, h' => by
    rw [linesF, linesF]
    by_cases h0 : s.size = 0
    · rw [if_pos h0, if_pos h0]
    · rw [if_neg h0, if_neg h0]
      by_cases hi : 0 ≤ Go.Lib.indexByte s.data.toList 10
      · rw [if_pos hi, if_pos hi, linesF_eq k k' _ (by rw [ByteArray.size_extract]; omega) (by rw [ByteArray.size_extract]; omega)]
      · rw [if_neg hi, if_neg hi]
theorem linesB_nil {s : ByteArray} (h : s.size = 0) : linesB s = [] := by
  unfold linesB
  rw [h]; rfl
theorem linesB_hit {s : ByteArray} (h : s.size ≠ 0) (hi : 0 ≤ Go.Lib.indexByte s.data.toList 10) : linesB s = s.extract 0 (Go.Lib.indexByte s.data.toList 10 + 1).toNat :: linesB (s.extract (Go.Lib.indexByte s.data.toList 10 + 1).toNat s.size) := by
  obtain ⟨m, hm⟩ : ∃ m, s.size = m + 1 := ⟨s.size - 1, by omega⟩
  have e : linesB s = linesF (m + 1) s := by unfold linesB; rw [hm]
  rw [e, linesF, if_neg h, if_pos hi]
  congr 1
  unfold linesB
  exact linesF_eq _ _ _ (by rw [ByteArray.size_extract]; omega) (Nat.le_refl _)
theorem linesB_miss {s : ByteArray} (h : s.size ≠ 0) (hi : ¬ 0 ≤ Go.Lib.indexByte s.data.toList 10) : linesB s = s :: linesB ByteArray.empty := by
  obtain ⟨m, hm⟩ : ∃ m, s.size = m + 1 := ⟨s.size - 1, by omega⟩
  have e : linesB s = linesF (m + 1) s := by unfold linesB; rw [hm]
  rw [e, linesF, if_neg h, if_neg hi]
  rfl
theorem lines_it : LinesC Tryz.prog 98 9 linesB := by
  intro r bI Inv Out hst hy s W hsz hI hb
  refine CV.body Tryz.func98 rfl Tryz.ntmps98 rfl ?_
  refine CJ.block ?_
  refine CJ.loop (fun k F w1 => ∃ s : ByteArray, k = s.size ∧ F = [(0, .func (.yield r) #[] #[]), (1, .pointer (some ⟨bI, 0, none⟩))] ∧ s.size ≤ 9223372036854775806 ∧ Inv (linesB s) w1 ∧ w1.heap[bI]? = some (.cells #[.string s] 9 (0, 0))) s.size (F' := [(0, .func (.yield r) #[] #[]), (1, .pointer (some ⟨bI, 0, none⟩))]) ⟨rfl, rfl, trivial⟩ ⟨s, rfl, rfl, hsz, hI, hb⟩ ?_
  clear hI hb hsz s
  rintro k F w1 ⟨s, rfl, rfl, hsz, hI, hb⟩
  have hS : St w1 (fun k => k = bI) w1 [box bI [.string s] 9] [] := ⟨Chg.refl _ _, fun c hc => by rw [List.mem_singleton.1 hc]; exact hb, fun c hc b hb' => by rw [List.mem_singleton.1 hc] at hb'; exact .inr hb', List.pairwise_singleton _ _, by simp, by simp⟩
  refine CJ.seq ?_
  refine CJ.seq ?_
  refine CJ.region ?_
  refine OJ.st rfl rfl rfl (SR.load rfl rfl (fun w' hx => ld1 tU_ok rfl rfl (CA.ext (hS.cells (i := 0) rfl) hx) rfl)) ?_
  refine OJ.pures tU_ok 2 rfl ?_
  refine OJ.nil (EJ.next ?_)
  refine CJ.cond rfl (fun hb0 => ?_) (fun hb0 => ?_)
  · have h0 : s.size ≠ 0 := by
      have := of_decide_eq_true hb0
      omega
    refine CJ.skip (EJ.next ?_)
    refine CJ.block ?_
    refine CJ.seq ?_
    refine CJ.region ?_
    refine OJ.pures tU_ok 1 rfl ?_
    refine OJ.nil (EJ.next ?_)
    refine CJ.cut (fun F w2 => ∃ (line s' : ByteArray), linesB s = line :: linesB s' ∧ s'.size < s.size ∧ F = [(0, .func (.yield r) #[] #[]), (1, .pointer (some ⟨bI, 0, none⟩)), (3, .string line)] ∧ St w1 (fun k => k = bI) w2 [box bI [.string s'] 9] []) ?_ ?_
    · refine CJ.seq ?_
      refine CJ.region ?_
      refine OJ.st rfl rfl rfl (SR.load rfl rfl (fun w' hx => ld1 tU_ok rfl rfl (CA.ext (hS.cells (i := 0) rfl) hx) rfl)) ?_
      have hidx : CV Tryz.prog 99 [.string s, .int .u8 10].toArray w1 fun v w' => v = .int .i64 (Go.Lib.indexByte s.data.toList 10) ∧ w' = w1 := Calls.mono (Any.strings_IndexByte layIdx s 10 w1) fun e w' ⟨h1, h2⟩ => ⟨_, h1, rfl, h2⟩
      refine OJ.callF rfl rfl rfl rfl rfl hb99 rfl hidx ?_
      rintro _ w2 ⟨rfl, rfl⟩
      refine OJ.pures tU_ok 1 rfl ?_
      refine OJ.nil (EJ.next ?_)
      refine CJ.seq ?_
      refine CJ.region ?_
      refine OJ.pures tU_ok 2 rfl ?_
      refine OJ.nil (EJ.next ?_)
      have hlt : Go.Lib.indexByte s.data.toList 10 < (s.size : Int) := by
        rcases idx_lt s.data.toList 10 with h | h
        · rw [size_listL] at h; exact h
        · have := size_listL s
          rw [h] at this
          simp at this; omega
      refine CJ.cond rfl (fun hb1 => ?_) (fun hb1 => ?_)
      · have hi : 0 ≤ Go.Lib.indexByte s.data.toList 10 := of_decide_eq_true hb1
        have ew : IntKind.i64.wrap (Go.Lib.indexByte s.data.toList 10 + 1) = Go.Lib.indexByte s.data.toList 10 + 1 := w64 (by omega) (by omega)
        refine CJ.draw [] [0, 1, 2, 3, 4, 5, 6, 7, 8, 9] mixed (by kernel_rfl) hS fun w2 hS => ?_
        refine DJ.st rfl rfl rfl rfl rfl (SR.load rfl rfl (fun w' hx => ld1 tU_ok rfl rfl (CA.ext (hS.cells (i := 0) rfl) hx) rfl)) ?_
        refine DJ.pures tU_ok 2 rfl ?_
        refine DJ.st rfl rfl rfl rfl rfl (SR.cutStr tU_ok 0 (Go.Lib.indexByte s.data.toList 10 + 1).toNat rfl rfl rfl rfl rfl (.inl ⟨rfl, rfl⟩) (.inr ⟨_, _, rfl, by rw [ew]; omega, by rw [ew]⟩) (by omega) (by omega)) ?_
        refine DJ.st rfl rfl rfl rfl rfl (SR.load rfl rfl (fun w' hx => ld1 tU_ok rfl rfl (CA.ext (hS.cells (i := 0) rfl) hx) rfl)) ?_
        refine DJ.pures tU_ok 2 rfl ?_
        refine DJ.st rfl rfl rfl rfl rfl (SR.cutStr tU_ok (Go.Lib.indexByte s.data.toList 10 + 1).toNat s.size rfl rfl rfl rfl rfl (.inr ⟨_, _, rfl, by rw [ew]; omega, by rw [ew]⟩) (.inl ⟨rfl, rfl⟩) (by omega) (by omega)) ?_
        refine DJ.pures tU_ok 1 rfl ?_
        refine DJ.es rfl rfl rfl rfl (Es.store tI_ok hS (i := 0) rfl rfl rfl rfl rfl rfl (vs := [.string (s.extract (Go.Lib.indexByte s.data.toList 10 + 1).toNat s.size)]) rfl rfl (one1 rfl) (Nat.le_of_ble_eq_true rfl) [.string (s.extract (Go.Lib.indexByte s.data.toList 10 + 1).toNat s.size)] rfl) ?_
        intro w3 hS
        refine DJ.nil ?_
        exact EJ.meet (F' := [(0, .func (.yield r) #[] #[]), (1, .pointer (some ⟨bI, 0, none⟩)), (3, .string (s.extract 0 (Go.Lib.indexByte s.data.toList 10 + 1).toNat))]) ⟨rfl, rfl, rfl, trivial⟩ ⟨_, s.extract (Go.Lib.indexByte s.data.toList 10 + 1).toNat s.size, linesB_hit h0 hi, by rw [ByteArray.size_extract]; omega, rfl, hS⟩
      · have hi : ¬ 0 ≤ Go.Lib.indexByte s.data.toList 10 := of_decide_eq_false hb1
        refine CJ.region ?_
        refine OJ.st rfl rfl rfl (SR.load rfl rfl (fun w' hx => ld1 tU_ok rfl rfl (CA.ext (hS.cells (i := 0) rfl) hx) rfl)) ?_
        refine OJ.pures tU_ok 1 rfl ?_
        refine OJ.es rfl rfl (Es.store tI_ok hS (i := 0) rfl rfl rfl rfl rfl rfl (vs := [.string ByteArray.empty]) rfl rfl (one1 rfl) (Nat.le_of_ble_eq_true rfl) [.string ByteArray.empty] rfl) ?_
        intro w3 hS
        refine OJ.nil ?_
        exact EJ.meet (F' := [(0, .func (.yield r) #[] #[]), (1, .pointer (some ⟨bI, 0, none⟩)), (3, .string s)]) ⟨rfl, rfl, rfl, trivial⟩ ⟨s, ByteArray.empty, linesB_miss h0 hi, by show 0 < s.size; omega, rfl, hS⟩
    · rintro F w2 ⟨line, s', he, hlt, rfl, hS⟩
      have hb2 : w2.heap[bI]? = some (.cells #[.string s'] 9 (0, 0)) := hS.at_ (i := 0) rfl
      have hI2 := hst _ _ _ s' hI hS.chg hb2
      rw [he] at hI2
      refine CJ.seq ?_
      refine CJ.region ?_
      refine OJ.pures tU_ok 2 rfl ?_
      refine OJ.yield rfl rfl rfl rfl rfl rfl rfl rfl (hy _ _ _ _ hI2 hb2) ?_
      rintro _ w3 (⟨rfl, hI3, hb3⟩ | ⟨rfl, hO⟩)
      · refine OJ.pures tU_ok 1 rfl ?_
        refine OJ.nil (EJ.next ?_)
        refine CJ.condF rfl ?_
        refine CJ.skip (EJ.blk ?_)
        exact EJ.round s'.size (F' := [(0, .func (.yield r) #[] #[]), (1, .pointer (some ⟨bI, 0, none⟩))]) ⟨rfl, rfl, trivial⟩ hlt ⟨s', rfl, rfl, by omega, hI3, by rw [hb3]; exact hb2⟩
      · refine OJ.pures tU_ok 1 rfl ?_
        refine OJ.nil (EJ.next ?_)
        refine CJ.condT rfl ?_
        refine CJ.ret (EJ.bkR (EJ.skR (EJ.bkR ?_)))
        exact EJ.fin rfl .nil (.inr hO)
  · have h0 : s.size = 0 := by
      have := of_decide_eq_false hb0
      omega
    rw [linesB_nil h0] at hI
    refine CJ.exit (EJ.skE (EJ.skE (EJ.hit ?_)))
    exact EJ.fin' rfl .nil (.inl hI)
theorem strings_Lines.c (w : World) (a0 : ByteArray) : CV Tryz.prog 37 [.string a0].toArray w fun v w' => ∃ b, v = .func (.func 98) #[] #[.pointer (some ⟨b, 0, none⟩)] ∧ St w no w' [box b [.string a0] 9] [] := by
  have hS := St.init w no
  refine CV.body Tryz.func37 rfl Tryz.ntmps37 rfl ?_
  refine CJ.seq ?_
  refine CJ.region ?_
  refine OJ.ef rfl rfl rfl (Ef.box hS rfl rfl ([.string a0]) rfl) ?_
  rintro _ w1 ⟨b1, rfl, hS⟩
  refine OJ.pures tU_ok 1 rfl ?_
  refine OJ.nil (EJ.next ?_)
  refine CJ.seq ?_
  refine CJ.region ?_
  refine OJ.pures tU_ok 2 rfl ?_
  refine OJ.nil (EJ.next ?_)
  exact CJ.ret (EJ.fin rfl (.tmp rfl .nil) ⟨b1, rfl, hS⟩)

def internal_stringslite_HasSuffix.f (a0 : ByteArray) (a1 : ByteArray) : Option Bool := if (a1.size : Int) ≤ (a0.size : Int) then ((chk ((0 : Int) ≤ (IntKind.i64.wrap ((a0.size : Int) - (a1.size : Int))) ∧ (IntKind.i64.wrap ((a0.size : Int) - (a1.size : Int))) ≤ (a0.size : Int) ∧ (a0.size : Int) ≤ (a0.size : Int))).bind fun u1 => some (decide ((a0.extract ((IntKind.i64.wrap ((a0.size : Int) - (a1.size : Int))).toNat) a0.size) = a1))) else (some false)
theorem internal_stringslite_HasSuffix.c (w : World) (a0 : ByteArray) (a1 : ByteArray) (r : Bool) (H : internal_stringslite_HasSuffix.f a0 a1 = some r) :
    CV Tryz.prog 142 [.string a0, .string a1].toArray w fun v w' => v = .bool r ∧ Ext w w' := by
  have hS := (St.init w no)
  unfold internal_stringslite_HasSuffix.f at H
  refine CV.body Tryz.func142 rfl Tryz.ntmps142 rfl ?_
  refine CJ.seq ?_
  refine CJ.region ?_
  refine OJ.pures tU_ok 1 rfl ?_
  refine OJ.nil (EJ.next ?_)
  refine CJ.seq ?_
  refine CJ.region ?_
  refine OJ.pures tU_ok 6 rfl ?_
  refine OJ.split (t := 10) rfl (fun hb => ?_) (fun hb => ?_)
  · replace H := pif_t (of_decide_eq_true hb) H
    refine OJ.pures tU_ok 6 rfl ?_
    obtain ⟨u1, hu1, H⟩ := pbind H
    refine OJ.st rfl rfl rfl (SR.cutStr tU_ok ((IntKind.i64.wrap ((a0.size : Int) - (a1.size : Int))).toNat) (a0.size) rfl rfl rfl rfl rfl (.inr ⟨_, _, rfl, (chk_some hu1).1, rfl⟩) (.inl ⟨rfl, rfl⟩) (by have := (chk_some hu1); omega) (by have := (chk_some hu1); omega)) ?_
    refine OJ.pures tU_ok 4 rfl ?_
    refine OJ.nil (EJ.next ?_)
    refine CJ.ret (?_)
    obtain rfl := Option.some.inj H
    exact EJ.fin rfl (.tmp rfl .nil) ⟨rfl, hS.ext⟩
  · replace H := pif_f (of_decide_eq_false hb) H
    refine OJ.pures tU_ok 11 rfl ?_
    refine OJ.nil (EJ.next ?_)
    refine CJ.ret (?_)
    obtain rfl := Option.some.inj H
    exact EJ.fin rfl (.tmp rfl .nil) ⟨rfl, hS.ext⟩

def internal_stringslite_TrimSuffix.f (a0 : ByteArray) (a1 : ByteArray) : Option ByteArray := (internal_stringslite_HasSuffix.f a0 a1).bind fun t1 => if t1 = true then ((chk ((0 : Int) ≤ 0 ∧ 0 ≤ (IntKind.i64.wrap ((a0.size : Int) - (a1.size : Int))) ∧ (IntKind.i64.wrap ((a0.size : Int) - (a1.size : Int))) ≤ (a0.size : Int))).bind fun u2 => some (a0.extract 0 ((IntKind.i64.wrap ((a0.size : Int) - (a1.size : Int))).toNat))) else (some a0)
theorem internal_stringslite_TrimSuffix.c (w : World) (a0 : ByteArray) (a1 : ByteArray) (r : ByteArray) (H : internal_stringslite_TrimSuffix.f a0 a1 = some r) :
    CV Tryz.prog 101 [.string a0, .string a1].toArray w fun v w' => v = .string r ∧ Ext w w' := by
  have hS := (St.init w no)
  unfold internal_stringslite_TrimSuffix.f at H
  refine CV.body Tryz.func101 rfl Tryz.ntmps101 rfl ?_
  refine CJ.seq ?_
  refine CJ.region ?_
  refine OJ.pures tU_ok 1 rfl ?_
  refine OJ.nil (EJ.next ?_)
  refine CJ.seq ?_
  refine CJ.seq ?_
  refine CJ.region ?_
  refine OJ.pures tU_ok 2 rfl ?_
  obtain ⟨t1, ht1, H⟩ := pbind H
  refine OJ.callF rfl rfl rfl rfl rfl hb142 rfl (internal_stringslite_HasSuffix.c _ a0 a1 _ ht1) ?_
  rintro _ w1 ⟨rfl, hs⟩
  replace hS := hS.grow hs
  refine OJ.nil (EJ.next ?_)
  refine CJ.cond rfl (fun hb => ?_) (fun hb => ?_)
  · replace H := pif_t hb H
    refine CJ.seq ?_
    refine CJ.region ?_
    refine OJ.pures tU_ok 6 rfl ?_
    obtain ⟨u2, hu2, H⟩ := pbind H
    refine OJ.st rfl rfl rfl (SR.cutStr tU_ok (0) ((IntKind.i64.wrap ((a0.size : Int) - (a1.size : Int))).toNat) rfl rfl rfl rfl rfl (.inl ⟨rfl, rfl⟩) (.inr ⟨_, _, rfl, (by have := (chk_some hu2); omega), rfl⟩) (by have := (chk_some hu2); omega) (by have := (chk_some hu2); omega)) ?_
    refine OJ.pures tU_ok 1 rfl ?_
    refine OJ.nil (EJ.next ?_)
    refine CJ.ret (EJ.skR (?_))
    obtain rfl := Option.some.inj H
    exact EJ.fin rfl (.tmp rfl .nil) ⟨rfl, hS.ext⟩
  · replace H := pifb_f hb H
    refine CJ.skip (EJ.next ?_)
    refine CJ.seq ?_
    refine CJ.region ?_
    refine OJ.pures tU_ok 2 rfl ?_
    refine OJ.nil (EJ.next ?_)
    refine CJ.ret (?_)
    obtain rfl := Option.some.inj H
    exact EJ.fin rfl (.tmp rfl .nil) ⟨rfl, hS.ext⟩

def strings_TrimSuffix.f (a0 : ByteArray) (a1 : ByteArray) : Option ByteArray := (internal_stringslite_TrimSuffix.f a0 a1).bind fun t1 => some t1
theorem strings_TrimSuffix.c (w : World) (a0 : ByteArray) (a1 : ByteArray) (r : ByteArray) (H : strings_TrimSuffix.f a0 a1 = some r) :
    CV Tryz.prog 39 [.string a0, .string a1].toArray w fun v w' => v = .string r ∧ Ext w w' := by
  have hS := (St.init w no)
  unfold strings_TrimSuffix.f at H
  refine CV.body Tryz.func39 rfl Tryz.ntmps39 rfl ?_
  refine CJ.seq ?_
  refine CJ.region ?_
  refine OJ.pures tU_ok 1 rfl ?_
  refine OJ.nil (EJ.next ?_)
  refine CJ.seq ?_
  refine CJ.region ?_
  refine OJ.pures tU_ok 2 rfl ?_
  obtain ⟨t1, ht1, H⟩ := pbind H
  refine OJ.callF rfl rfl rfl rfl rfl hb101 rfl (internal_stringslite_TrimSuffix.c _ a0 a1 _ ht1) ?_
  rintro _ w1 ⟨rfl, hs⟩
  replace hS := hS.grow hs
  refine OJ.pures tU_ok 1 rfl ?_
  refine OJ.nil (EJ.next ?_)
  refine CJ.ret (?_)
  obtain rfl := Option.some.inj H
  exact EJ.fin rfl (.tmp rfl .nil) ⟨rfl, hS.ext⟩

def strings_Split.f (a0 : ByteArray) (a1 : ByteArray) : Option (List ByteArray) := (chk (a0.size < 4294967281 ∧ 1 ≤ a1.size)).bind fun _ => some (splitS a0 a1)
theorem strings_Split.c (w : World) (a0 : ByteArray) (a1 : ByteArray) (hT : (envC Tryz.prog 0).holds w) (r : List ByteArray) (H : strings_Split.f a0 a1 = some r) :
    CV Tryz.prog 38 [.string a0, .string a1].toArray w fun v w' => ∃ (A0 : Option Addr) (c0 : Nat), v = .slice A0 r.length c0 ∧ St w no w' [rowC G.cs A0 c0 9 r] [] := by
  unfold strings_Split.f at H
  obtain ⟨u, hu, H⟩ := pbind H
  have h := chk_some hu
  obtain rfl := Option.some.inj H
  exact split_cv hT (fun s sep m w h1 h2 h3 => Any.strings_Split { laySplit with } laySplit.i9 s sep m w h1 h2 h3) h.1 h.2

def strconv_ParseInt.f (a0 : ByteArray) (a1 : Int) (a2 : Int) : Option (Int × Bool) := (chk (a0.size ≤ 4294967296 ∧ a1 = 10 ∧ a2 = 64)).bind fun _ => some (parseI a0)
theorem strconv_ParseInt.c (w : World) (a0 : ByteArray) (a1 : Int) (a2 : Int) (hT : (envC Tryz.prog 0).holds w) (r : Int × Bool) (H : strconv_ParseInt.f a0 a1 a2 = some r) :
    CV Tryz.prog 102 [.string a0, .int .i64 a1, .int .i64 a2].toArray w fun v w' => ∃ t q, v = .tuple #[.int .i64 r.1, errV r.2 t q] ∧ Ext w w' := by
  unfold strconv_ParseInt.f at H
  obtain ⟨u, hu, H⟩ := pbind H
  have h := chk_some hu
  obtain rfl := Option.some.inj H
  obtain ⟨h, rfl, rfl⟩ := h
  exact parse_cv hT (fun s h v hp w => (Any.strconv_ParseInt_10_at64_ok layParse s h v hp w).mono fun e w' ⟨he, hw⟩ => ⟨he, bytes_ext hw⟩)
    (fun s h hp tp p w hv => (Any.strconv_ParseInt_10_at64_syntax_var layParse s h hp tp p w hv).mono fun e w' ⟨N, he, _, _, hb⟩ => ⟨⟨_, _, he⟩, below_ext hb⟩)
    (fun s h hp tp p w hv => (Any.strconv_ParseInt_10_at64_range_var layParse s h hp tp p w hv).mono fun e w' ⟨N, he, _, _, hb⟩ => ⟨⟨_, _, he⟩, below_ext hb⟩) h

def strconv_FormatInt.f (a0 : Int) (a1 : Int) : Option ByteArray := (chk (a1 = 10 ∧ -9223372036854775808 ≤ a0 ∧ a0 ≤ 9223372036854775807)).bind fun _ => some (itoaB a0)
theorem strconv_FormatInt.c (w : World) (a0 : Int) (a1 : Int) (hT : (envC Tryz.prog 0).holds w) (r : ByteArray) (H : strconv_FormatInt.f a0 a1 = some r) :
    CV Tryz.prog 103 [.int .i64 a0, .int .i64 a1].toArray w fun v w' => v = .string r ∧ Ext w w' := by
  unfold strconv_FormatInt.f at H
  obtain ⟨u, hu, H⟩ := pbind H
  have h := chk_some hu
  obtain rfl := Option.some.inj H
  obtain ⟨rfl, h0, h1⟩ := h
  exact fmt_cv hT.1 h0 h1 (fun n h0 h1 w ht => Any.strconv_FormatInt_10 layFmt n h0 h1 w ht)

def impl_decimal.f (a0 : Int) : Option ByteArray := (strconv_FormatInt.f a0 10).bind fun t1 => some t1
theorem impl_decimal.c (w : World) (a0 : Int) (hT : (envC Tryz.prog 0).holds w) (r : ByteArray) (H : impl_decimal.f a0 = some r) :
    CV Tryz.prog 42 [.int .i64 a0].toArray w fun v w' => v = .string r ∧ Ext w w' := by
  have hS := ((St.init w no).paramT (envC Tryz.prog 0) hT)
  unfold impl_decimal.f at H
  refine CV.body Tryz.func42 rfl Tryz.ntmps42 rfl ?_
  refine CJ.seq ?_
  refine CJ.region ?_
  refine OJ.pures tU_ok 1 rfl ?_
  refine OJ.nil (EJ.next ?_)
  refine CJ.seq ?_
  refine CJ.region ?_
  refine OJ.pures tU_ok 1 rfl ?_
  obtain ⟨t1, ht1, H⟩ := pbind H
  refine OJ.callF rfl rfl rfl rfl rfl hb103 rfl (strconv_FormatInt.c _ a0 10 (hS.ro (i := 0) rfl) _ ht1) ?_
  rintro _ w1 ⟨rfl, hs⟩
  replace hS := hS.grow hs
  refine OJ.pures tU_ok 1 rfl ?_
  refine OJ.nil (EJ.next ?_)
  refine CJ.ret (?_)
  obtain rfl := Option.some.inj H
  exact EJ.fin rfl (.tmp rfl .nil) ⟨rfl, hS.ext⟩

def impl_within.f (a0 : Int) (a1 : Int) (a2 : Int) : Option Bool := if a1 ≤ a0 then (some (decide (a0 ≤ a2))) else (some false)
theorem impl_within.c (w : World) (a0 : Int) (a1 : Int) (a2 : Int) (r : Bool) (H : impl_within.f a0 a1 a2 = some r) :
    CV Tryz.prog 53 [.int .i64 a0, .int .i64 a1, .int .i64 a2].toArray w fun v w' => v = .bool r ∧ Ext w w' := by
  have hS := (St.init w no)
  unfold impl_within.f at H
  refine CV.body Tryz.func53 rfl Tryz.ntmps53 rfl ?_
  refine CJ.seq ?_
  refine CJ.region ?_
  refine OJ.pures tU_ok 1 rfl ?_
  refine OJ.nil (EJ.next ?_)
  refine CJ.seq ?_
  refine CJ.region ?_
  refine OJ.pures tU_ok 4 rfl ?_
  refine OJ.split (t := 10) rfl (fun hb => ?_) (fun hb => ?_)
  · replace H := pif_t (of_decide_eq_true hb) H
    refine OJ.pures tU_ok 5 rfl ?_
    refine OJ.nil (EJ.next ?_)
    refine CJ.ret (?_)
    obtain rfl := Option.some.inj H
    exact EJ.fin rfl (.tmp rfl .nil) ⟨rfl, hS.ext⟩
  · replace H := pif_f (of_decide_eq_false hb) H
    refine OJ.pures tU_ok 5 rfl ?_
    refine OJ.nil (EJ.next ?_)
    refine CJ.ret (?_)
    obtain rfl := Option.some.inj H
    exact EJ.fin rfl (.tmp rfl .nil) ⟨rfl, hS.ext⟩

def impl_number.f (a0 : ByteArray) (a1 : Int) : Option (Int × Bool) := (strconv_ParseInt.f a0 10 64).bind fun t1 => if t1.2 = true then (some (0, false)) else ((impl_decimal.f t1.1).bind fun t4 => if t4 ≠ a0 then (some (0, false)) else ((impl_within.f t1.1 0 a1).bind fun t5 => if (!t5) = true then (some (0, false)) else (some (t1.1, true))))
theorem impl_number.c (w : World) (a0 : ByteArray) (a1 : Int) (hT : (envC Tryz.prog 0).holds w) (r : Int × Bool) (H : impl_number.f a0 a1 = some r) :
    CV Tryz.prog 40 [.string a0, .int .i64 a1].toArray w fun v w' => v = .tuple #[.int .i64 r.1, .bool r.2] ∧ Ext w w' := by
  have hS := ((St.init w no).paramT (envC Tryz.prog 0) hT)
  unfold impl_number.f at H
  refine CV.body Tryz.func40 rfl Tryz.ntmps40 rfl ?_
  refine CJ.seq ?_
  refine CJ.region ?_
  refine OJ.pures tU_ok 2 rfl ?_
  refine OJ.nil (EJ.next ?_)
  refine CJ.seq ?_
  refine CJ.region ?_
  refine OJ.pures tU_ok 1 rfl ?_
  obtain ⟨t1, ht1, H⟩ := pbind H
  refine OJ.callF rfl rfl rfl rfl rfl hb102 rfl (strconv_ParseInt.c _ a0 10 64 (hS.ro (i := 0) rfl) _ ht1) ?_
  rintro _ w1 ⟨t2, q3, rfl, hs⟩
  replace hS := hS.grow hs
  refine OJ.pures tU_ok 5 rfl ?_
  refine OJ.nil (EJ.next ?_)
  refine CJ.seq ?_
  refine CJ.seq ?_
  refine CJ.region ?_
  refine OJ.pures tU_ok 1 rfl ?_
  refine OJ.st rfl rfl rfl (SR.neErr (by kernel_rfl) rfl rfl) ?_
  refine OJ.pures tU_ok 1 rfl ?_
  refine OJ.split (t := 15) rfl (fun hb => ?_) (fun hb => ?_)
  · replace H := pif_t hb H
    refine OJ.pures tU_ok 11 rfl ?_
    refine OJ.nil (EJ.next ?_)
    refine CJ.condT rfl ?_
    refine CJ.seq ?_
    refine CJ.region ?_
    refine OJ.pures tU_ok 2 rfl ?_
    refine OJ.nil (EJ.next ?_)
    refine CJ.ret (EJ.skR (?_))
    obtain rfl := Option.some.inj H
    exact EJ.fin rfl (.tmp rfl (.tmp rfl .nil)) ⟨rfl, hS.ext⟩
  · replace H := pifb_f hb H
    refine OJ.pures tU_ok 1 rfl ?_
    obtain ⟨t4, ht4, H⟩ := pbind H
    refine OJ.callF rfl rfl rfl rfl rfl hb42 rfl (impl_decimal.c _ t1.1 (hS.ro (i := 0) rfl) _ ht4) ?_
    rintro _ w1 ⟨rfl, hs⟩
    replace hS := hS.grow hs
    refine OJ.pures tU_ok 4 rfl ?_
    refine OJ.split (t := 21) rfl (fun hb => ?_) (fun hb => ?_)
    · replace H := pif_t (of_decide_eq_true hb) H
      refine OJ.pures tU_ok 5 rfl ?_
      refine OJ.nil (EJ.next ?_)
      refine CJ.condT rfl ?_
      refine CJ.seq ?_
      refine CJ.region ?_
      refine OJ.pures tU_ok 2 rfl ?_
      refine OJ.nil (EJ.next ?_)
      refine CJ.ret (EJ.skR (?_))
      obtain rfl := Option.some.inj H
      exact EJ.fin rfl (.tmp rfl (.tmp rfl .nil)) ⟨rfl, hS.ext⟩
    · replace H := pif_f (of_decide_eq_false hb) H
      refine OJ.pures tU_ok 2 rfl ?_
      obtain ⟨t5, ht5, H⟩ := pbind H
      refine OJ.callF rfl rfl rfl rfl rfl hb53 rfl (impl_within.c _ t1.1 0 a1 _ ht5) ?_
      rintro _ w1 ⟨rfl, hs⟩
      replace hS := hS.grow hs
      refine OJ.pures tU_ok 2 rfl ?_
      refine OJ.nil (EJ.next ?_)
      refine CJ.cond rfl (fun hb => ?_) (fun hb => ?_)
      · replace H := pif_t hb H
        refine CJ.seq ?_
        refine CJ.region ?_
        refine OJ.pures tU_ok 2 rfl ?_
        refine OJ.nil (EJ.next ?_)
        refine CJ.ret (EJ.skR (?_))
        obtain rfl := Option.some.inj H
        exact EJ.fin rfl (.tmp rfl (.tmp rfl .nil)) ⟨rfl, hS.ext⟩
      · replace H := pifb_f hb H
        refine CJ.skip (EJ.next ?_)
        refine CJ.seq ?_
        refine CJ.region ?_
        refine OJ.pures tU_ok 3 rfl ?_
        refine OJ.nil (EJ.next ?_)
        refine CJ.ret (?_)
        obtain rfl := Option.some.inj H
        exact EJ.fin rfl (.tmp rfl (.tmp rfl .nil)) ⟨rfl, hS.ext⟩

def slices_Index_string_string.l1 (a0 : List ByteArray) (a1 : ByteArray) : Nat → Int → Option (Int ⊕ Unit)
  | 0, _ => none
  | k + 1, y1 => if y1 < (a0.length : Int) then ((getI a0 y1).bind fun t2 => if a1 = t2 then (some (Sum.inl y1)) else (slices_Index_string_string.l1 a0 a1 k (IntKind.i64.wrap (y1 + 1)))) else (some (Sum.inr ()))
def slices_Index_string_string.f (k : Nat) (a0 : List ByteArray) (a1 : ByteArray) : Option Int := (slices_Index_string_string.l1 a0 a1 k 0).bind fun s113 => match s113 with | .inl r => some r | .inr _ => some (-1)
theorem slices_Index_string_string.c (k : Nat) (w : World) (Aa0 : Option Addr) (ca0 : Nat) (a0 : List ByteArray) (hr0 : Rd G.cs w Aa0 a0) (hc0 : a0.length ≤ ca0) (a1 : ByteArray) (r : Int) (H : slices_Index_string_string.f k a0 a1 = some r) :
    CV Tryz.prog 41 [.slice Aa0 a0.length ca0, .string a1].toArray w fun v w' => v = .int .i64 r ∧ Ext w w' := by
  have hS := ((St.init w no).param G.cs Aa0 ca0 a0 hr0 hc0)
  unfold slices_Index_string_string.f at H
  refine CV.body Tryz.func41 rfl Tryz.ntmps41 rfl ?_
  refine CJ.seq ?_
  refine CJ.region ?_
  refine OJ.pures tU_ok 1 rfl ?_
  refine OJ.nil (EJ.next ?_)
  refine CJ.seq ?_
  refine CJ.seq ?_
  refine CJ.region ?_
  refine OJ.pures tU_ok 3 rfl ?_
  refine OJ.nil (EJ.next ?_)
  obtain ⟨j113, H, K113⟩ := pbind H
  refine CJ.cut1 (fun F w1 => (some (Sum.inr ()) : Option (Int ⊕ Unit)) = some j113 ∧ F = [] ∧ St w no w1 [] [roC G.cs Aa0 ca0 a0]) ?_ ?_
  · skip
    refine CJ.block ?_
    refine CJ.loop (fun k F w1 => ∃ (y1 : Int), F = [(0, .slice Aa0 a0.length ca0), (1, .string a1), (7, .int .i64 (a0.length : Int)), (8, .int .i64 y1)] ∧ St w no w1 [] [roC G.cs Aa0 ca0 a0] ∧ slices_Index_string_string.l1 a0 a1 k y1 = some j113) k (F' := [(0, .slice Aa0 a0.length ca0), (1, .string a1), (7, .int .i64 (a0.length : Int)), (8, .int .i64 0)]) ⟨rfl, rfl, rfl, rfl, trivial⟩ ⟨0, rfl, hS.pick [] [0] rfl, H⟩ ?_
    rintro k F w1 ⟨y1, rfl, hS, H⟩
    cases k with
    | zero => rw [slices_Index_string_string.l1] at H; cases H
    | succ k =>
      rw [slices_Index_string_string.l1] at H
      refine CJ.seq ?_
      refine CJ.region ?_
      refine OJ.pures tU_ok 1 rfl ?_
      refine OJ.nil (EJ.next ?_)
      refine CJ.seq ?_
      refine CJ.cond rfl (fun hb => ?_) (fun hb => ?_)
      · replace H := pif_t (of_decide_eq_true hb) H
        refine CJ.skip (EJ.next ?_)
        refine CJ.seq ?_
        refine CJ.block ?_
        refine CJ.seq ?_
        refine CJ.region ?_
        refine OJ.pures tU_ok 2 rfl ?_
        refine OJ.nil (EJ.next ?_)
        refine CJ.seq ?_
        refine CJ.region ?_
        refine OJ.pures tU_ok 3 rfl ?_
        obtain ⟨t2, ht2, H⟩ := pbind H
        obtain ⟨ad2, e2⟩ := (hS.rd' (i := 0) rfl).some' ht2
        refine OJ.st rfl rfl rfl (SR.idxS tU_ok tI_ok rfl rfl rfl rfl e2 rfl (getI_some ht2).1) ?_
        refine OJ.st rfl rfl rfl (SR.load rfl rfl (fun w' hx => ld1 tU_ok rfl rfl (CA.ext ((hS.rd' (i := 0) rfl).at_ e2 ht2) hx) rfl)) ?_
        refine OJ.pures tU_ok 1 rfl ?_
        refine OJ.nil (EJ.next ?_)
        refine CJ.cond rfl (fun hb => ?_) (fun hb => ?_)
        · replace H := pif_t (of_decide_eq_true hb) H
          refine CJ.seq ?_
          refine CJ.region ?_
          refine OJ.pures tU_ok 2 rfl ?_
          refine OJ.nil (EJ.next ?_)
          refine CJ.ret (EJ.bkR (EJ.skR (EJ.skR (EJ.bkR (EJ.skR (EJ.skR (?_)))))))
          first | (obtain rfl := Option.some.inj H; have H := K113) | (obtain ⟨q113, H2, e113⟩ := pbind H; obtain rfl := Option.some.inj e113; obtain rfl := Option.some.inj K113; have H := H2)
          obtain rfl := Option.some.inj H
          exact EJ.fin rfl (.tmp rfl .nil) ⟨rfl, hS.ext⟩
        · replace H := pif_f (of_decide_eq_false hb) H
          refine CJ.skip (EJ.blk (EJ.next ?_))
          refine CJ.region ?_
          refine OJ.pures tU_ok 2 rfl ?_
          refine OJ.nil ?_
          exact EJ.round k (F' := [(0, .slice Aa0 a0.length ca0), (1, .string a1), (7, .int .i64 (a0.length : Int)), (8, .int .i64 (IntKind.i64.wrap (y1 + 1)))]) ⟨rfl, rfl, rfl, rfl, trivial⟩ (Nat.lt_succ_self _) ⟨(IntKind.i64.wrap (y1 + 1)), rfl, hS.pick [] [0] rfl, H⟩
      · replace H := pif_f (of_decide_eq_false hb) H
        refine CJ.exit (EJ.skE (EJ.skE (EJ.hit (?_))))
        exact EJ.meet (F' := []) trivial ⟨H, rfl, hS.pick [] [0] rfl⟩
  · rintro F w1 ⟨he, rfl, hS⟩
    obtain rfl := Option.some.inj he
    have H := K113
    refine EJ.next ?_
    refine CJ.seq ?_
    refine CJ.region ?_
    refine OJ.pures tU_ok 1 rfl ?_
    refine OJ.nil (EJ.next ?_)
    refine CJ.ret (?_)
    obtain rfl := Option.some.inj H
    exact EJ.fin rfl (.tmp rfl .nil) ⟨rfl, hS.ext⟩

def strings_trimRightByte.l1 (a1 : Int) : Nat → ByteArray → Option ByteArray
  | 0, _ => none
  | k + 1, y2 => if 0 < (y2.size : Int) then ((getB y2 (IntKind.i64.wrap ((y2.size : Int) - 1))).bind fun t3 => if t3 = a1 then ((chk ((0 : Int) ≤ 0 ∧ 0 ≤ (IntKind.i64.wrap ((y2.size : Int) - 1)) ∧ (IntKind.i64.wrap ((y2.size : Int) - 1)) ≤ (y2.size : Int))).bind fun u4 => strings_trimRightByte.l1 a1 k (y2.extract 0 ((IntKind.i64.wrap ((y2.size : Int) - 1)).toNat))) else (some y2)) else (some y2)
def strings_trimRightByte.f (k : Nat) (a0 : ByteArray) (a1 : Int) : Option ByteArray := (strings_trimRightByte.l1 a1 k a0).bind fun y1 => some y1
theorem strings_trimRightByte.c (k : Nat) (w : World) (a0 : ByteArray) (a1 : Int) (r : ByteArray) (H : strings_trimRightByte.f k a0 a1 = some r) :
    CV Tryz.prog 149 [.string a0, .int .u8 a1].toArray w fun v w' => v = .string r ∧ Ext w w' := by
  have hS := (St.init w no)
  unfold strings_trimRightByte.f at H
  refine CV.body Tryz.func149 rfl Tryz.ntmps149 rfl ?_
  refine CJ.seq ?_
  refine CJ.region ?_
  refine OJ.pures tU_ok 1 rfl ?_
  refine OJ.nil (EJ.next ?_)
  obtain ⟨j127, H, K127⟩ := pbind H
  refine CJ.cut (fun F w1 => ∃ (y1 : ByteArray) , (some y1 : Option ByteArray) = some j127 ∧ F = [(0, .string y1)] ∧ St w no w1 [] []) ?_ ?_
  · skip
    refine CJ.block ?_
    refine CJ.loop (fun k F w1 => ∃ (y2 : ByteArray), F = [(0, .string y2), (1, .int .u8 a1)] ∧ St w no w1 [] [] ∧ strings_trimRightByte.l1 a1 k y2 = some j127) k (F' := [(0, .string a0), (1, .int .u8 a1)]) ⟨rfl, rfl, trivial⟩ ⟨a0, rfl, hS.pick [] [] rfl, H⟩ ?_
    rintro k F w1 ⟨y2, rfl, hS, H⟩
    cases k with
    | zero => rw [strings_trimRightByte.l1] at H; cases H
    | succ k =>
      rw [strings_trimRightByte.l1] at H
      refine CJ.seq ?_
      refine CJ.seq ?_
      refine CJ.region ?_
      refine OJ.pures tU_ok 4 rfl ?_
      refine OJ.split (t := 8) rfl (fun hb => ?_) (fun hb => ?_)
      · replace H := pif_t (of_decide_eq_true hb) H
        refine OJ.pures tU_ok 4 rfl ?_
        obtain ⟨t3, ht3, H⟩ := pbind H
        refine OJ.st rfl rfl rfl (SR.idxStr tU_ok rfl rfl rfl rfl ht3) ?_
        refine OJ.pures tU_ok 3 rfl ?_
        refine OJ.nil (EJ.next ?_)
        refine CJ.cond rfl (fun hb => ?_) (fun hb => ?_)
        · replace H := pif_t (of_decide_eq_true hb) H
          refine CJ.skip (EJ.next ?_)
          refine CJ.block ?_
          refine CJ.region ?_
          refine OJ.pures tU_ok 4 rfl ?_
          obtain ⟨u4, hu4, H⟩ := pbind H
          refine OJ.st rfl rfl rfl (SR.cutStr tU_ok (0) ((IntKind.i64.wrap ((y2.size : Int) - 1)).toNat) rfl rfl rfl rfl rfl (.inl ⟨rfl, rfl⟩) (.inr ⟨_, _, rfl, (by have := (chk_some hu4); omega), rfl⟩) (by have := (chk_some hu4); omega) (by have := (chk_some hu4); omega)) ?_
          refine OJ.pures tU_ok 1 rfl ?_
          refine OJ.nil (EJ.blk (?_))
          exact EJ.round k (F' := [(0, .string (y2.extract 0 ((IntKind.i64.wrap ((y2.size : Int) - 1)).toNat))), (1, .int .u8 a1)]) ⟨rfl, rfl, trivial⟩ (Nat.lt_succ_self _) ⟨(y2.extract 0 ((IntKind.i64.wrap ((y2.size : Int) - 1)).toNat)), rfl, hS.pick [] [] rfl, H⟩
        · replace H := pif_f (of_decide_eq_false hb) H
          refine CJ.exit (EJ.skE (EJ.skE (EJ.hit (?_))))
          exact EJ.meet (F' := [(0, .string y2)]) ⟨rfl, trivial⟩ ⟨y2, H, rfl, hS.pick [] [] rfl⟩
      · replace H := pif_f (of_decide_eq_false hb) H
        refine OJ.pures tU_ok 8 rfl ?_
        refine OJ.nil (EJ.next ?_)
        refine CJ.condF rfl ?_
        refine CJ.exit (EJ.skE (EJ.skE (EJ.hit (?_))))
        exact EJ.meet (F' := [(0, .string y2)]) ⟨rfl, trivial⟩ ⟨y2, H, rfl, hS.pick [] [] rfl⟩
  · rintro F w1 ⟨y1, he, rfl, hS⟩
    obtain rfl := Option.some.inj he
    have H := K127
    refine CJ.seq ?_
    refine CJ.region ?_
    refine OJ.pures tU_ok 2 rfl ?_
    refine OJ.nil (EJ.next ?_)
    refine CJ.ret (?_)
    obtain rfl := Option.some.inj H
    exact EJ.fin rfl (.tmp rfl .nil) ⟨rfl, hS.ext⟩

def strings_trimLeftByte.l1 (a1 : Int) : Nat → ByteArray → Option ByteArray
  | 0, _ => none
  | k + 1, y2 => if 0 < (y2.size : Int) then ((getB y2 0).bind fun t3 => if t3 = a1 then ((chk ((0 : Int) ≤ 1 ∧ 1 ≤ (y2.size : Int) ∧ (y2.size : Int) ≤ (y2.size : Int))).bind fun u4 => strings_trimLeftByte.l1 a1 k (y2.extract ((1 : Int).toNat) y2.size)) else (some y2)) else (some y2)
def strings_trimLeftByte.f (k : Nat) (a0 : ByteArray) (a1 : Int) : Option ByteArray := (strings_trimLeftByte.l1 a1 k a0).bind fun y1 => some y1
theorem strings_trimLeftByte.c (k : Nat) (w : World) (a0 : ByteArray) (a1 : Int) (r : ByteArray) (H : strings_trimLeftByte.f k a0 a1 = some r) :
    CV Tryz.prog 148 [.string a0, .int .u8 a1].toArray w fun v w' => v = .string r ∧ Ext w w' := by
  have hS := (St.init w no)
  unfold strings_trimLeftByte.f at H
  refine CV.body Tryz.func148 rfl Tryz.ntmps148 rfl ?_
  refine CJ.seq ?_
  refine CJ.region ?_
  refine OJ.pures tU_ok 1 rfl ?_
  refine OJ.nil (EJ.next ?_)
  obtain ⟨j128, H, K128⟩ := pbind H
  refine CJ.cut (fun F w1 => ∃ (y1 : ByteArray) , (some y1 : Option ByteArray) = some j128 ∧ F = [(0, .string y1)] ∧ St w no w1 [] []) ?_ ?_
  · skip
    refine CJ.block ?_
    refine CJ.loop (fun k F w1 => ∃ (y2 : ByteArray), F = [(0, .string y2), (1, .int .u8 a1)] ∧ St w no w1 [] [] ∧ strings_trimLeftByte.l1 a1 k y2 = some j128) k (F' := [(0, .string a0), (1, .int .u8 a1)]) ⟨rfl, rfl, trivial⟩ ⟨a0, rfl, hS.pick [] [] rfl, H⟩ ?_
    rintro k F w1 ⟨y2, rfl, hS, H⟩
    cases k with
    | zero => rw [strings_trimLeftByte.l1] at H; cases H
    | succ k =>
      rw [strings_trimLeftByte.l1] at H
      refine CJ.seq ?_
      refine CJ.seq ?_
      refine CJ.region ?_
      refine OJ.pures tU_ok 4 rfl ?_
      refine OJ.split (t := 8) rfl (fun hb => ?_) (fun hb => ?_)
      · replace H := pif_t (of_decide_eq_true hb) H
        refine OJ.pures tU_ok 1 rfl ?_
        obtain ⟨t3, ht3, H⟩ := pbind H
        refine OJ.st rfl rfl rfl (SR.idxStr tU_ok rfl rfl rfl rfl ht3) ?_
        refine OJ.pures tU_ok 3 rfl ?_
        refine OJ.nil (EJ.next ?_)
        refine CJ.cond rfl (fun hb => ?_) (fun hb => ?_)
        · replace H := pif_t (of_decide_eq_true hb) H
          refine CJ.skip (EJ.next ?_)
          refine CJ.block ?_
          refine CJ.region ?_
          refine OJ.pures tU_ok 1 rfl ?_
          obtain ⟨u4, hu4, H⟩ := pbind H
          refine OJ.st rfl rfl rfl (SR.cutStr tU_ok ((1 : Int).toNat) (y2.size) rfl rfl rfl rfl rfl (.inr ⟨_, _, rfl, (chk_some hu4).1, rfl⟩) (.inl ⟨rfl, rfl⟩) (by have := (chk_some hu4); omega) (by have := (chk_some hu4); omega)) ?_
          refine OJ.pures tU_ok 1 rfl ?_
          refine OJ.nil (EJ.blk (?_))
          exact EJ.round k (F' := [(0, .string (y2.extract ((1 : Int).toNat) y2.size)), (1, .int .u8 a1)]) ⟨rfl, rfl, trivial⟩ (Nat.lt_succ_self _) ⟨(y2.extract ((1 : Int).toNat) y2.size), rfl, hS.pick [] [] rfl, H⟩
        · replace H := pif_f (of_decide_eq_false hb) H
          refine CJ.exit (EJ.skE (EJ.skE (EJ.hit (?_))))
          exact EJ.meet (F' := [(0, .string y2)]) ⟨rfl, trivial⟩ ⟨y2, H, rfl, hS.pick [] [] rfl⟩
      · replace H := pif_f (of_decide_eq_false hb) H
        refine OJ.pures tU_ok 5 rfl ?_
        refine OJ.nil (EJ.next ?_)
        refine CJ.condF rfl ?_
        refine CJ.exit (EJ.skE (EJ.skE (EJ.hit (?_))))
        exact EJ.meet (F' := [(0, .string y2)]) ⟨rfl, trivial⟩ ⟨y2, H, rfl, hS.pick [] [] rfl⟩
  · rintro F w1 ⟨y1, he, rfl, hS⟩
    obtain rfl := Option.some.inj he
    have H := K128
    refine CJ.seq ?_
    refine CJ.region ?_
    refine OJ.pures tU_ok 2 rfl ?_
    refine OJ.nil (EJ.next ?_)
    refine CJ.ret (?_)
    obtain rfl := Option.some.inj H
    exact EJ.fin rfl (.tmp rfl .nil) ⟨rfl, hS.ext⟩

def strings_makeASCIISet.l1 (a0 : ByteArray) : Nat → (Arr 256 Bool) → Int → Option ((Arr 256 Bool × Bool) ⊕ (Arr 256 Bool))
  | 0, _, _ => none
  | k + 1, y3, y4 => if y4 < (a0.size : Int) then ((getB a0 y4).bind fun t5 => if 128 ≤ t5 then (some (Sum.inl (y3, false))) else ((getI y3.l t5).bind fun t6 => strings_makeASCIISet.l1 a0 k (aset y3 t5.toNat true) (IntKind.i64.wrap (y4 + 1)))) else (some (Sum.inr y3))
def strings_makeASCIISet.f (k : Nat) (a0 : ByteArray) : Option (Arr 256 Bool × Bool) := (strings_makeASCIISet.l1 a0 k (Arr.mk' false : Arr 256 Bool) 0).bind fun s129 => match s129 with | .inl r => some r | .inr y2 => some (y2, true)
theorem strings_makeASCIISet.c (k : Nat) (w : World) (a0 : ByteArray) (r : Arr 256 Bool × Bool) (H : strings_makeASCIISet.f k a0 = some r) :
    CV Tryz.prog 150 [.string a0].toArray w fun v w' => v = .tuple #[.agg ((carr 256 cb).enc r.1).toArray, .bool r.2] ∧ Ext w w' := by
  have hS := (St.init w no)
  unfold strings_makeASCIISet.f at H
  refine CV.body Tryz.func150 rfl Tryz.ntmps150 rfl ?_
  refine CJ.seq ?_
  refine CJ.region ?_
  refine OJ.ef rfl rfl rfl (Ef.alloc hS tI_ok rfl rfl ((carr 256 cb).enc (Arr.mk' false : Arr 256 Bool)) (by kernel_rfl)) ?_
  rintro _ w1 ⟨b1, rfl, hS⟩
  refine OJ.pures tU_ok 1 rfl ?_
  refine OJ.nil (EJ.next ?_)
  refine CJ.seq ?_
  refine CJ.seq ?_
  refine CJ.region ?_
  refine OJ.pures tU_ok 1 rfl ?_
  refine OJ.nil (EJ.next ?_)
  obtain ⟨j129, H, K129⟩ := pbind H
  refine CJ.cut1 (fun F w1 => ∃ (y2 : Arr 256 Bool) , (some (Sum.inr y2) : Option ((Arr 256 Bool × Bool) ⊕ (Arr 256 Bool))) = some j129 ∧ F = [(2, .pointer (some ⟨b1, 0, none⟩))] ∧ St w no w1 [box b1 ((carr 256 cb).enc y2) 182] []) ?_ ?_
  · skip
    refine CJ.block ?_
    refine CJ.loop (fun k F w1 => ∃ (y3 : Arr 256 Bool) (y4 : Int), F = [(0, .string a0), (2, .pointer (some ⟨b1, 0, none⟩)), (4, .int .i64 y4)] ∧ St w no w1 [box b1 ((carr 256 cb).enc y3) 182] [] ∧ strings_makeASCIISet.l1 a0 k y3 y4 = some j129) k (F' := [(0, .string a0), (2, .pointer (some ⟨b1, 0, none⟩)), (4, .int .i64 0)]) ⟨rfl, rfl, rfl, trivial⟩ ⟨(Arr.mk' false : Arr 256 Bool), 0, rfl, hS.pick [0] [] rfl, H⟩ ?_
    rintro k F w1 ⟨y3, y4, rfl, hS, H⟩
    cases k with
    | zero => rw [strings_makeASCIISet.l1] at H; cases H
    | succ k =>
      rw [strings_makeASCIISet.l1] at H
      refine CJ.seq ?_
      refine CJ.seq ?_
      refine CJ.region ?_
      refine OJ.pures tU_ok 4 rfl ?_
      refine OJ.nil (EJ.next ?_)
      refine CJ.cond rfl (fun hb => ?_) (fun hb => ?_)
      · replace H := pif_t (of_decide_eq_true hb) H
        refine CJ.skip (EJ.next ?_)
        refine CJ.seq ?_
        refine CJ.block ?_
        refine CJ.seq ?_
        refine CJ.region ?_
        refine OJ.pures tU_ok 2 rfl ?_
        obtain ⟨t5, ht5, H⟩ := pbind H
        refine OJ.st rfl rfl rfl (SR.idxStr tU_ok rfl rfl rfl rfl ht5) ?_
        refine OJ.pures tU_ok 1 rfl ?_
        refine OJ.nil (EJ.next ?_)
        refine CJ.seq ?_
        refine CJ.seq ?_
        refine CJ.region ?_
        refine OJ.pures tU_ok 2 rfl ?_
        refine OJ.nil (EJ.next ?_)
        refine CJ.cond rfl (fun hb => ?_) (fun hb => ?_)
        · replace H := pif_t (of_decide_eq_true hb) H
          refine CJ.seq ?_
          refine CJ.region ?_
          refine OJ.st rfl rfl rfl (SR.load rfl rfl (fun w' hx => ldE tU_ok tI_ok rfl rfl rfl (CA.ext (hS.cells (i := 0) rfl) hx) rfl)) ?_
          refine OJ.es rfl rfl (Es.put tI_ok hS (i := 0) rfl rfl rfl rfl rfl (vs := (carr 256 cb).enc y3) rfl ((carr 256 cb).len _) ((carr 256 cb).one _) (Put.all (carr 256 cb) y3 y3) (by (try simp only [add_lit, Nat.add_assoc, Nat.zero_add, Nat.add_zero]) <;> rfl)) ?_
          intro w1 hS
          refine OJ.pures tU_ok 1 rfl ?_
          refine OJ.nil (EJ.next ?_)
          refine CJ.ret (EJ.skR (EJ.bkR (EJ.skR (EJ.skR (EJ.bkR (EJ.skR (EJ.skR (?_))))))))
          first | (obtain rfl := Option.some.inj H; have H := K129) | (obtain ⟨q129, H2, e129⟩ := pbind H; obtain rfl := Option.some.inj e129; obtain rfl := Option.some.inj K129; have H := H2)
          obtain rfl := Option.some.inj H
          exact EJ.fin rfl (.cell rfl (ldE tU_ok tI_ok rfl rfl rfl (hS.cells (i := 0) rfl) rfl) (.tmp rfl .nil)) ⟨rfl, hS.ext⟩
        · replace H := pif_f (of_decide_eq_false hb) H
          refine CJ.skip (EJ.next ?_)
          refine CJ.region ?_
          refine OJ.pures tU_ok 1 rfl ?_
          obtain ⟨t6, ht6, H⟩ := pbind H
          refine OJ.st rfl rfl rfl (SR.idxA tU_ok tI_ok rfl rfl rfl rfl rfl (Arr.lt ht6)) ?_
          refine OJ.es rfl rfl (Es.put tI_ok hS (i := 0) rfl rfl rfl rfl rfl (vs := cb.enc true) rfl rfl (one1 rfl) (Put.idx (Put.all cb t6 true) ht6) (by (try simp only [add_lit, Nat.add_assoc, Nat.zero_add, Nat.add_zero]) <;> rfl)) ?_
          intro w1 hS
          refine OJ.nil (EJ.blk (EJ.next ?_))
          refine CJ.region ?_
          refine OJ.pures tU_ok 3 rfl ?_
          refine OJ.nil ?_
          exact EJ.round k (F' := [(0, .string a0), (2, .pointer (some ⟨b1, 0, none⟩)), (4, .int .i64 (IntKind.i64.wrap (y4 + 1)))]) ⟨rfl, rfl, rfl, trivial⟩ (Nat.lt_succ_self _) ⟨(aset y3 t5.toNat true), (IntKind.i64.wrap (y4 + 1)), rfl, hS.pick [0] [] rfl, H⟩
      · replace H := pif_f (of_decide_eq_false hb) H
        refine CJ.exit (EJ.skE (EJ.skE (EJ.hit (?_))))
        exact EJ.meet (F' := [(2, .pointer (some ⟨b1, 0, none⟩))]) ⟨rfl, trivial⟩ ⟨y3, H, rfl, hS.pick [0] [] rfl⟩
  · rintro F w1 ⟨y2, he, rfl, hS⟩
    obtain rfl := Option.some.inj he
    have H := K129
    refine EJ.next ?_
    refine CJ.seq ?_
    refine CJ.region ?_
    refine OJ.st rfl rfl rfl (SR.load rfl rfl (fun w' hx => ldE tU_ok tI_ok rfl rfl rfl (CA.ext (hS.cells (i := 0) rfl) hx) rfl)) ?_
    refine OJ.es rfl rfl (Es.put tI_ok hS (i := 0) rfl rfl rfl rfl rfl (vs := (carr 256 cb).enc y2) rfl ((carr 256 cb).len _) ((carr 256 cb).one _) (Put.all (carr 256 cb) y2 y2) (by (try simp only [add_lit, Nat.add_assoc, Nat.zero_add, Nat.add_zero]) <;> rfl)) ?_
    intro w1 hS
    refine OJ.pures tU_ok 1 rfl ?_
    refine OJ.nil (EJ.next ?_)
    refine CJ.ret (?_)
    obtain rfl := Option.some.inj H
    exact EJ.fin rfl (.cell rfl (ldE tU_ok tI_ok rfl rfl rfl (hS.cells (i := 0) rfl) rfl) (.tmp rfl .nil)) ⟨rfl, hS.ext⟩

def strings_asciiSet_contains.f (a0 : Arr 256 Bool) (a1 : Int) : Option Bool := (getI a0.l a1).bind fun t1 => some t1
theorem strings_asciiSet_contains.c (w : World) (pa0 : Addr) (a0 : Arr 256 Bool) (hp0 : CA w pa0 ((carr 256 cb).enc a0)) (a1 : Int) (r : Bool) (H : strings_asciiSet_contains.f a0 a1 = some r) :
    CV Tryz.prog 179 [.pointer (some pa0), .int .u8 a1].toArray w fun v w' => v = .bool r ∧ Ext w w' := by
  have hS := ((St.init w no).paramP pa0 ((carr 256 cb).enc a0) hp0)
  unfold strings_asciiSet_contains.f at H
  refine CV.body Tryz.func179 rfl Tryz.ntmps179 rfl ?_
  refine CJ.seq ?_
  refine CJ.region ?_
  refine OJ.pures tU_ok 1 rfl ?_
  refine OJ.nil (EJ.next ?_)
  refine CJ.seq ?_
  refine CJ.region ?_
  refine OJ.pures tU_ok 3 rfl ?_
  obtain ⟨t1, ht1, H⟩ := pbind H
  refine OJ.st rfl rfl rfl (SR.idxA tU_ok tI_ok rfl rfl rfl rfl rfl (Arr.lt ht1)) ?_
  refine OJ.st rfl rfl rfl (SR.load rfl rfl (fun w' hx => ld1 tU_ok rfl rfl (CA.ext (CA.idx (hS.ca (i := 0) rfl) ht1) hx) rfl)) ?_
  refine OJ.pures tU_ok 1 rfl ?_
  refine OJ.nil (EJ.next ?_)
  refine CJ.ret (?_)
  obtain rfl := Option.some.inj H
  exact EJ.fin rfl (.tmp rfl .nil) ⟨rfl, hS.ext⟩

def strings_trimRightASCII.l1 (a1 : Arr 256 Bool) : Nat → ByteArray → Option ByteArray
  | 0, _ => none
  | k + 1, y2 => if 0 < (y2.size : Int) then ((getB y2 (IntKind.i64.wrap ((y2.size : Int) - 1))).bind fun t3 => (strings_asciiSet_contains.f a1 t3).bind fun t4 => if (!t4) = true then (some y2) else ((chk ((0 : Int) ≤ 0 ∧ 0 ≤ (IntKind.i64.wrap ((y2.size : Int) - 1)) ∧ (IntKind.i64.wrap ((y2.size : Int) - 1)) ≤ (y2.size : Int))).bind fun u5 => strings_trimRightASCII.l1 a1 k (y2.extract 0 ((IntKind.i64.wrap ((y2.size : Int) - 1)).toNat)))) else (some y2)
def strings_trimRightASCII.f (k : Nat) (a0 : ByteArray) (a1 : Arr 256 Bool) : Option ByteArray := (strings_trimRightASCII.l1 a1 k a0).bind fun y1 => some y1
theorem strings_trimRightASCII.c (k : Nat) (w : World) (a0 : ByteArray) (pa1 : Addr) (a1 : Arr 256 Bool) (hp1 : CA w pa1 ((carr 256 cb).enc a1)) (r : ByteArray) (H : strings_trimRightASCII.f k a0 a1 = some r) :
    CV Tryz.prog 152 [.string a0, .pointer (some pa1)].toArray w fun v w' => v = .string r ∧ Ext w w' := by
  have hS := ((St.init w no).paramP pa1 ((carr 256 cb).enc a1) hp1)
  unfold strings_trimRightASCII.f at H
  refine CV.body Tryz.func152 rfl Tryz.ntmps152 rfl ?_
  refine CJ.seq ?_
  refine CJ.region ?_
  refine OJ.pures tU_ok 1 rfl ?_
  refine OJ.nil (EJ.next ?_)
  obtain ⟨j130, H, K130⟩ := pbind H
  refine CJ.cut (fun F w1 => ∃ (y1 : ByteArray) , (some y1 : Option ByteArray) = some j130 ∧ F = [(0, .string y1)] ∧ St w no w1 [] [roP pa1 ((carr 256 cb).enc a1)]) ?_ ?_
  · skip
    refine CJ.block ?_
    refine CJ.loop (fun k F w1 => ∃ (y2 : ByteArray), F = [(0, .string y2), (1, .pointer (some pa1))] ∧ St w no w1 [] [roP pa1 ((carr 256 cb).enc a1)] ∧ strings_trimRightASCII.l1 a1 k y2 = some j130) k (F' := [(0, .string a0), (1, .pointer (some pa1))]) ⟨rfl, rfl, trivial⟩ ⟨a0, rfl, hS.pick [] [0] rfl, H⟩ ?_
    rintro k F w1 ⟨y2, rfl, hS, H⟩
    cases k with
    | zero => rw [strings_trimRightASCII.l1] at H; cases H
    | succ k =>
      rw [strings_trimRightASCII.l1] at H
      refine CJ.seq ?_
      refine CJ.seq ?_
      refine CJ.region ?_
      refine OJ.pures tU_ok 3 rfl ?_
      refine OJ.nil (EJ.next ?_)
      refine CJ.cond rfl (fun hb => ?_) (fun hb => ?_)
      · replace H := pif_t (of_decide_eq_true hb) H
        refine CJ.skip (EJ.next ?_)
        refine CJ.block ?_
        refine CJ.seq ?_
        refine CJ.seq ?_
        refine CJ.region ?_
        refine OJ.pures tU_ok 5 rfl ?_
        obtain ⟨t3, ht3, H⟩ := pbind H
        refine OJ.st rfl rfl rfl (SR.idxStr tU_ok rfl rfl rfl rfl ht3) ?_
        obtain ⟨t4, ht4, H⟩ := pbind H
        refine OJ.callF rfl rfl rfl rfl rfl hb179 rfl (strings_asciiSet_contains.c _ _ a1 (hS.ca (i := 0) rfl) t3 _ ht4) ?_
        rintro _ w1 ⟨rfl, hs⟩
        replace hS := hS.grow hs
        refine OJ.pures tU_ok 1 rfl ?_
        refine OJ.nil (EJ.next ?_)
        refine CJ.cond rfl (fun hb => ?_) (fun hb => ?_)
        · replace H := pif_t hb H
          refine CJ.exit (EJ.skE (EJ.bkE rfl (EJ.skE (EJ.hit (?_)))))
          exact EJ.meet (F' := [(0, .string y2)]) ⟨rfl, trivial⟩ ⟨y2, H, rfl, hS.pick [] [0] rfl⟩
        · replace H := pifb_f hb H
          refine CJ.skip (EJ.next ?_)
          refine CJ.region ?_
          refine OJ.pures tU_ok 4 rfl ?_
          obtain ⟨u5, hu5, H⟩ := pbind H
          refine OJ.st rfl rfl rfl (SR.cutStr tU_ok (0) ((IntKind.i64.wrap ((y2.size : Int) - 1)).toNat) rfl rfl rfl rfl rfl (.inl ⟨rfl, rfl⟩) (.inr ⟨_, _, rfl, (by have := (chk_some hu5); omega), rfl⟩) (by have := (chk_some hu5); omega) (by have := (chk_some hu5); omega)) ?_
          refine OJ.pures tU_ok 1 rfl ?_
          refine OJ.nil (EJ.blk (?_))
          exact EJ.round k (F' := [(0, .string (y2.extract 0 ((IntKind.i64.wrap ((y2.size : Int) - 1)).toNat))), (1, .pointer (some pa1))]) ⟨rfl, rfl, trivial⟩ (Nat.lt_succ_self _) ⟨(y2.extract 0 ((IntKind.i64.wrap ((y2.size : Int) - 1)).toNat)), rfl, hS.pick [] [0] rfl, H⟩
      · replace H := pif_f (of_decide_eq_false hb) H
        refine CJ.exit (EJ.skE (EJ.skE (EJ.hit (?_))))
        exact EJ.meet (F' := [(0, .string y2)]) ⟨rfl, trivial⟩ ⟨y2, H, rfl, hS.pick [] [0] rfl⟩
  · rintro F w1 ⟨y1, he, rfl, hS⟩
    obtain rfl := Option.some.inj he
    have H := K130
    refine CJ.seq ?_
    refine CJ.region ?_
    refine OJ.pures tU_ok 2 rfl ?_
    refine OJ.nil (EJ.next ?_)
    refine CJ.ret (?_)
    obtain rfl := Option.some.inj H
    exact EJ.fin rfl (.tmp rfl .nil) ⟨rfl, hS.ext⟩

def strings_trimLeftASCII.l1 (a1 : Arr 256 Bool) : Nat → ByteArray → Option ByteArray
  | 0, _ => none
  | k + 1, y2 => if 0 < (y2.size : Int) then ((getB y2 0).bind fun t3 => (strings_asciiSet_contains.f a1 t3).bind fun t4 => if (!t4) = true then (some y2) else ((chk ((0 : Int) ≤ 1 ∧ 1 ≤ (y2.size : Int) ∧ (y2.size : Int) ≤ (y2.size : Int))).bind fun u5 => strings_trimLeftASCII.l1 a1 k (y2.extract ((1 : Int).toNat) y2.size))) else (some y2)
def strings_trimLeftASCII.f (k : Nat) (a0 : ByteArray) (a1 : Arr 256 Bool) : Option ByteArray := (strings_trimLeftASCII.l1 a1 k a0).bind fun y1 => some y1
theorem strings_trimLeftASCII.c (k : Nat) (w : World) (a0 : ByteArray) (pa1 : Addr) (a1 : Arr 256 Bool) (hp1 : CA w pa1 ((carr 256 cb).enc a1)) (r : ByteArray) (H : strings_trimLeftASCII.f k a0 a1 = some r) :
    CV Tryz.prog 151 [.string a0, .pointer (some pa1)].toArray w fun v w' => v = .string r ∧ Ext w w' := by
  have hS := ((St.init w no).paramP pa1 ((carr 256 cb).enc a1) hp1)
  unfold strings_trimLeftASCII.f at H
  refine CV.body Tryz.func151 rfl Tryz.ntmps151 rfl ?_
  refine CJ.seq ?_
  refine CJ.region ?_
  refine OJ.pures tU_ok 1 rfl ?_
  refine OJ.nil (EJ.next ?_)
  obtain ⟨j131, H, K131⟩ := pbind H
  refine CJ.cut (fun F w1 => ∃ (y1 : ByteArray) , (some y1 : Option ByteArray) = some j131 ∧ F = [(0, .string y1)] ∧ St w no w1 [] [roP pa1 ((carr 256 cb).enc a1)]) ?_ ?_
  · skip
    refine CJ.block ?_
    refine CJ.loop (fun k F w1 => ∃ (y2 : ByteArray), F = [(0, .string y2), (1, .pointer (some pa1))] ∧ St w no w1 [] [roP pa1 ((carr 256 cb).enc a1)] ∧ strings_trimLeftASCII.l1 a1 k y2 = some j131) k (F' := [(0, .string a0), (1, .pointer (some pa1))]) ⟨rfl, rfl, trivial⟩ ⟨a0, rfl, hS.pick [] [0] rfl, H⟩ ?_
    rintro k F w1 ⟨y2, rfl, hS, H⟩
    cases k with
    | zero => rw [strings_trimLeftASCII.l1] at H; cases H
    | succ k =>
      rw [strings_trimLeftASCII.l1] at H
      refine CJ.seq ?_
      refine CJ.seq ?_
      refine CJ.region ?_
      refine OJ.pures tU_ok 3 rfl ?_
      refine OJ.nil (EJ.next ?_)
      refine CJ.cond rfl (fun hb => ?_) (fun hb => ?_)
      · replace H := pif_t (of_decide_eq_true hb) H
        refine CJ.skip (EJ.next ?_)
        refine CJ.block ?_
        refine CJ.seq ?_
        refine CJ.seq ?_
        refine CJ.region ?_
        refine OJ.pures tU_ok 2 rfl ?_
        obtain ⟨t3, ht3, H⟩ := pbind H
        refine OJ.st rfl rfl rfl (SR.idxStr tU_ok rfl rfl rfl rfl ht3) ?_
        obtain ⟨t4, ht4, H⟩ := pbind H
        refine OJ.callF rfl rfl rfl rfl rfl hb179 rfl (strings_asciiSet_contains.c _ _ a1 (hS.ca (i := 0) rfl) t3 _ ht4) ?_
        rintro _ w1 ⟨rfl, hs⟩
        replace hS := hS.grow hs
        refine OJ.pures tU_ok 1 rfl ?_
        refine OJ.nil (EJ.next ?_)
        refine CJ.cond rfl (fun hb => ?_) (fun hb => ?_)
        · replace H := pif_t hb H
          refine CJ.exit (EJ.skE (EJ.bkE rfl (EJ.skE (EJ.hit (?_)))))
          exact EJ.meet (F' := [(0, .string y2)]) ⟨rfl, trivial⟩ ⟨y2, H, rfl, hS.pick [] [0] rfl⟩
        · replace H := pifb_f hb H
          refine CJ.skip (EJ.next ?_)
          refine CJ.region ?_
          refine OJ.pures tU_ok 1 rfl ?_
          obtain ⟨u5, hu5, H⟩ := pbind H
          refine OJ.st rfl rfl rfl (SR.cutStr tU_ok ((1 : Int).toNat) (y2.size) rfl rfl rfl rfl rfl (.inr ⟨_, _, rfl, (chk_some hu5).1, rfl⟩) (.inl ⟨rfl, rfl⟩) (by have := (chk_some hu5); omega) (by have := (chk_some hu5); omega)) ?_
          refine OJ.pures tU_ok 1 rfl ?_
          refine OJ.nil (EJ.blk (?_))
          exact EJ.round k (F' := [(0, .string (y2.extract ((1 : Int).toNat) y2.size)), (1, .pointer (some pa1))]) ⟨rfl, rfl, trivial⟩ (Nat.lt_succ_self _) ⟨(y2.extract ((1 : Int).toNat) y2.size), rfl, hS.pick [] [0] rfl, H⟩
      · replace H := pif_f (of_decide_eq_false hb) H
        refine CJ.exit (EJ.skE (EJ.skE (EJ.hit (?_))))
        exact EJ.meet (F' := [(0, .string y2)]) ⟨rfl, trivial⟩ ⟨y2, H, rfl, hS.pick [] [0] rfl⟩
  · rintro F w1 ⟨y1, he, rfl, hS⟩
    obtain rfl := Option.some.inj he
    have H := K131
    refine CJ.seq ?_
    refine CJ.region ?_
    refine OJ.pures tU_ok 2 rfl ?_
    refine OJ.nil (EJ.next ?_)
    refine CJ.ret (?_)
    obtain rfl := Option.some.inj H
    exact EJ.fin rfl (.tmp rfl .nil) ⟨rfl, hS.ext⟩

def unicode_utf8_RuneStart.f (a0 : Int) : Option Bool := some (decide ((andI .u8 a0 192) ≠ 128))
theorem unicode_utf8_RuneStart.c (w : World) (a0 : Int) (r : Bool) (H : unicode_utf8_RuneStart.f a0 = some r) :
    CV Tryz.prog 210 [.int .u8 a0].toArray w fun v w' => v = .bool r ∧ Ext w w' := by
  have hS := (St.init w no)
  unfold unicode_utf8_RuneStart.f at H
  refine CV.body Tryz.func210 rfl Tryz.ntmps210 rfl ?_
  refine CJ.seq ?_
  refine CJ.region ?_
  refine OJ.pures tU_ok 1 rfl ?_
  refine OJ.nil (EJ.next ?_)
  refine CJ.seq ?_
  refine CJ.region ?_
  refine OJ.pures tU_ok 4 rfl ?_
  refine OJ.nil (EJ.next ?_)
  refine CJ.ret (?_)
  obtain rfl := Option.some.inj H
  exact EJ.fin rfl (.tmp rfl .nil) ⟨rfl, hS.ext⟩

def unicode_utf8_decodeRuneInStringSlow.f (a0 : ByteArray) : Option (Int × Int) := if (a0.size : Int) < 1 then (some (65533, 0)) else none
theorem unicode_utf8_decodeRuneInStringSlow.c (w : World) (a0 : ByteArray) (r : Int × Int) (H : unicode_utf8_decodeRuneInStringSlow.f a0 = some r) :
    CV Tryz.prog 196 [.string a0].toArray w fun v w' => v = .tuple #[.int .i32 r.1, .int .i64 r.2] ∧ Ext w w' := by
  have hS := (St.init w no)
  unfold unicode_utf8_decodeRuneInStringSlow.f at H
  refine CV.body Tryz.func196 rfl Tryz.ntmps196 rfl ?_
  refine CJ.seq ?_
  refine CJ.region ?_
  refine OJ.pures tU_ok 2 rfl ?_
  refine OJ.nil (EJ.next ?_)
  refine CJ.seq ?_
  refine CJ.region ?_
  refine OJ.pures tU_ok 3 rfl ?_
  refine OJ.nil (EJ.next ?_)
  refine CJ.seq ?_
  refine CJ.seq ?_
  refine CJ.region ?_
  refine OJ.pures tU_ok 2 rfl ?_
  refine OJ.nil (EJ.next ?_)
  refine CJ.cond rfl (fun hb => ?_) (fun hb => ?_)
  · replace H := pif_t (of_decide_eq_true hb) H
    refine CJ.seq ?_
    refine CJ.region ?_
    refine OJ.pures tU_ok 2 rfl ?_
    refine OJ.nil (EJ.next ?_)
    refine CJ.ret (EJ.skR (?_))
    obtain rfl := Option.some.inj H
    exact EJ.fin rfl (.tmp rfl (.tmp rfl .nil)) ⟨rfl, hS.ext⟩
  · replace H := pif_f (of_decide_eq_false hb) H
    cases H

def unicode_utf8_DecodeRuneInString.f (a0 : ByteArray) : Option (Int × Int) := (if a0 ≠ ByteArray.empty then ((getB a0 0).bind fun t2 => some (decide (t2 < 128))) else (some false)).bind fun y1 => if y1 = true then ((getB a0 0).bind fun t3 => some (IntKind.i32.wrap t3, 1)) else ((unicode_utf8_decodeRuneInStringSlow.f a0).bind fun t4 => some (t4.1, t4.2))
theorem unicode_utf8_DecodeRuneInString.c (w : World) (a0 : ByteArray) (r : Int × Int) (H : unicode_utf8_DecodeRuneInString.f a0 = some r) :
    CV Tryz.prog 166 [.string a0].toArray w fun v w' => v = .tuple #[.int .i32 r.1, .int .i64 r.2] ∧ Ext w w' := by
  have hS := (St.init w no)
  unfold unicode_utf8_DecodeRuneInString.f at H
  refine CV.body Tryz.func166 rfl Tryz.ntmps166 rfl ?_
  refine CJ.seq ?_
  refine CJ.region ?_
  refine OJ.pures tU_ok 2 rfl ?_
  refine OJ.nil (EJ.next ?_)
  refine CJ.seq ?_
  obtain ⟨j134, H, K134⟩ := pbind H
  refine CJ.cut (fun F w1 => ∃ (y1 : Bool) , (some y1 : Option Bool) = some j134 ∧ F = [(0, .string a0), (10, .bool y1)] ∧ St w no w1 [] []) ?_ ?_
  · skip
    refine CJ.region ?_
    refine OJ.pures tU_ok 3 rfl ?_
    refine OJ.split (t := 6) rfl (fun hb => ?_) (fun hb => ?_)
    · replace H := pif_t (of_decide_eq_true hb) H
      refine OJ.pures tU_ok 1 rfl ?_
      obtain ⟨t2, ht2, H⟩ := pbind H
      refine OJ.st rfl rfl rfl (SR.idxStr tU_ok rfl rfl rfl rfl ht2) ?_
      refine OJ.pures tU_ok 2 rfl ?_
      refine OJ.nil ?_
      exact EJ.meet (F' := [(0, .string a0), (10, .bool (decide (t2 < 128)))]) ⟨rfl, rfl, trivial⟩ ⟨(decide (t2 < 128)), H, rfl, hS.pick [] [] rfl⟩
    · replace H := pif_f (of_decide_eq_false hb) H
      refine OJ.pures tU_ok 4 rfl ?_
      refine OJ.nil ?_
      exact EJ.meet (F' := [(0, .string a0), (10, .bool false)]) ⟨rfl, rfl, trivial⟩ ⟨false, H, rfl, hS.pick [] [] rfl⟩
  · rintro F w1 ⟨y1, he, rfl, hS⟩
    obtain rfl := Option.some.inj he
    have H := K134
    refine CJ.cond rfl (fun hb => ?_) (fun hb => ?_)
    · replace H := pif_t hb H
      refine CJ.seq ?_
      refine CJ.region ?_
      refine OJ.pures tU_ok 1 rfl ?_
      obtain ⟨t3, ht3, H⟩ := pbind H
      refine OJ.st rfl rfl rfl (SR.idxStr tU_ok rfl rfl rfl rfl ht3) ?_
      refine OJ.pures tU_ok 3 rfl ?_
      refine OJ.nil (EJ.next ?_)
      refine CJ.ret (EJ.skR (?_))
      obtain rfl := Option.some.inj H
      exact EJ.fin rfl (.tmp rfl (.tmp rfl .nil)) ⟨rfl, hS.ext⟩
    · replace H := pifb_f hb H
      refine CJ.region ?_
      refine OJ.pures tU_ok 1 rfl ?_
      obtain ⟨t4, ht4, H⟩ := pbind H
      refine OJ.callF rfl rfl rfl rfl rfl hb196 rfl (unicode_utf8_decodeRuneInStringSlow.c _ a0 _ ht4) ?_
      rintro _ w1 ⟨rfl, hs⟩
      replace hS := hS.grow hs
      refine OJ.pures tU_ok 5 rfl ?_
      refine OJ.nil (EJ.next ?_)
      refine CJ.ret (?_)
      obtain rfl := Option.some.inj H
      exact EJ.fin rfl (.tmp rfl (.tmp rfl .nil)) ⟨rfl, hS.ext⟩

def unicode_utf8_DecodeLastRuneInString.l1 (a0 : ByteArray) : Nat → Int → Option Int
  | 0, _ => none
  | k + 1, y3 => if (if (IntKind.i64.wrap ((a0.size : Int) - 4)) < 0 then 0 else (IntKind.i64.wrap ((a0.size : Int) - 4))) ≤ y3 then ((getB a0 y3).bind fun t4 => (unicode_utf8_RuneStart.f t4).bind fun t5 => if t5 = true then (some y3) else (unicode_utf8_DecodeLastRuneInString.l1 a0 k (IntKind.i64.wrap (y3 - 1)))) else (some y3)
def unicode_utf8_DecodeLastRuneInString.f (k : Nat) (a0 : ByteArray) : Option (Int × Int) := if (a0.size : Int) = 0 then (some (65533, 0)) else ((getB a0 (IntKind.i64.wrap ((a0.size : Int) - 1))).bind fun t1 => if (IntKind.i32.wrap t1) < 128 then (some (IntKind.i32.wrap t1, 1)) else ((unicode_utf8_DecodeLastRuneInString.l1 a0 k (IntKind.i64.wrap ((IntKind.i64.wrap ((a0.size : Int) - 1)) - 1))).bind fun y2 => if y2 < 0 then ((chk ((0 : Int) ≤ 0 ∧ 0 ≤ (a0.size : Int) ∧ (a0.size : Int) ≤ (a0.size : Int))).bind fun u6 => (unicode_utf8_DecodeRuneInString.f (a0.extract ((0 : Int).toNat) ((a0.size : Int).toNat))).bind fun t7 => if (IntKind.i64.wrap (0 + t7.2)) ≠ (a0.size : Int) then (some (65533, 1)) else (some (t7.1, t7.2))) else ((chk ((0 : Int) ≤ y2 ∧ y2 ≤ (a0.size : Int) ∧ (a0.size : Int) ≤ (a0.size : Int))).bind fun u8 => (unicode_utf8_DecodeRuneInString.f (a0.extract y2.toNat ((a0.size : Int).toNat))).bind fun t9 => if (IntKind.i64.wrap (y2 + t9.2)) ≠ (a0.size : Int) then (some (65533, 1)) else (some (t9.1, t9.2)))))
theorem unicode_utf8_DecodeLastRuneInString.c (k : Nat) (w : World) (a0 : ByteArray) (r : Int × Int) (H : unicode_utf8_DecodeLastRuneInString.f k a0 = some r) :
    CV Tryz.prog 181 [.string a0].toArray w fun v w' => v = .tuple #[.int .i32 r.1, .int .i64 r.2] ∧ Ext w w' := by
  have hS := (St.init w no)
  unfold unicode_utf8_DecodeLastRuneInString.f at H
  refine CV.body Tryz.func181 rfl Tryz.ntmps181 rfl ?_
  refine CJ.seq ?_
  refine CJ.region ?_
  refine OJ.pures tU_ok 2 rfl ?_
  refine OJ.nil (EJ.next ?_)
  refine CJ.seq ?_
  refine CJ.region ?_
  refine OJ.pures tU_ok 3 rfl ?_
  refine OJ.nil (EJ.next ?_)
  refine CJ.seq ?_
  refine CJ.seq ?_
  refine CJ.region ?_
  refine OJ.pures tU_ok 2 rfl ?_
  refine OJ.nil (EJ.next ?_)
  refine CJ.cond rfl (fun hb => ?_) (fun hb => ?_)
  · replace H := pif_t (of_decide_eq_true hb) H
    refine CJ.seq ?_
    refine CJ.region ?_
    refine OJ.pures tU_ok 2 rfl ?_
    refine OJ.nil (EJ.next ?_)
    refine CJ.ret (EJ.skR (?_))
    obtain rfl := Option.some.inj H
    exact EJ.fin rfl (.tmp rfl (.tmp rfl .nil)) ⟨rfl, hS.ext⟩
  · replace H := pif_f (of_decide_eq_false hb) H
    refine CJ.skip (EJ.next ?_)
    refine CJ.seq ?_
    refine CJ.region ?_
    refine OJ.pures tU_ok 3 rfl ?_
    refine OJ.nil (EJ.next ?_)
    refine CJ.seq ?_
    refine CJ.region ?_
    refine OJ.pures tU_ok 2 rfl ?_
    obtain ⟨t1, ht1, H⟩ := pbind H
    refine OJ.st rfl rfl rfl (SR.idxStr tU_ok rfl rfl rfl rfl ht1) ?_
    refine OJ.pures tU_ok 2 rfl ?_
    refine OJ.nil (EJ.next ?_)
    refine CJ.seq ?_
    refine CJ.seq ?_
    refine CJ.region ?_
    refine OJ.pures tU_ok 2 rfl ?_
    refine OJ.nil (EJ.next ?_)
    refine CJ.cond rfl (fun hb => ?_) (fun hb => ?_)
    · replace H := pif_t (of_decide_eq_true hb) H
      refine CJ.seq ?_
      refine CJ.region ?_
      refine OJ.pures tU_ok 3 rfl ?_
      refine OJ.nil (EJ.next ?_)
      refine CJ.ret (EJ.skR (?_))
      obtain rfl := Option.some.inj H
      exact EJ.fin rfl (.tmp rfl (.tmp rfl .nil)) ⟨rfl, hS.ext⟩
    · replace H := pif_f (of_decide_eq_false hb) H
      refine CJ.skip (EJ.next ?_)
      refine CJ.seq ?_
      refine CJ.region ?_
      refine OJ.pures tU_ok 4 rfl ?_
      refine OJ.nil (EJ.next ?_)
      refine CJ.seq ?_
      refine CJ.seq ?_
      refine CJ.region ?_
      refine OJ.pures tU_ok 3 rfl ?_
      refine OJ.nil (EJ.next ?_)
      obtain ⟨j133, H, K133⟩ := pbind H
      refine CJ.cut1 (fun F w1 => ∃ (y2 : Int) , (some y2 : Option Int) = some j133 ∧ F = [(0, .string a0), (4, .int .i64 (a0.size : Int)), (5, .int .i64 y2)] ∧ St w no w1 [] []) ?_ ?_
      · skip
        refine CJ.block ?_
        refine CJ.loop (fun k F w1 => ∃ (y3 : Int), F = [(0, .string a0), (4, .int .i64 (a0.size : Int)), (5, .int .i64 y3), (6, .int .i64 (if (IntKind.i64.wrap ((a0.size : Int) - 4)) < 0 then 0 else (IntKind.i64.wrap ((a0.size : Int) - 4))))] ∧ St w no w1 [] [] ∧ unicode_utf8_DecodeLastRuneInString.l1 a0 k y3 = some j133) k (F' := [(0, .string a0), (4, .int .i64 (a0.size : Int)), (5, .int .i64 (IntKind.i64.wrap ((IntKind.i64.wrap ((a0.size : Int) - 1)) - 1))), (6, .int .i64 (if (IntKind.i64.wrap ((a0.size : Int) - 4)) < 0 then 0 else (IntKind.i64.wrap ((a0.size : Int) - 4))))]) ⟨rfl, rfl, rfl, rfl, trivial⟩ ⟨(IntKind.i64.wrap ((IntKind.i64.wrap ((a0.size : Int) - 1)) - 1)), rfl, hS.pick [] [] rfl, H⟩ ?_
        rintro k F w1 ⟨y3, rfl, hS, H⟩
        cases k with
        | zero => rw [unicode_utf8_DecodeLastRuneInString.l1] at H; cases H
        | succ k =>
          rw [unicode_utf8_DecodeLastRuneInString.l1] at H
          refine CJ.seq ?_
          refine CJ.seq ?_
          refine CJ.region ?_
          refine OJ.pures tU_ok 3 rfl ?_
          refine OJ.nil (EJ.next ?_)
          refine CJ.cond rfl (fun hb => ?_) (fun hb => ?_)
          · replace H := pif_t (of_decide_eq_true hb) H
            refine CJ.skip (EJ.next ?_)
            refine CJ.seq ?_
            refine CJ.block ?_
            refine CJ.seq ?_
            refine CJ.region ?_
            refine OJ.pures tU_ok 2 rfl ?_
            obtain ⟨t4, ht4, H⟩ := pbind H
            refine OJ.st rfl rfl rfl (SR.idxStr tU_ok rfl rfl rfl rfl ht4) ?_
            obtain ⟨t5, ht5, H⟩ := pbind H
            refine OJ.callF rfl rfl rfl rfl rfl hb210 rfl (unicode_utf8_RuneStart.c _ t4 _ ht5) ?_
            rintro _ w1 ⟨rfl, hs⟩
            replace hS := hS.grow hs
            refine OJ.nil (EJ.next ?_)
            refine CJ.cond rfl (fun hb => ?_) (fun hb => ?_)
            · replace H := pif_t hb H
              refine CJ.exit (EJ.bkE rfl (EJ.skE (EJ.skE (EJ.hit (?_)))))
              exact EJ.meet (F' := [(0, .string a0), (4, .int .i64 (a0.size : Int)), (5, .int .i64 y3)]) ⟨rfl, rfl, rfl, trivial⟩ ⟨y3, H, rfl, hS.pick [] [] rfl⟩
            · replace H := pifb_f hb H
              refine CJ.skip (EJ.blk (EJ.next ?_))
              refine CJ.region ?_
              refine OJ.pures tU_ok 3 rfl ?_
              refine OJ.nil ?_
              exact EJ.round k (F' := [(0, .string a0), (4, .int .i64 (a0.size : Int)), (5, .int .i64 (IntKind.i64.wrap (y3 - 1))), (6, .int .i64 (if (IntKind.i64.wrap ((a0.size : Int) - 4)) < 0 then 0 else (IntKind.i64.wrap ((a0.size : Int) - 4))))]) ⟨rfl, rfl, rfl, rfl, trivial⟩ (Nat.lt_succ_self _) ⟨(IntKind.i64.wrap (y3 - 1)), rfl, hS.pick [] [] rfl, H⟩
          · replace H := pif_f (of_decide_eq_false hb) H
            refine CJ.exit (EJ.skE (EJ.skE (EJ.hit (?_))))
            exact EJ.meet (F' := [(0, .string a0), (4, .int .i64 (a0.size : Int)), (5, .int .i64 y3)]) ⟨rfl, rfl, rfl, trivial⟩ ⟨y3, H, rfl, hS.pick [] [] rfl⟩
      · rintro F w1 ⟨y2, he, rfl, hS⟩
        obtain rfl := Option.some.inj he
        have H := K133
        refine EJ.next ?_
        refine CJ.seq ?_
        refine CJ.seq ?_
        refine CJ.region ?_
        refine OJ.pures tU_ok 2 rfl ?_
        refine OJ.nil (EJ.next ?_)
        refine CJ.cond rfl (fun hb => ?_) (fun hb => ?_)
        · replace H := pif_t (of_decide_eq_true hb) H
          refine CJ.region ?_
          refine OJ.pures tU_ok 1 rfl ?_
          refine OJ.nil (EJ.next ?_)
          refine CJ.seq ?_
          refine CJ.region ?_
          refine OJ.pures tU_ok 3 rfl ?_
          obtain ⟨u6, hu6, H⟩ := pbind H
          refine OJ.st rfl rfl rfl (SR.cutStr tU_ok ((0 : Int).toNat) ((a0.size : Int).toNat) rfl rfl rfl rfl rfl (.inr ⟨_, _, rfl, (chk_some hu6).1, rfl⟩) (.inr ⟨_, _, rfl, (by have := (chk_some hu6); omega), rfl⟩) (by have := (chk_some hu6); omega) (by have := (chk_some hu6); omega)) ?_
          obtain ⟨t7, ht7, H⟩ := pbind H
          refine OJ.callF rfl rfl rfl rfl rfl hb166 rfl (unicode_utf8_DecodeRuneInString.c _ (a0.extract ((0 : Int).toNat) ((a0.size : Int).toNat)) _ ht7) ?_
          rintro _ w1 ⟨rfl, hs⟩
          replace hS := hS.grow hs
          refine OJ.pures tU_ok 5 rfl ?_
          refine OJ.nil (EJ.next ?_)
          refine CJ.seq ?_
          refine CJ.seq ?_
          refine CJ.region ?_
          refine OJ.pures tU_ok 5 rfl ?_
          refine OJ.nil (EJ.next ?_)
          refine CJ.cond rfl (fun hb => ?_) (fun hb => ?_)
          · replace H := pif_t (of_decide_eq_true hb) H
            refine CJ.seq ?_
            refine CJ.region ?_
            refine OJ.pures tU_ok 2 rfl ?_
            refine OJ.nil (EJ.next ?_)
            refine CJ.ret (EJ.skR (?_))
            obtain rfl := Option.some.inj H
            exact EJ.fin rfl (.tmp rfl (.tmp rfl .nil)) ⟨rfl, hS.ext⟩
          · replace H := pif_f (of_decide_eq_false hb) H
            refine CJ.skip (EJ.next ?_)
            refine CJ.seq ?_
            refine CJ.region ?_
            refine OJ.pures tU_ok 4 rfl ?_
            refine OJ.nil (EJ.next ?_)
            refine CJ.ret (?_)
            obtain rfl := Option.some.inj H
            exact EJ.fin rfl (.tmp rfl (.tmp rfl .nil)) ⟨rfl, hS.ext⟩
        · replace H := pif_f (of_decide_eq_false hb) H
          refine CJ.skip (EJ.next ?_)
          refine CJ.seq ?_
          refine CJ.region ?_
          refine OJ.pures tU_ok 3 rfl ?_
          obtain ⟨u8, hu8, H⟩ := pbind H
          refine OJ.st rfl rfl rfl (SR.cutStr tU_ok (y2.toNat) ((a0.size : Int).toNat) rfl rfl rfl rfl rfl (.inr ⟨_, _, rfl, (chk_some hu8).1, rfl⟩) (.inr ⟨_, _, rfl, (by have := (chk_some hu8); omega), rfl⟩) (by have := (chk_some hu8); omega) (by have := (chk_some hu8); omega)) ?_
          obtain ⟨t9, ht9, H⟩ := pbind H
          refine OJ.callF rfl rfl rfl rfl rfl hb166 rfl (unicode_utf8_DecodeRuneInString.c _ (a0.extract y2.toNat ((a0.size : Int).toNat)) _ ht9) ?_
          rintro _ w1 ⟨rfl, hs⟩
          replace hS := hS.grow hs
          refine OJ.pures tU_ok 5 rfl ?_
          refine OJ.nil (EJ.next ?_)
          refine CJ.seq ?_
          refine CJ.seq ?_
          refine CJ.region ?_
          refine OJ.pures tU_ok 5 rfl ?_
          refine OJ.nil (EJ.next ?_)
          refine CJ.cond rfl (fun hb => ?_) (fun hb => ?_)
          · replace H := pif_t (of_decide_eq_true hb) H
            refine CJ.seq ?_
            refine CJ.region ?_
            refine OJ.pures tU_ok 2 rfl ?_
            refine OJ.nil (EJ.next ?_)
            refine CJ.ret (EJ.skR (?_))
            obtain rfl := Option.some.inj H
            exact EJ.fin rfl (.tmp rfl (.tmp rfl .nil)) ⟨rfl, hS.ext⟩
          · replace H := pif_f (of_decide_eq_false hb) H
            refine CJ.skip (EJ.next ?_)
            refine CJ.seq ?_
            refine CJ.region ?_
            refine OJ.pures tU_ok 4 rfl ?_
            refine OJ.nil (EJ.next ?_)
            refine CJ.ret (?_)
            obtain rfl := Option.some.inj H
            exact EJ.fin rfl (.tmp rfl (.tmp rfl .nil)) ⟨rfl, hS.ext⟩

def unicode_utf8_ValidRune.f (a0 : Int) : Option Bool := (if 0 ≤ a0 then (some (decide (a0 < 55296))) else (some false)).bind fun y1 => if y1 = true then (some true) else (if 57343 < a0 then (if a0 ≤ 1114111 then (some true) else (some false)) else (some false))
theorem unicode_utf8_ValidRune.c (w : World) (a0 : Int) (r : Bool) (H : unicode_utf8_ValidRune.f a0 = some r) :
    CV Tryz.prog 224 [.int .i32 a0].toArray w fun v w' => v = .bool r ∧ Ext w w' := by
  have hS := (St.init w no)
  unfold unicode_utf8_ValidRune.f at H
  refine CV.body Tryz.func224 rfl Tryz.ntmps224 rfl ?_
  refine CJ.seq ?_
  refine CJ.region ?_
  refine OJ.pures tU_ok 1 rfl ?_
  refine OJ.nil (EJ.next ?_)
  refine CJ.seq ?_
  refine CJ.block ?_
  obtain ⟨j136, H, K136⟩ := pbind H
  refine CJ.cut (fun F w1 => ∃ (y1 : Bool) , (some y1 : Option Bool) = some j136 ∧ F = [(0, .int .i32 a0), (3, .bool y1)] ∧ St w no w1 [] []) ?_ ?_
  · skip
    refine CJ.region ?_
    refine OJ.pures tU_ok 3 rfl ?_
    refine OJ.split (t := 6) rfl (fun hb => ?_) (fun hb => ?_)
    · replace H := pif_t (of_decide_eq_true hb) H
      refine OJ.pures tU_ok 4 rfl ?_
      refine OJ.nil ?_
      exact EJ.meet (F' := [(0, .int .i32 a0), (3, .bool (decide (a0 < 55296)))]) ⟨rfl, rfl, trivial⟩ ⟨(decide (a0 < 55296)), H, rfl, hS.pick [] [] rfl⟩
    · replace H := pif_f (of_decide_eq_false hb) H
      refine OJ.pures tU_ok 4 rfl ?_
      refine OJ.nil ?_
      exact EJ.meet (F' := [(0, .int .i32 a0), (3, .bool false)]) ⟨rfl, rfl, trivial⟩ ⟨false, H, rfl, hS.pick [] [] rfl⟩
  · rintro F w1 ⟨y1, he, rfl, hS⟩
    obtain rfl := Option.some.inj he
    have H := K136
    refine CJ.cond rfl (fun hb => ?_) (fun hb => ?_)
    · replace H := pif_t hb H
      refine CJ.seq ?_
      refine CJ.region ?_
      refine OJ.pures tU_ok 1 rfl ?_
      refine OJ.nil (EJ.next ?_)
      refine CJ.ret (EJ.bkR (EJ.skR (?_)))
      obtain rfl := Option.some.inj H
      exact EJ.fin rfl (.tmp rfl .nil) ⟨rfl, hS.ext⟩
    · replace H := pifb_f hb H
      refine CJ.seq ?_
      refine CJ.region ?_
      refine OJ.pures tU_ok 3 rfl ?_
      refine OJ.split (t := 13) rfl (fun hb => ?_) (fun hb => ?_)
      · replace H := pif_t (of_decide_eq_true hb) H
        refine OJ.pures tU_ok 4 rfl ?_
        refine OJ.nil (EJ.next ?_)
        refine CJ.cond rfl (fun hb => ?_) (fun hb => ?_)
        · replace H := pif_t (of_decide_eq_true hb) H
          refine CJ.seq ?_
          refine CJ.region ?_
          refine OJ.pures tU_ok 1 rfl ?_
          refine OJ.nil (EJ.next ?_)
          refine CJ.ret (EJ.bkR (EJ.skR (?_)))
          obtain rfl := Option.some.inj H
          exact EJ.fin rfl (.tmp rfl .nil) ⟨rfl, hS.ext⟩
        · replace H := pif_f (of_decide_eq_false hb) H
          refine CJ.skip (EJ.blk (EJ.next ?_))
          refine CJ.seq ?_
          refine CJ.region ?_
          refine OJ.pures tU_ok 1 rfl ?_
          refine OJ.nil (EJ.next ?_)
          refine CJ.ret (?_)
          obtain rfl := Option.some.inj H
          exact EJ.fin rfl (.tmp rfl .nil) ⟨rfl, hS.ext⟩
      · replace H := pif_f (of_decide_eq_false hb) H
        refine OJ.pures tU_ok 4 rfl ?_
        refine OJ.nil (EJ.next ?_)
        refine CJ.condF rfl ?_
        refine CJ.skip (EJ.blk (EJ.next ?_))
        refine CJ.seq ?_
        refine CJ.region ?_
        refine OJ.pures tU_ok 1 rfl ?_
        refine OJ.nil (EJ.next ?_)
        refine CJ.ret (?_)
        obtain rfl := Option.some.inj H
        exact EJ.fin rfl (.tmp rfl .nil) ⟨rfl, hS.ext⟩

def strings_IndexRune.f (a0 : ByteArray) (a1 : Int) : Option Int := (if 0 ≤ a1 then (some (decide (a1 < 128))) else (some false)).bind fun y1 => if y1 = true then none else (if a1 = 65533 then none else ((unicode_utf8_ValidRune.f a1).bind fun t2 => if (!t2) = true then (some (-1)) else none))
theorem strings_IndexRune.c (w : World) (a0 : ByteArray) (a1 : Int) (r : Int) (H : strings_IndexRune.f a0 a1 = some r) :
    CV Tryz.prog 209 [.string a0, .int .i32 a1].toArray w fun v w' => v = .int .i64 r ∧ Ext w w' := by
  have hS := (St.init w no)
  unfold strings_IndexRune.f at H
  refine CV.body Tryz.func209 rfl Tryz.ntmps209 rfl ?_
  refine CJ.seq ?_
  refine CJ.region ?_
  refine OJ.pures tU_ok 1 rfl ?_
  refine OJ.nil (EJ.next ?_)
  refine CJ.block ?_
  obtain ⟨j135, H, K135⟩ := pbind H
  refine CJ.cut (fun F w1 => ∃ (y1 : Bool) , (some y1 : Option Bool) = some j135 ∧ F = [(0, .string a0), (1, .int .i32 a1), (160, .bool y1)] ∧ St w no w1 [] []) ?_ ?_
  · skip
    refine CJ.region ?_
    refine OJ.pures tU_ok 3 rfl ?_
    refine OJ.split (t := 163) rfl (fun hb => ?_) (fun hb => ?_)
    · replace H := pif_t (of_decide_eq_true hb) H
      refine OJ.pures tU_ok 4 rfl ?_
      refine OJ.nil ?_
      exact EJ.meet (F' := [(0, .string a0), (1, .int .i32 a1), (160, .bool (decide (a1 < 128)))]) ⟨rfl, rfl, rfl, trivial⟩ ⟨(decide (a1 < 128)), H, rfl, hS.pick [] [] rfl⟩
    · replace H := pif_f (of_decide_eq_false hb) H
      refine OJ.pures tU_ok 4 rfl ?_
      refine OJ.nil ?_
      exact EJ.meet (F' := [(0, .string a0), (1, .int .i32 a1), (160, .bool false)]) ⟨rfl, rfl, rfl, trivial⟩ ⟨false, H, rfl, hS.pick [] [] rfl⟩
  · rintro F w1 ⟨y1, he, rfl, hS⟩
    obtain rfl := Option.some.inj he
    have H := K135
    refine CJ.cond rfl (fun hb => ?_) (fun hb => ?_)
    · replace H := pif_t hb H
      cases H
    · replace H := pifb_f hb H
      refine CJ.seq ?_
      refine CJ.region ?_
      refine OJ.pures tU_ok 3 rfl ?_
      refine OJ.nil (EJ.next ?_)
      refine CJ.cond rfl (fun hb => ?_) (fun hb => ?_)
      · replace H := pif_t (of_decide_eq_true hb) H
        cases H
      · replace H := pif_f (of_decide_eq_false hb) H
        refine CJ.seq ?_
        refine CJ.region ?_
        refine OJ.pures tU_ok 1 rfl ?_
        obtain ⟨t2, ht2, H⟩ := pbind H
        refine OJ.callF rfl rfl rfl rfl rfl hb224 rfl (unicode_utf8_ValidRune.c _ a1 _ ht2) ?_
        rintro _ w1 ⟨rfl, hs⟩
        replace hS := hS.grow hs
        refine OJ.pures tU_ok 2 rfl ?_
        refine OJ.nil (EJ.next ?_)
        refine CJ.cond rfl (fun hb => ?_) (fun hb => ?_)
        · replace H := pif_t hb H
          refine CJ.seq ?_
          refine CJ.region ?_
          refine OJ.pures tU_ok 1 rfl ?_
          refine OJ.nil (EJ.next ?_)
          refine CJ.ret (EJ.bkR (?_))
          obtain rfl := Option.some.inj H
          exact EJ.fin rfl (.tmp rfl .nil) ⟨rfl, hS.ext⟩
        · replace H := pifb_f hb H
          cases H

def strings_ContainsRune.f (a0 : ByteArray) (a1 : Int) : Option Bool := (strings_IndexRune.f a0 a1).bind fun t1 => some (decide (0 ≤ t1))
theorem strings_ContainsRune.c (w : World) (a0 : ByteArray) (a1 : Int) (r : Bool) (H : strings_ContainsRune.f a0 a1 = some r) :
    CV Tryz.prog 180 [.string a0, .int .i32 a1].toArray w fun v w' => v = .bool r ∧ Ext w w' := by
  have hS := (St.init w no)
  unfold strings_ContainsRune.f at H
  refine CV.body Tryz.func180 rfl Tryz.ntmps180 rfl ?_
  refine CJ.seq ?_
  refine CJ.region ?_
  refine OJ.pures tU_ok 1 rfl ?_
  refine OJ.nil (EJ.next ?_)
  refine CJ.seq ?_
  refine CJ.region ?_
  refine OJ.pures tU_ok 2 rfl ?_
  obtain ⟨t1, ht1, H⟩ := pbind H
  refine OJ.callF rfl rfl rfl rfl rfl hb209 rfl (strings_IndexRune.c _ a0 a1 _ ht1) ?_
  rintro _ w1 ⟨rfl, hs⟩
  replace hS := hS.grow hs
  refine OJ.pures tU_ok 2 rfl ?_
  refine OJ.nil (EJ.next ?_)
  refine CJ.ret (?_)
  obtain rfl := Option.some.inj H
  exact EJ.fin rfl (.tmp rfl .nil) ⟨rfl, hS.ext⟩

def strings_trimRightUnicode.l1 (a1 : ByteArray) : Nat → ByteArray → Option ByteArray
  | 0, _ => none
  | k + 1, y2 => if 0 < (y2.size : Int) then ((getB y2 (IntKind.i64.wrap ((y2.size : Int) - 1))).bind fun t3 => if 128 ≤ (IntKind.i32.wrap t3) then ((unicode_utf8_DecodeLastRuneInString.f k y2).bind fun t4 => (strings_ContainsRune.f a1 t4.1).bind fun t5 => if (!t5) = true then (some y2) else ((chk ((0 : Int) ≤ 0 ∧ 0 ≤ (IntKind.i64.wrap ((y2.size : Int) - t4.2)) ∧ (IntKind.i64.wrap ((y2.size : Int) - t4.2)) ≤ (y2.size : Int))).bind fun u6 => strings_trimRightUnicode.l1 a1 k (y2.extract 0 ((IntKind.i64.wrap ((y2.size : Int) - t4.2)).toNat)))) else ((strings_ContainsRune.f a1 (IntKind.i32.wrap t3)).bind fun t7 => if (!t7) = true then (some y2) else ((chk ((0 : Int) ≤ 0 ∧ 0 ≤ (IntKind.i64.wrap ((y2.size : Int) - 1)) ∧ (IntKind.i64.wrap ((y2.size : Int) - 1)) ≤ (y2.size : Int))).bind fun u8 => strings_trimRightUnicode.l1 a1 k (y2.extract 0 ((IntKind.i64.wrap ((y2.size : Int) - 1)).toNat))))) else (some y2)
def strings_trimRightUnicode.f (k : Nat) (a0 : ByteArray) (a1 : ByteArray) : Option ByteArray := (strings_trimRightUnicode.l1 a1 k a0).bind fun y1 => some y1
theorem strings_trimRightUnicode.c (k : Nat) (w : World) (a0 : ByteArray) (a1 : ByteArray) (r : ByteArray) (H : strings_trimRightUnicode.f k a0 a1 = some r) :
    CV Tryz.prog 154 [.string a0, .string a1].toArray w fun v w' => v = .string r ∧ Ext w w' := by
  have hS := (St.init w no)
  unfold strings_trimRightUnicode.f at H
  refine CV.body Tryz.func154 rfl Tryz.ntmps154 rfl ?_
  refine CJ.seq ?_
  refine CJ.region ?_
  refine OJ.pures tU_ok 1 rfl ?_
  refine OJ.nil (EJ.next ?_)
  obtain ⟨j132, H, K132⟩ := pbind H
  refine CJ.cut (fun F w1 => ∃ (y1 : ByteArray) , (some y1 : Option ByteArray) = some j132 ∧ F = [(0, .string y1)] ∧ St w no w1 [] []) ?_ ?_
  · skip
    refine CJ.block ?_
    refine CJ.loop (fun k F w1 => ∃ (y2 : ByteArray), F = [(0, .string y2), (1, .string a1)] ∧ St w no w1 [] [] ∧ strings_trimRightUnicode.l1 a1 k y2 = some j132) k (F' := [(0, .string a0), (1, .string a1)]) ⟨rfl, rfl, trivial⟩ ⟨a0, rfl, hS.pick [] [] rfl, H⟩ ?_
    rintro k F w1 ⟨y2, rfl, hS, H⟩
    cases k with
    | zero => rw [strings_trimRightUnicode.l1] at H; cases H
    | succ k =>
      rw [strings_trimRightUnicode.l1] at H
      refine CJ.seq ?_
      refine CJ.seq ?_
      refine CJ.region ?_
      refine OJ.pures tU_ok 3 rfl ?_
      refine OJ.nil (EJ.next ?_)
      refine CJ.cond rfl (fun hb => ?_) (fun hb => ?_)
      · replace H := pif_t (of_decide_eq_true hb) H
        refine CJ.skip (EJ.next ?_)
        refine CJ.block ?_
        refine CJ.seq ?_
        refine CJ.region ?_
        refine OJ.pures tU_ok 4 rfl ?_
        obtain ⟨t3, ht3, H⟩ := pbind H
        refine OJ.st rfl rfl rfl (SR.idxStr tU_ok rfl rfl rfl rfl ht3) ?_
        refine OJ.pures tU_ok 3 rfl ?_
        refine OJ.nil (EJ.next ?_)
        refine CJ.seq ?_
        refine CJ.seq ?_
        refine CJ.region ?_
        refine OJ.pures tU_ok 2 rfl ?_
        refine OJ.nil (EJ.next ?_)
        refine CJ.cond rfl (fun hb => ?_) (fun hb => ?_)
        · replace H := pif_t (of_decide_eq_true hb) H
          refine CJ.region ?_
          refine OJ.pures tU_ok 1 rfl ?_
          obtain ⟨t4, ht4, H⟩ := pbind H
          refine OJ.callF rfl rfl rfl rfl rfl hb181 rfl (unicode_utf8_DecodeLastRuneInString.c k _ y2 _ ht4) ?_
          rintro _ w1 ⟨rfl, hs⟩
          replace hS := hS.grow hs
          refine OJ.pures tU_ok 5 rfl ?_
          refine OJ.nil (EJ.next ?_)
          refine CJ.seq ?_
          refine CJ.seq ?_
          refine CJ.region ?_
          refine OJ.pures tU_ok 2 rfl ?_
          obtain ⟨t5, ht5, H⟩ := pbind H
          refine OJ.callF rfl rfl rfl rfl rfl hb180 rfl (strings_ContainsRune.c _ a1 t4.1 _ ht5) ?_
          rintro _ w1 ⟨rfl, hs⟩
          replace hS := hS.grow hs
          refine OJ.pures tU_ok 1 rfl ?_
          refine OJ.nil (EJ.next ?_)
          refine CJ.cond rfl (fun hb => ?_) (fun hb => ?_)
          · replace H := pif_t hb H
            refine CJ.exit (EJ.skE (EJ.bkE rfl (EJ.skE (EJ.hit (?_)))))
            exact EJ.meet (F' := [(0, .string y2)]) ⟨rfl, trivial⟩ ⟨y2, H, rfl, hS.pick [] [] rfl⟩
          · replace H := pifb_f hb H
            refine CJ.skip (EJ.next ?_)
            refine CJ.region ?_
            refine OJ.pures tU_ok 5 rfl ?_
            obtain ⟨u6, hu6, H⟩ := pbind H
            refine OJ.st rfl rfl rfl (SR.cutStr tU_ok (0) ((IntKind.i64.wrap ((y2.size : Int) - t4.2)).toNat) rfl rfl rfl rfl rfl (.inl ⟨rfl, rfl⟩) (.inr ⟨_, _, rfl, (by have := (chk_some hu6); omega), rfl⟩) (by have := (chk_some hu6); omega) (by have := (chk_some hu6); omega)) ?_
            refine OJ.pures tU_ok 1 rfl ?_
            refine OJ.nil (EJ.blk (?_))
            exact EJ.round k (F' := [(0, .string (y2.extract 0 ((IntKind.i64.wrap ((y2.size : Int) - t4.2)).toNat))), (1, .string a1)]) ⟨rfl, rfl, trivial⟩ (Nat.lt_succ_self _) ⟨(y2.extract 0 ((IntKind.i64.wrap ((y2.size : Int) - t4.2)).toNat)), rfl, hS.pick [] [] rfl, H⟩
        · replace H := pif_f (of_decide_eq_false hb) H
          refine CJ.skip (EJ.next ?_)
          refine CJ.seq ?_
          refine CJ.seq ?_
          refine CJ.region ?_
          refine OJ.pures tU_ok 2 rfl ?_
          obtain ⟨t7, ht7, H⟩ := pbind H
          refine OJ.callF rfl rfl rfl rfl rfl hb180 rfl (strings_ContainsRune.c _ a1 (IntKind.i32.wrap t3) _ ht7) ?_
          rintro _ w1 ⟨rfl, hs⟩
          replace hS := hS.grow hs
          refine OJ.pures tU_ok 1 rfl ?_
          refine OJ.nil (EJ.next ?_)
          refine CJ.cond rfl (fun hb => ?_) (fun hb => ?_)
          · replace H := pif_t hb H
            refine CJ.exit (EJ.skE (EJ.bkE rfl (EJ.skE (EJ.hit (?_)))))
            exact EJ.meet (F' := [(0, .string y2)]) ⟨rfl, trivial⟩ ⟨y2, H, rfl, hS.pick [] [] rfl⟩
          · replace H := pifb_f hb H
            refine CJ.skip (EJ.next ?_)
            refine CJ.region ?_
            refine OJ.pures tU_ok 5 rfl ?_
            obtain ⟨u8, hu8, H⟩ := pbind H
            refine OJ.st rfl rfl rfl (SR.cutStr tU_ok (0) ((IntKind.i64.wrap ((y2.size : Int) - 1)).toNat) rfl rfl rfl rfl rfl (.inl ⟨rfl, rfl⟩) (.inr ⟨_, _, rfl, (by have := (chk_some hu8); omega), rfl⟩) (by have := (chk_some hu8); omega) (by have := (chk_some hu8); omega)) ?_
            refine OJ.pures tU_ok 1 rfl ?_
            refine OJ.nil (EJ.blk (?_))
            exact EJ.round k (F' := [(0, .string (y2.extract 0 ((IntKind.i64.wrap ((y2.size : Int) - 1)).toNat))), (1, .string a1)]) ⟨rfl, rfl, trivial⟩ (Nat.lt_succ_self _) ⟨(y2.extract 0 ((IntKind.i64.wrap ((y2.size : Int) - 1)).toNat)), rfl, hS.pick [] [] rfl, H⟩
      · replace H := pif_f (of_decide_eq_false hb) H
        refine CJ.exit (EJ.skE (EJ.skE (EJ.hit (?_))))
        exact EJ.meet (F' := [(0, .string y2)]) ⟨rfl, trivial⟩ ⟨y2, H, rfl, hS.pick [] [] rfl⟩
  · rintro F w1 ⟨y1, he, rfl, hS⟩
    obtain rfl := Option.some.inj he
    have H := K132
    refine CJ.seq ?_
    refine CJ.region ?_
    refine OJ.pures tU_ok 2 rfl ?_
    refine OJ.nil (EJ.next ?_)
    refine CJ.ret (?_)
    obtain rfl := Option.some.inj H
    exact EJ.fin rfl (.tmp rfl .nil) ⟨rfl, hS.ext⟩

def strings_trimLeftUnicode.l1 (a1 : ByteArray) : Nat → ByteArray → Option ByteArray
  | 0, _ => none
  | k + 1, y2 => if 0 < (y2.size : Int) then ((unicode_utf8_DecodeRuneInString.f y2).bind fun t3 => (strings_ContainsRune.f a1 t3.1).bind fun t4 => if (!t4) = true then (some y2) else ((chk ((0 : Int) ≤ t3.2 ∧ t3.2 ≤ (y2.size : Int) ∧ (y2.size : Int) ≤ (y2.size : Int))).bind fun u5 => strings_trimLeftUnicode.l1 a1 k (y2.extract t3.2.toNat y2.size))) else (some y2)
def strings_trimLeftUnicode.f (k : Nat) (a0 : ByteArray) (a1 : ByteArray) : Option ByteArray := (strings_trimLeftUnicode.l1 a1 k a0).bind fun y1 => some y1
theorem strings_trimLeftUnicode.c (k : Nat) (w : World) (a0 : ByteArray) (a1 : ByteArray) (r : ByteArray) (H : strings_trimLeftUnicode.f k a0 a1 = some r) :
    CV Tryz.prog 153 [.string a0, .string a1].toArray w fun v w' => v = .string r ∧ Ext w w' := by
  have hS := (St.init w no)
  unfold strings_trimLeftUnicode.f at H
  refine CV.body Tryz.func153 rfl Tryz.ntmps153 rfl ?_
  refine CJ.seq ?_
  refine CJ.region ?_
  refine OJ.pures tU_ok 1 rfl ?_
  refine OJ.nil (EJ.next ?_)
  obtain ⟨j137, H, K137⟩ := pbind H
  refine CJ.cut (fun F w1 => ∃ (y1 : ByteArray) , (some y1 : Option ByteArray) = some j137 ∧ F = [(0, .string y1)] ∧ St w no w1 [] []) ?_ ?_
  · skip
    refine CJ.block ?_
    refine CJ.loop (fun k F w1 => ∃ (y2 : ByteArray), F = [(0, .string y2), (1, .string a1)] ∧ St w no w1 [] [] ∧ strings_trimLeftUnicode.l1 a1 k y2 = some j137) k (F' := [(0, .string a0), (1, .string a1)]) ⟨rfl, rfl, trivial⟩ ⟨a0, rfl, hS.pick [] [] rfl, H⟩ ?_
    rintro k F w1 ⟨y2, rfl, hS, H⟩
    cases k with
    | zero => rw [strings_trimLeftUnicode.l1] at H; cases H
    | succ k =>
      rw [strings_trimLeftUnicode.l1] at H
      refine CJ.seq ?_
      refine CJ.seq ?_
      refine CJ.region ?_
      refine OJ.pures tU_ok 3 rfl ?_
      refine OJ.nil (EJ.next ?_)
      refine CJ.cond rfl (fun hb => ?_) (fun hb => ?_)
      · replace H := pif_t (of_decide_eq_true hb) H
        refine CJ.skip (EJ.next ?_)
        refine CJ.block ?_
        refine CJ.seq ?_
        refine CJ.region ?_
        refine OJ.pures tU_ok 1 rfl ?_
        obtain ⟨t3, ht3, H⟩ := pbind H
        refine OJ.callF rfl rfl rfl rfl rfl hb166 rfl (unicode_utf8_DecodeRuneInString.c _ y2 _ ht3) ?_
        rintro _ w1 ⟨rfl, hs⟩
        replace hS := hS.grow hs
        refine OJ.pures tU_ok 5 rfl ?_
        refine OJ.nil (EJ.next ?_)
        refine CJ.seq ?_
        refine CJ.seq ?_
        refine CJ.region ?_
        refine OJ.pures tU_ok 2 rfl ?_
        obtain ⟨t4, ht4, H⟩ := pbind H
        refine OJ.callF rfl rfl rfl rfl rfl hb180 rfl (strings_ContainsRune.c _ a1 t3.1 _ ht4) ?_
        rintro _ w1 ⟨rfl, hs⟩
        replace hS := hS.grow hs
        refine OJ.pures tU_ok 1 rfl ?_
        refine OJ.nil (EJ.next ?_)
        refine CJ.cond rfl (fun hb => ?_) (fun hb => ?_)
        · replace H := pif_t hb H
          refine CJ.exit (EJ.skE (EJ.bkE rfl (EJ.skE (EJ.hit (?_)))))
          exact EJ.meet (F' := [(0, .string y2)]) ⟨rfl, trivial⟩ ⟨y2, H, rfl, hS.pick [] [] rfl⟩
        · replace H := pifb_f hb H
          refine CJ.skip (EJ.next ?_)
          refine CJ.region ?_
          refine OJ.pures tU_ok 2 rfl ?_
          obtain ⟨u5, hu5, H⟩ := pbind H
          refine OJ.st rfl rfl rfl (SR.cutStr tU_ok (t3.2.toNat) (y2.size) rfl rfl rfl rfl rfl (.inr ⟨_, _, rfl, (chk_some hu5).1, rfl⟩) (.inl ⟨rfl, rfl⟩) (by have := (chk_some hu5); omega) (by have := (chk_some hu5); omega)) ?_
          refine OJ.pures tU_ok 1 rfl ?_
          refine OJ.nil (EJ.blk (?_))
          exact EJ.round k (F' := [(0, .string (y2.extract t3.2.toNat y2.size)), (1, .string a1)]) ⟨rfl, rfl, trivial⟩ (Nat.lt_succ_self _) ⟨(y2.extract t3.2.toNat y2.size), rfl, hS.pick [] [] rfl, H⟩
      · replace H := pif_f (of_decide_eq_false hb) H
        refine CJ.exit (EJ.skE (EJ.skE (EJ.hit (?_))))
        exact EJ.meet (F' := [(0, .string y2)]) ⟨rfl, trivial⟩ ⟨y2, H, rfl, hS.pick [] [] rfl⟩
  · rintro F w1 ⟨y1, he, rfl, hS⟩
    obtain rfl := Option.some.inj he
    have H := K137
    refine CJ.seq ?_
    refine CJ.region ?_
    refine OJ.pures tU_ok 2 rfl ?_
    refine OJ.nil (EJ.next ?_)
    refine CJ.ret (?_)
    obtain rfl := Option.some.inj H
    exact EJ.fin rfl (.tmp rfl .nil) ⟨rfl, hS.ext⟩

def strings_Trim.f (k : Nat) (a0 : ByteArray) (a1 : ByteArray) : Option ByteArray := (if a0 = ByteArray.empty then (some true) else (some (decide (a1 = ByteArray.empty)))).bind fun y1 => if y1 = true then (some a0) else ((if (a1.size : Int) = 1 then ((getB a1 0).bind fun t3 => some (decide (t3 < 128))) else (some false)).bind fun y2 => if y2 = true then ((getB a1 0).bind fun t4 => (getB a1 0).bind fun t5 => (strings_trimRightByte.f k a0 t4).bind fun t6 => (strings_trimLeftByte.f k t6 t5).bind fun t7 => some t7) else ((strings_makeASCIISet.f k a1).bind fun t8 => if t8.2 = true then ((strings_trimRightASCII.f k a0 t8.1).bind fun t10 => (strings_trimLeftASCII.f k t10 t8.1).bind fun t11 => some t11) else ((strings_trimRightUnicode.f k a0 a1).bind fun t12 => (strings_trimLeftUnicode.f k t12 a1).bind fun t13 => some t13)))
theorem strings_Trim.c (k : Nat) (w : World) (a0 : ByteArray) (a1 : ByteArray) (r : ByteArray) (H : strings_Trim.f k a0 a1 = some r) :
    CV Tryz.prog 108 [.string a0, .string a1].toArray w fun v w' => v = .string r ∧ Ext w w' := by
  have hS := (St.init w no)
  unfold strings_Trim.f at H
  refine CV.body Tryz.func108 rfl Tryz.ntmps108 rfl ?_
  refine CJ.seq ?_
  refine CJ.region ?_
  refine OJ.pures tU_ok 1 rfl ?_
  refine OJ.nil (EJ.next ?_)
  refine CJ.seq ?_
  obtain ⟨j125, H, K125⟩ := pbind H
  refine CJ.cut (fun F w1 => ∃ (y1 : Bool) , (some y1 : Option Bool) = some j125 ∧ F = [(0, .string a0), (1, .string a1), (12, .bool y1)] ∧ St w no w1 [] []) ?_ ?_
  · skip
    refine CJ.region ?_
    refine OJ.pures tU_ok 3 rfl ?_
    refine OJ.split (t := 9) rfl (fun hb => ?_) (fun hb => ?_)
    · replace H := pif_t (of_decide_eq_true hb) H
      refine OJ.pures tU_ok 3 rfl ?_
      refine OJ.nil ?_
      exact EJ.meet (F' := [(0, .string a0), (1, .string a1), (12, .bool true)]) ⟨rfl, rfl, rfl, trivial⟩ ⟨true, H, rfl, hS.pick [] [] rfl⟩
    · replace H := pif_f (of_decide_eq_false hb) H
      refine OJ.pures tU_ok 3 rfl ?_
      refine OJ.nil ?_
      exact EJ.meet (F' := [(0, .string a0), (1, .string a1), (12, .bool (decide (a1 = ByteArray.empty)))]) ⟨rfl, rfl, rfl, trivial⟩ ⟨(decide (a1 = ByteArray.empty)), H, rfl, hS.pick [] [] rfl⟩
  · rintro F w1 ⟨y1, he, rfl, hS⟩
    obtain rfl := Option.some.inj he
    have H := K125
    refine CJ.cond rfl (fun hb => ?_) (fun hb => ?_)
    · replace H := pif_t hb H
      refine CJ.seq ?_
      refine CJ.region ?_
      refine OJ.pures tU_ok 2 rfl ?_
      refine OJ.nil (EJ.next ?_)
      refine CJ.ret (EJ.skR (?_))
      obtain rfl := Option.some.inj H
      exact EJ.fin rfl (.tmp rfl .nil) ⟨rfl, hS.ext⟩
    · replace H := pifb_f hb H
      refine CJ.skip (EJ.next ?_)
      refine CJ.seq ?_
      obtain ⟨j126, H, K126⟩ := pbind H
      refine CJ.cut (fun F w1 => ∃ (y2 : Bool) , (some y2 : Option Bool) = some j126 ∧ F = [(0, .string a0), (1, .string a1), (21, .bool y2)] ∧ St w no w1 [] []) ?_ ?_
      · skip
        refine CJ.region ?_
        refine OJ.pures tU_ok 4 rfl ?_
        refine OJ.split (t := 17) rfl (fun hb => ?_) (fun hb => ?_)
        · replace H := pif_t (of_decide_eq_true hb) H
          refine OJ.pures tU_ok 1 rfl ?_
          obtain ⟨t3, ht3, H⟩ := pbind H
          refine OJ.st rfl rfl rfl (SR.idxStr tU_ok rfl rfl rfl rfl ht3) ?_
          refine OJ.pures tU_ok 2 rfl ?_
          refine OJ.nil ?_
          exact EJ.meet (F' := [(0, .string a0), (1, .string a1), (21, .bool (decide (t3 < 128)))]) ⟨rfl, rfl, rfl, trivial⟩ ⟨(decide (t3 < 128)), H, rfl, hS.pick [] [] rfl⟩
        · replace H := pif_f (of_decide_eq_false hb) H
          refine OJ.pures tU_ok 4 rfl ?_
          refine OJ.nil ?_
          exact EJ.meet (F' := [(0, .string a0), (1, .string a1), (21, .bool false)]) ⟨rfl, rfl, rfl, trivial⟩ ⟨false, H, rfl, hS.pick [] [] rfl⟩
      · rintro F w1 ⟨y2, he, rfl, hS⟩
        obtain rfl := Option.some.inj he
        have H := K126
        refine CJ.cond rfl (fun hb => ?_) (fun hb => ?_)
        · replace H := pif_t hb H
          refine CJ.seq ?_
          refine CJ.draw [] [0, 1, 2, 4, 5, 3, 6, 7] mixed (by kernel_rfl) hS fun w1 hS => ?_
          refine DJ.pures tU_ok 2 rfl ?_
          obtain ⟨t4, ht4, H⟩ := pbind H
          refine DJ.st rfl rfl rfl rfl rfl (SR.idxStr tU_ok rfl rfl rfl rfl ht4) ?_
          refine DJ.pures tU_ok 1 rfl ?_
          obtain ⟨t5, ht5, H⟩ := pbind H
          refine DJ.st rfl rfl rfl rfl rfl (SR.idxStr tU_ok rfl rfl rfl rfl ht5) ?_
          obtain ⟨t6, ht6, H⟩ := pbind H
          refine DJ.callF rfl rfl rfl rfl rfl rfl rfl hb149 rfl (strings_trimRightByte.c k _ a0 t4 _ ht6) (by rintro v w' ⟨rfl, hs⟩; exact hs) ?_
          rintro _ w1 ⟨rfl, hs⟩
          replace hS := hS.grow hs
          obtain ⟨t7, ht7, H⟩ := pbind H
          refine DJ.callF rfl rfl rfl rfl rfl rfl rfl hb148 rfl (strings_trimLeftByte.c k _ t6 t5 _ ht7) (by rintro v w' ⟨rfl, hs⟩; exact hs) ?_
          rintro _ w1 ⟨rfl, hs⟩
          replace hS := hS.grow hs
          refine DJ.pures tU_ok 1 rfl ?_
          refine DJ.nil (EJ.next ?_)
          refine CJ.ret (EJ.skR (?_))
          obtain rfl := Option.some.inj H
          exact EJ.fin rfl (.tmp rfl .nil) ⟨rfl, hS.ext⟩
        · replace H := pifb_f hb H
          refine CJ.skip (EJ.next ?_)
          refine CJ.seq ?_
          refine CJ.seq ?_
          refine CJ.region ?_
          refine OJ.pures tU_ok 1 rfl ?_
          obtain ⟨t8, ht8, H⟩ := pbind H
          refine OJ.callF rfl rfl rfl rfl rfl hb150 rfl (strings_makeASCIISet.c k _ a1 _ ht8) ?_
          rintro _ w1 ⟨rfl, hs⟩
          replace hS := hS.grow hs
          refine OJ.pures tU_ok 3 rfl ?_
          refine OJ.ef rfl rfl rfl (Ef.alloc hS tI_ok rfl rfl ((carr 256 cb).enc (Arr.mk' false : Arr 256 Bool)) (by kernel_rfl)) ?_
          rintro _ w1 ⟨b9, rfl, hS⟩
          refine OJ.es rfl rfl (Es.put tI_ok hS (i := 0) rfl rfl rfl rfl rfl (vs := (carr 256 cb).enc t8.1) rfl ((carr 256 cb).len _) ((carr 256 cb).one _) (Put.all (carr 256 cb) (Arr.mk' false : Arr 256 Bool) t8.1) (by (try simp only [add_lit, Nat.add_assoc, Nat.zero_add, Nat.add_zero]) <;> rfl)) ?_
          intro w1 hS
          refine OJ.pures tU_ok 1 rfl ?_
          refine OJ.nil (EJ.next ?_)
          refine CJ.seq ?_
          refine CJ.region ?_
          refine OJ.pures tU_ok 1 rfl ?_
          refine OJ.nil (EJ.next ?_)
          refine CJ.cond rfl (fun hb => ?_) (fun hb => ?_)
          · replace H := pif_t hb H
            refine CJ.seq ?_
            refine CJ.region ?_
            refine OJ.pures tU_ok 1 rfl ?_
            obtain ⟨t10, ht10, H⟩ := pbind H
            refine OJ.callF rfl rfl rfl rfl rfl hb152 rfl (strings_trimRightASCII.c k _ a0 _ t8.1 (hS.cells (i := 0) rfl) _ ht10) ?_
            rintro _ w1 ⟨rfl, hs⟩
            replace hS := hS.grow hs
            obtain ⟨t11, ht11, H⟩ := pbind H
            refine OJ.callF rfl rfl rfl rfl rfl hb151 rfl (strings_trimLeftASCII.c k _ t10 _ t8.1 (hS.cells (i := 0) rfl) _ ht11) ?_
            rintro _ w1 ⟨rfl, hs⟩
            replace hS := hS.grow hs
            refine OJ.pures tU_ok 1 rfl ?_
            refine OJ.nil (EJ.next ?_)
            refine CJ.ret (EJ.skR (?_))
            obtain rfl := Option.some.inj H
            exact EJ.fin rfl (.tmp rfl .nil) ⟨rfl, hS.ext⟩
          · replace H := pifb_f hb H
            refine CJ.skip (EJ.next ?_)
            refine CJ.seq ?_
            refine CJ.region ?_
            refine OJ.pures tU_ok 2 rfl ?_
            obtain ⟨t12, ht12, H⟩ := pbind H
            refine OJ.callF rfl rfl rfl rfl rfl hb154 rfl (strings_trimRightUnicode.c k _ a0 a1 _ ht12) ?_
            rintro _ w1 ⟨rfl, hs⟩
            replace hS := hS.grow hs
            refine OJ.pures tU_ok 1 rfl ?_
            obtain ⟨t13, ht13, H⟩ := pbind H
            refine OJ.callF rfl rfl rfl rfl rfl hb153 rfl (strings_trimLeftUnicode.c k _ t12 a1 _ ht13) ?_
            rintro _ w1 ⟨rfl, hs⟩
            replace hS := hS.grow hs
            refine OJ.pures tU_ok 1 rfl ?_
            refine OJ.nil (EJ.next ?_)
            refine CJ.ret (?_)
            obtain rfl := Option.some.inj H
            exact EJ.fin rfl (.tmp rfl .nil) ⟨rfl, hS.ext⟩

def impl_isName.f (k : Nat) (a0 : ByteArray) : Option Bool := (impl_within.f (a0.size : Int) 1 8).bind fun t1 => if t1 = true then ((strings_Trim.f k a0 (⟨#[97, 98, 99, 100, 101, 102, 103, 104, 105, 106, 107, 108, 109, 110, 111, 112, 113, 114, 115, 116, 117, 118, 119, 120, 121, 122]⟩ : ByteArray)).bind fun t2 => some (decide (t2 = ByteArray.empty))) else (some false)
theorem impl_isName.c (k : Nat) (w : World) (a0 : ByteArray) (r : Bool) (H : impl_isName.f k a0 = some r) :
    CV Tryz.prog 51 [.string a0].toArray w fun v w' => v = .bool r ∧ Ext w w' := by
  have hS := (St.init w no)
  unfold impl_isName.f at H
  refine CV.body Tryz.func51 rfl Tryz.ntmps51 rfl ?_
  refine CJ.seq ?_
  refine CJ.region ?_
  refine OJ.pures tU_ok 1 rfl ?_
  refine OJ.nil (EJ.next ?_)
  refine CJ.seq ?_
  refine CJ.region ?_
  refine OJ.pures tU_ok 2 rfl ?_
  obtain ⟨t1, ht1, H⟩ := pbind H
  refine OJ.callF rfl rfl rfl rfl rfl hb53 rfl (impl_within.c _ (a0.size : Int) 1 8 _ ht1) ?_
  rintro _ w1 ⟨rfl, hs⟩
  replace hS := hS.grow hs
  refine OJ.pures tU_ok 1 rfl ?_
  refine OJ.split (t := 6) rfl (fun hb => ?_) (fun hb => ?_)
  · replace H := pif_t hb H
    refine OJ.pures tU_ok 1 rfl ?_
    obtain ⟨t2, ht2, H⟩ := pbind H
    refine OJ.callF rfl rfl rfl rfl rfl hb108 rfl (strings_Trim.c k _ a0 (⟨#[97, 98, 99, 100, 101, 102, 103, 104, 105, 106, 107, 108, 109, 110, 111, 112, 113, 114, 115, 116, 117, 118, 119, 120, 121, 122]⟩ : ByteArray) _ ht2) ?_
    rintro _ w1 ⟨rfl, hs⟩
    replace hS := hS.grow hs
    refine OJ.pures tU_ok 3 rfl ?_
    refine OJ.nil (EJ.next ?_)
    refine CJ.ret (?_)
    obtain rfl := Option.some.inj H
    exact EJ.fin rfl (.tmp rfl .nil) ⟨rfl, hS.ext⟩
  · replace H := pifb_f hb H
    refine OJ.pures tU_ok 5 rfl ?_
    refine OJ.nil (EJ.next ?_)
    refine CJ.ret (?_)
    obtain rfl := Option.some.inj H
    exact EJ.fin rfl (.tmp rfl .nil) ⟨rfl, hS.ext⟩

def slices_Contains_string_string.f (k : Nat) (a0 : List ByteArray) (a1 : ByteArray) : Option Bool := (slices_Index_string_string.f k a0 a1).bind fun t1 => some (decide (0 ≤ t1))
theorem slices_Contains_string_string.c (k : Nat) (w : World) (Aa0 : Option Addr) (ca0 : Nat) (a0 : List ByteArray) (hr0 : Rd G.cs w Aa0 a0) (hc0 : a0.length ≤ ca0) (a1 : ByteArray) (r : Bool) (H : slices_Contains_string_string.f k a0 a1 = some r) :
    CV Tryz.prog 52 [.slice Aa0 a0.length ca0, .string a1].toArray w fun v w' => v = .bool r ∧ Ext w w' := by
  have hS := ((St.init w no).param G.cs Aa0 ca0 a0 hr0 hc0)
  unfold slices_Contains_string_string.f at H
  refine CV.body Tryz.func52 rfl Tryz.ntmps52 rfl ?_
  refine CJ.seq ?_
  refine CJ.region ?_
  refine OJ.pures tU_ok 1 rfl ?_
  refine OJ.nil (EJ.next ?_)
  refine CJ.seq ?_
  refine CJ.region ?_
  refine OJ.pures tU_ok 2 rfl ?_
  obtain ⟨t1, ht1, H⟩ := pbind H
  refine OJ.callF rfl rfl rfl rfl rfl hb41 rfl (slices_Index_string_string.c k _ Aa0 ca0 a0 (hS.rd' (i := 0) rfl) (hS.le' (i := 0) rfl) a1 _ ht1) ?_
  rintro _ w1 ⟨rfl, hs⟩
  replace hS := hS.grow hs
  refine OJ.pures tU_ok 2 rfl ?_
  refine OJ.nil (EJ.next ?_)
  refine CJ.ret (?_)
  obtain rfl := Option.some.inj H
  exact EJ.fin rfl (.tmp rfl .nil) ⟨rfl, hS.ext⟩

def impl_Herd_areFoes.f (a0 : Herd) (a1 : Int) (a2 : Int) : Option Bool := (getI a0.Foes a1).bind fun t2 => (chk (0 ≤ a2)).bind fun u3 => some (decide ((andI .u16 (shrI .u16 t2 a2) 1) = 1))
theorem impl_Herd_areFoes.c (w : World) (Aa0_0 : Option Addr) (ca0_0 : Nat) (Aa0_1 : Option Addr) (ca0_1 : Nat) (Aa0_2 : Option Addr) (ca0_2 : Nat) (a0 : Herd) (hr0_0 : Rd G.cs w Aa0_0 a0.Names) (hc0_0 : a0.Names.length ≤ ca0_0) (hr0_1 : Rd (ci .i16) w Aa0_1 a0.Eats) (hc0_1 : a0.Eats.length ≤ ca0_1) (hr0_2 : Rd (ci .u16) w Aa0_2 a0.Foes) (hc0_2 : a0.Foes.length ≤ ca0_2) (a1 : Int) (a2 : Int) (r : Bool) (H : impl_Herd_areFoes.f a0 a1 a2 = some r) :
    CV Tryz.prog 54 [.agg [.slice Aa0_0 a0.Names.length ca0_0, .slice Aa0_1 a0.Eats.length ca0_1, .slice Aa0_2 a0.Foes.length ca0_2].toArray, .int .i64 a1, .int .i64 a2].toArray w fun v w' => v = .bool r ∧ Ext w w' := by
  have hS := ((((St.init w no).param G.cs Aa0_0 ca0_0 a0.Names hr0_0 hc0_0).param (ci .i16) Aa0_1 ca0_1 a0.Eats hr0_1 hc0_1).param (ci .u16) Aa0_2 ca0_2 a0.Foes hr0_2 hc0_2)
  unfold impl_Herd_areFoes.f at H
  refine CV.body Tryz.func54 rfl Tryz.ntmps54 rfl ?_
  refine CJ.seq ?_
  refine CJ.region ?_
  refine OJ.ef rfl rfl rfl (Ef.box hS rfl rfl ([.slice Aa0_0 a0.Names.length ca0_0, .slice Aa0_1 a0.Eats.length ca0_1, .slice Aa0_2 a0.Foes.length ca0_2]) rfl) ?_
  rintro _ w1 ⟨b1, rfl, hS⟩
  refine OJ.pures tU_ok 1 rfl ?_
  refine OJ.nil (EJ.next ?_)
  refine CJ.seq ?_
  refine CJ.region ?_
  refine OJ.st rfl rfl rfl (SR.fieldAddr tU_ok tI_ok rfl rfl rfl rfl rfl rfl) ?_
  refine OJ.st rfl rfl rfl (SR.load rfl rfl (fun w' hx => ld1 tU_ok rfl rfl (CA.ext (CA.sub (hS.cells (i := 0) rfl) 2) hx) rfl)) ?_
  refine OJ.pures tU_ok 1 rfl ?_
  obtain ⟨t2, ht2, H⟩ := pbind H
  obtain ⟨ad2, e2⟩ := (hS.rd' (i := 2) rfl).some' ht2
  refine OJ.st rfl rfl rfl (SR.idxS tU_ok tI_ok rfl rfl rfl rfl e2 rfl (getI_some ht2).1) ?_
  refine OJ.st rfl rfl rfl (SR.load rfl rfl (fun w' hx => ld1 tU_ok rfl rfl (CA.ext ((hS.rd' (i := 2) rfl).at_ e2 ht2) hx) rfl)) ?_
  refine OJ.pures tU_ok 1 rfl ?_
  obtain ⟨u3, hu3, H⟩ := pbind H
  refine OJ.st rfl rfl rfl (SR.shr rfl rfl rfl (chk_some hu3)) ?_
  refine OJ.pures tU_ok 3 rfl ?_
  refine OJ.nil (EJ.next ?_)
  refine CJ.ret (?_)
  obtain rfl := Option.some.inj H
  exact EJ.fin rfl (.tmp rfl .nil) ⟨rfl, hS.ext⟩

def impl_ValidHerd.l2 (a0 : Herd) (y3 : Int) : Nat → Int → Option (((Bool ⊕ Unit) ⊕ Unit) ⊕ Unit)
  | 0, _ => none
  | k + 1, y14 => if y14 < y3 then ((impl_Herd_areFoes.f a0 y3 y14).bind fun t15 => (impl_Herd_areFoes.f a0 y14 y3).bind fun t16 => if t15 ≠ t16 then (some (Sum.inl (Sum.inl (Sum.inl false)))) else (impl_ValidHerd.l2 a0 y3 k (IntKind.i64.wrap (y14 + 1)))) else (some (Sum.inr ()))
def impl_ValidHerd.l1 (a0 : Herd) : Nat → Int → Option (Bool ⊕ Unit)
  | 0, _ => none
  | k + 1, y3 => if y3 < (a0.Names.length : Int) then (((getI a0.Names y3).bind fun t4 => ((impl_isName.f k t4).bind fun t6 => if (!t6) = true then (some true) else ((chk ((0 : Int) ≤ 0 ∧ 0 ≤ y3 ∧ y3 ≤ (a0.Names.length : Int))).bind fun u7 => (slices_Contains_string_string.f k ((a0.Names.drop 0).take (y3.toNat - 0)) t4).bind fun t8 => if t8 = true then (some true) else ((getI a0.Eats y3).bind fun t9 => (impl_within.f (IntKind.i64.wrap t9) 0 100).bind fun t10 => if (!t10) = true then (some true) else ((getI a0.Foes y3).bind fun t11 => (chk (0 ≤ (a0.Names.length : Int))).bind fun u12 => if (shrI .u16 t11 (a0.Names.length : Int)) ≠ 0 then (some true) else ((impl_Herd_areFoes.f a0 y3 y3).bind fun t13 => some t13))))).bind fun y5 => if y5 = true then (some (Sum.inl (Sum.inl false))) else ((impl_ValidHerd.l2 a0 y3 k 0).bind fun s150 => match s150 with | .inl r => some r | .inr _ => some (Sum.inr ()))).bind fun s146 => match s146 with | .inl r => some r | .inr _ => impl_ValidHerd.l1 a0 k (IntKind.i64.wrap (y3 + 1))) else (some (Sum.inr ()))
def impl_ValidHerd.f (k : Nat) (a0 : Herd) : Option Bool := (if 14 < (a0.Names.length : Int) then (some true) else (if (a0.Eats.length : Int) ≠ (a0.Names.length : Int) then (some true) else (some (decide ((a0.Foes.length : Int) ≠ (a0.Names.length : Int)))))).bind fun y2 => if y2 = true then (some false) else ((impl_ValidHerd.l1 a0 k 0).bind fun s122 => match s122 with | .inl r => some r | .inr _ => some true)
theorem impl_ValidHerd.c (k : Nat) (w : World) (Aa0_0 : Option Addr) (ca0_0 : Nat) (Aa0_1 : Option Addr) (ca0_1 : Nat) (Aa0_2 : Option Addr) (ca0_2 : Nat) (a0 : Herd) (hr0_0 : Rd G.cs w Aa0_0 a0.Names) (hc0_0 : a0.Names.length ≤ ca0_0) (hr0_1 : Rd (ci .i16) w Aa0_1 a0.Eats) (hc0_1 : a0.Eats.length ≤ ca0_1) (hr0_2 : Rd (ci .u16) w Aa0_2 a0.Foes) (hc0_2 : a0.Foes.length ≤ ca0_2) (r : Bool) (H : impl_ValidHerd.f k a0 = some r) :
    CV Tryz.prog 13 [.agg [.slice Aa0_0 a0.Names.length ca0_0, .slice Aa0_1 a0.Eats.length ca0_1, .slice Aa0_2 a0.Foes.length ca0_2].toArray].toArray w fun v w' => v = .bool r ∧ Ext w w' := by
  have hS := ((((St.init w no).param G.cs Aa0_0 ca0_0 a0.Names hr0_0 hc0_0).param (ci .i16) Aa0_1 ca0_1 a0.Eats hr0_1 hc0_1).param (ci .u16) Aa0_2 ca0_2 a0.Foes hr0_2 hc0_2)
  unfold impl_ValidHerd.f at H
  refine CV.body Tryz.func13 rfl Tryz.ntmps13 rfl ?_
  refine CJ.seq ?_
  refine CJ.region ?_
  refine OJ.ef rfl rfl rfl (Ef.box hS rfl rfl ([.slice Aa0_0 a0.Names.length ca0_0, .slice Aa0_1 a0.Eats.length ca0_1, .slice Aa0_2 a0.Foes.length ca0_2]) rfl) ?_
  rintro _ w1 ⟨b1, rfl, hS⟩
  refine OJ.pures tU_ok 1 rfl ?_
  refine OJ.nil (EJ.next ?_)
  refine CJ.seq ?_
  refine CJ.region ?_
  refine OJ.st rfl rfl rfl (SR.fieldAddr tU_ok tI_ok rfl rfl rfl rfl rfl rfl) ?_
  refine OJ.st rfl rfl rfl (SR.load rfl rfl (fun w' hx => ld1 tU_ok rfl rfl (CA.ext (CA.sub (hS.cells (i := 0) rfl) 0) hx) rfl)) ?_
  refine OJ.pures tU_ok 2 rfl ?_
  refine OJ.nil (EJ.next ?_)
  refine CJ.seq ?_
  obtain ⟨j121, H, K121⟩ := pbind H
  refine CJ.cut (fun F w1 => ∃ (y2 : Bool) , (some y2 : Option Bool) = some j121 ∧ F = [(1, .pointer (some ⟨b1, 0, none⟩)), (3, .int .i64 (a0.Names.length : Int)), (25, .bool y2)] ∧ St w no w1 [box b1 ([.slice Aa0_0 a0.Names.length ca0_0, .slice Aa0_1 a0.Eats.length ca0_1, .slice Aa0_2 a0.Foes.length ca0_2]) 28] [roC G.cs Aa0_0 ca0_0 a0.Names, roC (ci .i16) Aa0_1 ca0_1 a0.Eats, roC (ci .u16) Aa0_2 ca0_2 a0.Foes]) ?_ ?_
  · skip
    refine CJ.region ?_
    refine OJ.pures tU_ok 3 rfl ?_
    refine OJ.split (t := 12) rfl (fun hb => ?_) (fun hb => ?_)
    · replace H := pif_t (of_decide_eq_true hb) H
      refine OJ.pures tU_ok 13 rfl ?_
      refine OJ.nil ?_
      exact EJ.meet (F' := [(1, .pointer (some ⟨b1, 0, none⟩)), (3, .int .i64 (a0.Names.length : Int)), (25, .bool true)]) ⟨rfl, rfl, rfl, trivial⟩ ⟨true, H, rfl, hS.pick [0] [0, 1, 2] rfl⟩
    · replace H := pif_f (of_decide_eq_false hb) H
      refine OJ.st rfl rfl rfl (SR.fieldAddr tU_ok tI_ok rfl rfl rfl rfl rfl rfl) ?_
      refine OJ.st rfl rfl rfl (SR.load rfl rfl (fun w' hx => ld1 tU_ok rfl rfl (CA.ext (CA.sub (hS.cells (i := 0) rfl) 1) hx) rfl)) ?_
      refine OJ.pures tU_ok 5 rfl ?_
      refine OJ.split (t := 19) rfl (fun hb => ?_) (fun hb => ?_)
      · replace H := pif_t (of_decide_eq_true hb) H
        refine OJ.pures tU_ok 6 rfl ?_
        refine OJ.nil ?_
        exact EJ.meet (F' := [(1, .pointer (some ⟨b1, 0, none⟩)), (3, .int .i64 (a0.Names.length : Int)), (25, .bool true)]) ⟨rfl, rfl, rfl, trivial⟩ ⟨true, H, rfl, hS.pick [0] [0, 1, 2] rfl⟩
      · replace H := pif_f (of_decide_eq_false hb) H
        refine OJ.st rfl rfl rfl (SR.fieldAddr tU_ok tI_ok rfl rfl rfl rfl rfl rfl) ?_
        refine OJ.st rfl rfl rfl (SR.load rfl rfl (fun w' hx => ld1 tU_ok rfl rfl (CA.ext (CA.sub (hS.cells (i := 0) rfl) 2) hx) rfl)) ?_
        refine OJ.pures tU_ok 4 rfl ?_
        refine OJ.nil ?_
        exact EJ.meet (F' := [(1, .pointer (some ⟨b1, 0, none⟩)), (3, .int .i64 (a0.Names.length : Int)), (25, .bool (decide ((a0.Foes.length : Int) ≠ (a0.Names.length : Int))))]) ⟨rfl, rfl, rfl, trivial⟩ ⟨(decide ((a0.Foes.length : Int) ≠ (a0.Names.length : Int))), H, rfl, hS.pick [0] [0, 1, 2] rfl⟩
  · rintro F w1 ⟨y2, he, rfl, hS⟩
    obtain rfl := Option.some.inj he
    have H := K121
    refine CJ.cond rfl (fun hb => ?_) (fun hb => ?_)
    · replace H := pif_t hb H
      refine CJ.seq ?_
      refine CJ.region ?_
      refine OJ.pures tU_ok 1 rfl ?_
      refine OJ.nil (EJ.next ?_)
      refine CJ.ret (EJ.skR (?_))
      obtain rfl := Option.some.inj H
      exact EJ.fin rfl (.tmp rfl .nil) ⟨rfl, hS.ext⟩
    · replace H := pifb_f hb H
      refine CJ.skip (EJ.next ?_)
      refine CJ.seq ?_
      refine CJ.seq ?_
      refine CJ.region ?_
      refine OJ.st rfl rfl rfl (SR.fieldAddr tU_ok tI_ok rfl rfl rfl rfl rfl rfl) ?_
      refine OJ.st rfl rfl rfl (SR.load rfl rfl (fun w' hx => ld1 tU_ok rfl rfl (CA.ext (CA.sub (hS.cells (i := 0) rfl) 0) hx) rfl)) ?_
      refine OJ.pures tU_ok 2 rfl ?_
      refine OJ.nil (EJ.next ?_)
      obtain ⟨j122, H, K122⟩ := pbind H
      refine CJ.cut1 (fun F w1 => (some (Sum.inr ()) : Option (Bool ⊕ Unit)) = some j122 ∧ F = [] ∧ St w no w1 [] [roC G.cs Aa0_0 ca0_0 a0.Names, roC (ci .i16) Aa0_1 ca0_1 a0.Eats, roC (ci .u16) Aa0_2 ca0_2 a0.Foes]) ?_ ?_
      · skip
        refine CJ.block ?_
        refine CJ.loop (fun k F w1 => ∃ (y3 : Int), F = [(1, .pointer (some ⟨b1, 0, none⟩)), (3, .int .i64 (a0.Names.length : Int)), (27, .slice Aa0_0 a0.Names.length ca0_0), (28, .int .i64 (a0.Names.length : Int)), (29, .int .i64 y3)] ∧ St w no w1 [box b1 ([.slice Aa0_0 a0.Names.length ca0_0, .slice Aa0_1 a0.Eats.length ca0_1, .slice Aa0_2 a0.Foes.length ca0_2]) 28] [roC G.cs Aa0_0 ca0_0 a0.Names, roC (ci .i16) Aa0_1 ca0_1 a0.Eats, roC (ci .u16) Aa0_2 ca0_2 a0.Foes] ∧ impl_ValidHerd.l1 a0 k y3 = some j122) k (F' := [(1, .pointer (some ⟨b1, 0, none⟩)), (3, .int .i64 (a0.Names.length : Int)), (27, .slice Aa0_0 a0.Names.length ca0_0), (28, .int .i64 (a0.Names.length : Int)), (29, .int .i64 0)]) ⟨rfl, rfl, rfl, rfl, rfl, trivial⟩ ⟨0, rfl, hS.pick [0] [0, 1, 2] rfl, H⟩ ?_
        rintro k F w1 ⟨y3, rfl, hS, H⟩
        cases k with
        | zero => rw [impl_ValidHerd.l1] at H; cases H
        | succ k =>
          rw [impl_ValidHerd.l1] at H
          refine CJ.seq ?_
          refine CJ.region ?_
          refine OJ.pures tU_ok 1 rfl ?_
          refine OJ.nil (EJ.next ?_)
          refine CJ.seq ?_
          refine CJ.cond rfl (fun hb => ?_) (fun hb => ?_)
          · replace H := pif_t (of_decide_eq_true hb) H
            refine CJ.skip (EJ.next ?_)
            obtain ⟨j146, H, K146⟩ := pbind H
            refine CJ.cut (fun F w1 => (some (Sum.inr ()) : Option ((Bool ⊕ Unit) ⊕ Unit)) = some j146 ∧ F = [(1, .pointer (some ⟨b1, 0, none⟩)), (3, .int .i64 (a0.Names.length : Int)), (27, .slice Aa0_0 a0.Names.length ca0_0), (28, .int .i64 (a0.Names.length : Int)), (29, .int .i64 y3)] ∧ St w no w1 [box b1 ([.slice Aa0_0 a0.Names.length ca0_0, .slice Aa0_1 a0.Eats.length ca0_1, .slice Aa0_2 a0.Foes.length ca0_2]) 28] [roC G.cs Aa0_0 ca0_0 a0.Names, roC (ci .i16) Aa0_1 ca0_1 a0.Eats, roC (ci .u16) Aa0_2 ca0_2 a0.Foes]) ?_ ?_
            · skip
              refine CJ.block ?_
              refine CJ.seq ?_
              refine CJ.region ?_
              refine OJ.pures tU_ok 1 rfl ?_
              obtain ⟨t4, ht4, H⟩ := pbind H
              obtain ⟨ad4, e4⟩ := (hS.rd' (i := 0) rfl).some' ht4
              refine OJ.st rfl rfl rfl (SR.idxS tU_ok tI_ok rfl rfl rfl rfl e4 rfl (getI_some ht4).1) ?_
              refine OJ.st rfl rfl rfl (SR.load rfl rfl (fun w' hx => ld1 tU_ok rfl rfl (CA.ext ((hS.rd' (i := 0) rfl).at_ e4 ht4) hx) rfl)) ?_
              refine OJ.pures tU_ok 2 rfl ?_
              refine OJ.nil (EJ.next ?_)
              refine CJ.seq ?_
              obtain ⟨j149, H, K149⟩ := pbind H
              refine CJ.cut (fun F w1 => ∃ (y5 : Bool) , (some y5 : Option Bool) = some j149 ∧ F = [(1, .pointer (some ⟨b1, 0, none⟩)), (3, .int .i64 (a0.Names.length : Int)), (4, .int .i64 y3), (27, .slice Aa0_0 a0.Names.length ca0_0), (28, .int .i64 (a0.Names.length : Int)), (29, .int .i64 y3), (70, .bool y5)] ∧ St w no w1 [box b1 ([.slice Aa0_0 a0.Names.length ca0_0, .slice Aa0_1 a0.Eats.length ca0_1, .slice Aa0_2 a0.Foes.length ca0_2]) 28] [roC G.cs Aa0_0 ca0_0 a0.Names, roC (ci .i16) Aa0_1 ca0_1 a0.Eats, roC (ci .u16) Aa0_2 ca0_2 a0.Foes]) ?_ ?_
              · skip
                refine CJ.region ?_
                refine OJ.pures tU_ok 1 rfl ?_
                obtain ⟨t6, ht6, H⟩ := pbind H
                refine OJ.callF rfl rfl rfl rfl rfl hb51 rfl (impl_isName.c k _ t4 _ ht6) ?_
                rintro _ w1 ⟨rfl, hs⟩
                replace hS := hS.grow hs
                refine OJ.pures tU_ok 2 rfl ?_
                refine OJ.split (t := 37) rfl (fun hb => ?_) (fun hb => ?_)
                · replace H := pif_t hb H
                  refine OJ.pures tU_ok 33 rfl ?_
                  refine OJ.nil ?_
                  exact EJ.meet (F' := [(1, .pointer (some ⟨b1, 0, none⟩)), (3, .int .i64 (a0.Names.length : Int)), (4, .int .i64 y3), (27, .slice Aa0_0 a0.Names.length ca0_0), (28, .int .i64 (a0.Names.length : Int)), (29, .int .i64 y3), (70, .bool true)]) ⟨rfl, rfl, rfl, rfl, rfl, rfl, rfl, trivial⟩ ⟨true, H, rfl, hS.pick [0] [0, 1, 2] rfl⟩
                · replace H := pifb_f hb H
                  refine OJ.st rfl rfl rfl (SR.fieldAddr tU_ok tI_ok rfl rfl rfl rfl rfl rfl) ?_
                  refine OJ.st rfl rfl rfl (SR.load rfl rfl (fun w' hx => ld1 tU_ok rfl rfl (CA.ext (CA.sub (hS.cells (i := 0) rfl) 0) hx) rfl)) ?_
                  refine OJ.pures tU_ok 1 rfl ?_
                  obtain ⟨u7, hu7, H⟩ := pbind H
                  refine OJ.st rfl rfl rfl (SR.cutS tU_ok tI_ok (0) (y3.toNat) rfl rfl rfl rfl rfl rfl (.inl ⟨rfl, rfl⟩) (.inr ⟨_, _, rfl, (by have := (chk_some hu7); omega), rfl⟩) (by have := (chk_some hu7); omega) (by have := (chk_some hu7); have := (hS.le' (i := 0) rfl : a0.Names.length ≤ ca0_0); omega)) ?_
                  replace hS := hS.cutR (i := 0) (lo := 0) (hi := y3.toNat) rfl (by have := (chk_some hu7); omega) (by have := (chk_some hu7); omega)
                  refine OJ.as (t := 41) rfl (show _ = (.slice (cutA Aa0_0 ca0_0 0 G.cs.sz) ((a0.Names.drop 0).take (y3.toNat - 0)).length (ca0_0 - 0) : Value) by rw [cutLen (by have := (chk_some hu7); omega) (by have := (chk_some hu7); omega)]; rfl) ?_
                  refine OJ.pures tU_ok 1 rfl ?_
                  obtain ⟨t8, ht8, H⟩ := pbind H
                  refine OJ.callF rfl rfl rfl rfl rfl hb52 rfl (slices_Contains_string_string.c k _ (cutA Aa0_0 ca0_0 0 G.cs.sz) (ca0_0 - 0) ((a0.Names.drop 0).take (y3.toNat - 0)) (hS.rd' (i := 3) rfl) (hS.le' (i := 3) rfl) t4 _ ht8) ?_
                  rintro _ w1 ⟨rfl, hs⟩
                  replace hS := hS.grow hs
                  refine OJ.pures tU_ok 2 rfl ?_
                  refine OJ.split (t := 45) rfl (fun hb => ?_) (fun hb => ?_)
                  · replace H := pif_t hb H
                    refine OJ.pures tU_ok 25 rfl ?_
                    refine OJ.nil ?_
                    exact EJ.meet (F' := [(1, .pointer (some ⟨b1, 0, none⟩)), (3, .int .i64 (a0.Names.length : Int)), (4, .int .i64 y3), (27, .slice Aa0_0 a0.Names.length ca0_0), (28, .int .i64 (a0.Names.length : Int)), (29, .int .i64 y3), (70, .bool true)]) ⟨rfl, rfl, rfl, rfl, rfl, rfl, rfl, trivial⟩ ⟨true, H, rfl, hS.pick [0] [0, 1, 2] rfl⟩
                  · replace H := pifb_f hb H
                    refine OJ.st rfl rfl rfl (SR.fieldAddr tU_ok tI_ok rfl rfl rfl rfl rfl rfl) ?_
                    refine OJ.st rfl rfl rfl (SR.load rfl rfl (fun w' hx => ld1 tU_ok rfl rfl (CA.ext (CA.sub (hS.cells (i := 0) rfl) 1) hx) rfl)) ?_
                    refine OJ.pures tU_ok 1 rfl ?_
                    obtain ⟨t9, ht9, H⟩ := pbind H
                    obtain ⟨ad9, e9⟩ := (hS.rd' (i := 1) rfl).some' ht9
                    refine OJ.st rfl rfl rfl (SR.idxS tU_ok tI_ok rfl rfl rfl rfl e9 rfl (getI_some ht9).1) ?_
                    refine OJ.st rfl rfl rfl (SR.load rfl rfl (fun w' hx => ld1 tU_ok rfl rfl (CA.ext ((hS.rd' (i := 1) rfl).at_ e9 ht9) hx) rfl)) ?_
                    refine OJ.pures tU_ok 1 rfl ?_
                    obtain ⟨t10, ht10, H⟩ := pbind H
                    refine OJ.callF rfl rfl rfl rfl rfl hb53 rfl (impl_within.c _ (IntKind.i64.wrap t9) 0 100 _ ht10) ?_
                    rintro _ w1 ⟨rfl, hs⟩
                    replace hS := hS.grow hs
                    refine OJ.pures tU_ok 3 rfl ?_
                    refine OJ.split (t := 55) rfl (fun hb => ?_) (fun hb => ?_)
                    · replace H := pif_t hb H
                      refine OJ.pures tU_ok 15 rfl ?_
                      refine OJ.nil ?_
                      exact EJ.meet (F' := [(1, .pointer (some ⟨b1, 0, none⟩)), (3, .int .i64 (a0.Names.length : Int)), (4, .int .i64 y3), (27, .slice Aa0_0 a0.Names.length ca0_0), (28, .int .i64 (a0.Names.length : Int)), (29, .int .i64 y3), (70, .bool true)]) ⟨rfl, rfl, rfl, rfl, rfl, rfl, rfl, trivial⟩ ⟨true, H, rfl, hS.pick [0] [0, 1, 2] rfl⟩
                    · replace H := pifb_f hb H
                      refine OJ.st rfl rfl rfl (SR.fieldAddr tU_ok tI_ok rfl rfl rfl rfl rfl rfl) ?_
                      refine OJ.st rfl rfl rfl (SR.load rfl rfl (fun w' hx => ld1 tU_ok rfl rfl (CA.ext (CA.sub (hS.cells (i := 0) rfl) 2) hx) rfl)) ?_
                      refine OJ.pures tU_ok 1 rfl ?_
                      obtain ⟨t11, ht11, H⟩ := pbind H
                      obtain ⟨ad11, e11⟩ := (hS.rd' (i := 2) rfl).some' ht11
                      refine OJ.st rfl rfl rfl (SR.idxS tU_ok tI_ok rfl rfl rfl rfl e11 rfl (getI_some ht11).1) ?_
                      refine OJ.st rfl rfl rfl (SR.load rfl rfl (fun w' hx => ld1 tU_ok rfl rfl (CA.ext ((hS.rd' (i := 2) rfl).at_ e11 ht11) hx) rfl)) ?_
                      refine OJ.pures tU_ok 1 rfl ?_
                      obtain ⟨u12, hu12, H⟩ := pbind H
                      refine OJ.st rfl rfl rfl (SR.shr rfl rfl rfl (chk_some hu12)) ?_
                      refine OJ.pures tU_ok 3 rfl ?_
                      refine OJ.split (t := 65) rfl (fun hb => ?_) (fun hb => ?_)
                      · replace H := pif_t (of_decide_eq_true hb) H
                        refine OJ.pures tU_ok 5 rfl ?_
                        refine OJ.nil ?_
                        exact EJ.meet (F' := [(1, .pointer (some ⟨b1, 0, none⟩)), (3, .int .i64 (a0.Names.length : Int)), (4, .int .i64 y3), (27, .slice Aa0_0 a0.Names.length ca0_0), (28, .int .i64 (a0.Names.length : Int)), (29, .int .i64 y3), (70, .bool true)]) ⟨rfl, rfl, rfl, rfl, rfl, rfl, rfl, trivial⟩ ⟨true, H, rfl, hS.pick [0] [0, 1, 2] rfl⟩
                      · replace H := pif_f (of_decide_eq_false hb) H
                        refine OJ.st rfl rfl rfl (SR.load rfl rfl (fun w' hx => ldN tU_ok tI_ok rfl rfl rfl (CA.ext (hS.cells (i := 0) rfl) hx) (ds := [.slice Aa0_0 a0.Names.length ca0_0, .slice Aa0_1 a0.Eats.length ca0_1, .slice Aa0_2 a0.Foes.length ca0_2]) rfl rfl)) ?_
                        refine OJ.pures tU_ok 2 rfl ?_
                        obtain ⟨t13, ht13, H⟩ := pbind H
                        refine OJ.callF rfl rfl rfl rfl rfl hb54 rfl (impl_Herd_areFoes.c _ Aa0_0 ca0_0 Aa0_1 ca0_1 Aa0_2 ca0_2 a0 (hS.rd' (i := 0) rfl) (hS.le' (i := 0) rfl) (hS.rd' (i := 1) rfl) (hS.le' (i := 1) rfl) (hS.rd' (i := 2) rfl) (hS.le' (i := 2) rfl) y3 y3 _ ht13) ?_
                        rintro _ w1 ⟨rfl, hs⟩
                        replace hS := hS.grow hs
                        refine OJ.pures tU_ok 1 rfl ?_
                        refine OJ.nil ?_
                        exact EJ.meet (F' := [(1, .pointer (some ⟨b1, 0, none⟩)), (3, .int .i64 (a0.Names.length : Int)), (4, .int .i64 y3), (27, .slice Aa0_0 a0.Names.length ca0_0), (28, .int .i64 (a0.Names.length : Int)), (29, .int .i64 y3), (70, .bool t13)]) ⟨rfl, rfl, rfl, rfl, rfl, rfl, rfl, trivial⟩ ⟨t13, H, rfl, hS.pick [0] [0, 1, 2] rfl⟩
              · rintro F w1 ⟨y5, he, rfl, hS⟩
                obtain rfl := Option.some.inj he
                have H := K149
                refine CJ.cond rfl (fun hb => ?_) (fun hb => ?_)
                · replace H := pif_t hb H
                  refine CJ.seq ?_
                  refine CJ.region ?_
                  refine OJ.pures tU_ok 1 rfl ?_
                  refine OJ.nil (EJ.next ?_)
                  refine CJ.ret (EJ.skR (EJ.bkR (EJ.skR (EJ.skR (EJ.bkR (EJ.skR (EJ.skR (?_))))))))
                  first | (obtain rfl := Option.some.inj H; have H := K146) | (obtain ⟨q146, H2, e146⟩ := pbind H; obtain rfl := Option.some.inj e146; obtain rfl := Option.some.inj K146; have H := H2)
                  first | (obtain rfl := Option.some.inj H; have H := K122) | (obtain ⟨q122, H2, e122⟩ := pbind H; obtain rfl := Option.some.inj e122; obtain rfl := Option.some.inj K122; have H := H2)
                  obtain rfl := Option.some.inj H
                  exact EJ.fin rfl (.tmp rfl .nil) ⟨rfl, hS.ext⟩
                · replace H := pifb_f hb H
                  refine CJ.skip (EJ.next ?_)
                  refine CJ.seq ?_
                  refine CJ.region ?_
                  refine OJ.pures tU_ok 2 rfl ?_
                  refine OJ.nil (EJ.next ?_)
                  obtain ⟨j150, H, K150⟩ := pbind H
                  refine CJ.cut1 (fun F w1 => (some (Sum.inr ()) : Option (((Bool ⊕ Unit) ⊕ Unit) ⊕ Unit)) = some j150 ∧ F = [(1, .pointer (some ⟨b1, 0, none⟩)), (3, .int .i64 (a0.Names.length : Int)), (27, .slice Aa0_0 a0.Names.length ca0_0), (28, .int .i64 (a0.Names.length : Int)), (29, .int .i64 y3)] ∧ St w no w1 [box b1 ([.slice Aa0_0 a0.Names.length ca0_0, .slice Aa0_1 a0.Eats.length ca0_1, .slice Aa0_2 a0.Foes.length ca0_2]) 28] [roC G.cs Aa0_0 ca0_0 a0.Names, roC (ci .i16) Aa0_1 ca0_1 a0.Eats, roC (ci .u16) Aa0_2 ca0_2 a0.Foes]) ?_ ?_
                  · skip
                    refine CJ.block ?_
                    refine CJ.loop (fun k F w1 => ∃ (y14 : Int), F = [(1, .pointer (some ⟨b1, 0, none⟩)), (3, .int .i64 (a0.Names.length : Int)), (4, .int .i64 y3), (27, .slice Aa0_0 a0.Names.length ca0_0), (28, .int .i64 (a0.Names.length : Int)), (29, .int .i64 y3), (71, .int .i64 y3), (72, .int .i64 y14)] ∧ St w no w1 [box b1 ([.slice Aa0_0 a0.Names.length ca0_0, .slice Aa0_1 a0.Eats.length ca0_1, .slice Aa0_2 a0.Foes.length ca0_2]) 28] [roC G.cs Aa0_0 ca0_0 a0.Names, roC (ci .i16) Aa0_1 ca0_1 a0.Eats, roC (ci .u16) Aa0_2 ca0_2 a0.Foes] ∧ impl_ValidHerd.l2 a0 y3 k y14 = some j150) k (F' := [(1, .pointer (some ⟨b1, 0, none⟩)), (3, .int .i64 (a0.Names.length : Int)), (4, .int .i64 y3), (27, .slice Aa0_0 a0.Names.length ca0_0), (28, .int .i64 (a0.Names.length : Int)), (29, .int .i64 y3), (71, .int .i64 y3), (72, .int .i64 0)]) ⟨rfl, rfl, rfl, rfl, rfl, rfl, rfl, rfl, trivial⟩ ⟨0, rfl, hS.pick [0] [0, 1, 2] rfl, H⟩ ?_
                    rintro k F w1 ⟨y14, rfl, hS, H⟩
                    cases k with
                    | zero => rw [impl_ValidHerd.l2] at H; cases H
                    | succ k =>
                      rw [impl_ValidHerd.l2] at H
                      refine CJ.seq ?_
                      refine CJ.region ?_
                      refine OJ.pures tU_ok 1 rfl ?_
                      refine OJ.nil (EJ.next ?_)
                      refine CJ.seq ?_
                      refine CJ.cond rfl (fun hb => ?_) (fun hb => ?_)
                      · replace H := pif_t (of_decide_eq_true hb) H
                        refine CJ.skip (EJ.next ?_)
                        refine CJ.seq ?_
                        refine CJ.block ?_
                        refine CJ.seq ?_
                        refine CJ.region ?_
                        refine OJ.pures tU_ok 2 rfl ?_
                        refine OJ.nil (EJ.next ?_)
                        refine CJ.seq ?_
                        refine CJ.draw [] [0, 1, 2, 4, 5, 6, 3, 7, 8] mixed (by kernel_rfl) hS fun w1 hS => ?_
                        refine DJ.st rfl rfl rfl rfl rfl (SR.load rfl rfl (fun w' hx => ldN tU_ok tI_ok rfl rfl rfl (CA.ext (hS.cells (i := 0) rfl) hx) (ds := [.slice Aa0_0 a0.Names.length ca0_0, .slice Aa0_1 a0.Eats.length ca0_1, .slice Aa0_2 a0.Foes.length ca0_2]) rfl rfl)) ?_
                        refine DJ.pures tU_ok 2 rfl ?_
                        refine DJ.st rfl rfl rfl rfl rfl (SR.load rfl rfl (fun w' hx => ldN tU_ok tI_ok rfl rfl rfl (CA.ext (hS.cells (i := 0) rfl) hx) (ds := [.slice Aa0_0 a0.Names.length ca0_0, .slice Aa0_1 a0.Eats.length ca0_1, .slice Aa0_2 a0.Foes.length ca0_2]) rfl rfl)) ?_
                        refine DJ.pures tU_ok 2 rfl ?_
                        obtain ⟨t15, ht15, H⟩ := pbind H
                        refine DJ.callF rfl rfl rfl rfl rfl rfl rfl hb54 rfl (impl_Herd_areFoes.c _ Aa0_0 ca0_0 Aa0_1 ca0_1 Aa0_2 ca0_2 a0 (hS.rd' (i := 0) rfl) (hS.le' (i := 0) rfl) (hS.rd' (i := 1) rfl) (hS.le' (i := 1) rfl) (hS.rd' (i := 2) rfl) (hS.le' (i := 2) rfl) y3 y14 _ ht15) (by rintro v w' ⟨rfl, hs⟩; exact hs) ?_
                        rintro _ w1 ⟨rfl, hs⟩
                        replace hS := hS.grow hs
                        obtain ⟨t16, ht16, H⟩ := pbind H
                        refine DJ.callF rfl rfl rfl rfl rfl rfl rfl hb54 rfl (impl_Herd_areFoes.c _ Aa0_0 ca0_0 Aa0_1 ca0_1 Aa0_2 ca0_2 a0 (hS.rd' (i := 0) rfl) (hS.le' (i := 0) rfl) (hS.rd' (i := 1) rfl) (hS.le' (i := 1) rfl) (hS.rd' (i := 2) rfl) (hS.le' (i := 2) rfl) y14 y3 _ ht16) (by rintro v w' ⟨rfl, hs⟩; exact hs) ?_
                        rintro _ w1 ⟨rfl, hs⟩
                        replace hS := hS.grow hs
                        refine DJ.st rfl rfl rfl rfl rfl (SR.neB tU_ok rfl rfl rfl rfl) ?_
                        refine DJ.nil (EJ.next ?_)
                        refine CJ.cond rfl (fun hb => ?_) (fun hb => ?_)
                        · replace H := pif_t (of_decide_eq_true hb) H
                          refine CJ.seq ?_
                          refine CJ.region ?_
                          refine OJ.pures tU_ok 1 rfl ?_
                          refine OJ.nil (EJ.next ?_)
                          refine CJ.ret (EJ.bkR (EJ.skR (EJ.skR (EJ.bkR (EJ.skR (EJ.bkR (EJ.skR (EJ.skR (EJ.bkR (EJ.skR (EJ.skR (?_))))))))))))
                          first | (obtain rfl := Option.some.inj H; have H := K150) | (obtain ⟨q150, H2, e150⟩ := pbind H; obtain rfl := Option.some.inj e150; obtain rfl := Option.some.inj K150; have H := H2)
                          first | (obtain rfl := Option.some.inj H; have H := K146) | (obtain ⟨q146, H2, e146⟩ := pbind H; obtain rfl := Option.some.inj e146; obtain rfl := Option.some.inj K146; have H := H2)
                          first | (obtain rfl := Option.some.inj H; have H := K122) | (obtain ⟨q122, H2, e122⟩ := pbind H; obtain rfl := Option.some.inj e122; obtain rfl := Option.some.inj K122; have H := H2)
                          obtain rfl := Option.some.inj H
                          exact EJ.fin rfl (.tmp rfl .nil) ⟨rfl, hS.ext⟩
                        · replace H := pif_f (of_decide_eq_false hb) H
                          refine CJ.skip (EJ.blk (EJ.next ?_))
                          refine CJ.region ?_
                          refine OJ.pures tU_ok 2 rfl ?_
                          refine OJ.nil ?_
                          exact EJ.round k (F' := [(1, .pointer (some ⟨b1, 0, none⟩)), (3, .int .i64 (a0.Names.length : Int)), (4, .int .i64 y3), (27, .slice Aa0_0 a0.Names.length ca0_0), (28, .int .i64 (a0.Names.length : Int)), (29, .int .i64 y3), (71, .int .i64 y3), (72, .int .i64 (IntKind.i64.wrap (y14 + 1)))]) ⟨rfl, rfl, rfl, rfl, rfl, rfl, rfl, rfl, trivial⟩ (Nat.lt_succ_self _) ⟨(IntKind.i64.wrap (y14 + 1)), rfl, hS.pick [0] [0, 1, 2] rfl, H⟩
                      · replace H := pif_f (of_decide_eq_false hb) H
                        refine CJ.exit (EJ.skE (EJ.skE (EJ.hit (?_))))
                        exact EJ.meet (F' := [(1, .pointer (some ⟨b1, 0, none⟩)), (3, .int .i64 (a0.Names.length : Int)), (27, .slice Aa0_0 a0.Names.length ca0_0), (28, .int .i64 (a0.Names.length : Int)), (29, .int .i64 y3)]) ⟨rfl, rfl, rfl, rfl, rfl, trivial⟩ ⟨H, rfl, hS.pick [0] [0, 1, 2] rfl⟩
                  · rintro F w1 ⟨he, rfl, hS⟩
                    obtain rfl := Option.some.inj he
                    have H := K150
                    refine EJ.blk (?_)
                    exact EJ.meet (F' := [(1, .pointer (some ⟨b1, 0, none⟩)), (3, .int .i64 (a0.Names.length : Int)), (27, .slice Aa0_0 a0.Names.length ca0_0), (28, .int .i64 (a0.Names.length : Int)), (29, .int .i64 y3)]) ⟨rfl, rfl, rfl, rfl, rfl, trivial⟩ ⟨H, rfl, hS.pick [0] [0, 1, 2] rfl⟩
            · rintro F w1 ⟨he, rfl, hS⟩
              obtain rfl := Option.some.inj he
              have H := K146
              refine CJ.region ?_
              refine OJ.pures tU_ok 2 rfl ?_
              refine OJ.nil ?_
              exact EJ.round k (F' := [(1, .pointer (some ⟨b1, 0, none⟩)), (3, .int .i64 (a0.Names.length : Int)), (27, .slice Aa0_0 a0.Names.length ca0_0), (28, .int .i64 (a0.Names.length : Int)), (29, .int .i64 (IntKind.i64.wrap (y3 + 1)))]) ⟨rfl, rfl, rfl, rfl, rfl, trivial⟩ (Nat.lt_succ_self _) ⟨(IntKind.i64.wrap (y3 + 1)), rfl, hS.pick [0] [0, 1, 2] rfl, H⟩
          · replace H := pif_f (of_decide_eq_false hb) H
            refine CJ.exit (EJ.skE (EJ.skE (EJ.hit (?_))))
            exact EJ.meet (F' := []) trivial ⟨H, rfl, hS.pick [] [0, 1, 2] rfl⟩
      · rintro F w1 ⟨he, rfl, hS⟩
        obtain rfl := Option.some.inj he
        have H := K122
        refine EJ.next ?_
        refine CJ.seq ?_
        refine CJ.region ?_
        refine OJ.pures tU_ok 1 rfl ?_
        refine OJ.nil (EJ.next ?_)
        refine CJ.ret (?_)
        obtain rfl := Option.some.inj H
        exact EJ.fin rfl (.tmp rfl .nil) ⟨rfl, hS.ext⟩

def impl_listed.l1 (a0 : Int) : Nat → (List Int) → Int → Option (List Int)
  | 0, _, _ => none
  | k + 1, y5, y8 => if y8 < 16 then ((chk (0 ≤ y8)).bind fun u9 => if (andI .u16 (shrI .u16 a0 y8) 1) = 1 then ((chk (y5.length + ([y8] : List Int).length ≤ 4294967296)).bind fun u11 => impl_listed.l1 a0 k (y5 ++ ([y8] : List Int)) (IntKind.i64.wrap (y8 + 1))) else (impl_listed.l1 a0 k y5 (IntKind.i64.wrap (y8 + 1)))) else (some y5)
def impl_listed.f (k : Nat) (a0 : Int) : Option (List Int) := (impl_listed.l1 a0 k ([] : List Int) 0).bind fun y2 => some y2
theorem impl_listed.c (k : Nat) (w : World) (a0 : Int) (r : List Int) (H : impl_listed.f k a0 = some r) :
    CV Tryz.prog 43 [.int .u16 a0].toArray w fun v w' => ∃ (A0 : Option Addr) (c0 : Nat), v = .slice A0 r.length c0 ∧ St w no w' [rowC (ci .i64) A0 c0 2 r] [] := by
  have hS := (St.init w no)
  unfold impl_listed.f at H
  refine CV.body Tryz.func43 rfl Tryz.ntmps43 rfl ?_
  refine CJ.seq ?_
  refine CJ.region ?_
  refine OJ.pures tU_ok 1 rfl ?_
  refine OJ.nil (EJ.next ?_)
  refine CJ.seq ?_
  refine CJ.region ?_
  refine OJ.ef rfl rfl rfl (Ef.lit tU_ok tI_ok hS (C := (ci .i64)) rfl rfl rfl rfl rfl rfl ([] : List Int) rfl rfl rfl rfl) ?_
  rintro _ w1 ⟨A1, rfl, hS⟩
  refine OJ.pures tU_ok 1 rfl ?_
  refine OJ.nil (EJ.next ?_)
  refine CJ.seq ?_
  refine CJ.seq ?_
  refine CJ.region ?_
  refine OJ.pures tU_ok 1 rfl ?_
  refine OJ.nil (EJ.next ?_)
  obtain ⟨j155, H, K155⟩ := pbind H
  refine CJ.cut1 (fun F w1 => ∃ (y2 : List Int) (A3 : Option Addr) (c4 : Nat), (some y2 : Option (List Int)) = some j155 ∧ F = [(3, .slice A3 y2.length c4)] ∧ St w no w1 [rowC (ci .i64) A3 c4 2 y2] []) ?_ ?_
  · skip
    refine CJ.block ?_
    refine CJ.loop (fun k F w1 => ∃ (y5 : List Int) (y8 : Int) (A6 : Option Addr) (c7 : Nat), F = [(0, .int .u16 a0), (3, .slice A6 y5.length c7), (6, .int .i64 y8)] ∧ St w no w1 [rowC (ci .i64) A6 c7 2 y5] [] ∧ impl_listed.l1 a0 k y5 y8 = some j155) k (F' := [(0, .int .u16 a0), (3, .slice A1 ([] : List Int).length (([] : List Int).length)), (6, .int .i64 0)]) ⟨rfl, rfl, rfl, trivial⟩ ⟨([] : List Int), 0, A1, (([] : List Int).length), rfl, hS.pick [0] [] rfl, H⟩ ?_
    rintro k F w1 ⟨y5, y8, A6, c7, rfl, hS, H⟩
    cases k with
    | zero => rw [impl_listed.l1] at H; cases H
    | succ k =>
      rw [impl_listed.l1] at H
      refine CJ.seq ?_
      refine CJ.region ?_
      refine OJ.pures tU_ok 1 rfl ?_
      refine OJ.nil (EJ.next ?_)
      refine CJ.seq ?_
      refine CJ.cond rfl (fun hb => ?_) (fun hb => ?_)
      · replace H := pif_t (of_decide_eq_true hb) H
        refine CJ.skip (EJ.next ?_)
        refine CJ.seq ?_
        refine CJ.block ?_
        refine CJ.seq ?_
        refine CJ.region ?_
        refine OJ.pures tU_ok 2 rfl ?_
        refine OJ.nil (EJ.next ?_)
        refine CJ.seq ?_
        refine CJ.region ?_
        refine OJ.pures tU_ok 2 rfl ?_
        obtain ⟨u9, hu9, H⟩ := pbind H
        refine OJ.st rfl rfl rfl (SR.shr rfl rfl rfl (chk_some hu9)) ?_
        refine OJ.pures tU_ok 2 rfl ?_
        refine OJ.nil (EJ.next ?_)
        refine CJ.cond rfl (fun hb => ?_) (fun hb => ?_)
        · replace H := pif_t (of_decide_eq_true hb) H
          refine CJ.region ?_
          refine OJ.pures tU_ok 2 rfl ?_
          refine OJ.ef rfl rfl rfl (Ef.lit tU_ok tI_ok hS (C := (ci .i64)) rfl rfl rfl rfl rfl rfl ([y8] : List Int) rfl rfl rfl rfl) ?_
          rintro _ w1 ⟨A10, rfl, hS⟩
          obtain ⟨u11, hu11, H⟩ := pbind H
          refine OJ.ew rfl rfl rfl (Ew.append tU_ok tI_ok (C := (ci .i64)) (xs := y5) (ys := ([y8] : List Int)) hS (i := 0) rfl rfl rfl rfl rfl rfl rfl rfl rfl rfl rfl rfl rfl (hS.rd (i := 1) rfl) (chk_some hu11)) ?_
          rintro _ w1 ⟨A12, c13, rfl, hS⟩
          refine OJ.pures tU_ok 1 rfl ?_
          refine OJ.nil (EJ.blk (EJ.next ?_))
          refine CJ.region ?_
          refine OJ.pures tU_ok 2 rfl ?_
          refine OJ.nil ?_
          exact EJ.round k (F' := [(0, .int .u16 a0), (3, .slice A12 (y5 ++ ([y8] : List Int)).length c13), (6, .int .i64 (IntKind.i64.wrap (y8 + 1)))]) ⟨rfl, rfl, rfl, trivial⟩ (Nat.lt_succ_self _) ⟨(y5 ++ ([y8] : List Int)), (IntKind.i64.wrap (y8 + 1)), A12, c13, rfl, hS.pick [0] [] rfl, H⟩
        · replace H := pif_f (of_decide_eq_false hb) H
          refine CJ.skip (EJ.blk (EJ.next ?_))
          refine CJ.region ?_
          refine OJ.pures tU_ok 2 rfl ?_
          refine OJ.nil ?_
          exact EJ.round k (F' := [(0, .int .u16 a0), (3, .slice A6 y5.length c7), (6, .int .i64 (IntKind.i64.wrap (y8 + 1)))]) ⟨rfl, rfl, rfl, trivial⟩ (Nat.lt_succ_self _) ⟨y5, (IntKind.i64.wrap (y8 + 1)), A6, c7, rfl, hS.pick [0] [] rfl, H⟩
      · replace H := pif_f (of_decide_eq_false hb) H
        refine CJ.exit (EJ.skE (EJ.skE (EJ.hit (?_))))
        exact EJ.meet (F' := [(3, .slice A6 y5.length c7)]) ⟨rfl, trivial⟩ ⟨y5, A6, c7, H, rfl, hS.pick [0] [] rfl⟩
  · rintro F w1 ⟨y2, A3, c4, he, rfl, hS⟩
    obtain rfl := Option.some.inj he
    have H := K155
    refine EJ.next ?_
    refine CJ.seq ?_
    refine CJ.region ?_
    refine OJ.pures tU_ok 2 rfl ?_
    refine OJ.nil (EJ.next ?_)
    refine CJ.ret (?_)
    obtain rfl := Option.some.inj H
    exact EJ.fin rfl (.tmp rfl .nil) ⟨A3, c4, rfl, hS.pick [0] [] rfl⟩

def strings_Join.f (a0 : List ByteArray) (a1 : ByteArray) : Option (ByteArray × List ByteArray) := (chk (a0.length ≤ 4294967296 ∧ (joinB a0 a1).size ≤ 4294967296)).bind fun _ => some (joinB a0 a1, a0)
theorem strings_Join.c (w : World) (Aa0 : Option Addr) (ca0 : Nat) (a0 : List ByteArray) (a1 : ByteArray) (hin : St w (fpU [rowC G.cs Aa0 ca0 9 a0]) w [rowC G.cs Aa0 ca0 9 a0] []) (r : ByteArray × List ByteArray) (H : strings_Join.f a0 a1 = some r) :
    CV Tryz.prog 45 [.slice Aa0 a0.length ca0, .string a1].toArray w fun v w' => v = .string r.1 ∧ St w (fpU [rowC G.cs Aa0 ca0 9 a0]) w' [rowC G.cs Aa0 ca0 9 r.2] [] ∧ r.2.length = a0.length := by
  unfold strings_Join.f at H
  obtain ⟨u, hu, H⟩ := pbind H
  obtain rfl := Option.some.inj H
  exact join_cv hin (fun a c sep w => Any.strings_Join_none layJoin layExtra a c sep w) (fun bk o c xs sep w h1 h2 h3 h4 h5 => Any.strings_Join layJoin layExtra bk o c xs sep w h1 h2 h3 h4 h5) (chk_some hu).1 (chk_some hu).2

def impl_HerdText.l2 (a0 : Herd) (t19 : List Int) : Nat → (List ByteArray) → Int → Option (List ByteArray)
  | 0, _, _ => none
  | k + 1, y25, y28 => if y28 < (t19.length : Int) then ((getI t19 y28).bind fun t29 => (getI a0.Names t29).bind fun t30 => (chk (y25.length + ([t30] : List ByteArray).length ≤ 4294967296)).bind fun u32 => impl_HerdText.l2 a0 t19 k (y25 ++ ([t30] : List ByteArray)) (IntKind.i64.wrap (y28 + 1))) else (some y25)
def impl_HerdText.l1 (a0 : Herd) : Nat → ByteArray → Int → Option ByteArray
  | 0, _, _ => none
  | k + 1, y7, y10 => if y10 < (a0.Names.length : Int) then (((getI a0.Names y10).bind fun t14 => (getI a0.Eats y10).bind fun t15 => (impl_decimal.f (IntKind.i64.wrap t15)).bind fun t16 => (getI a0.Foes y10).bind fun t18 => (impl_listed.f k t18).bind fun t19 => (impl_HerdText.l2 a0 t19 k ([t14, t16] : List ByteArray) 0).bind fun y22 => (strings_Join.f y22 (⟨#[32]⟩ : ByteArray)).bind fun t35 => (chk (t35.1.size + (⟨#[10]⟩ : ByteArray).size ≤ 4294967296)).bind fun u36 => (chk (y7.size + (t35.1 ++ (⟨#[10]⟩ : ByteArray)).size ≤ 4294967296)).bind fun u39 => some (y7 ++ (t35.1 ++ (⟨#[10]⟩ : ByteArray)))).bind fun y11 => impl_HerdText.l1 a0 k y11 (IntKind.i64.wrap (y10 + 1))) else (some y7)
def impl_HerdText.f (k : Nat) (a0 : Herd) : Option ByteArray := (impl_ValidHerd.f k a0).bind fun t2 => if (!t2) = true then (some ByteArray.empty) else ((impl_HerdText.l1 a0 k ByteArray.empty 0).bind fun y4 => some y4)
theorem impl_HerdText.c (k : Nat) (w : World) (Aa0_0 : Option Addr) (ca0_0 : Nat) (Aa0_1 : Option Addr) (ca0_1 : Nat) (Aa0_2 : Option Addr) (ca0_2 : Nat) (a0 : Herd) (hr0_0 : Rd G.cs w Aa0_0 a0.Names) (hc0_0 : a0.Names.length ≤ ca0_0) (hr0_1 : Rd (ci .i16) w Aa0_1 a0.Eats) (hc0_1 : a0.Eats.length ≤ ca0_1) (hr0_2 : Rd (ci .u16) w Aa0_2 a0.Foes) (hc0_2 : a0.Foes.length ≤ ca0_2) (hT : (envC Tryz.prog 0).holds w) (r : ByteArray) (H : impl_HerdText.f k a0 = some r) :
    CV Tryz.prog 8 [.agg [.slice Aa0_0 a0.Names.length ca0_0, .slice Aa0_1 a0.Eats.length ca0_1, .slice Aa0_2 a0.Foes.length ca0_2].toArray].toArray w fun v w' => v = .string r ∧ Ext w w' := by
  have hS := (((((St.init w no).param G.cs Aa0_0 ca0_0 a0.Names hr0_0 hc0_0).param (ci .i16) Aa0_1 ca0_1 a0.Eats hr0_1 hc0_1).param (ci .u16) Aa0_2 ca0_2 a0.Foes hr0_2 hc0_2).paramT (envC Tryz.prog 0) hT)
  unfold impl_HerdText.f at H
  refine CV.body Tryz.func8 rfl Tryz.ntmps8 rfl ?_
  refine CJ.seq ?_
  refine CJ.region ?_
  refine OJ.ef rfl rfl rfl (Ef.box hS rfl rfl ([.slice Aa0_0 a0.Names.length ca0_0, .slice Aa0_1 a0.Eats.length ca0_1, .slice Aa0_2 a0.Foes.length ca0_2]) rfl) ?_
  rintro _ w1 ⟨b1, rfl, hS⟩
  refine OJ.pures tU_ok 1 rfl ?_
  refine OJ.nil (EJ.next ?_)
  refine CJ.seq ?_
  refine CJ.seq ?_
  refine CJ.region ?_
  refine OJ.st rfl rfl rfl (SR.load rfl rfl (fun w' hx => ldN tU_ok tI_ok rfl rfl rfl (CA.ext (hS.cells (i := 0) rfl) hx) (ds := [.slice Aa0_0 a0.Names.length ca0_0, .slice Aa0_1 a0.Eats.length ca0_1, .slice Aa0_2 a0.Foes.length ca0_2]) rfl rfl)) ?_
  obtain ⟨t2, ht2, H⟩ := pbind H
  refine OJ.callF rfl rfl rfl rfl rfl hb13 rfl (impl_ValidHerd.c k _ Aa0_0 ca0_0 Aa0_1 ca0_1 Aa0_2 ca0_2 a0 (hS.rd' (i := 0) rfl) (hS.le' (i := 0) rfl) (hS.rd' (i := 1) rfl) (hS.le' (i := 1) rfl) (hS.rd' (i := 2) rfl) (hS.le' (i := 2) rfl) _ ht2) ?_
  rintro _ w1 ⟨rfl, hs⟩
  replace hS := hS.grow hs
  refine OJ.pures tU_ok 1 rfl ?_
  refine OJ.nil (EJ.next ?_)
  refine CJ.cond rfl (fun hb => ?_) (fun hb => ?_)
  · replace H := pif_t hb H
    refine CJ.seq ?_
    refine CJ.region ?_
    refine OJ.pures tU_ok 1 rfl ?_
    refine OJ.nil (EJ.next ?_)
    refine CJ.ret (EJ.skR (?_))
    obtain rfl := Option.some.inj H
    exact EJ.fin rfl (.tmp rfl .nil) ⟨rfl, hS.ext⟩
  · replace H := pifb_f hb H
    refine CJ.skip (EJ.next ?_)
    refine CJ.seq ?_
    refine CJ.region ?_
    refine OJ.st rfl rfl rfl (SR.build' tU_ok tI_ok rfl rfl rfl (zs := [.pointer none, .slice none 0 0]) rfl rfl rfl [.pointer none, .slice none 0 0] rfl) ?_
    refine OJ.ef rfl rfl rfl (Ef.bld (e := 5) hS tI_ok rfl rfl rfl) ?_
    rintro _ w1 ⟨b3, rfl, hS, hlow⟩
    refine OJ.es rfl rfl (Es.bldZero tI_ok hS (i := 1) rfl rfl rfl rfl rfl rfl rfl) ?_
    intro w1 hS
    refine OJ.nil (EJ.next ?_)
    refine CJ.seq ?_
    refine CJ.seq ?_
    refine CJ.region ?_
    refine OJ.st rfl rfl rfl (SR.fieldAddr tU_ok tI_ok rfl rfl rfl rfl rfl rfl) ?_
    refine OJ.st rfl rfl rfl (SR.load rfl rfl (fun w' hx => ld1 tU_ok rfl rfl (CA.ext (CA.sub (hS.cells (i := 0) rfl) 0) hx) rfl)) ?_
    refine OJ.pures tU_ok 2 rfl ?_
    refine OJ.nil (EJ.next ?_)
    obtain ⟨j153, H, K153⟩ := pbind H
    refine CJ.cut1 (fun F w1 => ∃ (y4 : ByteArray) (A5 : Option Addr) (c6 : Nat), (some y4 : Option ByteArray) = some j153 ∧ F = [(3, .pointer (some ⟨b3, 0, none⟩))] ∧ St w no w1 [bldC 87 5 b3 A5 c6 y4] [roC G.cs Aa0_0 ca0_0 a0.Names, roC (ci .i16) Aa0_1 ca0_1 a0.Eats, roC (ci .u16) Aa0_2 ca0_2 a0.Foes, envC Tryz.prog 0]) ?_ ?_
    · skip
      refine CJ.block ?_
      refine CJ.loop (fun k F w1 => ∃ (y7 : ByteArray) (y10 : Int) (A8 : Option Addr) (c9 : Nat), F = [(1, .pointer (some ⟨b1, 0, none⟩)), (3, .pointer (some ⟨b3, 0, none⟩)), (14, .slice Aa0_0 a0.Names.length ca0_0), (15, .int .i64 (a0.Names.length : Int)), (16, .int .i64 y10)] ∧ St w no w1 [box b1 ([.slice Aa0_0 a0.Names.length ca0_0, .slice Aa0_1 a0.Eats.length ca0_1, .slice Aa0_2 a0.Foes.length ca0_2]) 28, bldC 87 5 b3 A8 c9 y7] [roC G.cs Aa0_0 ca0_0 a0.Names, roC (ci .i16) Aa0_1 ca0_1 a0.Eats, roC (ci .u16) Aa0_2 ca0_2 a0.Foes, envC Tryz.prog 0] ∧ impl_HerdText.l1 a0 k y7 y10 = some j153) k (F' := [(1, .pointer (some ⟨b1, 0, none⟩)), (3, .pointer (some ⟨b3, 0, none⟩)), (14, .slice Aa0_0 a0.Names.length ca0_0), (15, .int .i64 (a0.Names.length : Int)), (16, .int .i64 0)]) ⟨rfl, rfl, rfl, rfl, rfl, trivial⟩ ⟨ByteArray.empty, 0, none, 0, rfl, hS.pick [0, 1] [0, 1, 2, 3] rfl, H⟩ ?_
      rintro k F w1 ⟨y7, y10, A8, c9, rfl, hS, H⟩
      cases k with
      | zero => rw [impl_HerdText.l1] at H; cases H
      | succ k =>
        rw [impl_HerdText.l1] at H
        refine CJ.seq ?_
        refine CJ.region ?_
        refine OJ.pures tU_ok 1 rfl ?_
        refine OJ.nil (EJ.next ?_)
        refine CJ.seq ?_
        refine CJ.cond rfl (fun hb => ?_) (fun hb => ?_)
        · replace H := pif_t (of_decide_eq_true hb) H
          refine CJ.skip (EJ.next ?_)
          obtain ⟨j161, H, K161⟩ := pbind H
          refine CJ.cut (fun F w1 => ∃ (y11 : ByteArray) (A12 : Option Addr) (c13 : Nat), (some y11 : Option ByteArray) = some j161 ∧ F = [(1, .pointer (some ⟨b1, 0, none⟩)), (3, .pointer (some ⟨b3, 0, none⟩)), (14, .slice Aa0_0 a0.Names.length ca0_0), (15, .int .i64 (a0.Names.length : Int)), (16, .int .i64 y10)] ∧ St w no w1 [box b1 ([.slice Aa0_0 a0.Names.length ca0_0, .slice Aa0_1 a0.Eats.length ca0_1, .slice Aa0_2 a0.Foes.length ca0_2]) 28, bldC 87 5 b3 A12 c13 y11] [roC G.cs Aa0_0 ca0_0 a0.Names, roC (ci .i16) Aa0_1 ca0_1 a0.Eats, roC (ci .u16) Aa0_2 ca0_2 a0.Foes, envC Tryz.prog 0]) ?_ ?_
          · skip
            refine CJ.block ?_
            refine CJ.seq ?_
            refine CJ.region ?_
            refine OJ.pures tU_ok 1 rfl ?_
            obtain ⟨t14, ht14, H⟩ := pbind H
            obtain ⟨ad14, e14⟩ := (hS.rd' (i := 0) rfl).some' ht14
            refine OJ.st rfl rfl rfl (SR.idxS tU_ok tI_ok rfl rfl rfl rfl e14 rfl (getI_some ht14).1) ?_
            refine OJ.st rfl rfl rfl (SR.load rfl rfl (fun w' hx => ld1 tU_ok rfl rfl (CA.ext ((hS.rd' (i := 0) rfl).at_ e14 ht14) hx) rfl)) ?_
            refine OJ.pures tU_ok 2 rfl ?_
            refine OJ.nil (EJ.next ?_)
            refine CJ.seq ?_
            refine CJ.region ?_
            refine OJ.pures tU_ok 1 rfl ?_
            refine OJ.st rfl rfl rfl (SR.fieldAddr tU_ok tI_ok rfl rfl rfl rfl rfl rfl) ?_
            refine OJ.st rfl rfl rfl (SR.load rfl rfl (fun w' hx => ld1 tU_ok rfl rfl (CA.ext (CA.sub (hS.cells (i := 0) rfl) 1) hx) rfl)) ?_
            refine OJ.pures tU_ok 1 rfl ?_
            obtain ⟨t15, ht15, H⟩ := pbind H
            obtain ⟨ad15, e15⟩ := (hS.rd' (i := 1) rfl).some' ht15
            refine OJ.st rfl rfl rfl (SR.idxS tU_ok tI_ok rfl rfl rfl rfl e15 rfl (getI_some ht15).1) ?_
            refine OJ.st rfl rfl rfl (SR.load rfl rfl (fun w' hx => ld1 tU_ok rfl rfl (CA.ext ((hS.rd' (i := 1) rfl).at_ e15 ht15) hx) rfl)) ?_
            refine OJ.pures tU_ok 1 rfl ?_
            obtain ⟨t16, ht16, H⟩ := pbind H
            refine OJ.callF rfl rfl rfl rfl rfl hb42 rfl (impl_decimal.c _ (IntKind.i64.wrap t15) (hS.ro (i := 3) rfl) _ ht16) ?_
            rintro _ w1 ⟨rfl, hs⟩
            replace hS := hS.grow hs
            refine OJ.ef rfl rfl rfl (Ef.lit tU_ok tI_ok hS (C := G.cs) rfl rfl rfl rfl rfl rfl ([t14, t16] : List ByteArray) rfl rfl rfl rfl) ?_
            rintro _ w1 ⟨A17, rfl, hS⟩
            refine OJ.pures tU_ok 1 rfl ?_
            refine OJ.nil (EJ.next ?_)
            refine CJ.seq ?_
            refine CJ.seq ?_
            refine CJ.region ?_
            refine OJ.st rfl rfl rfl (SR.fieldAddr tU_ok tI_ok rfl rfl rfl rfl rfl rfl) ?_
            refine OJ.st rfl rfl rfl (SR.load rfl rfl (fun w' hx => ld1 tU_ok rfl rfl (CA.ext (CA.sub (hS.cells (i := 0) rfl) 2) hx) rfl)) ?_
            refine OJ.pures tU_ok 1 rfl ?_
            obtain ⟨t18, ht18, H⟩ := pbind H
            obtain ⟨ad18, e18⟩ := (hS.rd' (i := 2) rfl).some' ht18
            refine OJ.st rfl rfl rfl (SR.idxS tU_ok tI_ok rfl rfl rfl rfl e18 rfl (getI_some ht18).1) ?_
            refine OJ.st rfl rfl rfl (SR.load rfl rfl (fun w' hx => ld1 tU_ok rfl rfl (CA.ext ((hS.rd' (i := 2) rfl).at_ e18 ht18) hx) rfl)) ?_
            obtain ⟨t19, ht19, H⟩ := pbind H
            refine OJ.callF rfl rfl rfl rfl rfl hb43 rfl (impl_listed.c k _ t18 _ ht19) ?_
            rintro _ w1 ⟨A20, c21, rfl, hs⟩
            replace hS := hS.addN hs
            refine OJ.pures tU_ok 2 rfl ?_
            refine OJ.nil (EJ.next ?_)
            obtain ⟨j163, H, K163⟩ := pbind H
            refine CJ.cut1 (fun F w1 => ∃ (y22 : List ByteArray) (A23 : Option Addr) (c24 : Nat), (some y22 : Option (List ByteArray)) = some j163 ∧ F = [(1, .pointer (some ⟨b1, 0, none⟩)), (3, .pointer (some ⟨b3, 0, none⟩)), (6, .slice A23 y22.length c24), (14, .slice Aa0_0 a0.Names.length ca0_0), (15, .int .i64 (a0.Names.length : Int)), (16, .int .i64 y10)] ∧ St w no w1 [box b1 ([.slice Aa0_0 a0.Names.length ca0_0, .slice Aa0_1 a0.Eats.length ca0_1, .slice Aa0_2 a0.Foes.length ca0_2]) 28, bldC 87 5 b3 A8 c9 y7, rowC G.cs A23 c24 9 y22] [roC G.cs Aa0_0 ca0_0 a0.Names, roC (ci .i16) Aa0_1 ca0_1 a0.Eats, roC (ci .u16) Aa0_2 ca0_2 a0.Foes, envC Tryz.prog 0]) ?_ ?_
            · skip
              refine CJ.block ?_
              refine CJ.loop (fun k F w1 => ∃ (y25 : List ByteArray) (y28 : Int) (A26 : Option Addr) (c27 : Nat), F = [(1, .pointer (some ⟨b1, 0, none⟩)), (3, .pointer (some ⟨b3, 0, none⟩)), (6, .slice A26 y25.length c27), (14, .slice Aa0_0 a0.Names.length ca0_0), (15, .int .i64 (a0.Names.length : Int)), (16, .int .i64 y10), (35, .slice A20 t19.length c21), (36, .int .i64 (t19.length : Int)), (37, .int .i64 y28)] ∧ St w no w1 [box b1 ([.slice Aa0_0 a0.Names.length ca0_0, .slice Aa0_1 a0.Eats.length ca0_1, .slice Aa0_2 a0.Foes.length ca0_2]) 28, bldC 87 5 b3 A8 c9 y7, rowC G.cs A26 c27 9 y25, rowC (ci .i64) A20 c21 2 t19] [roC G.cs Aa0_0 ca0_0 a0.Names, roC (ci .i16) Aa0_1 ca0_1 a0.Eats, roC (ci .u16) Aa0_2 ca0_2 a0.Foes, envC Tryz.prog 0] ∧ impl_HerdText.l2 a0 t19 k y25 y28 = some j163) k (F' := [(1, .pointer (some ⟨b1, 0, none⟩)), (3, .pointer (some ⟨b3, 0, none⟩)), (6, .slice A17 ([t14, t16] : List ByteArray).length (([t14, t16] : List ByteArray).length)), (14, .slice Aa0_0 a0.Names.length ca0_0), (15, .int .i64 (a0.Names.length : Int)), (16, .int .i64 y10), (35, .slice A20 t19.length c21), (36, .int .i64 (t19.length : Int)), (37, .int .i64 0)]) ⟨rfl, rfl, rfl, rfl, rfl, rfl, rfl, rfl, rfl, trivial⟩ ⟨([t14, t16] : List ByteArray), 0, A17, (([t14, t16] : List ByteArray).length), rfl, hS.pick [0, 1, 2, 3] [0, 1, 2, 3] rfl, H⟩ ?_
              rintro k F w1 ⟨y25, y28, A26, c27, rfl, hS, H⟩
              cases k with
              | zero => rw [impl_HerdText.l2] at H; cases H
              | succ k =>
                rw [impl_HerdText.l2] at H
                refine CJ.seq ?_
                refine CJ.region ?_
                refine OJ.pures tU_ok 1 rfl ?_
                refine OJ.nil (EJ.next ?_)
                refine CJ.seq ?_
                refine CJ.cond rfl (fun hb => ?_) (fun hb => ?_)
                · replace H := pif_t (of_decide_eq_true hb) H
                  refine CJ.skip (EJ.next ?_)
                  refine CJ.seq ?_
                  refine CJ.block ?_
                  refine CJ.seq ?_
                  refine CJ.region ?_
                  obtain ⟨t29, ht29, H⟩ := pbind H
                  obtain ⟨ad29, e29⟩ := (hS.rd (i := 3) rfl).some' ht29
                  refine OJ.st rfl rfl rfl (SR.idxS tU_ok tI_ok rfl rfl rfl rfl e29 rfl (getI_some ht29).1) ?_
                  refine OJ.st rfl rfl rfl (SR.load rfl rfl (fun w' hx => ld1 tU_ok rfl rfl (CA.ext ((hS.rd (i := 3) rfl).at_ e29 ht29) hx) rfl)) ?_
                  refine OJ.pures tU_ok 1 rfl ?_
                  refine OJ.nil (EJ.next ?_)
                  refine CJ.region ?_
                  refine OJ.pures tU_ok 1 rfl ?_
                  refine OJ.st rfl rfl rfl (SR.fieldAddr tU_ok tI_ok rfl rfl rfl rfl rfl rfl) ?_
                  refine OJ.st rfl rfl rfl (SR.load rfl rfl (fun w' hx => ld1 tU_ok rfl rfl (CA.ext (CA.sub (hS.cells (i := 0) rfl) 0) hx) rfl)) ?_
                  refine OJ.pures tU_ok 1 rfl ?_
                  obtain ⟨t30, ht30, H⟩ := pbind H
                  obtain ⟨ad30, e30⟩ := (hS.rd' (i := 0) rfl).some' ht30
                  refine OJ.st rfl rfl rfl (SR.idxS tU_ok tI_ok rfl rfl rfl rfl e30 rfl (getI_some ht30).1) ?_
                  refine OJ.st rfl rfl rfl (SR.load rfl rfl (fun w' hx => ld1 tU_ok rfl rfl (CA.ext ((hS.rd' (i := 0) rfl).at_ e30 ht30) hx) rfl)) ?_
                  refine OJ.ef rfl rfl rfl (Ef.lit tU_ok tI_ok hS (C := G.cs) rfl rfl rfl rfl rfl rfl ([t30] : List ByteArray) rfl rfl rfl rfl) ?_
                  rintro _ w1 ⟨A31, rfl, hS⟩
                  obtain ⟨u32, hu32, H⟩ := pbind H
                  refine OJ.ew rfl rfl rfl (Ew.append tU_ok tI_ok (C := G.cs) (xs := y25) (ys := ([t30] : List ByteArray)) hS (i := 2) rfl rfl rfl rfl rfl rfl rfl rfl rfl rfl rfl rfl rfl (hS.rd (i := 4) rfl) (chk_some hu32)) ?_
                  rintro _ w1 ⟨A33, c34, rfl, hS⟩
                  refine OJ.pures tU_ok 1 rfl ?_
                  refine OJ.nil (EJ.blk (EJ.next ?_))
                  refine CJ.region ?_
                  refine OJ.pures tU_ok 2 rfl ?_
                  refine OJ.nil ?_
                  exact EJ.round k (F' := [(1, .pointer (some ⟨b1, 0, none⟩)), (3, .pointer (some ⟨b3, 0, none⟩)), (6, .slice A33 (y25 ++ ([t30] : List ByteArray)).length c34), (14, .slice Aa0_0 a0.Names.length ca0_0), (15, .int .i64 (a0.Names.length : Int)), (16, .int .i64 y10), (35, .slice A20 t19.length c21), (36, .int .i64 (t19.length : Int)), (37, .int .i64 (IntKind.i64.wrap (y28 + 1)))]) ⟨rfl, rfl, rfl, rfl, rfl, rfl, rfl, rfl, rfl, trivial⟩ (Nat.lt_succ_self _) ⟨(y25 ++ ([t30] : List ByteArray)), (IntKind.i64.wrap (y28 + 1)), A33, c34, rfl, hS.pick [0, 1, 2, 3] [0, 1, 2, 3] rfl, H⟩
                · replace H := pif_f (of_decide_eq_false hb) H
                  refine CJ.exit (EJ.skE (EJ.skE (EJ.hit (?_))))
                  exact EJ.meet (F' := [(1, .pointer (some ⟨b1, 0, none⟩)), (3, .pointer (some ⟨b3, 0, none⟩)), (6, .slice A26 y25.length c27), (14, .slice Aa0_0 a0.Names.length ca0_0), (15, .int .i64 (a0.Names.length : Int)), (16, .int .i64 y10)]) ⟨rfl, rfl, rfl, rfl, rfl, rfl, trivial⟩ ⟨y25, A26, c27, H, rfl, hS.pick [0, 1, 2] [0, 1, 2, 3] rfl⟩
            · rintro F w1 ⟨y22, A23, c24, he, rfl, hS⟩
              obtain rfl := Option.some.inj he
              have H := K163
              refine EJ.next ?_
              refine CJ.region ?_
              refine OJ.pures tU_ok 1 rfl ?_
              obtain ⟨t35, ht35, H⟩ := pbind H
              refine OJ.callF rfl rfl rfl rfl rfl hb45 rfl (strings_Join.c _ A23 c24 y22 (⟨#[32]⟩ : ByteArray) ((hS.subs [2] [] [] rfl).pick [0] [] rfl) _ ht35) ?_
              rintro _ w1 ⟨rfl, hs, hlc0⟩
              replace hS := hS.back [2] rfl rfl [rowC G.cs A23 c24 9 t35.2] [] hs ⟨fun _ => Iff.rfl, trivial⟩
              refine OJ.as (t := 6) rfl (show _ = (.slice A23 t35.2.length c24 : Value) by simp only [hlc0]) ?_
              refine OJ.as (t := 50) rfl (show _ = (.slice A23 t35.2.length c24 : Value) by simp only [hlc0]) ?_
              obtain ⟨u36, hu36, H⟩ := pbind H
              refine OJ.st rfl rfl rfl (SR.concat rfl rfl rfl (chk_some hu36)) ?_
              obtain ⟨u39, hu39, H⟩ := pbind H
              refine OJ.callF rfl rfl rfl rfl rfl hb44 rfl (bldWrite_cv hS (i := 1) rfl (NotEs.cons (notE_box (by decide)) (NotEs.cons (notE_row (by decide)) (NotEs.nil))) (NotEs.cons (notE_low (hlow _ (List.mem_of_getElem? (i := 0) rfl))) (NotEs.cons (notE_low (hlow _ (List.mem_of_getElem? (i := 1) rfl))) (NotEs.cons (notE_low (hlow _ (List.mem_of_getElem? (i := 2) rfl))) (NotEs.cons (notE_low (hlow _ (List.mem_of_getElem? (i := 3) rfl))) (NotEs.nil))))) (fun B b bs s w h1 h2 h3 => Any.Builder_WriteString_k { layJoin with } layExtra B b bs s w h1 h2 h3) (chk_some hu39)) ?_
              rintro _ w1 ⟨rfl, A37, c38, hS⟩
              refine OJ.nil (EJ.blk (?_))
              exact EJ.meet (F' := [(1, .pointer (some ⟨b1, 0, none⟩)), (3, .pointer (some ⟨b3, 0, none⟩)), (14, .slice Aa0_0 a0.Names.length ca0_0), (15, .int .i64 (a0.Names.length : Int)), (16, .int .i64 y10)]) ⟨rfl, rfl, rfl, rfl, rfl, trivial⟩ ⟨(y7 ++ (t35.1 ++ (⟨#[10]⟩ : ByteArray))), A37, c38, H, rfl, hS.pick [0, 1] [0, 1, 2, 3] rfl⟩
          · rintro F w1 ⟨y11, A12, c13, he, rfl, hS⟩
            obtain rfl := Option.some.inj he
            have H := K161
            refine CJ.region ?_
            refine OJ.pures tU_ok 2 rfl ?_
            refine OJ.nil ?_
            exact EJ.round k (F' := [(1, .pointer (some ⟨b1, 0, none⟩)), (3, .pointer (some ⟨b3, 0, none⟩)), (14, .slice Aa0_0 a0.Names.length ca0_0), (15, .int .i64 (a0.Names.length : Int)), (16, .int .i64 (IntKind.i64.wrap (y10 + 1)))]) ⟨rfl, rfl, rfl, rfl, rfl, trivial⟩ (Nat.lt_succ_self _) ⟨y11, (IntKind.i64.wrap (y10 + 1)), A12, c13, rfl, hS.pick [0, 1] [0, 1, 2, 3] rfl, H⟩
        · replace H := pif_f (of_decide_eq_false hb) H
          refine CJ.exit (EJ.skE (EJ.skE (EJ.hit (?_))))
          exact EJ.meet (F' := [(3, .pointer (some ⟨b3, 0, none⟩))]) ⟨rfl, trivial⟩ ⟨y7, A8, c9, H, rfl, hS.pick [1] [0, 1, 2, 3] rfl⟩
    · rintro F w1 ⟨y4, A5, c6, he, rfl, hS⟩
      obtain rfl := Option.some.inj he
      have H := K153
      refine EJ.next ?_
      refine CJ.seq ?_
      refine CJ.region ?_
      refine OJ.callF rfl rfl rfl rfl rfl hb46 rfl (bldText_cv hS (i := 0) rfl (NotEs.nil) (NotEs.cons (notE_low (hlow _ (List.mem_of_getElem? (i := 0) rfl))) (NotEs.cons (notE_low (hlow _ (List.mem_of_getElem? (i := 1) rfl))) (NotEs.cons (notE_low (hlow _ (List.mem_of_getElem? (i := 2) rfl))) (NotEs.cons (notE_low (hlow _ (List.mem_of_getElem? (i := 3) rfl))) (NotEs.nil))))) (fun B b l w h1 h2 => Any.Builder_String_any_k { layJoin with } layExtra B b l w h1 h2)) ?_
      rintro _ w1 ⟨rfl, A40, c41, hS⟩
      refine OJ.pures tU_ok 1 rfl ?_
      refine OJ.nil (EJ.next ?_)
      refine CJ.ret (?_)
      obtain rfl := Option.some.inj H
      exact EJ.fin rfl (.tmp rfl .nil) ⟨rfl, hS.ext⟩
end Go.Proofs.YtplfdbfdalaefaaGreatDoor
