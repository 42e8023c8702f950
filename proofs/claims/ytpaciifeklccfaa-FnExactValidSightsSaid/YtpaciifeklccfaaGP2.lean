/-
  What the functions come to.
-/
import Derived.Test.YtpaciifeklccfaaGP1
namespace Go.Proofs.Ytpaciifeklccfaa
open G
set_option linter.unusedVariables false
set_option linter.unusedSimpArgs false
set_option maxRecDepth 100000
set_option maxHeartbeats 1000000
def spec_l03All.l2 (a0 : Pasture) (y8 : Int) : Nat → (List Hurdle) → Int → Option (List Hurdle)
  | 0, _, _ => none
  | k + 1, y15, y18 => if y18 < a0.Wide then ((spec_l03Is.f a0 (⟨(⟨y18, y8⟩ : Spot), false⟩ : Hurdle)).bind fun t21 => if t21 = true then ((chk (y15.length + ([(⟨(⟨y18, y8⟩ : Spot), false⟩ : Hurdle)] : List Hurdle).length ≤ 4294967296)).bind fun u23 => (spec_l03Is.f a0 (⟨(⟨y18, y8⟩ : Spot), true⟩ : Hurdle)).bind fun t26 => if t26 = true then ((chk ((y15 ++ ([(⟨(⟨y18, y8⟩ : Spot), false⟩ : Hurdle)] : List Hurdle)).length + ([(⟨(⟨y18, y8⟩ : Spot), true⟩ : Hurdle)] : List Hurdle).length ≤ 4294967296)).bind fun u28 => spec_l03All.l2 a0 y8 k ((y15 ++ ([(⟨(⟨y18, y8⟩ : Spot), false⟩ : Hurdle)] : List Hurdle)) ++ ([(⟨(⟨y18, y8⟩ : Spot), true⟩ : Hurdle)] : List Hurdle)) (IntKind.i8.wrap (y18 + 1))) else (spec_l03All.l2 a0 y8 k (y15 ++ ([(⟨(⟨y18, y8⟩ : Spot), false⟩ : Hurdle)] : List Hurdle)) (IntKind.i8.wrap (y18 + 1)))) else ((spec_l03Is.f a0 (⟨(⟨y18, y8⟩ : Spot), true⟩ : Hurdle)).bind fun t31 => if t31 = true then ((chk (y15.length + ([(⟨(⟨y18, y8⟩ : Spot), true⟩ : Hurdle)] : List Hurdle).length ≤ 4294967296)).bind fun u33 => spec_l03All.l2 a0 y8 k (y15 ++ ([(⟨(⟨y18, y8⟩ : Spot), true⟩ : Hurdle)] : List Hurdle)) (IntKind.i8.wrap (y18 + 1))) else (spec_l03All.l2 a0 y8 k y15 (IntKind.i8.wrap (y18 + 1))))) else (some y15)
def spec_l03All.l1 (a0 : Pasture) : Nat → (List Hurdle) → Int → Option (List Hurdle)
  | 0, _, _ => none
  | k + 1, y5, y8 => if y8 < a0.High then (((spec_l03All.l2 a0 y8 k y5 0).bind fun y12 => some y12).bind fun y9 => spec_l03All.l1 a0 k y9 (IntKind.i8.wrap (y8 + 1))) else (some y5)
def spec_l03All.f (k : Nat) (a0 : Pasture) : Option (List Hurdle) := (spec_l03All.l1 a0 k ([] : List Hurdle) 0).bind fun y2 => some y2
theorem spec_l03All.c (k : Nat) (w : World) (pa0 : Addr) (a0 : Pasture) (hp0 : CA w pa0 (cPasture.enc a0)) (r : List Hurdle) (H : spec_l03All.f k a0 = some r) :
    CV Try.prog 160 [.pointer (some pa0)].toArray w fun v w' => ∃ (A0 : Option Addr) (c0 : Nat), v = .slice A0 r.length c0 ∧ St w no w' [rowC cHurdle A0 c0 161 r] [] := by
  have hS := ((St.init w no).paramP pa0 (cPasture.enc a0) hp0)
  unfold spec_l03All.f at H
  refine CV.body Try.func160 rfl Try.ntmps160 rfl ?_
  refine CJ.seq ?_
  refine CJ.region ?_
  refine OJ.pures tU_ok 1 rfl ?_
  refine OJ.nil (EJ.next ?_)
  refine CJ.seq ?_
  refine CJ.region ?_
  refine OJ.ef rfl rfl rfl (Ef.lit tU_ok tI_ok hS (C := cHurdle) rfl rfl rfl rfl rfl rfl ([] : List Hurdle) rfl rfl rfl rfl) ?_
  rintro _ w1 ⟨A1, rfl, hS⟩
  refine OJ.pures tU_ok 1 rfl ?_
  refine OJ.nil (EJ.next ?_)
  refine CJ.seq ?_
  refine CJ.seq ?_
  refine CJ.region ?_
  refine OJ.pures tU_ok 1 rfl ?_
  refine OJ.nil (EJ.next ?_)
  obtain ⟨j112, H, K112⟩ := pbind H
  refine CJ.cut1 (fun F w1 => ∃ (y2 : List Hurdle) (A3 : Option Addr) (c4 : Nat), (some y2 : Option (List Hurdle)) = some j112 ∧ F = [(3, .slice A3 y2.length c4)] ∧ St w no w1 [rowC cHurdle A3 c4 161 y2] [roP pa0 (cPasture.enc a0)]) ?_ ?_
  · skip
    refine CJ.block ?_
    refine CJ.loop (fun k F w1 => ∃ (y5 : List Hurdle) (y8 : Int) (A6 : Option Addr) (c7 : Nat), F = [(0, .pointer (some pa0)), (3, .slice A6 y5.length c7), (4, .int .i8 y8)] ∧ St w no w1 [rowC cHurdle A6 c7 161 y5] [roP pa0 (cPasture.enc a0)] ∧ spec_l03All.l1 a0 k y5 y8 = some j112) k (F' := [(0, .pointer (some pa0)), (3, .slice A1 ([] : List Hurdle).length (([] : List Hurdle).length)), (4, .int .i8 0)]) ⟨rfl, rfl, rfl, trivial⟩ ⟨([] : List Hurdle), 0, A1, (([] : List Hurdle).length), rfl, hS.pick [0] [0] rfl, H⟩ ?_
    rintro k F w1 ⟨y5, y8, A6, c7, rfl, hS, H⟩
    cases k with
    | zero => rw [spec_l03All.l1] at H; cases H
    | succ k =>
      rw [spec_l03All.l1] at H
      refine CJ.seq ?_
      refine CJ.seq ?_
      refine CJ.region ?_
      refine OJ.pures tU_ok 3 rfl ?_
      refine OJ.st rfl rfl rfl (SR.fieldAddr tU_ok tI_ok rfl rfl rfl rfl rfl rfl) ?_
      refine OJ.st rfl rfl rfl (SR.load rfl rfl (fun w' hx => ld1 tU_ok rfl rfl (CA.ext (CA.fld (hS.ca (i := 0) rfl) (mid_part (fe_Pasture_1 _) (fl_Pasture_1 _) ((ci .i8).len _))) hx) rfl)) ?_
      refine OJ.pures tU_ok 1 rfl ?_
      refine OJ.nil (EJ.next ?_)
      refine CJ.cond rfl (fun hb => ?_) (fun hb => ?_)
      · replace H := pif_t (of_decide_eq_true hb) H
        refine CJ.skip (EJ.next ?_)
        obtain ⟨j119, H, K119⟩ := pbind H
        refine CJ.cut (fun F w1 => ∃ (y9 : List Hurdle) (A10 : Option Addr) (c11 : Nat), (some y9 : Option (List Hurdle)) = some j119 ∧ F = [(0, .pointer (some pa0)), (3, .slice A10 y9.length c11), (4, .int .i8 y8)] ∧ St w no w1 [rowC cHurdle A10 c11 161 y9] [roP pa0 (cPasture.enc a0)]) ?_ ?_
        · skip
          refine CJ.block ?_
          refine CJ.seq ?_
          refine CJ.region ?_
          refine OJ.pures tU_ok 1 rfl ?_
          refine OJ.nil (EJ.next ?_)
          obtain ⟨j121, H, K121⟩ := pbind H
          refine CJ.cut1 (fun F w1 => ∃ (y12 : List Hurdle) (A13 : Option Addr) (c14 : Nat), (some y12 : Option (List Hurdle)) = some j121 ∧ F = [(0, .pointer (some pa0)), (3, .slice A13 y12.length c14), (4, .int .i8 y8)] ∧ St w no w1 [rowC cHurdle A13 c14 161 y12] [roP pa0 (cPasture.enc a0)]) ?_ ?_
          · skip
            refine CJ.block ?_
            refine CJ.loop (fun k F w1 => ∃ (y15 : List Hurdle) (y18 : Int) (A16 : Option Addr) (c17 : Nat), F = [(0, .pointer (some pa0)), (3, .slice A16 y15.length c17), (4, .int .i8 y8), (5, .int .i8 y18)] ∧ St w no w1 [rowC cHurdle A16 c17 161 y15] [roP pa0 (cPasture.enc a0)] ∧ spec_l03All.l2 a0 y8 k y15 y18 = some j121) k (F' := [(0, .pointer (some pa0)), (3, .slice A6 y5.length c7), (4, .int .i8 y8), (5, .int .i8 0)]) ⟨rfl, rfl, rfl, rfl, trivial⟩ ⟨y5, 0, A6, c7, rfl, hS.pick [0] [0] rfl, H⟩ ?_
            rintro k F w1 ⟨y15, y18, A16, c17, rfl, hS, H⟩
            cases k with
            | zero => rw [spec_l03All.l2] at H; cases H
            | succ k =>
              rw [spec_l03All.l2] at H
              refine CJ.seq ?_
              refine CJ.seq ?_
              refine CJ.region ?_
              refine OJ.pures tU_ok 3 rfl ?_
              refine OJ.st rfl rfl rfl (SR.fieldAddr tU_ok tI_ok rfl rfl rfl rfl rfl rfl) ?_
              refine OJ.st rfl rfl rfl (SR.load rfl rfl (fun w' hx => ld1 tU_ok rfl rfl (CA.ext (CA.fld (hS.ca (i := 0) rfl) (mid_part (fe_Pasture_0 _) (fl_Pasture_0 _) ((ci .i8).len _))) hx) rfl)) ?_
              refine OJ.pures tU_ok 1 rfl ?_
              refine OJ.nil (EJ.next ?_)
              refine CJ.cond rfl (fun hb => ?_) (fun hb => ?_)
              · replace H := pif_t (of_decide_eq_true hb) H
                refine CJ.skip (EJ.next ?_)
                refine CJ.seq ?_
                refine CJ.block ?_
                refine CJ.seq ?_
                refine CJ.region ?_
                refine OJ.pures tU_ok 2 rfl ?_
                refine OJ.st rfl rfl rfl (SR.build (C := cSpot) tU_ok tI_ok rfl rfl rfl (zs := [.int .i8 0, .int .i8 0]) rfl rfl rfl (⟨y18, y8⟩ : Spot) rfl) ?_
                refine OJ.st rfl rfl rfl (SR.build (C := cHurdle) tU_ok tI_ok rfl rfl rfl (zs := [.int .i8 0, .int .i8 0, .bool false]) rfl rfl rfl (⟨(⟨y18, y8⟩ : Spot), false⟩ : Hurdle) rfl) ?_
                refine OJ.ef rfl rfl rfl (Ef.alloc hS tI_ok rfl rfl (cHurdle.enc (⟨(⟨0, 0⟩ : Spot), false⟩ : Hurdle)) rfl) ?_
                rintro _ w1 ⟨b19, rfl, hS⟩
                refine OJ.es rfl rfl (Es.store tI_ok hS (i := 1) rfl rfl rfl rfl rfl rfl (vs := cHurdle.enc (⟨(⟨y18, y8⟩ : Spot), false⟩ : Hurdle)) rfl (cHurdle.len _) (cHurdle.one _) (Nat.le_of_ble_eq_true rfl) (cHurdle.enc (⟨(⟨y18, y8⟩ : Spot), false⟩ : Hurdle)) rfl) ?_
                intro w1 hS
                refine OJ.nil (EJ.next ?_)
                refine CJ.seq ?_
                refine CJ.region ?_
                refine OJ.pures tU_ok 2 rfl ?_
                refine OJ.st rfl rfl rfl (SR.build (C := cSpot) tU_ok tI_ok rfl rfl rfl (zs := [.int .i8 0, .int .i8 0]) rfl rfl rfl (⟨y18, y8⟩ : Spot) rfl) ?_
                refine OJ.st rfl rfl rfl (SR.build (C := cHurdle) tU_ok tI_ok rfl rfl rfl (zs := [.int .i8 0, .int .i8 0, .bool false]) rfl rfl rfl (⟨(⟨y18, y8⟩ : Spot), true⟩ : Hurdle) rfl) ?_
                refine OJ.ef rfl rfl rfl (Ef.alloc hS tI_ok rfl rfl (cHurdle.enc (⟨(⟨0, 0⟩ : Spot), false⟩ : Hurdle)) rfl) ?_
                rintro _ w1 ⟨b20, rfl, hS⟩
                refine OJ.es rfl rfl (Es.store tI_ok hS (i := 2) rfl rfl rfl rfl rfl rfl (vs := cHurdle.enc (⟨(⟨y18, y8⟩ : Spot), true⟩ : Hurdle)) rfl (cHurdle.len _) (cHurdle.one _) (Nat.le_of_ble_eq_true rfl) (cHurdle.enc (⟨(⟨y18, y8⟩ : Spot), true⟩ : Hurdle)) rfl) ?_
                intro w1 hS
                refine OJ.nil (EJ.next ?_)
                refine CJ.seq ?_
                refine CJ.seq ?_
                refine CJ.region ?_
                refine OJ.pures tU_ok 1 rfl ?_
                refine OJ.st rfl rfl rfl (SR.load rfl rfl (fun w' hx => ldE tU_ok tI_ok rfl rfl rfl (CA.ext (hS.cells (i := 1) rfl) hx) rfl)) ?_
                obtain ⟨t21, ht21, H⟩ := pbind H
                refine OJ.callF rfl rfl rfl rfl rfl hb176 rfl (spec_l03Is.c _ _ a0 (hS.ca (i := 0) rfl) (⟨(⟨y18, y8⟩ : Spot), false⟩ : Hurdle) _ ht21) ?_
                rintro _ w1 ⟨rfl, hs⟩
                replace hS := hS.grow hs
                refine OJ.nil (EJ.next ?_)
                refine CJ.cond rfl (fun hb => ?_) (fun hb => ?_)
                · replace H := pif_t hb H
                  refine CJ.region ?_
                  refine OJ.pures tU_ok 1 rfl ?_
                  refine OJ.st rfl rfl rfl (SR.load rfl rfl (fun w' hx => ldE tU_ok tI_ok rfl rfl rfl (CA.ext (hS.cells (i := 1) rfl) hx) rfl)) ?_
                  refine OJ.ef rfl rfl rfl (Ef.lit tU_ok tI_ok hS (C := cHurdle) rfl rfl rfl rfl rfl rfl ([(⟨(⟨y18, y8⟩ : Spot), false⟩ : Hurdle)] : List Hurdle) rfl rfl rfl rfl) ?_
                  rintro _ w1 ⟨A22, rfl, hS⟩
                  obtain ⟨u23, hu23, H⟩ := pbind H
                  refine OJ.ew rfl rfl rfl (Ew.append tU_ok tI_ok (C := cHurdle) (xs := y15) (ys := ([(⟨(⟨y18, y8⟩ : Spot), false⟩ : Hurdle)] : List Hurdle)) hS (i := 0) rfl rfl rfl rfl rfl rfl rfl rfl rfl rfl rfl rfl rfl (hS.rd (i := 3) rfl) (chk_some hu23)) ?_
                  rintro _ w1 ⟨A24, c25, rfl, hS⟩
                  refine OJ.pures tU_ok 1 rfl ?_
                  refine OJ.nil (EJ.next ?_)
                  refine CJ.seq ?_
                  refine CJ.region ?_
                  refine OJ.pures tU_ok 1 rfl ?_
                  refine OJ.st rfl rfl rfl (SR.load rfl rfl (fun w' hx => ldE tU_ok tI_ok rfl rfl rfl (CA.ext (hS.cells (i := 2) rfl) hx) rfl)) ?_
                  obtain ⟨t26, ht26, H⟩ := pbind H
                  refine OJ.callF rfl rfl rfl rfl rfl hb176 rfl (spec_l03Is.c _ _ a0 (hS.ca (i := 0) rfl) (⟨(⟨y18, y8⟩ : Spot), true⟩ : Hurdle) _ ht26) ?_
                  rintro _ w1 ⟨rfl, hs⟩
                  replace hS := hS.grow hs
                  refine OJ.nil (EJ.next ?_)
                  refine CJ.cond rfl (fun hb => ?_) (fun hb => ?_)
                  · replace H := pif_t hb H
                    refine CJ.region ?_
                    refine OJ.pures tU_ok 1 rfl ?_
                    refine OJ.st rfl rfl rfl (SR.load rfl rfl (fun w' hx => ldE tU_ok tI_ok rfl rfl rfl (CA.ext (hS.cells (i := 2) rfl) hx) rfl)) ?_
                    refine OJ.ef rfl rfl rfl (Ef.lit tU_ok tI_ok hS (C := cHurdle) rfl rfl rfl rfl rfl rfl ([(⟨(⟨y18, y8⟩ : Spot), true⟩ : Hurdle)] : List Hurdle) rfl rfl rfl rfl) ?_
                    rintro _ w1 ⟨A27, rfl, hS⟩
                    obtain ⟨u28, hu28, H⟩ := pbind H
                    refine OJ.ew rfl rfl rfl (Ew.append tU_ok tI_ok (C := cHurdle) (xs := (y15 ++ ([(⟨(⟨y18, y8⟩ : Spot), false⟩ : Hurdle)] : List Hurdle))) (ys := ([(⟨(⟨y18, y8⟩ : Spot), true⟩ : Hurdle)] : List Hurdle)) hS (i := 0) rfl rfl rfl rfl rfl rfl rfl rfl rfl rfl rfl rfl rfl (hS.rd (i := 4) rfl) (chk_some hu28)) ?_
                    rintro _ w1 ⟨A29, c30, rfl, hS⟩
                    refine OJ.pures tU_ok 1 rfl ?_
                    refine OJ.nil (EJ.blk (EJ.next ?_))
                    refine CJ.region ?_
                    refine OJ.pures tU_ok 3 rfl ?_
                    refine OJ.nil ?_
                    exact EJ.round k (F' := [(0, .pointer (some pa0)), (3, .slice A29 ((y15 ++ ([(⟨(⟨y18, y8⟩ : Spot), false⟩ : Hurdle)] : List Hurdle)) ++ ([(⟨(⟨y18, y8⟩ : Spot), true⟩ : Hurdle)] : List Hurdle)).length c30), (4, .int .i8 y8), (5, .int .i8 (IntKind.i8.wrap (y18 + 1)))]) ⟨rfl, rfl, rfl, rfl, trivial⟩ (Nat.lt_succ_self _) ⟨((y15 ++ ([(⟨(⟨y18, y8⟩ : Spot), false⟩ : Hurdle)] : List Hurdle)) ++ ([(⟨(⟨y18, y8⟩ : Spot), true⟩ : Hurdle)] : List Hurdle)), (IntKind.i8.wrap (y18 + 1)), A29, c30, rfl, hS.pick [0] [0] rfl, H⟩
                  · replace H := pifb_f hb H
                    refine CJ.skip (EJ.blk (EJ.next ?_))
                    refine CJ.region ?_
                    refine OJ.pures tU_ok 3 rfl ?_
                    refine OJ.nil ?_
                    exact EJ.round k (F' := [(0, .pointer (some pa0)), (3, .slice A24 (y15 ++ ([(⟨(⟨y18, y8⟩ : Spot), false⟩ : Hurdle)] : List Hurdle)).length c25), (4, .int .i8 y8), (5, .int .i8 (IntKind.i8.wrap (y18 + 1)))]) ⟨rfl, rfl, rfl, rfl, trivial⟩ (Nat.lt_succ_self _) ⟨(y15 ++ ([(⟨(⟨y18, y8⟩ : Spot), false⟩ : Hurdle)] : List Hurdle)), (IntKind.i8.wrap (y18 + 1)), A24, c25, rfl, hS.pick [0] [0] rfl, H⟩
                · replace H := pifb_f hb H
                  refine CJ.skip (EJ.next ?_)
                  refine CJ.seq ?_
                  refine CJ.region ?_
                  refine OJ.pures tU_ok 1 rfl ?_
                  refine OJ.st rfl rfl rfl (SR.load rfl rfl (fun w' hx => ldE tU_ok tI_ok rfl rfl rfl (CA.ext (hS.cells (i := 2) rfl) hx) rfl)) ?_
                  obtain ⟨t31, ht31, H⟩ := pbind H
                  refine OJ.callF rfl rfl rfl rfl rfl hb176 rfl (spec_l03Is.c _ _ a0 (hS.ca (i := 0) rfl) (⟨(⟨y18, y8⟩ : Spot), true⟩ : Hurdle) _ ht31) ?_
                  rintro _ w1 ⟨rfl, hs⟩
                  replace hS := hS.grow hs
                  refine OJ.nil (EJ.next ?_)
                  refine CJ.cond rfl (fun hb => ?_) (fun hb => ?_)
                  · replace H := pif_t hb H
                    refine CJ.region ?_
                    refine OJ.pures tU_ok 1 rfl ?_
                    refine OJ.st rfl rfl rfl (SR.load rfl rfl (fun w' hx => ldE tU_ok tI_ok rfl rfl rfl (CA.ext (hS.cells (i := 2) rfl) hx) rfl)) ?_
                    refine OJ.ef rfl rfl rfl (Ef.lit tU_ok tI_ok hS (C := cHurdle) rfl rfl rfl rfl rfl rfl ([(⟨(⟨y18, y8⟩ : Spot), true⟩ : Hurdle)] : List Hurdle) rfl rfl rfl rfl) ?_
                    rintro _ w1 ⟨A32, rfl, hS⟩
                    obtain ⟨u33, hu33, H⟩ := pbind H
                    refine OJ.ew rfl rfl rfl (Ew.append tU_ok tI_ok (C := cHurdle) (xs := y15) (ys := ([(⟨(⟨y18, y8⟩ : Spot), true⟩ : Hurdle)] : List Hurdle)) hS (i := 0) rfl rfl rfl rfl rfl rfl rfl rfl rfl rfl rfl rfl rfl (hS.rd (i := 3) rfl) (chk_some hu33)) ?_
                    rintro _ w1 ⟨A34, c35, rfl, hS⟩
                    refine OJ.pures tU_ok 1 rfl ?_
                    refine OJ.nil (EJ.blk (EJ.next ?_))
                    refine CJ.region ?_
                    refine OJ.pures tU_ok 3 rfl ?_
                    refine OJ.nil ?_
                    exact EJ.round k (F' := [(0, .pointer (some pa0)), (3, .slice A34 (y15 ++ ([(⟨(⟨y18, y8⟩ : Spot), true⟩ : Hurdle)] : List Hurdle)).length c35), (4, .int .i8 y8), (5, .int .i8 (IntKind.i8.wrap (y18 + 1)))]) ⟨rfl, rfl, rfl, rfl, trivial⟩ (Nat.lt_succ_self _) ⟨(y15 ++ ([(⟨(⟨y18, y8⟩ : Spot), true⟩ : Hurdle)] : List Hurdle)), (IntKind.i8.wrap (y18 + 1)), A34, c35, rfl, hS.pick [0] [0] rfl, H⟩
                  · replace H := pifb_f hb H
                    refine CJ.skip (EJ.blk (EJ.next ?_))
                    refine CJ.region ?_
                    refine OJ.pures tU_ok 3 rfl ?_
                    refine OJ.nil ?_
                    exact EJ.round k (F' := [(0, .pointer (some pa0)), (3, .slice A16 y15.length c17), (4, .int .i8 y8), (5, .int .i8 (IntKind.i8.wrap (y18 + 1)))]) ⟨rfl, rfl, rfl, rfl, trivial⟩ (Nat.lt_succ_self _) ⟨y15, (IntKind.i8.wrap (y18 + 1)), A16, c17, rfl, hS.pick [0] [0] rfl, H⟩
              · replace H := pif_f (of_decide_eq_false hb) H
                refine CJ.exit (EJ.skE (EJ.skE (EJ.hit (?_))))
                exact EJ.meet (F' := [(0, .pointer (some pa0)), (3, .slice A16 y15.length c17), (4, .int .i8 y8)]) ⟨rfl, rfl, rfl, trivial⟩ ⟨y15, A16, c17, H, rfl, hS.pick [0] [0] rfl⟩
          · rintro F w1 ⟨y12, A13, c14, he, rfl, hS⟩
            obtain rfl := Option.some.inj he
            have H := K121
            refine EJ.blk (?_)
            exact EJ.meet (F' := [(0, .pointer (some pa0)), (3, .slice A13 y12.length c14), (4, .int .i8 y8)]) ⟨rfl, rfl, rfl, trivial⟩ ⟨y12, A13, c14, H, rfl, hS.pick [0] [0] rfl⟩
        · rintro F w1 ⟨y9, A10, c11, he, rfl, hS⟩
          obtain rfl := Option.some.inj he
          have H := K119
          refine CJ.region ?_
          refine OJ.pures tU_ok 3 rfl ?_
          refine OJ.nil ?_
          exact EJ.round k (F' := [(0, .pointer (some pa0)), (3, .slice A10 y9.length c11), (4, .int .i8 (IntKind.i8.wrap (y8 + 1)))]) ⟨rfl, rfl, rfl, trivial⟩ (Nat.lt_succ_self _) ⟨y9, (IntKind.i8.wrap (y8 + 1)), A10, c11, rfl, hS.pick [0] [0] rfl, H⟩
      · replace H := pif_f (of_decide_eq_false hb) H
        refine CJ.exit (EJ.skE (EJ.skE (EJ.hit (?_))))
        exact EJ.meet (F' := [(3, .slice A6 y5.length c7)]) ⟨rfl, trivial⟩ ⟨y5, A6, c7, H, rfl, hS.pick [0] [0] rfl⟩
  · rintro F w1 ⟨y2, A3, c4, he, rfl, hS⟩
    obtain rfl := Option.some.inj he
    have H := K112
    refine EJ.next ?_
    refine CJ.seq ?_
    refine CJ.region ?_
    refine OJ.pures tU_ok 2 rfl ?_
    refine OJ.nil (EJ.next ?_)
    refine CJ.ret (?_)
    obtain rfl := Option.some.inj H
    exact EJ.fin rfl (.tmp rfl .nil) ⟨A3, c4, rfl, hS.pick [0] [] rfl⟩

def spec_l03Stands.f (a0 : Pasture) (a1 : Hurdle) : Option Bool := (spec_l03Side.f a1).bind fun t2 => (spec_l01Closed.f a0 a1.At t2).bind fun t3 => some t3
theorem spec_l03Stands.c (w : World) (pa0 : Addr) (a0 : Pasture) (hp0 : CA w pa0 (cPasture.enc a0)) (a1 : Hurdle) (r : Bool) (H : spec_l03Stands.f a0 a1 = some r) :
    CV Try.prog 161 [.pointer (some pa0), .agg (cHurdle.enc a1).toArray].toArray w fun v w' => v = .bool r ∧ Ext w w' := by
  have hS := ((St.init w no).paramP pa0 (cPasture.enc a0) hp0)
  unfold spec_l03Stands.f at H
  refine CV.body Try.func161 rfl Try.ntmps161 rfl ?_
  refine CJ.seq ?_
  refine CJ.region ?_
  refine OJ.ef rfl rfl rfl (Ef.box hS rfl rfl (cHurdle.enc a1) rfl) ?_
  rintro _ w1 ⟨b1, rfl, hS⟩
  refine OJ.pures tU_ok 1 rfl ?_
  refine OJ.nil (EJ.next ?_)
  refine CJ.seq ?_
  refine CJ.draw [] [0, 1, 2, 3, 4, 5, 6] mixed (by kernel_rfl) hS fun w1 hS => ?_
  refine DJ.pures tU_ok 1 rfl ?_
  refine DJ.st rfl rfl rfl rfl rfl (SR.fieldAddr tU_ok tI_ok rfl rfl rfl rfl rfl rfl) ?_
  refine DJ.st rfl rfl rfl rfl rfl (SR.load rfl rfl (fun w' hx => ldN tU_ok tI_ok rfl rfl rfl (CA.ext (CA.sub (hS.cells (i := 0) rfl) 0) hx) (cSpot.len _) rfl)) ?_
  refine DJ.st rfl rfl rfl rfl rfl (SR.load rfl rfl (fun w' hx => ldE tU_ok tI_ok rfl rfl rfl (CA.ext (hS.cells (i := 0) rfl) hx) rfl)) ?_
  obtain ⟨t2, ht2, H⟩ := pbind H
  refine DJ.callF rfl rfl rfl rfl rfl rfl rfl hb163 rfl (spec_l03Side.c _ a1 _ ht2) (by rintro v w' ⟨rfl, hs⟩; exact hs) ?_
  rintro _ w1 ⟨rfl, hs⟩
  replace hS := hS.grow hs
  obtain ⟨t3, ht3, H⟩ := pbind H
  refine DJ.callF rfl rfl rfl rfl rfl rfl rfl hb177 rfl (spec_l01Closed.c _ _ a0 (hS.ca (i := 0) rfl) a1.At t2 _ ht3) (by rintro v w' ⟨rfl, hs⟩; exact hs) ?_
  rintro _ w1 ⟨rfl, hs⟩
  replace hS := hS.grow hs
  refine DJ.pures tU_ok 1 rfl ?_
  refine DJ.nil (EJ.next ?_)
  refine CJ.ret (?_)
  obtain rfl := Option.some.inj H
  exact EJ.fin rfl (.tmp rfl .nil) ⟨rfl, hS.ext⟩

def spec_l03Standing.l1 (a0 : Pasture) (t1 : List Hurdle) : Nat → (List Hurdle) → Int → Option (List Hurdle)
  | 0, _, _ => none
  | k + 1, y8, y11 => if y11 < (t1.length : Int) then ((getI t1 y11).bind fun t12 => (spec_l03Stands.f a0 t12).bind fun t13 => if t13 = true then ((getI t1 y11).bind fun t14 => (chk (y8.length + ([t14] : List Hurdle).length ≤ 4294967296)).bind fun u16 => spec_l03Standing.l1 a0 t1 k (y8 ++ ([t14] : List Hurdle)) (IntKind.i64.wrap (y11 + 1))) else (spec_l03Standing.l1 a0 t1 k y8 (IntKind.i64.wrap (y11 + 1)))) else (some y8)
def spec_l03Standing.f (k : Nat) (a0 : Pasture) : Option (List Hurdle) := (spec_l03All.f k a0).bind fun t1 => (spec_l03Standing.l1 a0 t1 k ([] : List Hurdle) 0).bind fun y5 => some y5
theorem spec_l03Standing.c (k : Nat) (w : World) (pa0 : Addr) (a0 : Pasture) (hp0 : CA w pa0 (cPasture.enc a0)) (r : List Hurdle) (H : spec_l03Standing.f k a0 = some r) :
    CV Try.prog 127 [.pointer (some pa0)].toArray w fun v w' => ∃ (A0 : Option Addr) (c0 : Nat), v = .slice A0 r.length c0 ∧ St w no w' [rowC cHurdle A0 c0 161 r] [] := by
  have hS := ((St.init w no).paramP pa0 (cPasture.enc a0) hp0)
  unfold spec_l03Standing.f at H
  refine CV.body Try.func127 rfl Try.ntmps127 rfl ?_
  refine CJ.seq ?_
  refine CJ.region ?_
  refine OJ.pures tU_ok 1 rfl ?_
  refine OJ.nil (EJ.next ?_)
  refine CJ.seq ?_
  refine CJ.region ?_
  refine OJ.pures tU_ok 1 rfl ?_
  obtain ⟨t1, ht1, H⟩ := pbind H
  refine OJ.callF rfl rfl rfl rfl rfl hb160 rfl (spec_l03All.c k _ _ a0 (hS.ca (i := 0) rfl) _ ht1) ?_
  rintro _ w1 ⟨A2, c3, rfl, hs⟩
  replace hS := hS.addN hs
  refine OJ.pures tU_ok 1 rfl ?_
  refine OJ.nil (EJ.next ?_)
  refine CJ.seq ?_
  refine CJ.region ?_
  refine OJ.ef rfl rfl rfl (Ef.lit tU_ok tI_ok hS (C := cHurdle) rfl rfl rfl rfl rfl rfl ([] : List Hurdle) rfl rfl rfl rfl) ?_
  rintro _ w1 ⟨A4, rfl, hS⟩
  refine OJ.pures tU_ok 1 rfl ?_
  refine OJ.nil (EJ.next ?_)
  refine CJ.seq ?_
  refine CJ.seq ?_
  refine CJ.region ?_
  refine OJ.pures tU_ok 1 rfl ?_
  refine OJ.nil (EJ.next ?_)
  obtain ⟨j122, H, K122⟩ := pbind H
  refine CJ.cut1 (fun F w1 => ∃ (y5 : List Hurdle) (A6 : Option Addr) (c7 : Nat), (some y5 : Option (List Hurdle)) = some j122 ∧ F = [(4, .slice A6 y5.length c7)] ∧ St w no w1 [rowC cHurdle A6 c7 161 y5] [roP pa0 (cPasture.enc a0)]) ?_ ?_
  · skip
    refine CJ.block ?_
    refine CJ.loop (fun k F w1 => ∃ (y8 : List Hurdle) (y11 : Int) (A9 : Option Addr) (c10 : Nat), F = [(0, .pointer (some pa0)), (3, .slice A2 t1.length c3), (4, .slice A9 y8.length c10), (5, .int .i64 y11)] ∧ St w no w1 [rowC cHurdle A2 c3 161 t1, rowC cHurdle A9 c10 161 y8] [roP pa0 (cPasture.enc a0)] ∧ spec_l03Standing.l1 a0 t1 k y8 y11 = some j122) k (F' := [(0, .pointer (some pa0)), (3, .slice A2 t1.length c3), (4, .slice A4 ([] : List Hurdle).length (([] : List Hurdle).length)), (5, .int .i64 0)]) ⟨rfl, rfl, rfl, rfl, trivial⟩ ⟨([] : List Hurdle), 0, A4, (([] : List Hurdle).length), rfl, hS.pick [0, 1] [0] rfl, H⟩ ?_
    rintro k F w1 ⟨y8, y11, A9, c10, rfl, hS, H⟩
    cases k with
    | zero => rw [spec_l03Standing.l1] at H; cases H
    | succ k =>
      rw [spec_l03Standing.l1] at H
      refine CJ.seq ?_
      refine CJ.seq ?_
      refine CJ.region ?_
      refine OJ.pures tU_ok 4 rfl ?_
      refine OJ.nil (EJ.next ?_)
      refine CJ.cond rfl (fun hb => ?_) (fun hb => ?_)
      · replace H := pif_t (of_decide_eq_true hb) H
        refine CJ.skip (EJ.next ?_)
        refine CJ.seq ?_
        refine CJ.block ?_
        refine CJ.seq ?_
        refine CJ.region ?_
        refine OJ.pures tU_ok 3 rfl ?_
        obtain ⟨t12, ht12, H⟩ := pbind H
        obtain ⟨ad12, e12⟩ := (hS.rd (i := 0) rfl).some' ht12
        refine OJ.st rfl rfl rfl (SR.idxS tU_ok tI_ok rfl rfl rfl rfl e12 rfl (getI_some ht12).1) ?_
        refine OJ.st rfl rfl rfl (SR.load rfl rfl (fun w' hx => ldE tU_ok tI_ok rfl rfl rfl (CA.ext ((hS.rd (i := 0) rfl).at_ e12 ht12) hx) rfl)) ?_
        obtain ⟨t13, ht13, H⟩ := pbind H
        refine OJ.callF rfl rfl rfl rfl rfl hb161 rfl (spec_l03Stands.c _ _ a0 (hS.ca (i := 0) rfl) t12 _ ht13) ?_
        rintro _ w1 ⟨rfl, hs⟩
        replace hS := hS.grow hs
        refine OJ.nil (EJ.next ?_)
        refine CJ.cond rfl (fun hb => ?_) (fun hb => ?_)
        · replace H := pif_t hb H
          refine CJ.region ?_
          refine OJ.pures tU_ok 3 rfl ?_
          obtain ⟨t14, ht14, H⟩ := pbind H
          obtain ⟨ad14, e14⟩ := (hS.rd (i := 0) rfl).some' ht14
          refine OJ.st rfl rfl rfl (SR.idxS tU_ok tI_ok rfl rfl rfl rfl e14 rfl (getI_some ht14).1) ?_
          refine OJ.st rfl rfl rfl (SR.load rfl rfl (fun w' hx => ldE tU_ok tI_ok rfl rfl rfl (CA.ext ((hS.rd (i := 0) rfl).at_ e14 ht14) hx) rfl)) ?_
          refine OJ.ef rfl rfl rfl (Ef.lit tU_ok tI_ok hS (C := cHurdle) rfl rfl rfl rfl rfl rfl ([t14] : List Hurdle) rfl rfl rfl rfl) ?_
          rintro _ w1 ⟨A15, rfl, hS⟩
          obtain ⟨u16, hu16, H⟩ := pbind H
          refine OJ.ew rfl rfl rfl (Ew.append tU_ok tI_ok (C := cHurdle) (xs := y8) (ys := ([t14] : List Hurdle)) hS (i := 1) rfl rfl rfl rfl rfl rfl rfl rfl rfl rfl rfl rfl rfl (hS.rd (i := 2) rfl) (chk_some hu16)) ?_
          rintro _ w1 ⟨A17, c18, rfl, hS⟩
          refine OJ.pures tU_ok 1 rfl ?_
          refine OJ.nil (EJ.blk (EJ.next ?_))
          refine CJ.region ?_
          refine OJ.pures tU_ok 3 rfl ?_
          refine OJ.nil ?_
          exact EJ.round k (F' := [(0, .pointer (some pa0)), (3, .slice A2 t1.length c3), (4, .slice A17 (y8 ++ ([t14] : List Hurdle)).length c18), (5, .int .i64 (IntKind.i64.wrap (y11 + 1)))]) ⟨rfl, rfl, rfl, rfl, trivial⟩ (Nat.lt_succ_self _) ⟨(y8 ++ ([t14] : List Hurdle)), (IntKind.i64.wrap (y11 + 1)), A17, c18, rfl, hS.pick [0, 1] [0] rfl, H⟩
        · replace H := pifb_f hb H
          refine CJ.skip (EJ.blk (EJ.next ?_))
          refine CJ.region ?_
          refine OJ.pures tU_ok 3 rfl ?_
          refine OJ.nil ?_
          exact EJ.round k (F' := [(0, .pointer (some pa0)), (3, .slice A2 t1.length c3), (4, .slice A9 y8.length c10), (5, .int .i64 (IntKind.i64.wrap (y11 + 1)))]) ⟨rfl, rfl, rfl, rfl, trivial⟩ (Nat.lt_succ_self _) ⟨y8, (IntKind.i64.wrap (y11 + 1)), A9, c10, rfl, hS.pick [0, 1] [0] rfl, H⟩
      · replace H := pif_f (of_decide_eq_false hb) H
        refine CJ.exit (EJ.skE (EJ.skE (EJ.hit (?_))))
        exact EJ.meet (F' := [(4, .slice A9 y8.length c10)]) ⟨rfl, trivial⟩ ⟨y8, A9, c10, H, rfl, hS.pick [1] [0] rfl⟩
  · rintro F w1 ⟨y5, A6, c7, he, rfl, hS⟩
    obtain rfl := Option.some.inj he
    have H := K122
    refine EJ.next ?_
    refine CJ.seq ?_
    refine CJ.region ?_
    refine OJ.pures tU_ok 2 rfl ?_
    refine OJ.nil (EJ.next ?_)
    refine CJ.ret (?_)
    obtain rfl := Option.some.inj H
    exact EJ.fin rfl (.tmp rfl .nil) ⟨A6, c7, rfl, hS.pick [0] [] rfl⟩

def slices_IndexFunc_impl_Spot_impl_Spot.l1 (a0 : List Spot) (a1 : Spot → Option Bool) : Nat → Int → Option (Int ⊕ Unit)
  | 0, _ => none
  | k + 1, y1 => if y1 < (a0.length : Int) then ((getI a0 y1).bind fun t2 => (a1 t2).bind fun t3 => if t3 = true then (some (Sum.inl y1)) else (slices_IndexFunc_impl_Spot_impl_Spot.l1 a0 a1 k (IntKind.i64.wrap (y1 + 1)))) else (some (Sum.inr ()))
def slices_IndexFunc_impl_Spot_impl_Spot.f (k : Nat) (a0 : List Spot) (a1 : Spot → Option Bool) : Option Int := (slices_IndexFunc_impl_Spot_impl_Spot.l1 a0 a1 k 0).bind fun s124 => match s124 with | .inl r => some r | .inr _ => some (-1)
theorem slices_IndexFunc_impl_Spot_impl_Spot.c (k : Nat) (w : World) (Aa0 : Option Addr) (ca0 : Nat) (a0 : List Spot) (hr0 : Rd cSpot w Aa0 a0) (hc0 : a0.length ≤ ca0) (na1 : Nat) (fsa1 capa1 : Array Value) (hb1 : hasBody Try.prog na1) (a1 : Spot → Option Bool) (hf1 : ∀ (z0 : Spot) (r : Bool), a1 z0 = some r → ∀ w', Chg no w w' → CV Try.prog na1 (fsa1 ++ [.agg (cSpot.enc z0).toArray].toArray ++ capa1) w' fun v w'' => v = .bool r ∧ Ext w' w'') (r : Int) (H : slices_IndexFunc_impl_Spot_impl_Spot.f k a0 a1 = some r) :
    CV Try.prog 172 [.slice Aa0 a0.length ca0, .func (.func na1) fsa1 capa1].toArray w fun v w' => v = .int .i64 r ∧ Ext w w' := by
  have hS := ((St.init w no).param cSpot Aa0 ca0 a0 hr0 hc0)
  unfold slices_IndexFunc_impl_Spot_impl_Spot.f at H
  refine CV.body Try.func172 rfl Try.ntmps172 rfl ?_
  refine CJ.seq ?_
  refine CJ.region ?_
  refine OJ.pures tU_ok 1 rfl ?_
  refine OJ.nil (EJ.next ?_)
  refine CJ.seq ?_
  refine CJ.seq ?_
  refine CJ.region ?_
  refine OJ.pures tU_ok 3 rfl ?_
  refine OJ.nil (EJ.next ?_)
  obtain ⟨j124, H, K124⟩ := pbind H
  refine CJ.cut1 (fun F w1 => (some (Sum.inr ()) : Option (Int ⊕ Unit)) = some j124 ∧ F = [] ∧ St w no w1 [] [roC cSpot Aa0 ca0 a0]) ?_ ?_
  · skip
    refine CJ.block ?_
    refine CJ.loop (fun k F w1 => ∃ (y1 : Int), F = [(0, .slice Aa0 a0.length ca0), (1, .func (.func na1) fsa1 capa1), (7, .int .i64 (a0.length : Int)), (8, .int .i64 y1)] ∧ St w no w1 [] [roC cSpot Aa0 ca0 a0] ∧ slices_IndexFunc_impl_Spot_impl_Spot.l1 a0 a1 k y1 = some j124) k (F' := [(0, .slice Aa0 a0.length ca0), (1, .func (.func na1) fsa1 capa1), (7, .int .i64 (a0.length : Int)), (8, .int .i64 0)]) ⟨rfl, rfl, rfl, rfl, trivial⟩ ⟨0, rfl, hS.pick [] [0] rfl, H⟩ ?_
    rintro k F w1 ⟨y1, rfl, hS, H⟩
    cases k with
    | zero => rw [slices_IndexFunc_impl_Spot_impl_Spot.l1] at H; cases H
    | succ k =>
      rw [slices_IndexFunc_impl_Spot_impl_Spot.l1] at H
      refine CJ.seq ?_
      refine CJ.region ?_
      refine OJ.pures tU_ok 1 rfl ?_
      refine OJ.nil (EJ.next ?_)
      refine CJ.seq ?_
      refine CJ.cond rfl (fun hb => ?_) (fun hb => ?_)
      · replace H := pif_t (of_decide_eq_true hb) H
        refine CJ.skip (EJ.next ?_)
        refine CJ.seq ?_
        refine CJ.block ?_
        refine CJ.seq ?_
        refine CJ.region ?_
        refine OJ.pures tU_ok 2 rfl ?_
        refine OJ.nil (EJ.next ?_)
        refine CJ.seq ?_
        refine CJ.region ?_
        refine OJ.pures tU_ok 3 rfl ?_
        obtain ⟨t2, ht2, H⟩ := pbind H
        obtain ⟨ad2, e2⟩ := (hS.rd' (i := 0) rfl).some' ht2
        refine OJ.st rfl rfl rfl (SR.idxS tU_ok tI_ok rfl rfl rfl rfl e2 rfl (getI_some ht2).1) ?_
        refine OJ.st rfl rfl rfl (SR.load rfl rfl (fun w' hx => ldE tU_ok tI_ok rfl rfl rfl (CA.ext ((hS.rd' (i := 0) rfl).at_ e2 ht2) hx) rfl)) ?_
        obtain ⟨t3, ht3, H⟩ := pbind H
        refine OJ.call rfl rfl (Nat.le_of_ble_eq_true rfl) rfl rfl rfl hb1 rfl (hf1 t2 _ ht3 _ hS.chg) ?_
        rintro _ w1 ⟨rfl, hs⟩
        replace hS := hS.grow hs
        refine OJ.nil (EJ.next ?_)
        refine CJ.cond rfl (fun hb => ?_) (fun hb => ?_)
        · replace H := pif_t hb H
          refine CJ.seq ?_
          refine CJ.region ?_
          refine OJ.pures tU_ok 2 rfl ?_
          refine OJ.nil (EJ.next ?_)
          refine CJ.ret (EJ.bkR (EJ.skR (EJ.skR (EJ.bkR (EJ.skR (EJ.skR (?_)))))))
          first | (obtain rfl := Option.some.inj H; have H := K124) | (obtain ⟨q124, H2, e124⟩ := pbind H; obtain rfl := Option.some.inj e124; obtain rfl := Option.some.inj K124; have H := H2)
          obtain rfl := Option.some.inj H
          exact EJ.fin rfl (.tmp rfl .nil) ⟨rfl, hS.ext⟩
        · replace H := pifb_f hb H
          refine CJ.skip (EJ.blk (EJ.next ?_))
          refine CJ.region ?_
          refine OJ.pures tU_ok 2 rfl ?_
          refine OJ.nil ?_
          exact EJ.round k (F' := [(0, .slice Aa0 a0.length ca0), (1, .func (.func na1) fsa1 capa1), (7, .int .i64 (a0.length : Int)), (8, .int .i64 (IntKind.i64.wrap (y1 + 1)))]) ⟨rfl, rfl, rfl, rfl, trivial⟩ (Nat.lt_succ_self _) ⟨(IntKind.i64.wrap (y1 + 1)), rfl, hS.pick [] [0] rfl, H⟩
      · replace H := pif_f (of_decide_eq_false hb) H
        refine CJ.exit (EJ.skE (EJ.skE (EJ.hit (?_))))
        exact EJ.meet (F' := []) trivial ⟨H, rfl, hS.pick [] [0] rfl⟩
  · rintro F w1 ⟨he, rfl, hS⟩
    obtain rfl := Option.some.inj he
    have H := K124
    refine EJ.next ?_
    refine CJ.seq ?_
    refine CJ.region ?_
    refine OJ.pures tU_ok 1 rfl ?_
    refine OJ.nil (EJ.next ?_)
    refine CJ.ret (?_)
    obtain rfl := Option.some.inj H
    exact EJ.fin rfl (.tmp rfl .nil) ⟨rfl, hS.ext⟩

def slices_ContainsFunc_impl_Spot_impl_Spot.f (k : Nat) (a0 : List Spot) (a1 : Spot → Option Bool) : Option Bool := (slices_IndexFunc_impl_Spot_impl_Spot.f k a0 a1).bind fun t1 => some (decide (0 ≤ t1))
theorem slices_ContainsFunc_impl_Spot_impl_Spot.c (k : Nat) (w : World) (Aa0 : Option Addr) (ca0 : Nat) (a0 : List Spot) (hr0 : Rd cSpot w Aa0 a0) (hc0 : a0.length ≤ ca0) (na1 : Nat) (fsa1 capa1 : Array Value) (hb1 : hasBody Try.prog na1) (a1 : Spot → Option Bool) (hf1 : ∀ (z0 : Spot) (r : Bool), a1 z0 = some r → ∀ w', Chg no w w' → CV Try.prog na1 (fsa1 ++ [.agg (cSpot.enc z0).toArray].toArray ++ capa1) w' fun v w'' => v = .bool r ∧ Ext w' w'') (r : Bool) (H : slices_ContainsFunc_impl_Spot_impl_Spot.f k a0 a1 = some r) :
    CV Try.prog 148 [.slice Aa0 a0.length ca0, .func (.func na1) fsa1 capa1].toArray w fun v w' => v = .bool r ∧ Ext w w' := by
  have hS := ((St.init w no).param cSpot Aa0 ca0 a0 hr0 hc0)
  unfold slices_ContainsFunc_impl_Spot_impl_Spot.f at H
  refine CV.body Try.func148 rfl Try.ntmps148 rfl ?_
  refine CJ.seq ?_
  refine CJ.region ?_
  refine OJ.pures tU_ok 1 rfl ?_
  refine OJ.nil (EJ.next ?_)
  refine CJ.seq ?_
  refine CJ.region ?_
  refine OJ.pures tU_ok 2 rfl ?_
  obtain ⟨t1, ht1, H⟩ := pbind H
  refine OJ.callF rfl rfl rfl rfl rfl hb172 rfl (slices_IndexFunc_impl_Spot_impl_Spot.c k _ Aa0 ca0 a0 (hS.rd' (i := 0) rfl) (hS.le' (i := 0) rfl) na1 fsa1 capa1 hb1 a1 (fun z0 r h w' hx => hf1 z0 r h w' (hS.chg.then hx (fun _ _ e => e.elim))) _ ht1) ?_
  rintro _ w1 ⟨rfl, hs⟩
  replace hS := hS.grow hs
  refine OJ.pures tU_ok 2 rfl ?_
  refine OJ.nil (EJ.next ?_)
  refine CJ.ret (?_)
  obtain rfl := Option.some.inj H
  exact EJ.fin rfl (.tmp rfl .nil) ⟨rfl, hS.ext⟩

def impl_cellCode_1.f (a1 : Pasture) (a0 : Spot) : Option Bool := (impl_Pasture_isCell.f a1 a0).bind fun t2 => some (!t2)
theorem impl_cellCode_1.c (w : World) (pa1 : Addr) (a1 : Pasture) (hp1 : CA w pa1 (cPasture.enc a1)) (a0 : Spot) (r : Bool) (H : impl_cellCode_1.f a1 a0 = some r) :
    CV Try.prog 149 [.agg (cSpot.enc a0).toArray, .pointer (some pa1)].toArray w fun v w' => v = .bool r ∧ Ext w w' := by
  have hS := ((St.init w no).paramP pa1 (cPasture.enc a1) hp1)
  unfold impl_cellCode_1.f at H
  refine CV.body Try.func149 rfl Try.ntmps149 rfl ?_
  refine CJ.seq ?_
  refine CJ.region ?_
  refine OJ.ef rfl rfl rfl (Ef.box hS rfl rfl (cSpot.enc a0) rfl) ?_
  rintro _ w1 ⟨b1, rfl, hS⟩
  refine OJ.pures tU_ok 1 rfl ?_
  refine OJ.nil (EJ.next ?_)
  refine CJ.seq ?_
  refine CJ.region ?_
  refine OJ.st rfl rfl rfl (SR.load rfl rfl (fun w' hx => ldE tU_ok tI_ok rfl rfl rfl (CA.ext (hS.ca (i := 0) rfl) hx) rfl)) ?_
  refine OJ.st rfl rfl rfl (SR.load rfl rfl (fun w' hx => ldE tU_ok tI_ok rfl rfl rfl (CA.ext (hS.cells (i := 0) rfl) hx) rfl)) ?_
  obtain ⟨t2, ht2, H⟩ := pbind H
  refine OJ.callF rfl rfl rfl rfl rfl hb136 rfl (impl_Pasture_isCell.c _ a1 a0 _ ht2) ?_
  rintro _ w1 ⟨rfl, hs⟩
  replace hS := hS.grow hs
  refine OJ.pures tU_ok 2 rfl ?_
  refine OJ.nil (EJ.next ?_)
  refine CJ.ret (?_)
  obtain rfl := Option.some.inj H
  exact EJ.fin rfl (.tmp rfl .nil) ⟨rfl, hS.ext⟩

def impl_cellCode.f (k : Nat) (a0 : Pasture) (a1 : List Spot) : Option Int := (impl_ValidPasture.f k a0).bind fun t2 => if (!t2) = true then (some 1) else ((slices_ContainsFunc_impl_Spot_impl_Spot.f k a1 (impl_cellCode_1.f a0)).bind fun t3 => (impl_unless.f (!t3) 2).bind fun t4 => some t4)
theorem impl_cellCode.c (k : Nat) (w : World) (a0 : Pasture) (Aa1 : Option Addr) (ca1 : Nat) (a1 : List Spot) (hr1 : Rd cSpot w Aa1 a1) (hc1 : a1.length ≤ ca1) (r : Int) (H : impl_cellCode.f k a0 a1 = some r) :
    CV Try.prog 101 [.agg (cPasture.enc a0).toArray, .slice Aa1 a1.length ca1].toArray w fun v w' => v = .int .i64 r ∧ Ext w w' := by
  have hS := ((St.init w no).param cSpot Aa1 ca1 a1 hr1 hc1)
  unfold impl_cellCode.f at H
  refine CV.body Try.func101 rfl Try.ntmps101 rfl ?_
  refine CJ.seq ?_
  refine CJ.region ?_
  refine OJ.ef rfl rfl rfl (Ef.box hS rfl rfl (cPasture.enc a0) rfl) ?_
  rintro _ w1 ⟨b1, rfl, hS⟩
  refine OJ.pures tU_ok 1 rfl ?_
  refine OJ.nil (EJ.next ?_)
  refine CJ.seq ?_
  refine CJ.seq ?_
  refine CJ.region ?_
  refine OJ.st rfl rfl rfl (SR.load rfl rfl (fun w' hx => ldE tU_ok tI_ok rfl rfl rfl (CA.ext (hS.cells (i := 0) rfl) hx) rfl)) ?_
  obtain ⟨t2, ht2, H⟩ := pbind H
  refine OJ.callF rfl rfl rfl rfl rfl hb73 rfl (impl_ValidPasture.c k _ a0 _ ht2) ?_
  rintro _ w1 ⟨rfl, hs⟩
  replace hS := hS.grow hs
  refine OJ.pures tU_ok 1 rfl ?_
  refine OJ.nil (EJ.next ?_)
  refine CJ.cond rfl (fun hb => ?_) (fun hb => ?_)
  · replace H := pif_t hb H
    refine CJ.seq ?_
    refine CJ.region ?_
    refine OJ.pures tU_ok 1 rfl ?_
    refine OJ.nil (EJ.next ?_)
    refine CJ.ret (EJ.skR (?_))
    obtain rfl := Option.some.inj H
    exact EJ.fin rfl (.tmp rfl .nil) ⟨rfl, hS.ext⟩
  · replace H := pifb_f hb H
    refine CJ.skip (EJ.next ?_)
    refine CJ.seq ?_
    refine CJ.region ?_
    refine OJ.pures tU_ok 2 rfl ?_
    obtain ⟨t3, ht3, H⟩ := pbind H
    refine OJ.callF rfl rfl rfl rfl rfl hb148 rfl (slices_ContainsFunc_impl_Spot_impl_Spot.c k _ Aa1 ca1 a1 (hS.rd' (i := 0) rfl) (hS.le' (i := 0) rfl) 149 #[] #[.pointer (some ⟨b1, 0, none⟩)] hb149 (impl_cellCode_1.f a0) (fun z0 r h w' hx => CV.cast (impl_cellCode_1.c w' ⟨b1, 0, none⟩ a0 (CA.ext (hS.cells (i := 0) rfl) hx)  z0 r h) (by simp)) _ ht3) ?_
    rintro _ w1 ⟨rfl, hs⟩
    replace hS := hS.grow hs
    refine OJ.pures tU_ok 1 rfl ?_
    obtain ⟨t4, ht4, H⟩ := pbind H
    refine OJ.callF rfl rfl rfl rfl rfl hb89 rfl (impl_unless.c _ (!t3) 2 _ ht4) ?_
    rintro _ w1 ⟨rfl, hs⟩
    replace hS := hS.grow hs
    refine OJ.pures tU_ok 1 rfl ?_
    refine OJ.nil (EJ.next ?_)
    refine CJ.ret (?_)
    obtain rfl := Option.some.inj H
    exact EJ.fin rfl (.tmp rfl .nil) ⟨rfl, hS.ext⟩

def laws_heldMeadowS.l1 (a0 : List Meadow) : Nat → Int → Int → Option (Int ⊕ Int)
  | 0, _, _ => none
  | k + 1, y2, y3 => if y3 < (a0.length : Int) then ((getI a0 y3).bind fun t4 => if t4.Grass ≠ (IntKind.i16.wrap y2) then (some (Sum.inl (-1))) else ((getI a0 y3).bind fun t5 => if t5.Grows ≠ (IntKind.i16.wrap (IntKind.i64.wrap (y2 + 1))) then (some (Sum.inl (-1))) else ((getI a0 y3).bind fun t6 => if t6.Most ≠ (IntKind.i16.wrap (IntKind.i64.wrap ((IntKind.i64.wrap (y2 + 1)) + 1))) then (some (Sum.inl (-1))) else (laws_heldMeadowS.l1 a0 k (IntKind.i64.wrap ((IntKind.i64.wrap ((IntKind.i64.wrap (y2 + 1)) + 1)) + 1)) (IntKind.i64.wrap (y3 + 1)))))) else (some (Sum.inr y2))
def laws_heldMeadowS.f (k : Nat) (a0 : List Meadow) (a1 : Int) : Option Int := (laws_heldMeadowS.l1 a0 k a1 0).bind fun s125 => match s125 with | .inl r => some r | .inr y1 => some y1
theorem laws_heldMeadowS.c (k : Nat) (w : World) (Aa0 : Option Addr) (ca0 : Nat) (a0 : List Meadow) (hr0 : Rd cMeadow w Aa0 a0) (hc0 : a0.length ≤ ca0) (a1 : Int) (r : Int) (H : laws_heldMeadowS.f k a0 a1 = some r) :
    CV Try.prog 35 [.slice Aa0 a0.length ca0, .int .i64 a1].toArray w fun v w' => v = .int .i64 r ∧ Ext w w' := by
  have hS := ((St.init w no).param cMeadow Aa0 ca0 a0 hr0 hc0)
  unfold laws_heldMeadowS.f at H
  refine CV.body Try.func35 rfl Try.ntmps35 rfl ?_
  refine CJ.seq ?_
  refine CJ.region ?_
  refine OJ.pures tU_ok 1 rfl ?_
  refine OJ.nil (EJ.next ?_)
  refine CJ.seq ?_
  refine CJ.seq ?_
  refine CJ.region ?_
  refine OJ.pures tU_ok 1 rfl ?_
  refine OJ.nil (EJ.next ?_)
  obtain ⟨j125, H, K125⟩ := pbind H
  refine CJ.cut1 (fun F w1 => ∃ (y1 : Int) , (some (Sum.inr y1) : Option (Int ⊕ Int)) = some j125 ∧ F = [(1, .int .i64 y1)] ∧ St w no w1 [] [roC cMeadow Aa0 ca0 a0]) ?_ ?_
  · skip
    refine CJ.block ?_
    refine CJ.loop (fun k F w1 => ∃ (y2 : Int) (y3 : Int), F = [(0, .slice Aa0 a0.length ca0), (1, .int .i64 y2), (5, .int .i64 y3)] ∧ St w no w1 [] [roC cMeadow Aa0 ca0 a0] ∧ laws_heldMeadowS.l1 a0 k y2 y3 = some j125) k (F' := [(0, .slice Aa0 a0.length ca0), (1, .int .i64 a1), (5, .int .i64 0)]) ⟨rfl, rfl, rfl, trivial⟩ ⟨a1, 0, rfl, hS.pick [] [0] rfl, H⟩ ?_
    rintro k F w1 ⟨y2, y3, rfl, hS, H⟩
    cases k with
    | zero => rw [laws_heldMeadowS.l1] at H; cases H
    | succ k =>
      rw [laws_heldMeadowS.l1] at H
      refine CJ.seq ?_
      refine CJ.seq ?_
      refine CJ.region ?_
      refine OJ.pures tU_ok 4 rfl ?_
      refine OJ.nil (EJ.next ?_)
      refine CJ.cond rfl (fun hb => ?_) (fun hb => ?_)
      · replace H := pif_t (of_decide_eq_true hb) H
        refine CJ.skip (EJ.next ?_)
        refine CJ.seq ?_
        refine CJ.block ?_
        refine CJ.seq ?_
        refine CJ.seq ?_
        refine CJ.region ?_
        refine OJ.pures tU_ok 2 rfl ?_
        obtain ⟨t4, ht4, H⟩ := pbind H
        obtain ⟨ad4, e4⟩ := (hS.rd' (i := 0) rfl).some' ht4
        refine OJ.st rfl rfl rfl (SR.idxS tU_ok tI_ok rfl rfl rfl rfl e4 rfl (getI_some ht4).1) ?_
        refine OJ.st rfl rfl rfl (SR.fieldAddr tU_ok tI_ok rfl rfl rfl rfl rfl rfl) ?_
        refine OJ.st rfl rfl rfl (SR.load rfl rfl (fun w' hx => ld1 tU_ok rfl rfl (CA.ext (CA.sub ((hS.rd' (i := 0) rfl).at_ e4 ht4) 0) hx) rfl)) ?_
        refine OJ.pures tU_ok 3 rfl ?_
        refine OJ.nil (EJ.next ?_)
        refine CJ.cond rfl (fun hb => ?_) (fun hb => ?_)
        · replace H := pif_t (of_decide_eq_true hb) H
          refine CJ.seq ?_
          refine CJ.region ?_
          refine OJ.pures tU_ok 1 rfl ?_
          refine OJ.nil (EJ.next ?_)
          refine CJ.ret (EJ.skR (EJ.bkR (EJ.skR (EJ.skR (EJ.bkR (EJ.skR (EJ.skR (?_))))))))
          first | (obtain rfl := Option.some.inj H; have H := K125) | (obtain ⟨q125, H2, e125⟩ := pbind H; obtain rfl := Option.some.inj e125; obtain rfl := Option.some.inj K125; have H := H2)
          obtain rfl := Option.some.inj H
          exact EJ.fin rfl (.tmp rfl .nil) ⟨rfl, hS.ext⟩
        · replace H := pif_f (of_decide_eq_false hb) H
          refine CJ.skip (EJ.next ?_)
          refine CJ.seq ?_
          refine CJ.region ?_
          refine OJ.pures tU_ok 3 rfl ?_
          refine OJ.nil (EJ.next ?_)
          refine CJ.seq ?_
          refine CJ.seq ?_
          refine CJ.region ?_
          refine OJ.pures tU_ok 2 rfl ?_
          obtain ⟨t5, ht5, H⟩ := pbind H
          obtain ⟨ad5, e5⟩ := (hS.rd' (i := 0) rfl).some' ht5
          refine OJ.st rfl rfl rfl (SR.idxS tU_ok tI_ok rfl rfl rfl rfl e5 rfl (getI_some ht5).1) ?_
          refine OJ.st rfl rfl rfl (SR.fieldAddr tU_ok tI_ok rfl rfl rfl rfl rfl rfl) ?_
          refine OJ.st rfl rfl rfl (SR.load rfl rfl (fun w' hx => ld1 tU_ok rfl rfl (CA.ext (CA.sub ((hS.rd' (i := 0) rfl).at_ e5 ht5) 1) hx) rfl)) ?_
          refine OJ.pures tU_ok 3 rfl ?_
          refine OJ.nil (EJ.next ?_)
          refine CJ.cond rfl (fun hb => ?_) (fun hb => ?_)
          · replace H := pif_t (of_decide_eq_true hb) H
            refine CJ.seq ?_
            refine CJ.region ?_
            refine OJ.pures tU_ok 1 rfl ?_
            refine OJ.nil (EJ.next ?_)
            refine CJ.ret (EJ.skR (EJ.bkR (EJ.skR (EJ.skR (EJ.bkR (EJ.skR (EJ.skR (?_))))))))
            first | (obtain rfl := Option.some.inj H; have H := K125) | (obtain ⟨q125, H2, e125⟩ := pbind H; obtain rfl := Option.some.inj e125; obtain rfl := Option.some.inj K125; have H := H2)
            obtain rfl := Option.some.inj H
            exact EJ.fin rfl (.tmp rfl .nil) ⟨rfl, hS.ext⟩
          · replace H := pif_f (of_decide_eq_false hb) H
            refine CJ.skip (EJ.next ?_)
            refine CJ.seq ?_
            refine CJ.region ?_
            refine OJ.pures tU_ok 3 rfl ?_
            refine OJ.nil (EJ.next ?_)
            refine CJ.seq ?_
            refine CJ.seq ?_
            refine CJ.region ?_
            refine OJ.pures tU_ok 2 rfl ?_
            obtain ⟨t6, ht6, H⟩ := pbind H
            obtain ⟨ad6, e6⟩ := (hS.rd' (i := 0) rfl).some' ht6
            refine OJ.st rfl rfl rfl (SR.idxS tU_ok tI_ok rfl rfl rfl rfl e6 rfl (getI_some ht6).1) ?_
            refine OJ.st rfl rfl rfl (SR.fieldAddr tU_ok tI_ok rfl rfl rfl rfl rfl rfl) ?_
            refine OJ.st rfl rfl rfl (SR.load rfl rfl (fun w' hx => ld1 tU_ok rfl rfl (CA.ext (CA.sub ((hS.rd' (i := 0) rfl).at_ e6 ht6) 2) hx) rfl)) ?_
            refine OJ.pures tU_ok 3 rfl ?_
            refine OJ.nil (EJ.next ?_)
            refine CJ.cond rfl (fun hb => ?_) (fun hb => ?_)
            · replace H := pif_t (of_decide_eq_true hb) H
              refine CJ.seq ?_
              refine CJ.region ?_
              refine OJ.pures tU_ok 1 rfl ?_
              refine OJ.nil (EJ.next ?_)
              refine CJ.ret (EJ.skR (EJ.bkR (EJ.skR (EJ.skR (EJ.bkR (EJ.skR (EJ.skR (?_))))))))
              first | (obtain rfl := Option.some.inj H; have H := K125) | (obtain ⟨q125, H2, e125⟩ := pbind H; obtain rfl := Option.some.inj e125; obtain rfl := Option.some.inj K125; have H := H2)
              obtain rfl := Option.some.inj H
              exact EJ.fin rfl (.tmp rfl .nil) ⟨rfl, hS.ext⟩
            · replace H := pif_f (of_decide_eq_false hb) H
              refine CJ.skip (EJ.next ?_)
              refine CJ.region ?_
              refine OJ.pures tU_ok 3 rfl ?_
              refine OJ.nil (EJ.blk (EJ.next ?_))
              refine CJ.region ?_
              refine OJ.pures tU_ok 3 rfl ?_
              refine OJ.nil ?_
              exact EJ.round k (F' := [(0, .slice Aa0 a0.length ca0), (1, .int .i64 (IntKind.i64.wrap ((IntKind.i64.wrap ((IntKind.i64.wrap (y2 + 1)) + 1)) + 1))), (5, .int .i64 (IntKind.i64.wrap (y3 + 1)))]) ⟨rfl, rfl, rfl, trivial⟩ (Nat.lt_succ_self _) ⟨(IntKind.i64.wrap ((IntKind.i64.wrap ((IntKind.i64.wrap (y2 + 1)) + 1)) + 1)), (IntKind.i64.wrap (y3 + 1)), rfl, hS.pick [] [0] rfl, H⟩
      · replace H := pif_f (of_decide_eq_false hb) H
        refine CJ.exit (EJ.skE (EJ.skE (EJ.hit (?_))))
        exact EJ.meet (F' := [(1, .int .i64 y2)]) ⟨rfl, trivial⟩ ⟨y2, H, rfl, hS.pick [] [0] rfl⟩
  · rintro F w1 ⟨y1, he, rfl, hS⟩
    obtain rfl := Option.some.inj he
    have H := K125
    refine EJ.next ?_
    refine CJ.seq ?_
    refine CJ.region ?_
    refine OJ.pures tU_ok 2 rfl ?_
    refine OJ.nil (EJ.next ?_)
    refine CJ.ret (?_)
    obtain rfl := Option.some.inj H
    exact EJ.fin rfl (.tmp rfl .nil) ⟨rfl, hS.ext⟩

def laws_eqSpotS.l1 (a0 : List Spot) (a1 : List Spot) : Nat → Int → Option (Bool ⊕ Unit)
  | 0, _ => none
  | k + 1, y1 => if y1 < (a0.length : Int) then ((getI a0 y1).bind fun t2 => (getI a1 y1).bind fun t3 => (laws_eqSpot.f t2 t3).bind fun t4 => if (!t4) = true then (some (Sum.inl false)) else (laws_eqSpotS.l1 a0 a1 k (IntKind.i64.wrap (y1 + 1)))) else (some (Sum.inr ()))
def laws_eqSpotS.f (k : Nat) (a0 : List Spot) (a1 : List Spot) : Option Bool := if (a0.length : Int) ≠ (a1.length : Int) then (some false) else ((laws_eqSpotS.l1 a0 a1 k 0).bind fun s126 => match s126 with | .inl r => some r | .inr _ => some true)
theorem laws_eqSpotS.c (k : Nat) (w : World) (Aa0 : Option Addr) (ca0 : Nat) (a0 : List Spot) (hr0 : Rd cSpot w Aa0 a0) (hc0 : a0.length ≤ ca0) (Aa1 : Option Addr) (ca1 : Nat) (a1 : List Spot) (hr1 : Rd cSpot w Aa1 a1) (hc1 : a1.length ≤ ca1) (r : Bool) (H : laws_eqSpotS.f k a0 a1 = some r) :
    CV Try.prog 40 [.slice Aa0 a0.length ca0, .slice Aa1 a1.length ca1].toArray w fun v w' => v = .bool r ∧ Ext w w' := by
  have hS := (((St.init w no).param cSpot Aa0 ca0 a0 hr0 hc0).param cSpot Aa1 ca1 a1 hr1 hc1)
  unfold laws_eqSpotS.f at H
  refine CV.body Try.func40 rfl Try.ntmps40 rfl ?_
  refine CJ.seq ?_
  refine CJ.region ?_
  refine OJ.pures tU_ok 1 rfl ?_
  refine OJ.nil (EJ.next ?_)
  refine CJ.seq ?_
  refine CJ.seq ?_
  refine CJ.region ?_
  refine OJ.pures tU_ok 5 rfl ?_
  refine OJ.nil (EJ.next ?_)
  refine CJ.cond rfl (fun hb => ?_) (fun hb => ?_)
  · replace H := pif_t (of_decide_eq_true hb) H
    refine CJ.seq ?_
    refine CJ.region ?_
    refine OJ.pures tU_ok 1 rfl ?_
    refine OJ.nil (EJ.next ?_)
    refine CJ.ret (EJ.skR (?_))
    obtain rfl := Option.some.inj H
    exact EJ.fin rfl (.tmp rfl .nil) ⟨rfl, hS.ext⟩
  · replace H := pif_f (of_decide_eq_false hb) H
    refine CJ.skip (EJ.next ?_)
    refine CJ.seq ?_
    refine CJ.seq ?_
    refine CJ.region ?_
    refine OJ.pures tU_ok 1 rfl ?_
    refine OJ.nil (EJ.next ?_)
    obtain ⟨j126, H, K126⟩ := pbind H
    refine CJ.cut1 (fun F w1 => (some (Sum.inr ()) : Option (Bool ⊕ Unit)) = some j126 ∧ F = [] ∧ St w no w1 [] [roC cSpot Aa0 ca0 a0, roC cSpot Aa1 ca1 a1]) ?_ ?_
    · skip
      refine CJ.block ?_
      refine CJ.loop (fun k F w1 => ∃ (y1 : Int), F = [(0, .slice Aa0 a0.length ca0), (1, .slice Aa1 a1.length ca1), (5, .int .i64 y1)] ∧ St w no w1 [] [roC cSpot Aa0 ca0 a0, roC cSpot Aa1 ca1 a1] ∧ laws_eqSpotS.l1 a0 a1 k y1 = some j126) k (F' := [(0, .slice Aa0 a0.length ca0), (1, .slice Aa1 a1.length ca1), (5, .int .i64 0)]) ⟨rfl, rfl, rfl, trivial⟩ ⟨0, rfl, hS.pick [] [0, 1] rfl, H⟩ ?_
      rintro k F w1 ⟨y1, rfl, hS, H⟩
      cases k with
      | zero => rw [laws_eqSpotS.l1] at H; cases H
      | succ k =>
        rw [laws_eqSpotS.l1] at H
        refine CJ.seq ?_
        refine CJ.seq ?_
        refine CJ.region ?_
        refine OJ.pures tU_ok 4 rfl ?_
        refine OJ.nil (EJ.next ?_)
        refine CJ.cond rfl (fun hb => ?_) (fun hb => ?_)
        · replace H := pif_t (of_decide_eq_true hb) H
          refine CJ.skip (EJ.next ?_)
          refine CJ.seq ?_
          refine CJ.block ?_
          refine CJ.seq ?_
          refine CJ.draw [] [0, 1, 2, 3, 4, 5, 6, 7, 8, 9] mixed (by kernel_rfl) hS fun w1 hS => ?_
          refine DJ.pures tU_ok 2 rfl ?_
          obtain ⟨t2, ht2, H⟩ := pbind H
          obtain ⟨ad2, e2⟩ := (hS.rd' (i := 0) rfl).some' ht2
          refine DJ.st rfl rfl rfl rfl rfl (SR.idxS tU_ok tI_ok rfl rfl rfl rfl e2 rfl (getI_some ht2).1) ?_
          refine DJ.st rfl rfl rfl rfl rfl (SR.load rfl rfl (fun w' hx => ldE tU_ok tI_ok rfl rfl rfl (CA.ext ((hS.rd' (i := 0) rfl).at_ e2 ht2) hx) rfl)) ?_
          refine DJ.pures tU_ok 2 rfl ?_
          obtain ⟨t3, ht3, H⟩ := pbind H
          obtain ⟨ad3, e3⟩ := (hS.rd' (i := 1) rfl).some' ht3
          refine DJ.st rfl rfl rfl rfl rfl (SR.idxS tU_ok tI_ok rfl rfl rfl rfl e3 rfl (getI_some ht3).1) ?_
          refine DJ.st rfl rfl rfl rfl rfl (SR.load rfl rfl (fun w' hx => ldE tU_ok tI_ok rfl rfl rfl (CA.ext ((hS.rd' (i := 1) rfl).at_ e3 ht3) hx) rfl)) ?_
          obtain ⟨t4, ht4, H⟩ := pbind H
          refine DJ.callF rfl rfl rfl rfl rfl rfl rfl hb108 rfl (laws_eqSpot.c _ t2 t3 _ ht4) (by rintro v w' ⟨rfl, hs⟩; exact hs) ?_
          rintro _ w1 ⟨rfl, hs⟩
          replace hS := hS.grow hs
          refine DJ.pures tU_ok 1 rfl ?_
          refine DJ.nil (EJ.next ?_)
          refine CJ.cond rfl (fun hb => ?_) (fun hb => ?_)
          · replace H := pif_t hb H
            refine CJ.seq ?_
            refine CJ.region ?_
            refine OJ.pures tU_ok 1 rfl ?_
            refine OJ.nil (EJ.next ?_)
            refine CJ.ret (EJ.bkR (EJ.skR (EJ.skR (EJ.bkR (EJ.skR (EJ.skR (?_)))))))
            first | (obtain rfl := Option.some.inj H; have H := K126) | (obtain ⟨q126, H2, e126⟩ := pbind H; obtain rfl := Option.some.inj e126; obtain rfl := Option.some.inj K126; have H := H2)
            obtain rfl := Option.some.inj H
            exact EJ.fin rfl (.tmp rfl .nil) ⟨rfl, hS.ext⟩
          · replace H := pifb_f hb H
            refine CJ.skip (EJ.blk (EJ.next ?_))
            refine CJ.region ?_
            refine OJ.pures tU_ok 3 rfl ?_
            refine OJ.nil ?_
            exact EJ.round k (F' := [(0, .slice Aa0 a0.length ca0), (1, .slice Aa1 a1.length ca1), (5, .int .i64 (IntKind.i64.wrap (y1 + 1)))]) ⟨rfl, rfl, rfl, trivial⟩ (Nat.lt_succ_self _) ⟨(IntKind.i64.wrap (y1 + 1)), rfl, hS.pick [] [0, 1] rfl, H⟩
        · replace H := pif_f (of_decide_eq_false hb) H
          refine CJ.exit (EJ.skE (EJ.skE (EJ.hit (?_))))
          exact EJ.meet (F' := []) trivial ⟨H, rfl, hS.pick [] [0, 1] rfl⟩
    · rintro F w1 ⟨he, rfl, hS⟩
      obtain rfl := Option.some.inj he
      have H := K126
      refine EJ.next ?_
      refine CJ.seq ?_
      refine CJ.region ?_
      refine OJ.pures tU_ok 1 rfl ?_
      refine OJ.nil (EJ.next ?_)
      refine CJ.ret (?_)
      obtain rfl := Option.some.inj H
      exact EJ.fin rfl (.tmp rfl .nil) ⟨rfl, hS.ext⟩

def laws_markSpotS.l1 (a0 : List Spot) : Nat → (List Spot) → Int → Int → Option ((List Spot) × Int)
  | 0, _, _, _ => none
  | k + 1, y3, y4, y5 => if y5 < (a0.length : Int) then ((getI y3 y5).bind fun t6 => (getI (y3.set y5.toNat (⟨IntKind.i8.wrap y4, t6.Y⟩ : Spot)) y5).bind fun t7 => laws_markSpotS.l1 a0 k ((y3.set y5.toNat (⟨IntKind.i8.wrap y4, t6.Y⟩ : Spot)).set y5.toNat (⟨t7.X, IntKind.i8.wrap (IntKind.i64.wrap (y4 + 1))⟩ : Spot)) (IntKind.i64.wrap ((IntKind.i64.wrap (y4 + 1)) + 1)) (IntKind.i64.wrap (y5 + 1))) else (some (y3, y4))
def laws_markSpotS.f (k : Nat) (a0 : List Spot) (a1 : Int) : Option (Int × List Spot) := (laws_markSpotS.l1 a0 k a0 a1 0).bind fun (y1, y2) => some (y2, y1)
theorem laws_markSpotS.c (k : Nat) (w : World) (Aa0 : Option Addr) (ca0 : Nat) (a0 : List Spot) (a1 : Int) (hin : St w (fpU [rowC cSpot Aa0 ca0 105 a0]) w [rowC cSpot Aa0 ca0 105 a0] []) (r : Int × List Spot) (H : laws_markSpotS.f k a0 a1 = some r) :
    CV Try.prog 41 [.slice Aa0 a0.length ca0, .int .i64 a1].toArray w fun v w' => v = .int .i64 r.1 ∧ St w (fpU [rowC cSpot Aa0 ca0 105 a0]) w' [rowC cSpot Aa0 ca0 105 r.2] [] ∧ r.2.length = a0.length := by
  have hS := hin
  unfold laws_markSpotS.f at H
  refine CV.body Try.func41 rfl Try.ntmps41 rfl ?_
  have hl0 : a0.length = a0.length := rfl
  refine CJ.seq ?_
  refine CJ.region ?_
  refine OJ.pures tU_ok 1 rfl ?_
  refine OJ.nil (EJ.next ?_)
  refine CJ.seq ?_
  refine CJ.seq ?_
  refine CJ.region ?_
  refine OJ.pures tU_ok 1 rfl ?_
  refine OJ.nil (EJ.next ?_)
  obtain ⟨j128, H, K128⟩ := pbind H
  refine CJ.cut1 (fun F w1 => ∃ (y1 : List Spot) (y2 : Int) , (some (y1, y2) : Option ((List Spot) × Int)) = some j128 ∧ F = [(1, .int .i64 y2)] ∧ St w (fpU [rowC cSpot Aa0 ca0 105 a0]) w1 [rowC cSpot Aa0 ca0 105 y1] [] ∧ y1.length = a0.length) ?_ ?_
  · skip
    refine CJ.block ?_
    refine CJ.loop (fun k F w1 => ∃ (y3 : List Spot) (y4 : Int) (y5 : Int), F = [(0, .slice Aa0 a0.length ca0), (1, .int .i64 y4), (5, .int .i64 y5)] ∧ St w (fpU [rowC cSpot Aa0 ca0 105 a0]) w1 [rowC cSpot Aa0 ca0 105 y3] [] ∧ y3.length = a0.length ∧ laws_markSpotS.l1 a0 k y3 y4 y5 = some j128) k (F' := [(0, .slice Aa0 a0.length ca0), (1, .int .i64 a1), (5, .int .i64 0)]) ⟨rfl, rfl, rfl, trivial⟩ ⟨a0, a1, 0, rfl, hS.pick [0] [] rfl, (by first | exact hl0 | (simp only [List.length_set]; exact hl0)), H⟩ ?_
    rintro k F w1 ⟨y3, y4, y5, rfl, hS, hl0, H⟩
    cases k with
    | zero => rw [laws_markSpotS.l1] at H; cases H
    | succ k =>
      rw [laws_markSpotS.l1] at H
      refine CJ.seq ?_
      refine CJ.seq ?_
      refine CJ.region ?_
      refine OJ.pures tU_ok 4 rfl ?_
      refine OJ.nil (EJ.next ?_)
      refine CJ.cond rfl (fun hb => ?_) (fun hb => ?_)
      · replace H := pif_t (of_decide_eq_true hb) H
        refine CJ.skip (EJ.next ?_)
        refine CJ.seq ?_
        refine CJ.block ?_
        refine CJ.seq ?_
        refine CJ.region ?_
        refine OJ.pures tU_ok 4 rfl ?_
        obtain ⟨t6, ht6, H⟩ := pbind H
        obtain ⟨ad6, e6⟩ := (hS.rd (i := 0) rfl).some' ht6
        refine OJ.st rfl rfl rfl (SR.idxS tU_ok tI_ok rfl rfl rfl rfl e6 rfl (by have hg := (getI_some ht6).1; (first | rw [hl0] at hg | (simp only [List.length_set] at hg; rw [hl0] at hg)); exact hg)) ?_
        refine OJ.st rfl rfl rfl (SR.fieldAddr tU_ok tI_ok rfl rfl rfl rfl rfl rfl) ?_
        refine OJ.es rfl rfl (Es.storeR tI_ok hS (i := 0) (off := 0) rfl rfl ht6 e6 rfl (add_add _ _ _) rfl rfl (vs := (ci .i8).enc (IntKind.i8.wrap y4)) rfl rfl (one1 rfl) (Nat.le_of_ble_eq_true rfl) (⟨IntKind.i8.wrap y4, t6.Y⟩ : Spot) rfl) ?_
        intro w1 hS
        refine OJ.nil (EJ.next ?_)
        refine CJ.seq ?_
        refine CJ.region ?_
        refine OJ.pures tU_ok 3 rfl ?_
        refine OJ.nil (EJ.next ?_)
        refine CJ.seq ?_
        refine CJ.region ?_
        refine OJ.pures tU_ok 4 rfl ?_
        obtain ⟨t7, ht7, H⟩ := pbind H
        obtain ⟨ad7, e7⟩ := (hS.rd (i := 0) rfl).some' ht7
        refine OJ.st rfl rfl rfl (SR.idxS tU_ok tI_ok rfl rfl rfl rfl e7 rfl (by have hg := (getI_some ht7).1; (first | rw [hl0] at hg | (simp only [List.length_set] at hg; rw [hl0] at hg)); exact hg)) ?_
        refine OJ.st rfl rfl rfl (SR.fieldAddr tU_ok tI_ok rfl rfl rfl rfl rfl rfl) ?_
        refine OJ.es rfl rfl (Es.storeR tI_ok hS (i := 0) (off := 1) rfl rfl ht7 e7 rfl (add_add _ _ _) rfl rfl (vs := (ci .i8).enc (IntKind.i8.wrap (IntKind.i64.wrap (y4 + 1)))) rfl rfl (one1 rfl) (Nat.le_of_ble_eq_true rfl) (⟨t7.X, IntKind.i8.wrap (IntKind.i64.wrap (y4 + 1))⟩ : Spot) rfl) ?_
        intro w1 hS
        refine OJ.nil (EJ.next ?_)
        refine CJ.region ?_
        refine OJ.pures tU_ok 3 rfl ?_
        refine OJ.nil (EJ.blk (EJ.next ?_))
        refine CJ.region ?_
        refine OJ.pures tU_ok 3 rfl ?_
        refine OJ.nil ?_
        exact EJ.round k (F' := [(0, .slice Aa0 a0.length ca0), (1, .int .i64 (IntKind.i64.wrap ((IntKind.i64.wrap (y4 + 1)) + 1))), (5, .int .i64 (IntKind.i64.wrap (y5 + 1)))]) ⟨rfl, rfl, rfl, trivial⟩ (Nat.lt_succ_self _) ⟨((y3.set y5.toNat (⟨IntKind.i8.wrap y4, t6.Y⟩ : Spot)).set y5.toNat (⟨t7.X, IntKind.i8.wrap (IntKind.i64.wrap (y4 + 1))⟩ : Spot)), (IntKind.i64.wrap ((IntKind.i64.wrap (y4 + 1)) + 1)), (IntKind.i64.wrap (y5 + 1)), rfl, hS.pick [0] [] rfl, (by first | exact hl0 | (simp only [List.length_set]; exact hl0)), H⟩
      · replace H := pif_f (of_decide_eq_false hb) H
        refine CJ.exit (EJ.skE (EJ.skE (EJ.hit (?_))))
        exact EJ.meet (F' := [(1, .int .i64 y4)]) ⟨rfl, trivial⟩ ⟨y3, y4, H, rfl, hS.pick [0] [] rfl, (by first | exact hl0 | (simp only [List.length_set]; exact hl0))⟩
  · rintro F w1 ⟨y1, y2, he, rfl, hS, hl0⟩
    obtain rfl := Option.some.inj he
    have H := K128
    refine EJ.next ?_
    refine CJ.seq ?_
    refine CJ.region ?_
    refine OJ.pures tU_ok 2 rfl ?_
    refine OJ.nil (EJ.next ?_)
    refine CJ.ret (?_)
    obtain rfl := Option.some.inj H
    exact EJ.fin rfl (.tmp rfl .nil) ⟨rfl, hS.pick [0] [] rfl, (by first | exact hl0 | (simp only [List.length_set]; exact hl0))⟩

def impl_greedy.l2 (y8 : List Meadow) : Nat → Int → Int → Option Int
  | 0, _, _ => none
  | k + 1, y19, y20 => if y20 < (y8.length : Int) then ((getI y8 y20).bind fun t21 => (getI y8 y19).bind fun t23 => if t23.Grass < t21.Grass then (impl_greedy.l2 y8 k y20 (IntKind.i64.wrap (y20 + 1))) else (impl_greedy.l2 y8 k y19 (IntKind.i64.wrap (y20 + 1)))) else (some y19)
def impl_greedy.l1 (a1 : Int) (a2 : Int) : Nat → (List Int) → (List Meadow) → Int → Option ((List Int) ⊕ (List Int))
  | 0, _, _, _ => none
  | k + 1, y5, y8, y11 => if y11 < a2 then (((impl_greedy.l2 y8 k 0 0).bind fun y18 => (impl_behind.f k y8 a1 y18).bind fun t24 => if (!t24.2) = true then (some (Sum.inl (Sum.inl y5))) else ((chk (y5.length + ([y18] : List Int).length ≤ 4294967296)).bind fun u28 => some (Sum.inr (y5 ++ ([y18] : List Int), t24.1)))).bind fun s136 => match s136 with | .inl r => some r | .inr (y12, y15) => impl_greedy.l1 a1 a2 k y12 y15 (IntKind.i64.wrap (y11 + 1))) else (some (Sum.inr y5))
def impl_greedy.f (k : Nat) (a0 : List Meadow) (a1 : Int) (a2 : Int) : Option (List Int) := (impl_greedy.l1 a1 a2 k ([] : List Int) a0 0).bind fun s129 => match s129 with | .inl r => some r | .inr y2 => some y2
theorem impl_greedy.c (k : Nat) (w : World) (Aa0 : Option Addr) (ca0 : Nat) (a0 : List Meadow) (hr0 : Rd cMeadow w Aa0 a0) (hc0 : a0.length ≤ ca0) (a1 : Int) (a2 : Int) (r : List Int) (H : impl_greedy.f k a0 a1 a2 = some r) :
    CV Try.prog 112 [.slice Aa0 a0.length ca0, .int .i64 a1, .int .i64 a2].toArray w fun v w' => ∃ (A0 : Option Addr) (c0 : Nat), v = .slice A0 r.length c0 ∧ St w no w' [rowC (ci .i64) A0 c0 2 r] [] := by
  have hS := ((St.init w no).param cMeadow Aa0 ca0 a0 hr0 hc0)
  unfold impl_greedy.f at H
  refine CV.body Try.func112 rfl Try.ntmps112 rfl ?_
  refine CJ.seq ?_
  refine CJ.region ?_
  refine OJ.pures tU_ok 1 rfl ?_
  refine OJ.nil (EJ.next ?_)
  refine CJ.seq ?_
  refine CJ.region ?_
  refine OJ.ef rfl rfl rfl (Ef.lit tU_ok tI_ok hS (C := (ci .i64)) rfl rfl rfl rfl rfl rfl ([] : List Int) rfl rfl rfl rfl) ?_
  rintro _ w1 ⟨A1, rfl, hS⟩
  refine OJ.pures tU_ok 1 rfl ?_
  refine OJ.nil (EJ.next ?_)
  refine CJ.seq ?_
  refine CJ.seq ?_
  refine CJ.region ?_
  refine OJ.pures tU_ok 2 rfl ?_
  refine OJ.nil (EJ.next ?_)
  obtain ⟨j129, H, K129⟩ := pbind H
  refine CJ.cut1 (fun F w1 => ∃ (y2 : List Int) (A3 : Option Addr) (c4 : Nat), (some (Sum.inr y2) : Option ((List Int) ⊕ (List Int))) = some j129 ∧ F = [(7, .slice A3 y2.length c4)] ∧ St w no w1 [rowC (ci .i64) A3 c4 2 y2] [roC cMeadow Aa0 ca0 a0]) ?_ ?_
  · skip
    refine CJ.block ?_
    refine CJ.loop (fun k F w1 => ∃ (y5 : List Int) (y8 : List Meadow) (y11 : Int) (A6 : Option Addr) (c7 : Nat) (A9 : Option Addr) (c10 : Nat), F = [(0, .slice A9 y8.length c10), (1, .int .i64 a1), (7, .slice A6 y5.length c7), (14, .int .i64 a2), (15, .int .i64 y11)] ∧ St w no w1 [rowC (ci .i64) A6 c7 2 y5] [roC cMeadow Aa0 ca0 a0, roC cMeadow A9 c10 y8] ∧ impl_greedy.l1 a1 a2 k y5 y8 y11 = some j129) k (F' := [(0, .slice Aa0 a0.length ca0), (1, .int .i64 a1), (7, .slice A1 ([] : List Int).length (([] : List Int).length)), (14, .int .i64 a2), (15, .int .i64 0)]) ⟨rfl, rfl, rfl, rfl, rfl, trivial⟩ ⟨([] : List Int), a0, 0, A1, (([] : List Int).length), Aa0, ca0, rfl, hS.pick [0] [0, 0] rfl, H⟩ ?_
    rintro k F w1 ⟨y5, y8, y11, A6, c7, A9, c10, rfl, hS, H⟩
    cases k with
    | zero => rw [impl_greedy.l1] at H; cases H
    | succ k =>
      rw [impl_greedy.l1] at H
      refine CJ.seq ?_
      refine CJ.region ?_
      refine OJ.pures tU_ok 1 rfl ?_
      refine OJ.nil (EJ.next ?_)
      refine CJ.seq ?_
      refine CJ.cond rfl (fun hb => ?_) (fun hb => ?_)
      · replace H := pif_t (of_decide_eq_true hb) H
        refine CJ.skip (EJ.next ?_)
        obtain ⟨j136, H, K136⟩ := pbind H
        refine CJ.cut (fun F w1 => ∃ (y12 : List Int) (y15 : List Meadow) (A13 : Option Addr) (c14 : Nat) (A16 : Option Addr) (c17 : Nat), (some (Sum.inr (y12, y15)) : Option (((List Int) ⊕ (List Int)) ⊕ ((List Int) × (List Meadow)))) = some j136 ∧ F = [(0, .slice A16 y15.length c17), (1, .int .i64 a1), (7, .slice A13 y12.length c14), (14, .int .i64 a2), (15, .int .i64 y11)] ∧ St w no w1 [rowC (ci .i64) A13 c14 2 y12, rowC cMeadow A16 c17 85 y15] [roC cMeadow Aa0 ca0 a0, roC cMeadow A9 c10 y8]) ?_ ?_
        · skip
          refine CJ.block ?_
          refine CJ.seq ?_
          refine CJ.region ?_
          refine OJ.pures tU_ok 1 rfl ?_
          refine OJ.nil (EJ.next ?_)
          refine CJ.seq ?_
          refine CJ.seq ?_
          refine CJ.region ?_
          refine OJ.pures tU_ok 3 rfl ?_
          refine OJ.nil (EJ.next ?_)
          obtain ⟨j138, H, K138⟩ := pbind H
          refine CJ.cut1 (fun F w1 => ∃ (y18 : Int) , (some y18 : Option Int) = some j138 ∧ F = [(0, .slice A9 y8.length c10), (1, .int .i64 a1), (7, .slice A6 y5.length c7), (8, .int .i64 y18), (14, .int .i64 a2), (15, .int .i64 y11)] ∧ St w no w1 [rowC (ci .i64) A6 c7 2 y5] [roC cMeadow Aa0 ca0 a0, roC cMeadow A9 c10 y8]) ?_ ?_
          · skip
            refine CJ.block ?_
            refine CJ.loop (fun k F w1 => ∃ (y19 : Int) (y20 : Int), F = [(0, .slice A9 y8.length c10), (1, .int .i64 a1), (7, .slice A6 y5.length c7), (8, .int .i64 y19), (14, .int .i64 a2), (15, .int .i64 y11), (17, .slice A9 y8.length c10), (18, .int .i64 (y8.length : Int)), (19, .int .i64 y20)] ∧ St w no w1 [rowC (ci .i64) A6 c7 2 y5] [roC cMeadow Aa0 ca0 a0, roC cMeadow A9 c10 y8] ∧ impl_greedy.l2 y8 k y19 y20 = some j138) k (F' := [(0, .slice A9 y8.length c10), (1, .int .i64 a1), (7, .slice A6 y5.length c7), (8, .int .i64 0), (14, .int .i64 a2), (15, .int .i64 y11), (17, .slice A9 y8.length c10), (18, .int .i64 (y8.length : Int)), (19, .int .i64 0)]) ⟨rfl, rfl, rfl, rfl, rfl, rfl, rfl, rfl, rfl, trivial⟩ ⟨0, 0, rfl, hS.pick [0] [0, 1] rfl, H⟩ ?_
            rintro k F w1 ⟨y19, y20, rfl, hS, H⟩
            cases k with
            | zero => rw [impl_greedy.l2] at H; cases H
            | succ k =>
              rw [impl_greedy.l2] at H
              refine CJ.seq ?_
              refine CJ.region ?_
              refine OJ.pures tU_ok 1 rfl ?_
              refine OJ.nil (EJ.next ?_)
              refine CJ.seq ?_
              refine CJ.cond rfl (fun hb => ?_) (fun hb => ?_)
              · replace H := pif_t (of_decide_eq_true hb) H
                refine CJ.skip (EJ.next ?_)
                refine CJ.seq ?_
                refine CJ.block ?_
                refine CJ.seq ?_
                refine CJ.region ?_
                refine OJ.pures tU_ok 1 rfl ?_
                obtain ⟨t21, ht21, H⟩ := pbind H
                obtain ⟨ad21, e21⟩ := (hS.rd' (i := 1) rfl).some' ht21
                refine OJ.st rfl rfl rfl (SR.idxS tU_ok tI_ok rfl rfl rfl rfl e21 rfl (getI_some ht21).1) ?_
                refine OJ.st rfl rfl rfl (SR.load rfl rfl (fun w' hx => ldE tU_ok tI_ok rfl rfl rfl (CA.ext ((hS.rd' (i := 1) rfl).at_ e21 ht21) hx) rfl)) ?_
                refine OJ.ef rfl rfl rfl (Ef.alloc hS tI_ok rfl rfl (cMeadow.enc (⟨0, 0, 0⟩ : Meadow)) rfl) ?_
                rintro _ w1 ⟨b22, rfl, hS⟩
                refine OJ.pures tU_ok 1 rfl ?_
                refine OJ.es rfl rfl (Es.store tI_ok hS (i := 1) rfl rfl rfl rfl rfl rfl (vs := cMeadow.enc t21) rfl (cMeadow.len _) (cMeadow.one _) (Nat.le_of_ble_eq_true rfl) (cMeadow.enc t21) rfl) ?_
                intro w1 hS
                refine OJ.nil (EJ.next ?_)
                refine CJ.seq ?_
                refine CJ.draw [] [0, 1, 2, 3, 4, 5, 6, 7] mixed (by kernel_rfl) hS fun w1 hS => ?_
                refine DJ.st rfl rfl rfl rfl rfl (SR.fieldAddr tU_ok tI_ok rfl rfl rfl rfl rfl rfl) ?_
                refine DJ.st rfl rfl rfl rfl rfl (SR.load rfl rfl (fun w' hx => ld1 tU_ok rfl rfl (CA.ext (CA.sub (hS.cells (i := 1) rfl) 0) hx) rfl)) ?_
                refine DJ.pures tU_ok 2 rfl ?_
                obtain ⟨t23, ht23, H⟩ := pbind H
                obtain ⟨ad23, e23⟩ := (hS.rd' (i := 1) rfl).some' ht23
                refine DJ.st rfl rfl rfl rfl rfl (SR.idxS tU_ok tI_ok rfl rfl rfl rfl e23 rfl (getI_some ht23).1) ?_
                refine DJ.st rfl rfl rfl rfl rfl (SR.fieldAddr tU_ok tI_ok rfl rfl rfl rfl rfl rfl) ?_
                refine DJ.st rfl rfl rfl rfl rfl (SR.load rfl rfl (fun w' hx => ld1 tU_ok rfl rfl (CA.ext (CA.sub ((hS.rd' (i := 1) rfl).at_ e23 ht23) 0) hx) rfl)) ?_
                refine DJ.pures tU_ok 1 rfl ?_
                refine DJ.nil (EJ.next ?_)
                refine CJ.cond rfl (fun hb => ?_) (fun hb => ?_)
                · replace H := pif_t (of_decide_eq_true hb) H
                  refine CJ.region ?_
                  refine OJ.pures tU_ok 2 rfl ?_
                  refine OJ.nil (EJ.blk (EJ.next ?_))
                  refine CJ.region ?_
                  refine OJ.pures tU_ok 2 rfl ?_
                  refine OJ.nil ?_
                  exact EJ.round k (F' := [(0, .slice A9 y8.length c10), (1, .int .i64 a1), (7, .slice A6 y5.length c7), (8, .int .i64 y20), (14, .int .i64 a2), (15, .int .i64 y11), (17, .slice A9 y8.length c10), (18, .int .i64 (y8.length : Int)), (19, .int .i64 (IntKind.i64.wrap (y20 + 1)))]) ⟨rfl, rfl, rfl, rfl, rfl, rfl, rfl, rfl, rfl, trivial⟩ (Nat.lt_succ_self _) ⟨y20, (IntKind.i64.wrap (y20 + 1)), rfl, hS.pick [0] [0, 1] rfl, H⟩
                · replace H := pif_f (of_decide_eq_false hb) H
                  refine CJ.skip (EJ.blk (EJ.next ?_))
                  refine CJ.region ?_
                  refine OJ.pures tU_ok 2 rfl ?_
                  refine OJ.nil ?_
                  exact EJ.round k (F' := [(0, .slice A9 y8.length c10), (1, .int .i64 a1), (7, .slice A6 y5.length c7), (8, .int .i64 y19), (14, .int .i64 a2), (15, .int .i64 y11), (17, .slice A9 y8.length c10), (18, .int .i64 (y8.length : Int)), (19, .int .i64 (IntKind.i64.wrap (y20 + 1)))]) ⟨rfl, rfl, rfl, rfl, rfl, rfl, rfl, rfl, rfl, trivial⟩ (Nat.lt_succ_self _) ⟨y19, (IntKind.i64.wrap (y20 + 1)), rfl, hS.pick [0] [0, 1] rfl, H⟩
              · replace H := pif_f (of_decide_eq_false hb) H
                refine CJ.exit (EJ.skE (EJ.skE (EJ.hit (?_))))
                exact EJ.meet (F' := [(0, .slice A9 y8.length c10), (1, .int .i64 a1), (7, .slice A6 y5.length c7), (8, .int .i64 y19), (14, .int .i64 a2), (15, .int .i64 y11)]) ⟨rfl, rfl, rfl, rfl, rfl, rfl, trivial⟩ ⟨y19, H, rfl, hS.pick [0] [0, 1] rfl⟩
          · rintro F w1 ⟨y18, he, rfl, hS⟩
            obtain rfl := Option.some.inj he
            have H := K138
            refine EJ.next ?_
            refine CJ.seq ?_
            refine CJ.region ?_
            refine OJ.pures tU_ok 3 rfl ?_
            obtain ⟨t24, ht24, H⟩ := pbind H
            refine OJ.callF rfl rfl rfl rfl rfl hb122 rfl (impl_behind.c k _ A9 c10 y8 (hS.rd' (i := 1) rfl) (hS.le' (i := 1) rfl) a1 y18 _ ht24) ?_
            rintro _ w1 ⟨A25, c26, rfl, hs⟩
            replace hS := hS.addN hs
            refine OJ.pures tU_ok 5 rfl ?_
            refine OJ.nil (EJ.next ?_)
            refine CJ.seq ?_
            refine CJ.seq ?_
            refine CJ.region ?_
            refine OJ.pures tU_ok 2 rfl ?_
            refine OJ.nil (EJ.next ?_)
            refine CJ.cond rfl (fun hb => ?_) (fun hb => ?_)
            · replace H := pif_t hb H
              refine CJ.seq ?_
              refine CJ.region ?_
              refine OJ.pures tU_ok 2 rfl ?_
              refine OJ.nil (EJ.next ?_)
              refine CJ.ret (EJ.skR (EJ.bkR (EJ.skR (EJ.skR (EJ.bkR (EJ.skR (EJ.skR (?_))))))))
              first | (obtain rfl := Option.some.inj H; have H := K136) | (obtain ⟨q136, H2, e136⟩ := pbind H; obtain rfl := Option.some.inj e136; obtain rfl := Option.some.inj K136; have H := H2)
              first | (obtain rfl := Option.some.inj H; have H := K129) | (obtain ⟨q129, H2, e129⟩ := pbind H; obtain rfl := Option.some.inj e129; obtain rfl := Option.some.inj K129; have H := H2)
              obtain rfl := Option.some.inj H
              exact EJ.fin rfl (.tmp rfl .nil) ⟨A6, c7, rfl, hS.pick [0] [] rfl⟩
            · replace H := pifb_f hb H
              refine CJ.skip (EJ.next ?_)
              refine CJ.region ?_
              refine OJ.pures tU_ok 2 rfl ?_
              refine OJ.ef rfl rfl rfl (Ef.lit tU_ok tI_ok hS (C := (ci .i64)) rfl rfl rfl rfl rfl rfl ([y18] : List Int) rfl rfl rfl rfl) ?_
              rintro _ w1 ⟨A27, rfl, hS⟩
              obtain ⟨u28, hu28, H⟩ := pbind H
              refine OJ.ew rfl rfl rfl (Ew.append tU_ok tI_ok (C := (ci .i64)) (xs := y5) (ys := ([y18] : List Int)) hS (i := 0) rfl rfl rfl rfl rfl rfl rfl rfl rfl rfl rfl rfl rfl (hS.rd (i := 2) rfl) (chk_some hu28)) ?_
              rintro _ w1 ⟨A29, c30, rfl, hS⟩
              refine OJ.pures tU_ok 3 rfl ?_
              refine OJ.nil (EJ.blk (?_))
              exact EJ.meet (F' := [(0, .slice A25 t24.1.length c26), (1, .int .i64 a1), (7, .slice A29 (y5 ++ ([y18] : List Int)).length c30), (14, .int .i64 a2), (15, .int .i64 y11)]) ⟨rfl, rfl, rfl, rfl, rfl, trivial⟩ ⟨(y5 ++ ([y18] : List Int)), t24.1, A29, c30, A25, c26, H, rfl, hS.pick [0, 1] [0, 1] rfl⟩
        · rintro F w1 ⟨y12, y15, A13, c14, A16, c17, he, rfl, hS⟩
          obtain rfl := Option.some.inj he
          have H := K136
          refine CJ.region ?_
          refine OJ.pures tU_ok 2 rfl ?_
          refine OJ.nil ?_
          replace hS := hS.freezeG (i := 1) rfl
          exact EJ.round k (F' := [(0, .slice A16 y15.length c17), (1, .int .i64 a1), (7, .slice A13 y12.length c14), (14, .int .i64 a2), (15, .int .i64 (IntKind.i64.wrap (y11 + 1)))]) ⟨rfl, rfl, rfl, rfl, rfl, trivial⟩ (Nat.lt_succ_self _) ⟨y12, y15, (IntKind.i64.wrap (y11 + 1)), A13, c14, A16, c17, rfl, hS.pick [0] [0, 2] rfl, H⟩
      · replace H := pif_f (of_decide_eq_false hb) H
        refine CJ.exit (EJ.skE (EJ.skE (EJ.hit (?_))))
        exact EJ.meet (F' := [(7, .slice A6 y5.length c7)]) ⟨rfl, trivial⟩ ⟨y5, A6, c7, H, rfl, hS.pick [0] [0] rfl⟩
  · rintro F w1 ⟨y2, A3, c4, he, rfl, hS⟩
    obtain rfl := Option.some.inj he
    have H := K129
    refine EJ.next ?_
    refine CJ.seq ?_
    refine CJ.region ?_
    refine OJ.pures tU_ok 2 rfl ?_
    refine OJ.nil (EJ.next ?_)
    refine CJ.ret (?_)
    obtain rfl := Option.some.inj H
    exact EJ.fin rfl (.tmp rfl .nil) ⟨A3, c4, rfl, hS.pick [0] [] rfl⟩

def impl_GreedyPlan.f (k : Nat) (a0 : List Meadow) (a1 : Int) (a2 : Int) : Option (List Int × Int) := (impl_spanCode.f k a0 a1 a2 0).bind fun t1 => if t1 ≠ 0 then (some ([], t1)) else ((impl_greedy.f k a0 a1 a2).bind fun t2 => (impl_size_int64.f t2).bind fun t5 => if t5 < a2 then (some ([], 6)) else (some (t2, 0)))
theorem impl_GreedyPlan.c (k : Nat) (w : World) (Aa0 : Option Addr) (ca0 : Nat) (a0 : List Meadow) (hr0 : Rd cMeadow w Aa0 a0) (hc0 : a0.length ≤ ca0) (a1 : Int) (a2 : Int) (r : List Int × Int) (H : impl_GreedyPlan.f k a0 a1 a2 = some r) :
    CV Try.prog 45 [.slice Aa0 a0.length ca0, .int .i64 a1, .int .i64 a2].toArray w fun v w' => ∃ (A0 : Option Addr) (c0 : Nat), v = .tuple #[.slice A0 r.1.length c0, .int .i64 r.2] ∧ St w no w' [rowC (ci .i64) A0 c0 2 r.1] [] := by
  have hS := ((St.init w no).param cMeadow Aa0 ca0 a0 hr0 hc0)
  unfold impl_GreedyPlan.f at H
  refine CV.body Try.func45 rfl Try.ntmps45 rfl ?_
  refine CJ.seq ?_
  refine CJ.region ?_
  refine OJ.pures tU_ok 2 rfl ?_
  refine OJ.nil (EJ.next ?_)
  refine CJ.seq ?_
  refine CJ.seq ?_
  refine CJ.region ?_
  refine OJ.pures tU_ok 3 rfl ?_
  obtain ⟨t1, ht1, H⟩ := pbind H
  refine OJ.callF rfl rfl rfl rfl rfl hb88 rfl (impl_spanCode.c k _ Aa0 ca0 a0 (hS.rd' (i := 0) rfl) (hS.le' (i := 0) rfl) a1 a2 0 _ ht1) ?_
  rintro _ w1 ⟨rfl, hs⟩
  replace hS := hS.grow hs
  refine OJ.pures tU_ok 1 rfl ?_
  refine OJ.nil (EJ.next ?_)
  refine CJ.seq ?_
  refine CJ.region ?_
  refine OJ.pures tU_ok 2 rfl ?_
  refine OJ.nil (EJ.next ?_)
  refine CJ.cond rfl (fun hb => ?_) (fun hb => ?_)
  · replace H := pif_t (of_decide_eq_true hb) H
    refine CJ.seq ?_
    refine CJ.region ?_
    refine OJ.pures tU_ok 3 rfl ?_
    refine OJ.nil (EJ.next ?_)
    refine CJ.ret (EJ.skR (?_))
    replace hS := hS.addNil (ci .i64) 2 none
    obtain rfl := Option.some.inj H
    exact EJ.fin rfl (.tmp rfl (.tmp rfl .nil)) ⟨none, 0, rfl, hS.pick [0] [] rfl⟩
  · replace H := pif_f (of_decide_eq_false hb) H
    refine CJ.skip (EJ.next ?_)
    refine CJ.seq ?_
    refine CJ.region ?_
    refine OJ.pures tU_ok 3 rfl ?_
    obtain ⟨t2, ht2, H⟩ := pbind H
    refine OJ.callF rfl rfl rfl rfl rfl hb112 rfl (impl_greedy.c k _ Aa0 ca0 a0 (hS.rd' (i := 0) rfl) (hS.le' (i := 0) rfl) a1 a2 _ ht2) ?_
    rintro _ w1 ⟨A3, c4, rfl, hs⟩
    replace hS := hS.addN hs
    refine OJ.pures tU_ok 1 rfl ?_
    refine OJ.nil (EJ.next ?_)
    refine CJ.seq ?_
    refine CJ.seq ?_
    refine CJ.region ?_
    refine OJ.pures tU_ok 1 rfl ?_
    obtain ⟨t5, ht5, H⟩ := pbind H
    refine OJ.callF rfl rfl rfl rfl rfl hb113 rfl (impl_size_int64.c _ A3 c4 t2 (hS.rd (i := 0) rfl) (hS.le (i := 0) rfl) _ ht5) ?_
    rintro _ w1 ⟨rfl, hs⟩
    replace hS := hS.grow hs
    refine OJ.pures tU_ok 2 rfl ?_
    refine OJ.nil (EJ.next ?_)
    refine CJ.cond rfl (fun hb => ?_) (fun hb => ?_)
    · replace H := pif_t (of_decide_eq_true hb) H
      refine CJ.seq ?_
      refine CJ.region ?_
      refine OJ.pures tU_ok 2 rfl ?_
      refine OJ.nil (EJ.next ?_)
      refine CJ.ret (EJ.skR (?_))
      replace hS := hS.addNil (ci .i64) 2 none
      obtain rfl := Option.some.inj H
      exact EJ.fin rfl (.tmp rfl (.tmp rfl .nil)) ⟨none, 0, rfl, hS.pick [1] [] rfl⟩
    · replace H := pif_f (of_decide_eq_false hb) H
      refine CJ.skip (EJ.next ?_)
      refine CJ.seq ?_
      refine CJ.region ?_
      refine OJ.pures tU_ok 3 rfl ?_
      refine OJ.nil (EJ.next ?_)
      refine CJ.ret (?_)
      obtain rfl := Option.some.inj H
      exact EJ.fin rfl (.tmp rfl (.tmp rfl .nil)) ⟨A3, c4, rfl, hS.pick [0] [] rfl⟩

def spec_l07Richest.l1 (a0 : List Meadow) : Nat → Int → Int → Option Int
  | 0, _, _ => none
  | k + 1, y2, y3 => if y3 < (a0.length : Int) then ((getI a0 y3).bind fun t4 => (getI a0 y2).bind fun t5 => if t5.Grass < t4.Grass then (spec_l07Richest.l1 a0 k y3 (IntKind.i64.wrap (y3 + 1))) else (spec_l07Richest.l1 a0 k y2 (IntKind.i64.wrap (y3 + 1)))) else (some y2)
def spec_l07Richest.f (k : Nat) (a0 : List Meadow) : Option Int := (spec_l07Richest.l1 a0 k 0 1).bind fun y1 => some y1
theorem spec_l07Richest.c (k : Nat) (w : World) (Aa0 : Option Addr) (ca0 : Nat) (a0 : List Meadow) (hr0 : Rd cMeadow w Aa0 a0) (hc0 : a0.length ≤ ca0) (r : Int) (H : spec_l07Richest.f k a0 = some r) :
    CV Try.prog 156 [.slice Aa0 a0.length ca0].toArray w fun v w' => v = .int .i64 r ∧ Ext w w' := by
  have hS := ((St.init w no).param cMeadow Aa0 ca0 a0 hr0 hc0)
  unfold spec_l07Richest.f at H
  refine CV.body Try.func156 rfl Try.ntmps156 rfl ?_
  refine CJ.seq ?_
  refine CJ.region ?_
  refine OJ.pures tU_ok 1 rfl ?_
  refine OJ.nil (EJ.next ?_)
  refine CJ.seq ?_
  refine CJ.region ?_
  refine OJ.pures tU_ok 1 rfl ?_
  refine OJ.nil (EJ.next ?_)
  refine CJ.seq ?_
  refine CJ.seq ?_
  refine CJ.region ?_
  refine OJ.pures tU_ok 1 rfl ?_
  refine OJ.nil (EJ.next ?_)
  obtain ⟨j140, H, K140⟩ := pbind H
  refine CJ.cut1 (fun F w1 => ∃ (y1 : Int) , (some y1 : Option Int) = some j140 ∧ F = [(3, .int .i64 y1)] ∧ St w no w1 [] [roC cMeadow Aa0 ca0 a0]) ?_ ?_
  · skip
    refine CJ.block ?_
    refine CJ.loop (fun k F w1 => ∃ (y2 : Int) (y3 : Int), F = [(0, .slice Aa0 a0.length ca0), (3, .int .i64 y2), (4, .int .i64 y3)] ∧ St w no w1 [] [roC cMeadow Aa0 ca0 a0] ∧ spec_l07Richest.l1 a0 k y2 y3 = some j140) k (F' := [(0, .slice Aa0 a0.length ca0), (3, .int .i64 0), (4, .int .i64 1)]) ⟨rfl, rfl, rfl, trivial⟩ ⟨0, 1, rfl, hS.pick [] [0] rfl, H⟩ ?_
    rintro k F w1 ⟨y2, y3, rfl, hS, H⟩
    cases k with
    | zero => rw [spec_l07Richest.l1] at H; cases H
    | succ k =>
      rw [spec_l07Richest.l1] at H
      refine CJ.seq ?_
      refine CJ.seq ?_
      refine CJ.region ?_
      refine OJ.pures tU_ok 4 rfl ?_
      refine OJ.nil (EJ.next ?_)
      refine CJ.cond rfl (fun hb => ?_) (fun hb => ?_)
      · replace H := pif_t (of_decide_eq_true hb) H
        refine CJ.skip (EJ.next ?_)
        refine CJ.seq ?_
        refine CJ.block ?_
        refine CJ.seq ?_
        refine CJ.draw [] [0, 1, 2, 3, 4, 5, 6, 7, 8, 9, 10] mixed (by kernel_rfl) hS fun w1 hS => ?_
        refine DJ.pures tU_ok 2 rfl ?_
        obtain ⟨t4, ht4, H⟩ := pbind H
        obtain ⟨ad4, e4⟩ := (hS.rd' (i := 0) rfl).some' ht4
        refine DJ.st rfl rfl rfl rfl rfl (SR.idxS tU_ok tI_ok rfl rfl rfl rfl e4 rfl (getI_some ht4).1) ?_
        refine DJ.st rfl rfl rfl rfl rfl (SR.fieldAddr tU_ok tI_ok rfl rfl rfl rfl rfl rfl) ?_
        refine DJ.st rfl rfl rfl rfl rfl (SR.load rfl rfl (fun w' hx => ld1 tU_ok rfl rfl (CA.ext (CA.sub ((hS.rd' (i := 0) rfl).at_ e4 ht4) 0) hx) rfl)) ?_
        refine DJ.pures tU_ok 2 rfl ?_
        obtain ⟨t5, ht5, H⟩ := pbind H
        obtain ⟨ad5, e5⟩ := (hS.rd' (i := 0) rfl).some' ht5
        refine DJ.st rfl rfl rfl rfl rfl (SR.idxS tU_ok tI_ok rfl rfl rfl rfl e5 rfl (getI_some ht5).1) ?_
        refine DJ.st rfl rfl rfl rfl rfl (SR.fieldAddr tU_ok tI_ok rfl rfl rfl rfl rfl rfl) ?_
        refine DJ.st rfl rfl rfl rfl rfl (SR.load rfl rfl (fun w' hx => ld1 tU_ok rfl rfl (CA.ext (CA.sub ((hS.rd' (i := 0) rfl).at_ e5 ht5) 0) hx) rfl)) ?_
        refine DJ.pures tU_ok 1 rfl ?_
        refine DJ.nil (EJ.next ?_)
        refine CJ.cond rfl (fun hb => ?_) (fun hb => ?_)
        · replace H := pif_t (of_decide_eq_true hb) H
          refine CJ.region ?_
          refine OJ.pures tU_ok 2 rfl ?_
          refine OJ.nil (EJ.blk (EJ.next ?_))
          refine CJ.region ?_
          refine OJ.pures tU_ok 3 rfl ?_
          refine OJ.nil ?_
          exact EJ.round k (F' := [(0, .slice Aa0 a0.length ca0), (3, .int .i64 y3), (4, .int .i64 (IntKind.i64.wrap (y3 + 1)))]) ⟨rfl, rfl, rfl, trivial⟩ (Nat.lt_succ_self _) ⟨y3, (IntKind.i64.wrap (y3 + 1)), rfl, hS.pick [] [0] rfl, H⟩
        · replace H := pif_f (of_decide_eq_false hb) H
          refine CJ.skip (EJ.blk (EJ.next ?_))
          refine CJ.region ?_
          refine OJ.pures tU_ok 3 rfl ?_
          refine OJ.nil ?_
          exact EJ.round k (F' := [(0, .slice Aa0 a0.length ca0), (3, .int .i64 y2), (4, .int .i64 (IntKind.i64.wrap (y3 + 1)))]) ⟨rfl, rfl, rfl, trivial⟩ (Nat.lt_succ_self _) ⟨y2, (IntKind.i64.wrap (y3 + 1)), rfl, hS.pick [] [0] rfl, H⟩
      · replace H := pif_f (of_decide_eq_false hb) H
        refine CJ.exit (EJ.skE (EJ.skE (EJ.hit (?_))))
        exact EJ.meet (F' := [(3, .int .i64 y2)]) ⟨rfl, trivial⟩ ⟨y2, H, rfl, hS.pick [] [0] rfl⟩
  · rintro F w1 ⟨y1, he, rfl, hS⟩
    obtain rfl := Option.some.inj he
    have H := K140
    refine EJ.next ?_
    refine CJ.seq ?_
    refine CJ.region ?_
    refine OJ.pures tU_ok 2 rfl ?_
    refine OJ.nil (EJ.next ?_)
    refine CJ.ret (?_)
    obtain rfl := Option.some.inj H
    exact EJ.fin rfl (.tmp rfl .nil) ⟨rfl, hS.ext⟩

def spec_l07Greedy.l1 (a1 : Int) (a2 : Int) : Nat → (List Int) → (List Meadow) → Option ((List Int) ⊕ (List Int))
  | 0, _, _ => none
  | k + 1, y5, y8 => if (y5.length : Int) < a2 then ((spec_l07Richest.f k y8).bind fun t11 => (getI y8 t11).bind fun t12 => if (IntKind.i64.wrap t12.Grass) < a1 then (some (Sum.inl y5)) else ((chk (y5.length + ([t11] : List Int).length ≤ 4294967296)).bind fun u14 => (spec_l07Day.f k y8 a1 t11).bind fun t17 => spec_l07Greedy.l1 a1 a2 k (y5 ++ ([t11] : List Int)) t17)) else (some (Sum.inr y5))
def spec_l07Greedy.f (k : Nat) (a0 : List Meadow) (a1 : Int) (a2 : Int) : Option (List Int) := (spec_l07Greedy.l1 a1 a2 k ([] : List Int) a0).bind fun s139 => match s139 with | .inl r => some r | .inr y2 => some y2
theorem spec_l07Greedy.c (k : Nat) (w : World) (Aa0 : Option Addr) (ca0 : Nat) (a0 : List Meadow) (hr0 : Rd cMeadow w Aa0 a0) (hc0 : a0.length ≤ ca0) (a1 : Int) (a2 : Int) (r : List Int) (H : spec_l07Greedy.f k a0 a1 a2 = some r) :
    CV Try.prog 114 [.slice Aa0 a0.length ca0, .int .i64 a1, .int .i64 a2].toArray w fun v w' => ∃ (A0 : Option Addr) (c0 : Nat), v = .slice A0 r.length c0 ∧ St w no w' [rowC (ci .i64) A0 c0 2 r] [] := by
  have hS := ((St.init w no).param cMeadow Aa0 ca0 a0 hr0 hc0)
  unfold spec_l07Greedy.f at H
  refine CV.body Try.func114 rfl Try.ntmps114 rfl ?_
  refine CJ.seq ?_
  refine CJ.region ?_
  refine OJ.pures tU_ok 1 rfl ?_
  refine OJ.nil (EJ.next ?_)
  refine CJ.seq ?_
  refine CJ.region ?_
  refine OJ.ef rfl rfl rfl (Ef.lit tU_ok tI_ok hS (C := (ci .i64)) rfl rfl rfl rfl rfl rfl ([] : List Int) rfl rfl rfl rfl) ?_
  rintro _ w1 ⟨A1, rfl, hS⟩
  refine OJ.pures tU_ok 1 rfl ?_
  refine OJ.nil (EJ.next ?_)
  obtain ⟨j139, H, K139⟩ := pbind H
  refine CJ.cut (fun F w1 => ∃ (y2 : List Int) (A3 : Option Addr) (c4 : Nat), (some (Sum.inr y2) : Option ((List Int) ⊕ (List Int))) = some j139 ∧ F = [(7, .slice A3 y2.length c4)] ∧ St w no w1 [rowC (ci .i64) A3 c4 2 y2] [roC cMeadow Aa0 ca0 a0]) ?_ ?_
  · skip
    refine CJ.block ?_
    refine CJ.loop (fun k F w1 => ∃ (y5 : List Int) (y8 : List Meadow) (A6 : Option Addr) (c7 : Nat) (A9 : Option Addr) (c10 : Nat), F = [(0, .slice A9 y8.length c10), (1, .int .i64 a1), (2, .int .i64 a2), (7, .slice A6 y5.length c7)] ∧ St w no w1 [rowC (ci .i64) A6 c7 2 y5] [roC cMeadow Aa0 ca0 a0, roC cMeadow A9 c10 y8] ∧ spec_l07Greedy.l1 a1 a2 k y5 y8 = some j139) k (F' := [(0, .slice Aa0 a0.length ca0), (1, .int .i64 a1), (2, .int .i64 a2), (7, .slice A1 ([] : List Int).length (([] : List Int).length))]) ⟨rfl, rfl, rfl, rfl, trivial⟩ ⟨([] : List Int), a0, A1, (([] : List Int).length), Aa0, ca0, rfl, hS.pick [0] [0, 0] rfl, H⟩ ?_
    rintro k F w1 ⟨y5, y8, A6, c7, A9, c10, rfl, hS, H⟩
    cases k with
    | zero => rw [spec_l07Greedy.l1] at H; cases H
    | succ k =>
      rw [spec_l07Greedy.l1] at H
      refine CJ.seq ?_
      refine CJ.seq ?_
      refine CJ.region ?_
      refine OJ.pures tU_ok 4 rfl ?_
      refine OJ.nil (EJ.next ?_)
      refine CJ.cond rfl (fun hb => ?_) (fun hb => ?_)
      · replace H := pif_t (of_decide_eq_true hb) H
        refine CJ.skip (EJ.next ?_)
        refine CJ.block ?_
        refine CJ.seq ?_
        refine CJ.region ?_
        refine OJ.pures tU_ok 1 rfl ?_
        obtain ⟨t11, ht11, H⟩ := pbind H
        refine OJ.callF rfl rfl rfl rfl rfl hb156 rfl (spec_l07Richest.c k _ A9 c10 y8 (hS.rd' (i := 1) rfl) (hS.le' (i := 1) rfl) _ ht11) ?_
        rintro _ w1 ⟨rfl, hs⟩
        replace hS := hS.grow hs
        refine OJ.pures tU_ok 1 rfl ?_
        refine OJ.nil (EJ.next ?_)
        refine CJ.seq ?_
        refine CJ.seq ?_
        refine CJ.region ?_
        refine OJ.pures tU_ok 2 rfl ?_
        obtain ⟨t12, ht12, H⟩ := pbind H
        obtain ⟨ad12, e12⟩ := (hS.rd' (i := 1) rfl).some' ht12
        refine OJ.st rfl rfl rfl (SR.idxS tU_ok tI_ok rfl rfl rfl rfl e12 rfl (getI_some ht12).1) ?_
        refine OJ.st rfl rfl rfl (SR.fieldAddr tU_ok tI_ok rfl rfl rfl rfl rfl rfl) ?_
        refine OJ.st rfl rfl rfl (SR.load rfl rfl (fun w' hx => ld1 tU_ok rfl rfl (CA.ext (CA.sub ((hS.rd' (i := 1) rfl).at_ e12 ht12) 0) hx) rfl)) ?_
        refine OJ.pures tU_ok 3 rfl ?_
        refine OJ.nil (EJ.next ?_)
        refine CJ.cond rfl (fun hb => ?_) (fun hb => ?_)
        · replace H := pif_t (of_decide_eq_true hb) H
          refine CJ.seq ?_
          refine CJ.region ?_
          refine OJ.pures tU_ok 2 rfl ?_
          refine OJ.nil (EJ.next ?_)
          refine CJ.ret (EJ.skR (EJ.bkR (EJ.skR (EJ.bkR (EJ.skR (?_))))))
          first | (obtain rfl := Option.some.inj H; have H := K139) | (obtain ⟨q139, H2, e139⟩ := pbind H; obtain rfl := Option.some.inj e139; obtain rfl := Option.some.inj K139; have H := H2)
          obtain rfl := Option.some.inj H
          exact EJ.fin rfl (.tmp rfl .nil) ⟨A6, c7, rfl, hS.pick [0] [] rfl⟩
        · replace H := pif_f (of_decide_eq_false hb) H
          refine CJ.skip (EJ.next ?_)
          refine CJ.seq ?_
          refine CJ.region ?_
          refine OJ.pures tU_ok 2 rfl ?_
          refine OJ.ef rfl rfl rfl (Ef.lit tU_ok tI_ok hS (C := (ci .i64)) rfl rfl rfl rfl rfl rfl ([t11] : List Int) rfl rfl rfl rfl) ?_
          rintro _ w1 ⟨A13, rfl, hS⟩
          obtain ⟨u14, hu14, H⟩ := pbind H
          refine OJ.ew rfl rfl rfl (Ew.append tU_ok tI_ok (C := (ci .i64)) (xs := y5) (ys := ([t11] : List Int)) hS (i := 0) rfl rfl rfl rfl rfl rfl rfl rfl rfl rfl rfl rfl rfl (hS.rd (i := 1) rfl) (chk_some hu14)) ?_
          rintro _ w1 ⟨A15, c16, rfl, hS⟩
          refine OJ.pures tU_ok 1 rfl ?_
          refine OJ.nil (EJ.next ?_)
          refine CJ.region ?_
          refine OJ.pures tU_ok 3 rfl ?_
          obtain ⟨t17, ht17, H⟩ := pbind H
          refine OJ.callF rfl rfl rfl rfl rfl hb124 rfl (spec_l07Day.c k _ A9 c10 y8 (hS.rd' (i := 1) rfl) (hS.le' (i := 1) rfl) a1 t11 _ ht17) ?_
          rintro _ w1 ⟨A18, c19, rfl, hs⟩
          replace hS := hS.addN hs
          refine OJ.pures tU_ok 1 rfl ?_
          refine OJ.nil (EJ.blk (?_))
          replace hS := hS.freezeG (i := 2) rfl
          exact EJ.round k (F' := [(0, .slice A18 t17.length c19), (1, .int .i64 a1), (2, .int .i64 a2), (7, .slice A15 (y5 ++ ([t11] : List Int)).length c16)]) ⟨rfl, rfl, rfl, rfl, trivial⟩ (Nat.lt_succ_self _) ⟨(y5 ++ ([t11] : List Int)), t17, A15, c16, A18, c19, rfl, hS.pick [0] [0, 2] rfl, H⟩
      · replace H := pif_f (of_decide_eq_false hb) H
        refine CJ.exit (EJ.skE (EJ.skE (EJ.hit (?_))))
        exact EJ.meet (F' := [(7, .slice A6 y5.length c7)]) ⟨rfl, trivial⟩ ⟨y5, A6, c7, H, rfl, hS.pick [0] [0] rfl⟩
  · rintro F w1 ⟨y2, A3, c4, he, rfl, hS⟩
    obtain rfl := Option.some.inj he
    have H := K139
    refine CJ.seq ?_
    refine CJ.region ?_
    refine OJ.pures tU_ok 2 rfl ?_
    refine OJ.nil (EJ.next ?_)
    refine CJ.ret (?_)
    obtain rfl := Option.some.inj H
    exact EJ.fin rfl (.tmp rfl .nil) ⟨A3, c4, rfl, hS.pick [0] [] rfl⟩

def spec_GreedyPlan.f (k : Nat) (a0 : List Meadow) (a1 : Int) (a2 : Int) : Option (List Int × Int) := (spec_l07Days.f a2).bind fun t1 => (spec_l07Asked.f k a0 a1 t1).bind fun t2 => if t2 ≠ 0 then (some (([] : List Int), t2)) else ((spec_l07Greedy.f k a0 a1 a2).bind fun t4 => if (t4.length : Int) < a2 then (some (([] : List Int), 6)) else (some (t4, 0)))
theorem spec_GreedyPlan.c (k : Nat) (w : World) (Aa0 : Option Addr) (ca0 : Nat) (a0 : List Meadow) (hr0 : Rd cMeadow w Aa0 a0) (hc0 : a0.length ≤ ca0) (a1 : Int) (a2 : Int) (r : List Int × Int) (H : spec_GreedyPlan.f k a0 a1 a2 = some r) :
    CV Try.prog 46 [.slice Aa0 a0.length ca0, .int .i64 a1, .int .i64 a2].toArray w fun v w' => ∃ (A0 : Option Addr) (c0 : Nat), v = .tuple #[.slice A0 r.1.length c0, .int .i64 r.2] ∧ St w no w' [rowC (ci .i64) A0 c0 2 r.1] [] := by
  have hS := ((St.init w no).param cMeadow Aa0 ca0 a0 hr0 hc0)
  unfold spec_GreedyPlan.f at H
  refine CV.body Try.func46 rfl Try.ntmps46 rfl ?_
  refine CJ.seq ?_
  refine CJ.region ?_
  refine OJ.pures tU_ok 2 rfl ?_
  refine OJ.nil (EJ.next ?_)
  refine CJ.seq ?_
  refine CJ.seq ?_
  refine CJ.region ?_
  refine OJ.pures tU_ok 3 rfl ?_
  obtain ⟨t1, ht1, H⟩ := pbind H
  refine OJ.callF rfl rfl rfl rfl rfl hb92 rfl (spec_l07Days.c _ a2 _ ht1) ?_
  rintro _ w1 ⟨rfl, hs⟩
  replace hS := hS.grow hs
  obtain ⟨t2, ht2, H⟩ := pbind H
  refine OJ.callF rfl rfl rfl rfl rfl hb84 rfl (spec_l07Asked.c k _ Aa0 ca0 a0 (hS.rd' (i := 0) rfl) (hS.le' (i := 0) rfl) a1 t1 _ ht2) ?_
  rintro _ w1 ⟨rfl, hs⟩
  replace hS := hS.grow hs
  refine OJ.pures tU_ok 1 rfl ?_
  refine OJ.nil (EJ.next ?_)
  refine CJ.seq ?_
  refine CJ.region ?_
  refine OJ.pures tU_ok 2 rfl ?_
  refine OJ.nil (EJ.next ?_)
  refine CJ.cond rfl (fun hb => ?_) (fun hb => ?_)
  · replace H := pif_t (of_decide_eq_true hb) H
    refine CJ.seq ?_
    refine CJ.region ?_
    refine OJ.ef rfl rfl rfl (Ef.lit tU_ok tI_ok hS (C := (ci .i64)) rfl rfl rfl rfl rfl rfl ([] : List Int) rfl rfl rfl rfl) ?_
    rintro _ w1 ⟨A3, rfl, hS⟩
    refine OJ.pures tU_ok 3 rfl ?_
    refine OJ.nil (EJ.next ?_)
    refine CJ.ret (EJ.skR (?_))
    obtain rfl := Option.some.inj H
    exact EJ.fin rfl (.tmp rfl (.tmp rfl .nil)) ⟨A3, (([] : List Int).length), rfl, hS.pick [0] [] rfl⟩
  · replace H := pif_f (of_decide_eq_false hb) H
    refine CJ.skip (EJ.next ?_)
    refine CJ.seq ?_
    refine CJ.region ?_
    refine OJ.pures tU_ok 3 rfl ?_
    obtain ⟨t4, ht4, H⟩ := pbind H
    refine OJ.callF rfl rfl rfl rfl rfl hb114 rfl (spec_l07Greedy.c k _ Aa0 ca0 a0 (hS.rd' (i := 0) rfl) (hS.le' (i := 0) rfl) a1 a2 _ ht4) ?_
    rintro _ w1 ⟨A5, c6, rfl, hs⟩
    replace hS := hS.addN hs
    refine OJ.pures tU_ok 1 rfl ?_
    refine OJ.nil (EJ.next ?_)
    refine CJ.seq ?_
    refine CJ.seq ?_
    refine CJ.region ?_
    refine OJ.pures tU_ok 4 rfl ?_
    refine OJ.nil (EJ.next ?_)
    refine CJ.cond rfl (fun hb => ?_) (fun hb => ?_)
    · replace H := pif_t (of_decide_eq_true hb) H
      refine CJ.seq ?_
      refine CJ.region ?_
      refine OJ.ef rfl rfl rfl (Ef.lit tU_ok tI_ok hS (C := (ci .i64)) rfl rfl rfl rfl rfl rfl ([] : List Int) rfl rfl rfl rfl) ?_
      rintro _ w1 ⟨A7, rfl, hS⟩
      refine OJ.pures tU_ok 2 rfl ?_
      refine OJ.nil (EJ.next ?_)
      refine CJ.ret (EJ.skR (?_))
      obtain rfl := Option.some.inj H
      exact EJ.fin rfl (.tmp rfl (.tmp rfl .nil)) ⟨A7, (([] : List Int).length), rfl, hS.pick [1] [] rfl⟩
    · replace H := pif_f (of_decide_eq_false hb) H
      refine CJ.skip (EJ.next ?_)
      refine CJ.seq ?_
      refine CJ.region ?_
      refine OJ.pures tU_ok 3 rfl ?_
      refine OJ.nil (EJ.next ?_)
      refine CJ.ret (?_)
      obtain rfl := Option.some.inj H
      exact EJ.fin rfl (.tmp rfl (.tmp rfl .nil)) ⟨A5, c6, rfl, hS.pick [0] [] rfl⟩

def impl_LongestGreedy.f (k : Nat) (a0 : List Meadow) (a1 : Int) : Option (Int × Int) := (impl_meadowCode.f k a0 a1 []).bind fun t1 => if t1 ≠ 0 then (some (0, t1)) else ((impl_greedy.f k a0 a1 30).bind fun t2 => (impl_size_int64.f t2).bind fun t5 => some (t5, 0))
theorem impl_LongestGreedy.c (k : Nat) (w : World) (Aa0 : Option Addr) (ca0 : Nat) (a0 : List Meadow) (hr0 : Rd cMeadow w Aa0 a0) (hc0 : a0.length ≤ ca0) (a1 : Int) (r : Int × Int) (H : impl_LongestGreedy.f k a0 a1 = some r) :
    CV Try.prog 47 [.slice Aa0 a0.length ca0, .int .i64 a1].toArray w fun v w' => v = .tuple #[.int .i64 r.1, .int .i64 r.2] ∧ Ext w w' := by
  have hS := ((St.init w no).param cMeadow Aa0 ca0 a0 hr0 hc0)
  unfold impl_LongestGreedy.f at H
  refine CV.body Try.func47 rfl Try.ntmps47 rfl ?_
  refine CJ.seq ?_
  refine CJ.region ?_
  refine OJ.pures tU_ok 2 rfl ?_
  refine OJ.nil (EJ.next ?_)
  refine CJ.seq ?_
  refine CJ.seq ?_
  refine CJ.region ?_
  refine OJ.pures tU_ok 2 rfl ?_
  obtain ⟨t1, ht1, H⟩ := pbind H
  refine OJ.callF rfl rfl rfl rfl rfl hb115 rfl (impl_meadowCode.c k _ Aa0 ca0 a0 (hS.rd' (i := 0) rfl) (hS.le' (i := 0) rfl) a1 none 0 [] (Rd.nil (ci .i64) _ _) (Nat.le_refl _) _ ht1) ?_
  rintro _ w1 ⟨rfl, hs⟩
  replace hS := hS.grow hs
  refine OJ.pures tU_ok 1 rfl ?_
  refine OJ.nil (EJ.next ?_)
  refine CJ.seq ?_
  refine CJ.region ?_
  refine OJ.pures tU_ok 2 rfl ?_
  refine OJ.nil (EJ.next ?_)
  refine CJ.cond rfl (fun hb => ?_) (fun hb => ?_)
  · replace H := pif_t (of_decide_eq_true hb) H
    refine CJ.seq ?_
    refine CJ.region ?_
    refine OJ.pures tU_ok 3 rfl ?_
    refine OJ.nil (EJ.next ?_)
    refine CJ.ret (EJ.skR (?_))
    obtain rfl := Option.some.inj H
    exact EJ.fin rfl (.tmp rfl (.tmp rfl .nil)) ⟨rfl, hS.ext⟩
  · replace H := pif_f (of_decide_eq_false hb) H
    refine CJ.skip (EJ.next ?_)
    refine CJ.seq ?_
    refine CJ.region ?_
    refine OJ.pures tU_ok 2 rfl ?_
    obtain ⟨t2, ht2, H⟩ := pbind H
    refine OJ.callF rfl rfl rfl rfl rfl hb112 rfl (impl_greedy.c k _ Aa0 ca0 a0 (hS.rd' (i := 0) rfl) (hS.le' (i := 0) rfl) a1 30 _ ht2) ?_
    rintro _ w1 ⟨A3, c4, rfl, hs⟩
    replace hS := hS.addN hs
    obtain ⟨t5, ht5, H⟩ := pbind H
    refine OJ.callF rfl rfl rfl rfl rfl hb113 rfl (impl_size_int64.c _ A3 c4 t2 (hS.rd (i := 0) rfl) (hS.le (i := 0) rfl) _ ht5) ?_
    rintro _ w1 ⟨rfl, hs⟩
    replace hS := hS.grow hs
    refine OJ.pures tU_ok 2 rfl ?_
    refine OJ.nil (EJ.next ?_)
    refine CJ.ret (?_)
    obtain rfl := Option.some.inj H
    exact EJ.fin rfl (.tmp rfl (.tmp rfl .nil)) ⟨rfl, hS.ext⟩

def impl_EnoughFor.l1 (a0 : List Meadow) (a2 : Int) : Nat → Int → Int → Option Int
  | 0, _, _ => none
  | k + 1, y3, y4 => if y4 < (a0.length : Int) then ((getI a0 y4).bind fun t5 => impl_EnoughFor.l1 a0 a2 k (IntKind.i64.wrap (y3 + (IntKind.i64.wrap ((IntKind.i64.wrap t5.Grass) + (IntKind.i64.wrap ((IntKind.i64.wrap t5.Grows) * (IntKind.i64.wrap (a2 - 1)))))))) (IntKind.i64.wrap (y4 + 1))) else (some y3)
def impl_EnoughFor.f (k : Nat) (a0 : List Meadow) (a1 : Int) (a2 : Int) : Option (Bool × Int) := (impl_spanCode.f k a0 a1 a2 0).bind fun t1 => if t1 ≠ 0 then (some (false, t1)) else ((impl_EnoughFor.l1 a0 a2 k 0 0).bind fun y2 => if a2 = 0 then (some (true, 0)) else (some (decide ((IntKind.i64.wrap (a1 * a2)) ≤ y2), 0)))
theorem impl_EnoughFor.c (k : Nat) (w : World) (Aa0 : Option Addr) (ca0 : Nat) (a0 : List Meadow) (hr0 : Rd cMeadow w Aa0 a0) (hc0 : a0.length ≤ ca0) (a1 : Int) (a2 : Int) (r : Bool × Int) (H : impl_EnoughFor.f k a0 a1 a2 = some r) :
    CV Try.prog 48 [.slice Aa0 a0.length ca0, .int .i64 a1, .int .i64 a2].toArray w fun v w' => v = .tuple #[.bool r.1, .int .i64 r.2] ∧ Ext w w' := by
  have hS := ((St.init w no).param cMeadow Aa0 ca0 a0 hr0 hc0)
  unfold impl_EnoughFor.f at H
  refine CV.body Try.func48 rfl Try.ntmps48 rfl ?_
  refine CJ.seq ?_
  refine CJ.region ?_
  refine OJ.pures tU_ok 2 rfl ?_
  refine OJ.nil (EJ.next ?_)
  refine CJ.seq ?_
  refine CJ.seq ?_
  refine CJ.region ?_
  refine OJ.pures tU_ok 3 rfl ?_
  obtain ⟨t1, ht1, H⟩ := pbind H
  refine OJ.callF rfl rfl rfl rfl rfl hb88 rfl (impl_spanCode.c k _ Aa0 ca0 a0 (hS.rd' (i := 0) rfl) (hS.le' (i := 0) rfl) a1 a2 0 _ ht1) ?_
  rintro _ w1 ⟨rfl, hs⟩
  replace hS := hS.grow hs
  refine OJ.pures tU_ok 1 rfl ?_
  refine OJ.nil (EJ.next ?_)
  refine CJ.seq ?_
  refine CJ.region ?_
  refine OJ.pures tU_ok 2 rfl ?_
  refine OJ.nil (EJ.next ?_)
  refine CJ.cond rfl (fun hb => ?_) (fun hb => ?_)
  · replace H := pif_t (of_decide_eq_true hb) H
    refine CJ.seq ?_
    refine CJ.region ?_
    refine OJ.pures tU_ok 3 rfl ?_
    refine OJ.nil (EJ.next ?_)
    refine CJ.ret (EJ.skR (?_))
    obtain rfl := Option.some.inj H
    exact EJ.fin rfl (.tmp rfl (.tmp rfl .nil)) ⟨rfl, hS.ext⟩
  · replace H := pif_f (of_decide_eq_false hb) H
    refine CJ.skip (EJ.next ?_)
    refine CJ.seq ?_
    refine CJ.region ?_
    refine OJ.pures tU_ok 1 rfl ?_
    refine OJ.nil (EJ.next ?_)
    refine CJ.seq ?_
    refine CJ.seq ?_
    refine CJ.region ?_
    refine OJ.pures tU_ok 3 rfl ?_
    refine OJ.nil (EJ.next ?_)
    obtain ⟨j141, H, K141⟩ := pbind H
    refine CJ.cut1 (fun F w1 => ∃ (y2 : Int) , (some y2 : Option Int) = some j141 ∧ F = [(1, .int .i64 a1), (2, .int .i64 a2), (9, .int .i64 y2)] ∧ St w no w1 [] [roC cMeadow Aa0 ca0 a0]) ?_ ?_
    · skip
      refine CJ.block ?_
      refine CJ.loop (fun k F w1 => ∃ (y3 : Int) (y4 : Int), F = [(1, .int .i64 a1), (2, .int .i64 a2), (9, .int .i64 y3), (19, .slice Aa0 a0.length ca0), (20, .int .i64 (a0.length : Int)), (21, .int .i64 y4)] ∧ St w no w1 [] [roC cMeadow Aa0 ca0 a0] ∧ impl_EnoughFor.l1 a0 a2 k y3 y4 = some j141) k (F' := [(1, .int .i64 a1), (2, .int .i64 a2), (9, .int .i64 0), (19, .slice Aa0 a0.length ca0), (20, .int .i64 (a0.length : Int)), (21, .int .i64 0)]) ⟨rfl, rfl, rfl, rfl, rfl, rfl, trivial⟩ ⟨0, 0, rfl, hS.pick [] [0] rfl, H⟩ ?_
      rintro k F w1 ⟨y3, y4, rfl, hS, H⟩
      cases k with
      | zero => rw [impl_EnoughFor.l1] at H; cases H
      | succ k =>
        rw [impl_EnoughFor.l1] at H
        refine CJ.seq ?_
        refine CJ.region ?_
        refine OJ.pures tU_ok 1 rfl ?_
        refine OJ.nil (EJ.next ?_)
        refine CJ.seq ?_
        refine CJ.cond rfl (fun hb => ?_) (fun hb => ?_)
        · replace H := pif_t (of_decide_eq_true hb) H
          refine CJ.skip (EJ.next ?_)
          refine CJ.seq ?_
          refine CJ.block ?_
          refine CJ.seq ?_
          refine CJ.region ?_
          obtain ⟨t5, ht5, H⟩ := pbind H
          obtain ⟨ad5, e5⟩ := (hS.rd' (i := 0) rfl).some' ht5
          refine OJ.st rfl rfl rfl (SR.idxS tU_ok tI_ok rfl rfl rfl rfl e5 rfl (getI_some ht5).1) ?_
          refine OJ.st rfl rfl rfl (SR.load rfl rfl (fun w' hx => ldE tU_ok tI_ok rfl rfl rfl (CA.ext ((hS.rd' (i := 0) rfl).at_ e5 ht5) hx) rfl)) ?_
          refine OJ.ef rfl rfl rfl (Ef.alloc hS tI_ok rfl rfl (cMeadow.enc (⟨0, 0, 0⟩ : Meadow)) rfl) ?_
          rintro _ w1 ⟨b6, rfl, hS⟩
          refine OJ.es rfl rfl (Es.store tI_ok hS (i := 0) rfl rfl rfl rfl rfl rfl (vs := cMeadow.enc t5) rfl (cMeadow.len _) (cMeadow.one _) (Nat.le_of_ble_eq_true rfl) (cMeadow.enc t5) rfl) ?_
          intro w1 hS
          refine OJ.nil (EJ.next ?_)
          refine CJ.region ?_
          refine OJ.pures tU_ok 1 rfl ?_
          refine OJ.st rfl rfl rfl (SR.fieldAddr tU_ok tI_ok rfl rfl rfl rfl rfl rfl) ?_
          refine OJ.st rfl rfl rfl (SR.load rfl rfl (fun w' hx => ld1 tU_ok rfl rfl (CA.ext (CA.sub (hS.cells (i := 0) rfl) 0) hx) rfl)) ?_
          refine OJ.pures tU_ok 1 rfl ?_
          refine OJ.st rfl rfl rfl (SR.fieldAddr tU_ok tI_ok rfl rfl rfl rfl rfl rfl) ?_
          refine OJ.st rfl rfl rfl (SR.load rfl rfl (fun w' hx => ld1 tU_ok rfl rfl (CA.ext (CA.sub (hS.cells (i := 0) rfl) 1) hx) rfl)) ?_
          refine OJ.pures tU_ok 7 rfl ?_
          refine OJ.nil (EJ.blk (EJ.next ?_))
          refine CJ.region ?_
          refine OJ.pures tU_ok 2 rfl ?_
          refine OJ.nil ?_
          exact EJ.round k (F' := [(1, .int .i64 a1), (2, .int .i64 a2), (9, .int .i64 (IntKind.i64.wrap (y3 + (IntKind.i64.wrap ((IntKind.i64.wrap t5.Grass) + (IntKind.i64.wrap ((IntKind.i64.wrap t5.Grows) * (IntKind.i64.wrap (a2 - 1))))))))), (19, .slice Aa0 a0.length ca0), (20, .int .i64 (a0.length : Int)), (21, .int .i64 (IntKind.i64.wrap (y4 + 1)))]) ⟨rfl, rfl, rfl, rfl, rfl, rfl, trivial⟩ (Nat.lt_succ_self _) ⟨(IntKind.i64.wrap (y3 + (IntKind.i64.wrap ((IntKind.i64.wrap t5.Grass) + (IntKind.i64.wrap ((IntKind.i64.wrap t5.Grows) * (IntKind.i64.wrap (a2 - 1)))))))), (IntKind.i64.wrap (y4 + 1)), rfl, hS.pick [] [0] rfl, H⟩
        · replace H := pif_f (of_decide_eq_false hb) H
          refine CJ.exit (EJ.skE (EJ.skE (EJ.hit (?_))))
          exact EJ.meet (F' := [(1, .int .i64 a1), (2, .int .i64 a2), (9, .int .i64 y3)]) ⟨rfl, rfl, rfl, trivial⟩ ⟨y3, H, rfl, hS.pick [] [0] rfl⟩
    · rintro F w1 ⟨y2, he, rfl, hS⟩
      obtain rfl := Option.some.inj he
      have H := K141
      refine EJ.next ?_
      refine CJ.seq ?_
      refine CJ.region ?_
      refine OJ.pures tU_ok 3 rfl ?_
      refine OJ.split (t := 40) rfl (fun hb => ?_) (fun hb => ?_)
      · replace H := pif_t (of_decide_eq_true hb) H
        refine OJ.pures tU_ok 8 rfl ?_
        refine OJ.nil (EJ.next ?_)
        refine CJ.ret (?_)
        obtain rfl := Option.some.inj H
        exact EJ.fin rfl (.tmp rfl (.tmp rfl .nil)) ⟨rfl, hS.ext⟩
      · replace H := pif_f (of_decide_eq_false hb) H
        refine OJ.pures tU_ok 8 rfl ?_
        refine OJ.nil (EJ.next ?_)
        refine CJ.ret (?_)
        obtain rfl := Option.some.inj H
        exact EJ.fin rfl (.tmp rfl (.tmp rfl .nil)) ⟨rfl, hS.ext⟩

def spec_EnoughFor.l1 (a0 : List Meadow) (a2 : Int) : Nat → Int → Int → Option Int
  | 0, _, _ => none
  | k + 1, y4, y5 => if y5 < (a0.length : Int) then ((getI a0 y5).bind fun t6 => (getI a0 y5).bind fun t7 => (spec_l00Max.f 0 (IntKind.i64.wrap (a2 - 1))).bind fun t8 => spec_EnoughFor.l1 a0 a2 k (IntKind.i64.wrap (y4 + (IntKind.i64.wrap ((IntKind.i64.wrap t6.Grass) + (IntKind.i64.wrap ((IntKind.i64.wrap t7.Grows) * t8)))))) (IntKind.i64.wrap (y5 + 1))) else (some y4)
def spec_EnoughFor.f (k : Nat) (a0 : List Meadow) (a1 : Int) (a2 : Int) : Option (Bool × Int) := (spec_l07Days.f a2).bind fun t1 => (spec_l07Asked.f k a0 a1 t1).bind fun t2 => if t2 ≠ 0 then (some (false, t2)) else ((spec_EnoughFor.l1 a0 a2 k 0 0).bind fun y3 => some (decide ((IntKind.i64.wrap (a1 * a2)) ≤ y3), 0))
theorem spec_EnoughFor.c (k : Nat) (w : World) (Aa0 : Option Addr) (ca0 : Nat) (a0 : List Meadow) (hr0 : Rd cMeadow w Aa0 a0) (hc0 : a0.length ≤ ca0) (a1 : Int) (a2 : Int) (r : Bool × Int) (H : spec_EnoughFor.f k a0 a1 a2 = some r) :
    CV Try.prog 49 [.slice Aa0 a0.length ca0, .int .i64 a1, .int .i64 a2].toArray w fun v w' => v = .tuple #[.bool r.1, .int .i64 r.2] ∧ Ext w w' := by
  have hS := ((St.init w no).param cMeadow Aa0 ca0 a0 hr0 hc0)
  unfold spec_EnoughFor.f at H
  refine CV.body Try.func49 rfl Try.ntmps49 rfl ?_
  refine CJ.seq ?_
  refine CJ.region ?_
  refine OJ.pures tU_ok 2 rfl ?_
  refine OJ.nil (EJ.next ?_)
  refine CJ.seq ?_
  refine CJ.seq ?_
  refine CJ.region ?_
  refine OJ.pures tU_ok 3 rfl ?_
  obtain ⟨t1, ht1, H⟩ := pbind H
  refine OJ.callF rfl rfl rfl rfl rfl hb92 rfl (spec_l07Days.c _ a2 _ ht1) ?_
  rintro _ w1 ⟨rfl, hs⟩
  replace hS := hS.grow hs
  obtain ⟨t2, ht2, H⟩ := pbind H
  refine OJ.callF rfl rfl rfl rfl rfl hb84 rfl (spec_l07Asked.c k _ Aa0 ca0 a0 (hS.rd' (i := 0) rfl) (hS.le' (i := 0) rfl) a1 t1 _ ht2) ?_
  rintro _ w1 ⟨rfl, hs⟩
  replace hS := hS.grow hs
  refine OJ.pures tU_ok 1 rfl ?_
  refine OJ.nil (EJ.next ?_)
  refine CJ.seq ?_
  refine CJ.region ?_
  refine OJ.pures tU_ok 2 rfl ?_
  refine OJ.nil (EJ.next ?_)
  refine CJ.cond rfl (fun hb => ?_) (fun hb => ?_)
  · replace H := pif_t (of_decide_eq_true hb) H
    refine CJ.seq ?_
    refine CJ.region ?_
    refine OJ.pures tU_ok 3 rfl ?_
    refine OJ.nil (EJ.next ?_)
    refine CJ.ret (EJ.skR (?_))
    obtain rfl := Option.some.inj H
    exact EJ.fin rfl (.tmp rfl (.tmp rfl .nil)) ⟨rfl, hS.ext⟩
  · replace H := pif_f (of_decide_eq_false hb) H
    refine CJ.skip (EJ.next ?_)
    refine CJ.seq ?_
    refine CJ.region ?_
    refine OJ.pures tU_ok 1 rfl ?_
    refine OJ.nil (EJ.next ?_)
    refine CJ.seq ?_
    refine CJ.seq ?_
    refine CJ.region ?_
    refine OJ.pures tU_ok 1 rfl ?_
    refine OJ.nil (EJ.next ?_)
    obtain ⟨j142, H, K142⟩ := pbind H
    refine CJ.cut1 (fun F w1 => ∃ (y3 : Int) , (some y3 : Option Int) = some j142 ∧ F = [(1, .int .i64 a1), (2, .int .i64 a2), (9, .int .i64 y3)] ∧ St w no w1 [] [roC cMeadow Aa0 ca0 a0]) ?_ ?_
    · skip
      refine CJ.block ?_
      refine CJ.loop (fun k F w1 => ∃ (y4 : Int) (y5 : Int), F = [(0, .slice Aa0 a0.length ca0), (1, .int .i64 a1), (2, .int .i64 a2), (9, .int .i64 y4), (10, .int .i64 y5)] ∧ St w no w1 [] [roC cMeadow Aa0 ca0 a0] ∧ spec_EnoughFor.l1 a0 a2 k y4 y5 = some j142) k (F' := [(0, .slice Aa0 a0.length ca0), (1, .int .i64 a1), (2, .int .i64 a2), (9, .int .i64 0), (10, .int .i64 0)]) ⟨rfl, rfl, rfl, rfl, rfl, trivial⟩ ⟨0, 0, rfl, hS.pick [] [0] rfl, H⟩ ?_
      rintro k F w1 ⟨y4, y5, rfl, hS, H⟩
      cases k with
      | zero => rw [spec_EnoughFor.l1] at H; cases H
      | succ k =>
        rw [spec_EnoughFor.l1] at H
        refine CJ.seq ?_
        refine CJ.seq ?_
        refine CJ.region ?_
        refine OJ.pures tU_ok 4 rfl ?_
        refine OJ.nil (EJ.next ?_)
        refine CJ.cond rfl (fun hb => ?_) (fun hb => ?_)
        · replace H := pif_t (of_decide_eq_true hb) H
          refine CJ.skip (EJ.next ?_)
          refine CJ.seq ?_
          refine CJ.block ?_
          refine CJ.draw [] [0, 1, 2, 3, 4, 5, 6, 7, 8, 9, 10, 11, 12, 13, 14, 15, 16, 17, 18, 19] mixed (by kernel_rfl) hS fun w1 hS => ?_
          refine DJ.pures tU_ok 3 rfl ?_
          obtain ⟨t6, ht6, H⟩ := pbind H
          obtain ⟨ad6, e6⟩ := (hS.rd' (i := 0) rfl).some' ht6
          refine DJ.st rfl rfl rfl rfl rfl (SR.idxS tU_ok tI_ok rfl rfl rfl rfl e6 rfl (getI_some ht6).1) ?_
          refine DJ.st rfl rfl rfl rfl rfl (SR.fieldAddr tU_ok tI_ok rfl rfl rfl rfl rfl rfl) ?_
          refine DJ.st rfl rfl rfl rfl rfl (SR.load rfl rfl (fun w' hx => ld1 tU_ok rfl rfl (CA.ext (CA.sub ((hS.rd' (i := 0) rfl).at_ e6 ht6) 0) hx) rfl)) ?_
          refine DJ.pures tU_ok 3 rfl ?_
          obtain ⟨t7, ht7, H⟩ := pbind H
          obtain ⟨ad7, e7⟩ := (hS.rd' (i := 0) rfl).some' ht7
          refine DJ.st rfl rfl rfl rfl rfl (SR.idxS tU_ok tI_ok rfl rfl rfl rfl e7 rfl (getI_some ht7).1) ?_
          refine DJ.st rfl rfl rfl rfl rfl (SR.fieldAddr tU_ok tI_ok rfl rfl rfl rfl rfl rfl) ?_
          refine DJ.st rfl rfl rfl rfl rfl (SR.load rfl rfl (fun w' hx => ld1 tU_ok rfl rfl (CA.ext (CA.sub ((hS.rd' (i := 0) rfl).at_ e7 ht7) 1) hx) rfl)) ?_
          refine DJ.pures tU_ok 3 rfl ?_
          obtain ⟨t8, ht8, H⟩ := pbind H
          refine DJ.callF rfl rfl rfl rfl rfl rfl rfl hb70 rfl (spec_l00Max.c _ 0 (IntKind.i64.wrap (a2 - 1)) _ ht8) (by rintro v w' ⟨rfl, hs⟩; exact hs) ?_
          rintro _ w1 ⟨rfl, hs⟩
          replace hS := hS.grow hs
          refine DJ.pures tU_ok 4 rfl ?_
          refine DJ.nil (EJ.blk (EJ.next ?_))
          refine CJ.region ?_
          refine OJ.pures tU_ok 3 rfl ?_
          refine OJ.nil ?_
          exact EJ.round k (F' := [(0, .slice Aa0 a0.length ca0), (1, .int .i64 a1), (2, .int .i64 a2), (9, .int .i64 (IntKind.i64.wrap (y4 + (IntKind.i64.wrap ((IntKind.i64.wrap t6.Grass) + (IntKind.i64.wrap ((IntKind.i64.wrap t7.Grows) * t8))))))), (10, .int .i64 (IntKind.i64.wrap (y5 + 1)))]) ⟨rfl, rfl, rfl, rfl, rfl, trivial⟩ (Nat.lt_succ_self _) ⟨(IntKind.i64.wrap (y4 + (IntKind.i64.wrap ((IntKind.i64.wrap t6.Grass) + (IntKind.i64.wrap ((IntKind.i64.wrap t7.Grows) * t8)))))), (IntKind.i64.wrap (y5 + 1)), rfl, hS.pick [] [0] rfl, H⟩
        · replace H := pif_f (of_decide_eq_false hb) H
          refine CJ.exit (EJ.skE (EJ.skE (EJ.hit (?_))))
          exact EJ.meet (F' := [(1, .int .i64 a1), (2, .int .i64 a2), (9, .int .i64 y4)]) ⟨rfl, rfl, rfl, trivial⟩ ⟨y4, H, rfl, hS.pick [] [0] rfl⟩
    · rintro F w1 ⟨y3, he, rfl, hS⟩
      obtain rfl := Option.some.inj he
      have H := K142
      refine EJ.next ?_
      refine CJ.seq ?_
      refine CJ.region ?_
      refine OJ.pures tU_ok 7 rfl ?_
      refine OJ.nil (EJ.next ?_)
      refine CJ.ret (?_)
      obtain rfl := Option.some.inj H
      exact EJ.fin rfl (.tmp rfl (.tmp rfl .nil)) ⟨rfl, hS.ext⟩

def spec_l00Same.l1 (a0 : List Int) (a1 : List Int) : Nat → Int → Option (Bool ⊕ Unit)
  | 0, _ => none
  | k + 1, y1 => if y1 < (a0.length : Int) then ((getI a0 y1).bind fun t2 => (getI a1 y1).bind fun t3 => if t2 ≠ t3 then (some (Sum.inl false)) else (spec_l00Same.l1 a0 a1 k (IntKind.i64.wrap (y1 + 1)))) else (some (Sum.inr ()))
def spec_l00Same.f (k : Nat) (a0 : List Int) (a1 : List Int) : Option Bool := if (a0.length : Int) ≠ (a1.length : Int) then (some false) else ((spec_l00Same.l1 a0 a1 k 0).bind fun s143 => match s143 with | .inl r => some r | .inr _ => some true)
theorem spec_l00Same.c (k : Nat) (w : World) (Aa0 : Option Addr) (ca0 : Nat) (a0 : List Int) (hr0 : Rd (ci .i64) w Aa0 a0) (hc0 : a0.length ≤ ca0) (Aa1 : Option Addr) (ca1 : Nat) (a1 : List Int) (hr1 : Rd (ci .i64) w Aa1 a1) (hc1 : a1.length ≤ ca1) (r : Bool) (H : spec_l00Same.f k a0 a1 = some r) :
    CV Try.prog 116 [.slice Aa0 a0.length ca0, .slice Aa1 a1.length ca1].toArray w fun v w' => v = .bool r ∧ Ext w w' := by
  have hS := (((St.init w no).param (ci .i64) Aa0 ca0 a0 hr0 hc0).param (ci .i64) Aa1 ca1 a1 hr1 hc1)
  unfold spec_l00Same.f at H
  refine CV.body Try.func116 rfl Try.ntmps116 rfl ?_
  refine CJ.seq ?_
  refine CJ.region ?_
  refine OJ.pures tU_ok 1 rfl ?_
  refine OJ.nil (EJ.next ?_)
  refine CJ.seq ?_
  refine CJ.seq ?_
  refine CJ.region ?_
  refine OJ.pures tU_ok 5 rfl ?_
  refine OJ.nil (EJ.next ?_)
  refine CJ.cond rfl (fun hb => ?_) (fun hb => ?_)
  · replace H := pif_t (of_decide_eq_true hb) H
    refine CJ.seq ?_
    refine CJ.region ?_
    refine OJ.pures tU_ok 1 rfl ?_
    refine OJ.nil (EJ.next ?_)
    refine CJ.ret (EJ.skR (?_))
    obtain rfl := Option.some.inj H
    exact EJ.fin rfl (.tmp rfl .nil) ⟨rfl, hS.ext⟩
  · replace H := pif_f (of_decide_eq_false hb) H
    refine CJ.skip (EJ.next ?_)
    refine CJ.seq ?_
    refine CJ.seq ?_
    refine CJ.region ?_
    refine OJ.pures tU_ok 1 rfl ?_
    refine OJ.nil (EJ.next ?_)
    obtain ⟨j143, H, K143⟩ := pbind H
    refine CJ.cut1 (fun F w1 => (some (Sum.inr ()) : Option (Bool ⊕ Unit)) = some j143 ∧ F = [] ∧ St w no w1 [] [roC (ci .i64) Aa0 ca0 a0, roC (ci .i64) Aa1 ca1 a1]) ?_ ?_
    · skip
      refine CJ.block ?_
      refine CJ.loop (fun k F w1 => ∃ (y1 : Int), F = [(0, .slice Aa0 a0.length ca0), (1, .slice Aa1 a1.length ca1), (5, .int .i64 y1)] ∧ St w no w1 [] [roC (ci .i64) Aa0 ca0 a0, roC (ci .i64) Aa1 ca1 a1] ∧ spec_l00Same.l1 a0 a1 k y1 = some j143) k (F' := [(0, .slice Aa0 a0.length ca0), (1, .slice Aa1 a1.length ca1), (5, .int .i64 0)]) ⟨rfl, rfl, rfl, trivial⟩ ⟨0, rfl, hS.pick [] [0, 1] rfl, H⟩ ?_
      rintro k F w1 ⟨y1, rfl, hS, H⟩
      cases k with
      | zero => rw [spec_l00Same.l1] at H; cases H
      | succ k =>
        rw [spec_l00Same.l1] at H
        refine CJ.seq ?_
        refine CJ.seq ?_
        refine CJ.region ?_
        refine OJ.pures tU_ok 4 rfl ?_
        refine OJ.nil (EJ.next ?_)
        refine CJ.cond rfl (fun hb => ?_) (fun hb => ?_)
        · replace H := pif_t (of_decide_eq_true hb) H
          refine CJ.skip (EJ.next ?_)
          refine CJ.seq ?_
          refine CJ.block ?_
          refine CJ.seq ?_
          refine CJ.draw [] [0, 1, 2, 3, 4, 5, 6, 7, 8] mixed (by kernel_rfl) hS fun w1 hS => ?_
          refine DJ.pures tU_ok 2 rfl ?_
          obtain ⟨t2, ht2, H⟩ := pbind H
          obtain ⟨ad2, e2⟩ := (hS.rd' (i := 0) rfl).some' ht2
          refine DJ.st rfl rfl rfl rfl rfl (SR.idxS tU_ok tI_ok rfl rfl rfl rfl e2 rfl (getI_some ht2).1) ?_
          refine DJ.st rfl rfl rfl rfl rfl (SR.load rfl rfl (fun w' hx => ld1 tU_ok rfl rfl (CA.ext ((hS.rd' (i := 0) rfl).at_ e2 ht2) hx) rfl)) ?_
          refine DJ.pures tU_ok 2 rfl ?_
          obtain ⟨t3, ht3, H⟩ := pbind H
          obtain ⟨ad3, e3⟩ := (hS.rd' (i := 1) rfl).some' ht3
          refine DJ.st rfl rfl rfl rfl rfl (SR.idxS tU_ok tI_ok rfl rfl rfl rfl e3 rfl (getI_some ht3).1) ?_
          refine DJ.st rfl rfl rfl rfl rfl (SR.load rfl rfl (fun w' hx => ld1 tU_ok rfl rfl (CA.ext ((hS.rd' (i := 1) rfl).at_ e3 ht3) hx) rfl)) ?_
          refine DJ.pures tU_ok 1 rfl ?_
          refine DJ.nil (EJ.next ?_)
          refine CJ.cond rfl (fun hb => ?_) (fun hb => ?_)
          · replace H := pif_t (of_decide_eq_true hb) H
            refine CJ.seq ?_
            refine CJ.region ?_
            refine OJ.pures tU_ok 1 rfl ?_
            refine OJ.nil (EJ.next ?_)
            refine CJ.ret (EJ.bkR (EJ.skR (EJ.skR (EJ.bkR (EJ.skR (EJ.skR (?_)))))))
            first | (obtain rfl := Option.some.inj H; have H := K143) | (obtain ⟨q143, H2, e143⟩ := pbind H; obtain rfl := Option.some.inj e143; obtain rfl := Option.some.inj K143; have H := H2)
            obtain rfl := Option.some.inj H
            exact EJ.fin rfl (.tmp rfl .nil) ⟨rfl, hS.ext⟩
          · replace H := pif_f (of_decide_eq_false hb) H
            refine CJ.skip (EJ.blk (EJ.next ?_))
            refine CJ.region ?_
            refine OJ.pures tU_ok 3 rfl ?_
            refine OJ.nil ?_
            exact EJ.round k (F' := [(0, .slice Aa0 a0.length ca0), (1, .slice Aa1 a1.length ca1), (5, .int .i64 (IntKind.i64.wrap (y1 + 1)))]) ⟨rfl, rfl, rfl, trivial⟩ (Nat.lt_succ_self _) ⟨(IntKind.i64.wrap (y1 + 1)), rfl, hS.pick [] [0, 1] rfl, H⟩
        · replace H := pif_f (of_decide_eq_false hb) H
          refine CJ.exit (EJ.skE (EJ.skE (EJ.hit (?_))))
          exact EJ.meet (F' := []) trivial ⟨H, rfl, hS.pick [] [0, 1] rfl⟩
    · rintro F w1 ⟨he, rfl, hS⟩
      obtain rfl := Option.some.inj he
      have H := K143
      refine EJ.next ?_
      refine CJ.seq ?_
      refine CJ.region ?_
      refine OJ.pures tU_ok 1 rfl ?_
      refine OJ.nil (EJ.next ?_)
      refine CJ.ret (?_)
      obtain rfl := Option.some.inj H
      exact EJ.fin rfl (.tmp rfl .nil) ⟨rfl, hS.ext⟩

def spec_SameNumbers.f (k : Nat) (a0 : List Int) (a1 : List Int) : Option Bool := (spec_l00Same.f k a0 a1).bind fun t1 => some t1
theorem spec_SameNumbers.c (k : Nat) (w : World) (Aa0 : Option Addr) (ca0 : Nat) (a0 : List Int) (hr0 : Rd (ci .i64) w Aa0 a0) (hc0 : a0.length ≤ ca0) (Aa1 : Option Addr) (ca1 : Nat) (a1 : List Int) (hr1 : Rd (ci .i64) w Aa1 a1) (hc1 : a1.length ≤ ca1) (r : Bool) (H : spec_SameNumbers.f k a0 a1 = some r) :
    CV Try.prog 50 [.slice Aa0 a0.length ca0, .slice Aa1 a1.length ca1].toArray w fun v w' => v = .bool r ∧ Ext w w' := by
  have hS := (((St.init w no).param (ci .i64) Aa0 ca0 a0 hr0 hc0).param (ci .i64) Aa1 ca1 a1 hr1 hc1)
  unfold spec_SameNumbers.f at H
  refine CV.body Try.func50 rfl Try.ntmps50 rfl ?_
  refine CJ.seq ?_
  refine CJ.region ?_
  refine OJ.pures tU_ok 1 rfl ?_
  refine OJ.nil (EJ.next ?_)
  refine CJ.seq ?_
  refine CJ.region ?_
  refine OJ.pures tU_ok 2 rfl ?_
  obtain ⟨t1, ht1, H⟩ := pbind H
  refine OJ.callF rfl rfl rfl rfl rfl hb116 rfl (spec_l00Same.c k _ Aa0 ca0 a0 (hS.rd' (i := 0) rfl) (hS.le' (i := 0) rfl) Aa1 ca1 a1 (hS.rd' (i := 1) rfl) (hS.le' (i := 1) rfl) _ ht1) ?_
  rintro _ w1 ⟨rfl, hs⟩
  replace hS := hS.grow hs
  refine OJ.pures tU_ok 1 rfl ?_
  refine OJ.nil (EJ.next ?_)
  refine CJ.ret (?_)
  obtain rfl := Option.some.inj H
  exact EJ.fin rfl (.tmp rfl .nil) ⟨rfl, hS.ext⟩

def impl_planCode.f (k : Nat) (a0 : List Meadow) (a1 : Int) (a2 : List Int) : Option Int := (impl_meadowCode.f k a0 a1 a2).bind fun t1 => (impl_unless.f (decide ((a2.length : Int) ≤ 30)) 2).bind fun t2 => (impl_firstOf.f k ([t1, t2] : List Int)).bind fun t4 => some t4
theorem impl_planCode.c (k : Nat) (w : World) (Aa0 : Option Addr) (ca0 : Nat) (a0 : List Meadow) (hr0 : Rd cMeadow w Aa0 a0) (hc0 : a0.length ≤ ca0) (a1 : Int) (Aa2 : Option Addr) (ca2 : Nat) (a2 : List Int) (hr2 : Rd (ci .i64) w Aa2 a2) (hc2 : a2.length ≤ ca2) (r : Int) (H : impl_planCode.f k a0 a1 a2 = some r) :
    CV Try.prog 120 [.slice Aa0 a0.length ca0, .int .i64 a1, .slice Aa2 a2.length ca2].toArray w fun v w' => v = .int .i64 r ∧ Ext w w' := by
  have hS := (((St.init w no).param cMeadow Aa0 ca0 a0 hr0 hc0).param (ci .i64) Aa2 ca2 a2 hr2 hc2)
  unfold impl_planCode.f at H
  refine CV.body Try.func120 rfl Try.ntmps120 rfl ?_
  refine CJ.seq ?_
  refine CJ.region ?_
  refine OJ.pures tU_ok 1 rfl ?_
  refine OJ.nil (EJ.next ?_)
  refine CJ.seq ?_
  refine CJ.region ?_
  refine OJ.pures tU_ok 3 rfl ?_
  obtain ⟨t1, ht1, H⟩ := pbind H
  refine OJ.callF rfl rfl rfl rfl rfl hb115 rfl (impl_meadowCode.c k _ Aa0 ca0 a0 (hS.rd' (i := 0) rfl) (hS.le' (i := 0) rfl) a1 Aa2 ca2 a2 (hS.rd' (i := 1) rfl) (hS.le' (i := 1) rfl) _ ht1) ?_
  rintro _ w1 ⟨rfl, hs⟩
  replace hS := hS.grow hs
  refine OJ.pures tU_ok 3 rfl ?_
  obtain ⟨t2, ht2, H⟩ := pbind H
  refine OJ.callF rfl rfl rfl rfl rfl hb89 rfl (impl_unless.c _ (decide ((a2.length : Int) ≤ 30)) 2 _ ht2) ?_
  rintro _ w1 ⟨rfl, hs⟩
  replace hS := hS.grow hs
  refine OJ.ef rfl rfl rfl (Ef.lit tU_ok tI_ok hS (C := (ci .i64)) rfl rfl rfl rfl rfl rfl ([t1, t2] : List Int) rfl rfl rfl rfl) ?_
  rintro _ w1 ⟨A3, rfl, hS⟩
  obtain ⟨t4, ht4, H⟩ := pbind H
  refine OJ.callF rfl rfl rfl rfl rfl hb87 rfl (impl_firstOf.c k _ A3 (([t1, t2] : List Int).length) ([t1, t2] : List Int) (hS.rd (i := 0) rfl) (hS.le (i := 0) rfl) _ ht4) ?_
  rintro _ w1 ⟨rfl, hs⟩
  replace hS := hS.grow hs
  refine OJ.pures tU_ok 1 rfl ?_
  refine OJ.nil (EJ.next ?_)
  refine CJ.ret (?_)
  obtain rfl := Option.some.inj H
  exact EJ.fin rfl (.tmp rfl .nil) ⟨rfl, hS.ext⟩

def impl_follow.l1 (a1 : Int) (a2 : List Int) : Nat → (List Meadow) → Int → Option ((Int × List Meadow) ⊕ (List Meadow))
  | 0, _, _ => none
  | k + 1, y4, y7 => if y7 < (a2.length : Int) then ((getI a2 y7).bind fun t8 => (impl_behind.f k y4 a1 t8).bind fun t9 => if (!t9.2) = true then (some (Sum.inl (y7, y4))) else (impl_follow.l1 a1 a2 k t9.1 (IntKind.i64.wrap (y7 + 1)))) else (some (Sum.inr y4))
def impl_follow.f (k : Nat) (a0 : List Meadow) (a1 : Int) (a2 : List Int) : Option (Int × List Meadow) := (impl_follow.l1 a1 a2 k a0 0).bind fun s145 => match s145 with | .inl r => some r | .inr y1 => some ((a2.length : Int), y1)
theorem impl_follow.c (k : Nat) (w : World) (Aa0 : Option Addr) (ca0 : Nat) (a0 : List Meadow) (hr0 : Rd cMeadow w Aa0 a0) (hc0 : a0.length ≤ ca0) (a1 : Int) (Aa2 : Option Addr) (ca2 : Nat) (a2 : List Int) (hr2 : Rd (ci .i64) w Aa2 a2) (hc2 : a2.length ≤ ca2) (r : Int × List Meadow) (H : impl_follow.f k a0 a1 a2 = some r) :
    CV Try.prog 121 [.slice Aa0 a0.length ca0, .int .i64 a1, .slice Aa2 a2.length ca2].toArray w fun v w' => ∃ (A1 : Option Addr) (c1 : Nat), v = .tuple #[.int .i64 r.1, .slice A1 r.2.length c1] ∧ Ext w w' ∧ (roO (fun b => w.heap.size ≤ b ∨ (roC cMeadow Aa0 ca0 a0).fp b ∨ (roC (ci .i64) Aa2 ca2 a2).fp b ∨ False) cMeadow A1 c1 r.2).holds w' := by
  have hS := (((St.init w no).paramO (O := (fun b => w.heap.size ≤ b ∨ (roC cMeadow Aa0 ca0 a0).fp b ∨ (roC (ci .i64) Aa2 ca2 a2).fp b ∨ False)) cMeadow Aa0 ca0 a0 hr0 hc0 (fun b hb => .inr (.inl hb))).paramO (O := (fun b => w.heap.size ≤ b ∨ (roC cMeadow Aa0 ca0 a0).fp b ∨ (roC (ci .i64) Aa2 ca2 a2).fp b ∨ False)) (ci .i64) Aa2 ca2 a2 hr2 hc2 (fun b hb => .inr (.inr (.inl hb))))
  unfold impl_follow.f at H
  refine CV.body Try.func121 rfl Try.ntmps121 rfl ?_
  refine CJ.seq ?_
  refine CJ.region ?_
  refine OJ.pures tU_ok 2 rfl ?_
  refine OJ.nil (EJ.next ?_)
  refine CJ.seq ?_
  refine CJ.seq ?_
  refine CJ.region ?_
  refine OJ.pures tU_ok 3 rfl ?_
  refine OJ.nil (EJ.next ?_)
  obtain ⟨j145, H, K145⟩ := pbind H
  refine CJ.cut1 (fun F w1 => ∃ (y1 : List Meadow) (A2 : Option Addr) (c3 : Nat), (some (Sum.inr y1) : Option ((Int × List Meadow) ⊕ (List Meadow))) = some j145 ∧ F = [(0, .slice A2 y1.length c3), (2, .slice Aa2 a2.length ca2)] ∧ St w no w1 [] [roO (fun b => w.heap.size ≤ b ∨ (roC cMeadow Aa0 ca0 a0).fp b ∨ (roC (ci .i64) Aa2 ca2 a2).fp b ∨ False) cMeadow Aa0 ca0 a0, roO (fun b => w.heap.size ≤ b ∨ (roC cMeadow Aa0 ca0 a0).fp b ∨ (roC (ci .i64) Aa2 ca2 a2).fp b ∨ False) (ci .i64) Aa2 ca2 a2, roO (fun b => w.heap.size ≤ b ∨ (roC cMeadow Aa0 ca0 a0).fp b ∨ (roC (ci .i64) Aa2 ca2 a2).fp b ∨ False) cMeadow A2 c3 y1]) ?_ ?_
  · skip
    refine CJ.block ?_
    refine CJ.loop (fun k F w1 => ∃ (y4 : List Meadow) (y7 : Int) (A5 : Option Addr) (c6 : Nat), F = [(0, .slice A5 y4.length c6), (1, .int .i64 a1), (2, .slice Aa2 a2.length ca2), (12, .slice Aa2 a2.length ca2), (13, .int .i64 (a2.length : Int)), (14, .int .i64 y7)] ∧ St w no w1 [] [roO (fun b => w.heap.size ≤ b ∨ (roC cMeadow Aa0 ca0 a0).fp b ∨ (roC (ci .i64) Aa2 ca2 a2).fp b ∨ False) cMeadow Aa0 ca0 a0, roO (fun b => w.heap.size ≤ b ∨ (roC cMeadow Aa0 ca0 a0).fp b ∨ (roC (ci .i64) Aa2 ca2 a2).fp b ∨ False) (ci .i64) Aa2 ca2 a2, roO (fun b => w.heap.size ≤ b ∨ (roC cMeadow Aa0 ca0 a0).fp b ∨ (roC (ci .i64) Aa2 ca2 a2).fp b ∨ False) cMeadow A5 c6 y4] ∧ impl_follow.l1 a1 a2 k y4 y7 = some j145) k (F' := [(0, .slice Aa0 a0.length ca0), (1, .int .i64 a1), (2, .slice Aa2 a2.length ca2), (12, .slice Aa2 a2.length ca2), (13, .int .i64 (a2.length : Int)), (14, .int .i64 0)]) ⟨rfl, rfl, rfl, rfl, rfl, rfl, trivial⟩ ⟨a0, 0, Aa0, ca0, rfl, hS.pick [] [0, 1, 0] rfl, H⟩ ?_
    rintro k F w1 ⟨y4, y7, A5, c6, rfl, hS, H⟩
    cases k with
    | zero => rw [impl_follow.l1] at H; cases H
    | succ k =>
      rw [impl_follow.l1] at H
      refine CJ.seq ?_
      refine CJ.region ?_
      refine OJ.pures tU_ok 1 rfl ?_
      refine OJ.nil (EJ.next ?_)
      refine CJ.seq ?_
      refine CJ.cond rfl (fun hb => ?_) (fun hb => ?_)
      · replace H := pif_t (of_decide_eq_true hb) H
        refine CJ.skip (EJ.next ?_)
        refine CJ.seq ?_
        refine CJ.block ?_
        refine CJ.seq ?_
        refine CJ.region ?_
        refine OJ.pures tU_ok 1 rfl ?_
        obtain ⟨t8, ht8, H⟩ := pbind H
        obtain ⟨ad8, e8⟩ := (hS.rdO (i := 1) rfl).some' ht8
        refine OJ.st rfl rfl rfl (SR.idxS tU_ok tI_ok rfl rfl rfl rfl e8 rfl (getI_some ht8).1) ?_
        refine OJ.st rfl rfl rfl (SR.load rfl rfl (fun w' hx => ld1 tU_ok rfl rfl (CA.ext ((hS.rdO (i := 1) rfl).at_ e8 ht8) hx) rfl)) ?_
        refine OJ.pures tU_ok 2 rfl ?_
        refine OJ.nil (EJ.next ?_)
        refine CJ.seq ?_
        refine CJ.region ?_
        refine OJ.pures tU_ok 3 rfl ?_
        obtain ⟨t9, ht9, H⟩ := pbind H
        refine OJ.callF rfl rfl rfl rfl rfl hb122 rfl (impl_behind.c k _ A5 c6 y4 (hS.rdO (i := 2) rfl) (hS.leO (i := 2) rfl) a1 t8 _ ht9) ?_
        rintro _ w1 ⟨A10, c11, rfl, hs⟩
        replace hS := hS.addN hs
        refine OJ.pures tU_ok 5 rfl ?_
        refine OJ.nil (EJ.next ?_)
        refine CJ.seq ?_
        refine CJ.seq ?_
        refine CJ.region ?_
        refine OJ.pures tU_ok 2 rfl ?_
        refine OJ.nil (EJ.next ?_)
        refine CJ.cond rfl (fun hb => ?_) (fun hb => ?_)
        · replace H := pif_t hb H
          refine CJ.seq ?_
          refine CJ.region ?_
          refine OJ.pures tU_ok 4 rfl ?_
          refine OJ.nil (EJ.next ?_)
          refine CJ.ret (EJ.skR (EJ.bkR (EJ.skR (EJ.skR (EJ.bkR (EJ.skR (EJ.skR (?_))))))))
          first | (obtain rfl := Option.some.inj H; have H := K145) | (obtain ⟨q145, H2, e145⟩ := pbind H; obtain rfl := Option.some.inj e145; obtain rfl := Option.some.inj K145; have H := H2)
          obtain rfl := Option.some.inj H
          exact EJ.fin rfl (.tmp rfl (.tmp rfl .nil)) ⟨A5, c6, rfl, hS.ext, hS.holdsO (i := 2) rfl⟩
        · replace H := pifb_f hb H
          refine CJ.skip (EJ.next ?_)
          refine CJ.region ?_
          refine OJ.pures tU_ok 2 rfl ?_
          refine OJ.nil (EJ.blk (EJ.next ?_))
          refine CJ.region ?_
          refine OJ.pures tU_ok 2 rfl ?_
          refine OJ.nil ?_
          replace hS := hS.freezeO (O := (fun b => w.heap.size ≤ b ∨ (roC cMeadow Aa0 ca0 a0).fp b ∨ (roC (ci .i64) Aa2 ca2 a2).fp b ∨ False)) (fun b hb => .inl hb) (i := 0) rfl
          exact EJ.round k (F' := [(0, .slice A10 t9.1.length c11), (1, .int .i64 a1), (2, .slice Aa2 a2.length ca2), (12, .slice Aa2 a2.length ca2), (13, .int .i64 (a2.length : Int)), (14, .int .i64 (IntKind.i64.wrap (y7 + 1)))]) ⟨rfl, rfl, rfl, rfl, rfl, rfl, trivial⟩ (Nat.lt_succ_self _) ⟨t9.1, (IntKind.i64.wrap (y7 + 1)), A10, c11, rfl, hS.pick [] [0, 1, 3] rfl, H⟩
      · replace H := pif_f (of_decide_eq_false hb) H
        refine CJ.exit (EJ.skE (EJ.skE (EJ.hit (?_))))
        exact EJ.meet (F' := [(0, .slice A5 y4.length c6), (2, .slice Aa2 a2.length ca2)]) ⟨rfl, rfl, trivial⟩ ⟨y4, A5, c6, H, rfl, hS.pick [] [0, 1, 2] rfl⟩
  · rintro F w1 ⟨y1, A2, c3, he, rfl, hS⟩
    obtain rfl := Option.some.inj he
    have H := K145
    refine EJ.next ?_
    refine CJ.seq ?_
    refine CJ.region ?_
    refine OJ.pures tU_ok 5 rfl ?_
    refine OJ.nil (EJ.next ?_)
    refine CJ.ret (?_)
    obtain rfl := Option.some.inj H
    exact EJ.fin rfl (.tmp rfl (.tmp rfl .nil)) ⟨A2, c3, rfl, hS.ext, hS.holdsO (i := 2) rfl⟩

def impl_CheckPlan.f (k : Nat) (a0 : List Meadow) (a1 : Int) (a2 : List Int) : Option (Bool × Int) := (impl_planCode.f k a0 a1 a2).bind fun t1 => if t1 ≠ 0 then (some (false, t1)) else ((impl_follow.f k a0 a1 a2).bind fun t2 => some (decide (t2.1 = (a2.length : Int)), 0))
theorem impl_CheckPlan.c (k : Nat) (w : World) (Aa0 : Option Addr) (ca0 : Nat) (a0 : List Meadow) (hr0 : Rd cMeadow w Aa0 a0) (hc0 : a0.length ≤ ca0) (a1 : Int) (Aa2 : Option Addr) (ca2 : Nat) (a2 : List Int) (hr2 : Rd (ci .i64) w Aa2 a2) (hc2 : a2.length ≤ ca2) (r : Bool × Int) (H : impl_CheckPlan.f k a0 a1 a2 = some r) :
    CV Try.prog 52 [.slice Aa0 a0.length ca0, .int .i64 a1, .slice Aa2 a2.length ca2].toArray w fun v w' => v = .tuple #[.bool r.1, .int .i64 r.2] ∧ Ext w w' := by
  have hS := (((St.init w no).param cMeadow Aa0 ca0 a0 hr0 hc0).param (ci .i64) Aa2 ca2 a2 hr2 hc2)
  unfold impl_CheckPlan.f at H
  refine CV.body Try.func52 rfl Try.ntmps52 rfl ?_
  refine CJ.seq ?_
  refine CJ.region ?_
  refine OJ.pures tU_ok 2 rfl ?_
  refine OJ.nil (EJ.next ?_)
  refine CJ.seq ?_
  refine CJ.seq ?_
  refine CJ.region ?_
  refine OJ.pures tU_ok 3 rfl ?_
  obtain ⟨t1, ht1, H⟩ := pbind H
  refine OJ.callF rfl rfl rfl rfl rfl hb120 rfl (impl_planCode.c k _ Aa0 ca0 a0 (hS.rd' (i := 0) rfl) (hS.le' (i := 0) rfl) a1 Aa2 ca2 a2 (hS.rd' (i := 1) rfl) (hS.le' (i := 1) rfl) _ ht1) ?_
  rintro _ w1 ⟨rfl, hs⟩
  replace hS := hS.grow hs
  refine OJ.pures tU_ok 1 rfl ?_
  refine OJ.nil (EJ.next ?_)
  refine CJ.seq ?_
  refine CJ.region ?_
  refine OJ.pures tU_ok 2 rfl ?_
  refine OJ.nil (EJ.next ?_)
  refine CJ.cond rfl (fun hb => ?_) (fun hb => ?_)
  · replace H := pif_t (of_decide_eq_true hb) H
    refine CJ.seq ?_
    refine CJ.region ?_
    refine OJ.pures tU_ok 3 rfl ?_
    refine OJ.nil (EJ.next ?_)
    refine CJ.ret (EJ.skR (?_))
    obtain rfl := Option.some.inj H
    exact EJ.fin rfl (.tmp rfl (.tmp rfl .nil)) ⟨rfl, hS.ext⟩
  · replace H := pif_f (of_decide_eq_false hb) H
    refine CJ.skip (EJ.next ?_)
    refine CJ.seq ?_
    refine CJ.region ?_
    refine OJ.pures tU_ok 3 rfl ?_
    obtain ⟨t2, ht2, H⟩ := pbind H
    refine OJ.callF rfl rfl rfl rfl rfl hb121 rfl (impl_follow.c k _ Aa0 ca0 a0 (hS.rd' (i := 0) rfl) (hS.le' (i := 0) rfl) a1 Aa2 ca2 a2 (hS.rd' (i := 1) rfl) (hS.le' (i := 1) rfl) _ ht2) ?_
    rintro _ w1 ⟨A3, c4, rfl, hx, hr0⟩
    replace hS := hS.addRos hx [roC cMeadow A3 c4 t2.2] (by intro c hc; simp only [List.mem_cons, List.not_mem_nil, or_false] at hc; rcases hc with rfl; exact ⟨hr0.1, fun b hb => (by have hb := hr0.2 b hb; rcases hb with hb | hb | hb | hb; exact .inl hb; exact .inr ⟨_, List.mem_of_getElem? (i := 0) rfl, hb⟩; exact .inr ⟨_, List.mem_of_getElem? (i := 1) rfl, hb⟩; exact hb.elim)⟩)
    refine OJ.pures tU_ok 5 rfl ?_
    refine OJ.nil (EJ.next ?_)
    refine CJ.seq ?_
    refine CJ.region ?_
    refine OJ.pures tU_ok 6 rfl ?_
    refine OJ.nil (EJ.next ?_)
    refine CJ.ret (?_)
    obtain rfl := Option.some.inj H
    exact EJ.fin rfl (.tmp rfl (.tmp rfl .nil)) ⟨rfl, hS.ext⟩

def impl_FirstHungry.f (k : Nat) (a0 : List Meadow) (a1 : Int) (a2 : List Int) : Option (Int × Int) := (impl_planCode.f k a0 a1 a2).bind fun t1 => if t1 ≠ 0 then (some (0, t1)) else ((impl_follow.f k a0 a1 a2).bind fun t2 => if t2.1 = (a2.length : Int) then (some (0, 6)) else (some (t2.1, 0)))
theorem impl_FirstHungry.c (k : Nat) (w : World) (Aa0 : Option Addr) (ca0 : Nat) (a0 : List Meadow) (hr0 : Rd cMeadow w Aa0 a0) (hc0 : a0.length ≤ ca0) (a1 : Int) (Aa2 : Option Addr) (ca2 : Nat) (a2 : List Int) (hr2 : Rd (ci .i64) w Aa2 a2) (hc2 : a2.length ≤ ca2) (r : Int × Int) (H : impl_FirstHungry.f k a0 a1 a2 = some r) :
    CV Try.prog 53 [.slice Aa0 a0.length ca0, .int .i64 a1, .slice Aa2 a2.length ca2].toArray w fun v w' => v = .tuple #[.int .i64 r.1, .int .i64 r.2] ∧ Ext w w' := by
  have hS := (((St.init w no).param cMeadow Aa0 ca0 a0 hr0 hc0).param (ci .i64) Aa2 ca2 a2 hr2 hc2)
  unfold impl_FirstHungry.f at H
  refine CV.body Try.func53 rfl Try.ntmps53 rfl ?_
  refine CJ.seq ?_
  refine CJ.region ?_
  refine OJ.pures tU_ok 2 rfl ?_
  refine OJ.nil (EJ.next ?_)
  refine CJ.seq ?_
  refine CJ.seq ?_
  refine CJ.region ?_
  refine OJ.pures tU_ok 3 rfl ?_
  obtain ⟨t1, ht1, H⟩ := pbind H
  refine OJ.callF rfl rfl rfl rfl rfl hb120 rfl (impl_planCode.c k _ Aa0 ca0 a0 (hS.rd' (i := 0) rfl) (hS.le' (i := 0) rfl) a1 Aa2 ca2 a2 (hS.rd' (i := 1) rfl) (hS.le' (i := 1) rfl) _ ht1) ?_
  rintro _ w1 ⟨rfl, hs⟩
  replace hS := hS.grow hs
  refine OJ.pures tU_ok 1 rfl ?_
  refine OJ.nil (EJ.next ?_)
  refine CJ.seq ?_
  refine CJ.region ?_
  refine OJ.pures tU_ok 2 rfl ?_
  refine OJ.nil (EJ.next ?_)
  refine CJ.cond rfl (fun hb => ?_) (fun hb => ?_)
  · replace H := pif_t (of_decide_eq_true hb) H
    refine CJ.seq ?_
    refine CJ.region ?_
    refine OJ.pures tU_ok 3 rfl ?_
    refine OJ.nil (EJ.next ?_)
    refine CJ.ret (EJ.skR (?_))
    obtain rfl := Option.some.inj H
    exact EJ.fin rfl (.tmp rfl (.tmp rfl .nil)) ⟨rfl, hS.ext⟩
  · replace H := pif_f (of_decide_eq_false hb) H
    refine CJ.skip (EJ.next ?_)
    refine CJ.seq ?_
    refine CJ.region ?_
    refine OJ.pures tU_ok 3 rfl ?_
    obtain ⟨t2, ht2, H⟩ := pbind H
    refine OJ.callF rfl rfl rfl rfl rfl hb121 rfl (impl_follow.c k _ Aa0 ca0 a0 (hS.rd' (i := 0) rfl) (hS.le' (i := 0) rfl) a1 Aa2 ca2 a2 (hS.rd' (i := 1) rfl) (hS.le' (i := 1) rfl) _ ht2) ?_
    rintro _ w1 ⟨A3, c4, rfl, hx, hr0⟩
    replace hS := hS.addRos hx [roC cMeadow A3 c4 t2.2] (by intro c hc; simp only [List.mem_cons, List.not_mem_nil, or_false] at hc; rcases hc with rfl; exact ⟨hr0.1, fun b hb => (by have hb := hr0.2 b hb; rcases hb with hb | hb | hb | hb; exact .inl hb; exact .inr ⟨_, List.mem_of_getElem? (i := 0) rfl, hb⟩; exact .inr ⟨_, List.mem_of_getElem? (i := 1) rfl, hb⟩; exact hb.elim)⟩)
    refine OJ.pures tU_ok 5 rfl ?_
    refine OJ.nil (EJ.next ?_)
    refine CJ.seq ?_
    refine CJ.seq ?_
    refine CJ.region ?_
    refine OJ.pures tU_ok 4 rfl ?_
    refine OJ.nil (EJ.next ?_)
    refine CJ.cond rfl (fun hb => ?_) (fun hb => ?_)
    · replace H := pif_t (of_decide_eq_true hb) H
      refine CJ.seq ?_
      refine CJ.region ?_
      refine OJ.pures tU_ok 2 rfl ?_
      refine OJ.nil (EJ.next ?_)
      refine CJ.ret (EJ.skR (?_))
      obtain rfl := Option.some.inj H
      exact EJ.fin rfl (.tmp rfl (.tmp rfl .nil)) ⟨rfl, hS.ext⟩
    · replace H := pif_f (of_decide_eq_false hb) H
      refine CJ.skip (EJ.next ?_)
      refine CJ.seq ?_
      refine CJ.region ?_
      refine OJ.pures tU_ok 3 rfl ?_
      refine OJ.nil (EJ.next ?_)
      refine CJ.ret (?_)
      obtain rfl := Option.some.inj H
      exact EJ.fin rfl (.tmp rfl (.tmp rfl .nil)) ⟨rfl, hS.ext⟩

def impl_DayBehind.f (k : Nat) (a0 : List Meadow) (a1 : Int) (a2 : Int) : Option (List Meadow × Int) := (impl_meadowCode.f k a0 a1 ([a2] : List Int)).bind fun t2 => if t2 ≠ 0 then (some ([], t2)) else ((impl_behind.f k a0 a1 a2).bind fun t3 => if (!t3.2) = true then (some ([], 4)) else (some (t3.1, 0)))
theorem impl_DayBehind.c (k : Nat) (w : World) (Aa0 : Option Addr) (ca0 : Nat) (a0 : List Meadow) (hr0 : Rd cMeadow w Aa0 a0) (hc0 : a0.length ≤ ca0) (a1 : Int) (a2 : Int) (r : List Meadow × Int) (H : impl_DayBehind.f k a0 a1 a2 = some r) :
    CV Try.prog 54 [.slice Aa0 a0.length ca0, .int .i64 a1, .int .i64 a2].toArray w fun v w' => ∃ (A0 : Option Addr) (c0 : Nat), v = .tuple #[.slice A0 r.1.length c0, .int .i64 r.2] ∧ St w no w' [rowC cMeadow A0 c0 85 r.1] [] := by
  have hS := ((St.init w no).param cMeadow Aa0 ca0 a0 hr0 hc0)
  unfold impl_DayBehind.f at H
  refine CV.body Try.func54 rfl Try.ntmps54 rfl ?_
  refine CJ.seq ?_
  refine CJ.region ?_
  refine OJ.pures tU_ok 2 rfl ?_
  refine OJ.nil (EJ.next ?_)
  refine CJ.seq ?_
  refine CJ.seq ?_
  refine CJ.region ?_
  refine OJ.pures tU_ok 3 rfl ?_
  refine OJ.ef rfl rfl rfl (Ef.lit tU_ok tI_ok hS (C := (ci .i64)) rfl rfl rfl rfl rfl rfl ([a2] : List Int) rfl rfl rfl rfl) ?_
  rintro _ w1 ⟨A1, rfl, hS⟩
  obtain ⟨t2, ht2, H⟩ := pbind H
  refine OJ.callF rfl rfl rfl rfl rfl hb115 rfl (impl_meadowCode.c k _ Aa0 ca0 a0 (hS.rd' (i := 0) rfl) (hS.le' (i := 0) rfl) a1 A1 (([a2] : List Int).length) ([a2] : List Int) (hS.rd (i := 0) rfl) (hS.le (i := 0) rfl) _ ht2) ?_
  rintro _ w1 ⟨rfl, hs⟩
  replace hS := hS.grow hs
  refine OJ.pures tU_ok 1 rfl ?_
  refine OJ.nil (EJ.next ?_)
  refine CJ.seq ?_
  refine CJ.region ?_
  refine OJ.pures tU_ok 2 rfl ?_
  refine OJ.nil (EJ.next ?_)
  refine CJ.cond rfl (fun hb => ?_) (fun hb => ?_)
  · replace H := pif_t (of_decide_eq_true hb) H
    refine CJ.seq ?_
    refine CJ.region ?_
    refine OJ.pures tU_ok 3 rfl ?_
    refine OJ.nil (EJ.next ?_)
    refine CJ.ret (EJ.skR (?_))
    replace hS := hS.addNil cMeadow 85 none
    obtain rfl := Option.some.inj H
    exact EJ.fin rfl (.tmp rfl (.tmp rfl .nil)) ⟨none, 0, rfl, hS.pick [1] [] rfl⟩
  · replace H := pif_f (of_decide_eq_false hb) H
    refine CJ.skip (EJ.next ?_)
    refine CJ.seq ?_
    refine CJ.region ?_
    refine OJ.pures tU_ok 3 rfl ?_
    obtain ⟨t3, ht3, H⟩ := pbind H
    refine OJ.callF rfl rfl rfl rfl rfl hb122 rfl (impl_behind.c k _ Aa0 ca0 a0 (hS.rd' (i := 0) rfl) (hS.le' (i := 0) rfl) a1 a2 _ ht3) ?_
    rintro _ w1 ⟨A4, c5, rfl, hs⟩
    replace hS := hS.addN hs
    refine OJ.pures tU_ok 5 rfl ?_
    refine OJ.nil (EJ.next ?_)
    refine CJ.seq ?_
    refine CJ.seq ?_
    refine CJ.region ?_
    refine OJ.pures tU_ok 2 rfl ?_
    refine OJ.nil (EJ.next ?_)
    refine CJ.cond rfl (fun hb => ?_) (fun hb => ?_)
    · replace H := pif_t hb H
      refine CJ.seq ?_
      refine CJ.region ?_
      refine OJ.pures tU_ok 2 rfl ?_
      refine OJ.nil (EJ.next ?_)
      refine CJ.ret (EJ.skR (?_))
      replace hS := hS.addNil cMeadow 85 none
      obtain rfl := Option.some.inj H
      exact EJ.fin rfl (.tmp rfl (.tmp rfl .nil)) ⟨none, 0, rfl, hS.pick [2] [] rfl⟩
    · replace H := pifb_f hb H
      refine CJ.skip (EJ.next ?_)
      refine CJ.seq ?_
      refine CJ.region ?_
      refine OJ.pures tU_ok 3 rfl ?_
      refine OJ.nil (EJ.next ?_)
      refine CJ.ret (?_)
      obtain rfl := Option.some.inj H
      exact EJ.fin rfl (.tmp rfl (.tmp rfl .nil)) ⟨A4, c5, rfl, hS.pick [1] [] rfl⟩

def spec_l07Index.f (a0 : List Meadow) (a1 : Int) : Option Bool := (spec_l00In.f a1 0 (IntKind.i64.wrap ((a0.length : Int) - 1))).bind fun t1 => some t1
theorem spec_l07Index.c (w : World) (Aa0 : Option Addr) (ca0 : Nat) (a0 : List Meadow) (hr0 : Rd cMeadow w Aa0 a0) (hc0 : a0.length ≤ ca0) (a1 : Int) (r : Bool) (H : spec_l07Index.f a0 a1 = some r) :
    CV Try.prog 123 [.slice Aa0 a0.length ca0, .int .i64 a1].toArray w fun v w' => v = .bool r ∧ Ext w w' := by
  have hS := ((St.init w no).param cMeadow Aa0 ca0 a0 hr0 hc0)
  unfold spec_l07Index.f at H
  refine CV.body Try.func123 rfl Try.ntmps123 rfl ?_
  refine CJ.seq ?_
  refine CJ.region ?_
  refine OJ.pures tU_ok 1 rfl ?_
  refine OJ.nil (EJ.next ?_)
  refine CJ.seq ?_
  refine CJ.region ?_
  refine OJ.pures tU_ok 4 rfl ?_
  obtain ⟨t1, ht1, H⟩ := pbind H
  refine OJ.callF rfl rfl rfl rfl rfl hb68 rfl (spec_l00In.c _ a1 0 (IntKind.i64.wrap ((a0.length : Int) - 1)) _ ht1) ?_
  rintro _ w1 ⟨rfl, hs⟩
  replace hS := hS.grow hs
  refine OJ.pures tU_ok 1 rfl ?_
  refine OJ.nil (EJ.next ?_)
  refine CJ.ret (?_)
  obtain rfl := Option.some.inj H
  exact EJ.fin rfl (.tmp rfl .nil) ⟨rfl, hS.ext⟩

def spec_DayBehind.f (k : Nat) (a0 : List Meadow) (a1 : Int) (a2 : Int) : Option (List Meadow × Int) := (spec_l07Index.f a0 a2).bind fun t1 => (spec_l07Asked.f k a0 a1 t1).bind fun t2 => if t2 ≠ 0 then (some (([] : List Meadow), t2)) else ((getI a0 a2).bind fun t4 => if (IntKind.i64.wrap t4.Grass) < a1 then (some (([] : List Meadow), 4)) else ((spec_l07Day.f k a0 a1 a2).bind fun t6 => some (t6, 0)))
theorem spec_DayBehind.c (k : Nat) (w : World) (Aa0 : Option Addr) (ca0 : Nat) (a0 : List Meadow) (hr0 : Rd cMeadow w Aa0 a0) (hc0 : a0.length ≤ ca0) (a1 : Int) (a2 : Int) (r : List Meadow × Int) (H : spec_DayBehind.f k a0 a1 a2 = some r) :
    CV Try.prog 55 [.slice Aa0 a0.length ca0, .int .i64 a1, .int .i64 a2].toArray w fun v w' => ∃ (A0 : Option Addr) (c0 : Nat), v = .tuple #[.slice A0 r.1.length c0, .int .i64 r.2] ∧ St w no w' [rowC cMeadow A0 c0 85 r.1] [] := by
  have hS := ((St.init w no).param cMeadow Aa0 ca0 a0 hr0 hc0)
  unfold spec_DayBehind.f at H
  refine CV.body Try.func55 rfl Try.ntmps55 rfl ?_
  refine CJ.seq ?_
  refine CJ.region ?_
  refine OJ.pures tU_ok 2 rfl ?_
  refine OJ.nil (EJ.next ?_)
  refine CJ.seq ?_
  refine CJ.seq ?_
  refine CJ.region ?_
  refine OJ.pures tU_ok 4 rfl ?_
  obtain ⟨t1, ht1, H⟩ := pbind H
  refine OJ.callF rfl rfl rfl rfl rfl hb123 rfl (spec_l07Index.c _ Aa0 ca0 a0 (hS.rd' (i := 0) rfl) (hS.le' (i := 0) rfl) a2 _ ht1) ?_
  rintro _ w1 ⟨rfl, hs⟩
  replace hS := hS.grow hs
  obtain ⟨t2, ht2, H⟩ := pbind H
  refine OJ.callF rfl rfl rfl rfl rfl hb84 rfl (spec_l07Asked.c k _ Aa0 ca0 a0 (hS.rd' (i := 0) rfl) (hS.le' (i := 0) rfl) a1 t1 _ ht2) ?_
  rintro _ w1 ⟨rfl, hs⟩
  replace hS := hS.grow hs
  refine OJ.pures tU_ok 1 rfl ?_
  refine OJ.nil (EJ.next ?_)
  refine CJ.seq ?_
  refine CJ.region ?_
  refine OJ.pures tU_ok 2 rfl ?_
  refine OJ.nil (EJ.next ?_)
  refine CJ.cond rfl (fun hb => ?_) (fun hb => ?_)
  · replace H := pif_t (of_decide_eq_true hb) H
    refine CJ.seq ?_
    refine CJ.region ?_
    refine OJ.ef rfl rfl rfl (Ef.lit tU_ok tI_ok hS (C := cMeadow) rfl rfl rfl rfl rfl rfl ([] : List Meadow) rfl rfl rfl rfl) ?_
    rintro _ w1 ⟨A3, rfl, hS⟩
    refine OJ.pures tU_ok 3 rfl ?_
    refine OJ.nil (EJ.next ?_)
    refine CJ.ret (EJ.skR (?_))
    obtain rfl := Option.some.inj H
    exact EJ.fin rfl (.tmp rfl (.tmp rfl .nil)) ⟨A3, (([] : List Meadow).length), rfl, hS.pick [0] [] rfl⟩
  · replace H := pif_f (of_decide_eq_false hb) H
    refine CJ.skip (EJ.next ?_)
    refine CJ.seq ?_
    refine CJ.seq ?_
    refine CJ.region ?_
    refine OJ.pures tU_ok 2 rfl ?_
    obtain ⟨t4, ht4, H⟩ := pbind H
    obtain ⟨ad4, e4⟩ := (hS.rd' (i := 0) rfl).some' ht4
    refine OJ.st rfl rfl rfl (SR.idxS tU_ok tI_ok rfl rfl rfl rfl e4 rfl (getI_some ht4).1) ?_
    refine OJ.st rfl rfl rfl (SR.fieldAddr tU_ok tI_ok rfl rfl rfl rfl rfl rfl) ?_
    refine OJ.st rfl rfl rfl (SR.load rfl rfl (fun w' hx => ld1 tU_ok rfl rfl (CA.ext (CA.sub ((hS.rd' (i := 0) rfl).at_ e4 ht4) 0) hx) rfl)) ?_
    refine OJ.pures tU_ok 3 rfl ?_
    refine OJ.nil (EJ.next ?_)
    refine CJ.cond rfl (fun hb => ?_) (fun hb => ?_)
    · replace H := pif_t (of_decide_eq_true hb) H
      refine CJ.seq ?_
      refine CJ.region ?_
      refine OJ.ef rfl rfl rfl (Ef.lit tU_ok tI_ok hS (C := cMeadow) rfl rfl rfl rfl rfl rfl ([] : List Meadow) rfl rfl rfl rfl) ?_
      rintro _ w1 ⟨A5, rfl, hS⟩
      refine OJ.pures tU_ok 2 rfl ?_
      refine OJ.nil (EJ.next ?_)
      refine CJ.ret (EJ.skR (?_))
      obtain rfl := Option.some.inj H
      exact EJ.fin rfl (.tmp rfl (.tmp rfl .nil)) ⟨A5, (([] : List Meadow).length), rfl, hS.pick [0] [] rfl⟩
    · replace H := pif_f (of_decide_eq_false hb) H
      refine CJ.skip (EJ.next ?_)
      refine CJ.seq ?_
      refine CJ.region ?_
      refine OJ.pures tU_ok 3 rfl ?_
      obtain ⟨t6, ht6, H⟩ := pbind H
      refine OJ.callF rfl rfl rfl rfl rfl hb124 rfl (spec_l07Day.c k _ Aa0 ca0 a0 (hS.rd' (i := 0) rfl) (hS.le' (i := 0) rfl) a1 a2 _ ht6) ?_
      rintro _ w1 ⟨A7, c8, rfl, hs⟩
      replace hS := hS.addN hs
      refine OJ.pures tU_ok 2 rfl ?_
      refine OJ.nil (EJ.next ?_)
      refine CJ.ret (?_)
      obtain rfl := Option.some.inj H
      exact EJ.fin rfl (.tmp rfl (.tmp rfl .nil)) ⟨A7, c8, rfl, hS.pick [0] [] rfl⟩

def spec_SameMeadows.l1 (a0 : List Meadow) (a1 : List Meadow) : Nat → Int → Option (Bool ⊕ Unit)
  | 0, _ => none
  | k + 1, y1 => if y1 < (a0.length : Int) then ((getI a0 y1).bind fun t2 => (getI a1 y1).bind fun t3 => if t2 ≠ t3 then (some (Sum.inl false)) else (spec_SameMeadows.l1 a0 a1 k (IntKind.i64.wrap (y1 + 1)))) else (some (Sum.inr ()))
def spec_SameMeadows.f (k : Nat) (a0 : List Meadow) (a1 : List Meadow) : Option Bool := if (a0.length : Int) ≠ (a1.length : Int) then (some false) else ((spec_SameMeadows.l1 a0 a1 k 0).bind fun s146 => match s146 with | .inl r => some r | .inr _ => some true)
theorem spec_SameMeadows.c (k : Nat) (w : World) (Aa0 : Option Addr) (ca0 : Nat) (a0 : List Meadow) (hr0 : Rd cMeadow w Aa0 a0) (hc0 : a0.length ≤ ca0) (Aa1 : Option Addr) (ca1 : Nat) (a1 : List Meadow) (hr1 : Rd cMeadow w Aa1 a1) (hc1 : a1.length ≤ ca1) (r : Bool) (H : spec_SameMeadows.f k a0 a1 = some r) :
    CV Try.prog 56 [.slice Aa0 a0.length ca0, .slice Aa1 a1.length ca1].toArray w fun v w' => v = .bool r ∧ Ext w w' := by
  have hS := (((St.init w no).param cMeadow Aa0 ca0 a0 hr0 hc0).param cMeadow Aa1 ca1 a1 hr1 hc1)
  unfold spec_SameMeadows.f at H
  refine CV.body Try.func56 rfl Try.ntmps56 rfl ?_
  refine CJ.seq ?_
  refine CJ.region ?_
  refine OJ.pures tU_ok 1 rfl ?_
  refine OJ.nil (EJ.next ?_)
  refine CJ.seq ?_
  refine CJ.seq ?_
  refine CJ.region ?_
  refine OJ.pures tU_ok 5 rfl ?_
  refine OJ.nil (EJ.next ?_)
  refine CJ.cond rfl (fun hb => ?_) (fun hb => ?_)
  · replace H := pif_t (of_decide_eq_true hb) H
    refine CJ.seq ?_
    refine CJ.region ?_
    refine OJ.pures tU_ok 1 rfl ?_
    refine OJ.nil (EJ.next ?_)
    refine CJ.ret (EJ.skR (?_))
    obtain rfl := Option.some.inj H
    exact EJ.fin rfl (.tmp rfl .nil) ⟨rfl, hS.ext⟩
  · replace H := pif_f (of_decide_eq_false hb) H
    refine CJ.skip (EJ.next ?_)
    refine CJ.seq ?_
    refine CJ.seq ?_
    refine CJ.region ?_
    refine OJ.pures tU_ok 1 rfl ?_
    refine OJ.nil (EJ.next ?_)
    obtain ⟨j146, H, K146⟩ := pbind H
    refine CJ.cut1 (fun F w1 => (some (Sum.inr ()) : Option (Bool ⊕ Unit)) = some j146 ∧ F = [] ∧ St w no w1 [] [roC cMeadow Aa0 ca0 a0, roC cMeadow Aa1 ca1 a1]) ?_ ?_
    · skip
      refine CJ.block ?_
      refine CJ.loop (fun k F w1 => ∃ (y1 : Int), F = [(0, .slice Aa0 a0.length ca0), (1, .slice Aa1 a1.length ca1), (5, .int .i64 y1)] ∧ St w no w1 [] [roC cMeadow Aa0 ca0 a0, roC cMeadow Aa1 ca1 a1] ∧ spec_SameMeadows.l1 a0 a1 k y1 = some j146) k (F' := [(0, .slice Aa0 a0.length ca0), (1, .slice Aa1 a1.length ca1), (5, .int .i64 0)]) ⟨rfl, rfl, rfl, trivial⟩ ⟨0, rfl, hS.pick [] [0, 1] rfl, H⟩ ?_
      rintro k F w1 ⟨y1, rfl, hS, H⟩
      cases k with
      | zero => rw [spec_SameMeadows.l1] at H; cases H
      | succ k =>
        rw [spec_SameMeadows.l1] at H
        refine CJ.seq ?_
        refine CJ.seq ?_
        refine CJ.region ?_
        refine OJ.pures tU_ok 4 rfl ?_
        refine OJ.nil (EJ.next ?_)
        refine CJ.cond rfl (fun hb => ?_) (fun hb => ?_)
        · replace H := pif_t (of_decide_eq_true hb) H
          refine CJ.skip (EJ.next ?_)
          refine CJ.seq ?_
          refine CJ.block ?_
          refine CJ.seq ?_
          refine CJ.draw [] [0, 1, 2, 3, 4, 5, 6, 7, 8] mixed (by kernel_rfl) hS fun w1 hS => ?_
          refine DJ.pures tU_ok 2 rfl ?_
          obtain ⟨t2, ht2, H⟩ := pbind H
          obtain ⟨ad2, e2⟩ := (hS.rd' (i := 0) rfl).some' ht2
          refine DJ.st rfl rfl rfl rfl rfl (SR.idxS tU_ok tI_ok rfl rfl rfl rfl e2 rfl (getI_some ht2).1) ?_
          refine DJ.st rfl rfl rfl rfl rfl (SR.load rfl rfl (fun w' hx => ldE tU_ok tI_ok rfl rfl rfl (CA.ext ((hS.rd' (i := 0) rfl).at_ e2 ht2) hx) rfl)) ?_
          refine DJ.pures tU_ok 2 rfl ?_
          obtain ⟨t3, ht3, H⟩ := pbind H
          obtain ⟨ad3, e3⟩ := (hS.rd' (i := 1) rfl).some' ht3
          refine DJ.st rfl rfl rfl rfl rfl (SR.idxS tU_ok tI_ok rfl rfl rfl rfl e3 rfl (getI_some ht3).1) ?_
          refine DJ.st rfl rfl rfl rfl rfl (SR.load rfl rfl (fun w' hx => ldE tU_ok tI_ok rfl rfl rfl (CA.ext ((hS.rd' (i := 1) rfl).at_ e3 ht3) hx) rfl)) ?_
          refine DJ.st rfl rfl rfl rfl rfl (SR.neS eqT85 eqG85 rfl rfl rfl (rfl : _ = (cMeadow.enc t2).toArray) (rfl : _ = (cMeadow.enc t3).toArray)) ?_
          refine DJ.nil (EJ.next ?_)
          refine CJ.cond rfl (fun hb => ?_) (fun hb => ?_)
          · replace H := pif_t (of_decide_eq_true hb) H
            refine CJ.seq ?_
            refine CJ.region ?_
            refine OJ.pures tU_ok 1 rfl ?_
            refine OJ.nil (EJ.next ?_)
            refine CJ.ret (EJ.bkR (EJ.skR (EJ.skR (EJ.bkR (EJ.skR (EJ.skR (?_)))))))
            first | (obtain rfl := Option.some.inj H; have H := K146) | (obtain ⟨q146, H2, e146⟩ := pbind H; obtain rfl := Option.some.inj e146; obtain rfl := Option.some.inj K146; have H := H2)
            obtain rfl := Option.some.inj H
            exact EJ.fin rfl (.tmp rfl .nil) ⟨rfl, hS.ext⟩
          · replace H := pif_f (of_decide_eq_false hb) H
            refine CJ.skip (EJ.blk (EJ.next ?_))
            refine CJ.region ?_
            refine OJ.pures tU_ok 3 rfl ?_
            refine OJ.nil ?_
            exact EJ.round k (F' := [(0, .slice Aa0 a0.length ca0), (1, .slice Aa1 a1.length ca1), (5, .int .i64 (IntKind.i64.wrap (y1 + 1)))]) ⟨rfl, rfl, rfl, trivial⟩ (Nat.lt_succ_self _) ⟨(IntKind.i64.wrap (y1 + 1)), rfl, hS.pick [] [0, 1] rfl, H⟩
        · replace H := pif_f (of_decide_eq_false hb) H
          refine CJ.exit (EJ.skE (EJ.skE (EJ.hit (?_))))
          exact EJ.meet (F' := []) trivial ⟨H, rfl, hS.pick [] [0, 1] rfl⟩
    · rintro F w1 ⟨he, rfl, hS⟩
      obtain rfl := Option.some.inj he
      have H := K146
      refine EJ.next ?_
      refine CJ.seq ?_
      refine CJ.region ?_
      refine OJ.pures tU_ok 1 rfl ?_
      refine OJ.nil (EJ.next ?_)
      refine CJ.ret (?_)
      obtain rfl := Option.some.inj H
      exact EJ.fin rfl (.tmp rfl .nil) ⟨rfl, hS.ext⟩

def slices_Equal_impl_Meadow_impl_Meadow.l1 (a0 : List Meadow) (a1 : List Meadow) : Nat → Int → Option (Bool ⊕ Unit)
  | 0, _ => none
  | k + 1, y1 => if y1 < (a0.length : Int) then ((getI a0 y1).bind fun t2 => (getI a1 y1).bind fun t3 => if t2 ≠ t3 then (some (Sum.inl false)) else (slices_Equal_impl_Meadow_impl_Meadow.l1 a0 a1 k (IntKind.i64.wrap (y1 + 1)))) else (some (Sum.inr ()))
def slices_Equal_impl_Meadow_impl_Meadow.f (k : Nat) (a0 : List Meadow) (a1 : List Meadow) : Option Bool := if (a0.length : Int) ≠ (a1.length : Int) then (some false) else ((slices_Equal_impl_Meadow_impl_Meadow.l1 a0 a1 k 0).bind fun s147 => match s147 with | .inl r => some r | .inr _ => some true)
theorem slices_Equal_impl_Meadow_impl_Meadow.c (k : Nat) (w : World) (Aa0 : Option Addr) (ca0 : Nat) (a0 : List Meadow) (hr0 : Rd cMeadow w Aa0 a0) (hc0 : a0.length ≤ ca0) (Aa1 : Option Addr) (ca1 : Nat) (a1 : List Meadow) (hr1 : Rd cMeadow w Aa1 a1) (hc1 : a1.length ≤ ca1) (r : Bool) (H : slices_Equal_impl_Meadow_impl_Meadow.f k a0 a1 = some r) :
    CV Try.prog 125 [.slice Aa0 a0.length ca0, .slice Aa1 a1.length ca1].toArray w fun v w' => v = .bool r ∧ Ext w w' := by
  have hS := (((St.init w no).param cMeadow Aa0 ca0 a0 hr0 hc0).param cMeadow Aa1 ca1 a1 hr1 hc1)
  unfold slices_Equal_impl_Meadow_impl_Meadow.f at H
  refine CV.body Try.func125 rfl Try.ntmps125 rfl ?_
  refine CJ.seq ?_
  refine CJ.region ?_
  refine OJ.pures tU_ok 1 rfl ?_
  refine OJ.nil (EJ.next ?_)
  refine CJ.seq ?_
  refine CJ.seq ?_
  refine CJ.region ?_
  refine OJ.pures tU_ok 5 rfl ?_
  refine OJ.nil (EJ.next ?_)
  refine CJ.cond rfl (fun hb => ?_) (fun hb => ?_)
  · replace H := pif_t (of_decide_eq_true hb) H
    refine CJ.seq ?_
    refine CJ.region ?_
    refine OJ.pures tU_ok 1 rfl ?_
    refine OJ.nil (EJ.next ?_)
    refine CJ.ret (EJ.skR (?_))
    obtain rfl := Option.some.inj H
    exact EJ.fin rfl (.tmp rfl .nil) ⟨rfl, hS.ext⟩
  · replace H := pif_f (of_decide_eq_false hb) H
    refine CJ.skip (EJ.next ?_)
    refine CJ.seq ?_
    refine CJ.seq ?_
    refine CJ.region ?_
    refine OJ.pures tU_ok 3 rfl ?_
    refine OJ.nil (EJ.next ?_)
    obtain ⟨j147, H, K147⟩ := pbind H
    refine CJ.cut1 (fun F w1 => (some (Sum.inr ()) : Option (Bool ⊕ Unit)) = some j147 ∧ F = [] ∧ St w no w1 [] [roC cMeadow Aa0 ca0 a0, roC cMeadow Aa1 ca1 a1]) ?_ ?_
    · skip
      refine CJ.block ?_
      refine CJ.loop (fun k F w1 => ∃ (y1 : Int), F = [(0, .slice Aa0 a0.length ca0), (1, .slice Aa1 a1.length ca1), (12, .int .i64 (a0.length : Int)), (13, .int .i64 y1)] ∧ St w no w1 [] [roC cMeadow Aa0 ca0 a0, roC cMeadow Aa1 ca1 a1] ∧ slices_Equal_impl_Meadow_impl_Meadow.l1 a0 a1 k y1 = some j147) k (F' := [(0, .slice Aa0 a0.length ca0), (1, .slice Aa1 a1.length ca1), (12, .int .i64 (a0.length : Int)), (13, .int .i64 0)]) ⟨rfl, rfl, rfl, rfl, trivial⟩ ⟨0, rfl, hS.pick [] [0, 1] rfl, H⟩ ?_
      rintro k F w1 ⟨y1, rfl, hS, H⟩
      cases k with
      | zero => rw [slices_Equal_impl_Meadow_impl_Meadow.l1] at H; cases H
      | succ k =>
        rw [slices_Equal_impl_Meadow_impl_Meadow.l1] at H
        refine CJ.seq ?_
        refine CJ.region ?_
        refine OJ.pures tU_ok 1 rfl ?_
        refine OJ.nil (EJ.next ?_)
        refine CJ.seq ?_
        refine CJ.cond rfl (fun hb => ?_) (fun hb => ?_)
        · replace H := pif_t (of_decide_eq_true hb) H
          refine CJ.skip (EJ.next ?_)
          refine CJ.seq ?_
          refine CJ.block ?_
          refine CJ.seq ?_
          refine CJ.region ?_
          refine OJ.pures tU_ok 2 rfl ?_
          refine OJ.nil (EJ.next ?_)
          refine CJ.seq ?_
          refine CJ.draw [] [0, 1, 2, 3, 4, 5, 6, 7, 8] mixed (by kernel_rfl) hS fun w1 hS => ?_
          refine DJ.pures tU_ok 2 rfl ?_
          obtain ⟨t2, ht2, H⟩ := pbind H
          obtain ⟨ad2, e2⟩ := (hS.rd' (i := 0) rfl).some' ht2
          refine DJ.st rfl rfl rfl rfl rfl (SR.idxS tU_ok tI_ok rfl rfl rfl rfl e2 rfl (getI_some ht2).1) ?_
          refine DJ.st rfl rfl rfl rfl rfl (SR.load rfl rfl (fun w' hx => ldE tU_ok tI_ok rfl rfl rfl (CA.ext ((hS.rd' (i := 0) rfl).at_ e2 ht2) hx) rfl)) ?_
          refine DJ.pures tU_ok 2 rfl ?_
          obtain ⟨t3, ht3, H⟩ := pbind H
          obtain ⟨ad3, e3⟩ := (hS.rd' (i := 1) rfl).some' ht3
          refine DJ.st rfl rfl rfl rfl rfl (SR.idxS tU_ok tI_ok rfl rfl rfl rfl e3 rfl (getI_some ht3).1) ?_
          refine DJ.st rfl rfl rfl rfl rfl (SR.load rfl rfl (fun w' hx => ldE tU_ok tI_ok rfl rfl rfl (CA.ext ((hS.rd' (i := 1) rfl).at_ e3 ht3) hx) rfl)) ?_
          refine DJ.st rfl rfl rfl rfl rfl (SR.neS eqT85 eqG85 rfl rfl rfl (rfl : _ = (cMeadow.enc t2).toArray) (rfl : _ = (cMeadow.enc t3).toArray)) ?_
          refine DJ.nil (EJ.next ?_)
          refine CJ.cond rfl (fun hb => ?_) (fun hb => ?_)
          · replace H := pif_t (of_decide_eq_true hb) H
            refine CJ.seq ?_
            refine CJ.region ?_
            refine OJ.pures tU_ok 1 rfl ?_
            refine OJ.nil (EJ.next ?_)
            refine CJ.ret (EJ.bkR (EJ.skR (EJ.skR (EJ.bkR (EJ.skR (EJ.skR (?_)))))))
            first | (obtain rfl := Option.some.inj H; have H := K147) | (obtain ⟨q147, H2, e147⟩ := pbind H; obtain rfl := Option.some.inj e147; obtain rfl := Option.some.inj K147; have H := H2)
            obtain rfl := Option.some.inj H
            exact EJ.fin rfl (.tmp rfl .nil) ⟨rfl, hS.ext⟩
          · replace H := pif_f (of_decide_eq_false hb) H
            refine CJ.skip (EJ.blk (EJ.next ?_))
            refine CJ.region ?_
            refine OJ.pures tU_ok 2 rfl ?_
            refine OJ.nil ?_
            exact EJ.round k (F' := [(0, .slice Aa0 a0.length ca0), (1, .slice Aa1 a1.length ca1), (12, .int .i64 (a0.length : Int)), (13, .int .i64 (IntKind.i64.wrap (y1 + 1)))]) ⟨rfl, rfl, rfl, rfl, trivial⟩ (Nat.lt_succ_self _) ⟨(IntKind.i64.wrap (y1 + 1)), rfl, hS.pick [] [0, 1] rfl, H⟩
        · replace H := pif_f (of_decide_eq_false hb) H
          refine CJ.exit (EJ.skE (EJ.skE (EJ.hit (?_))))
          exact EJ.meet (F' := []) trivial ⟨H, rfl, hS.pick [] [0, 1] rfl⟩
    · rintro F w1 ⟨he, rfl, hS⟩
      obtain rfl := Option.some.inj he
      have H := K147
      refine EJ.next ?_
      refine CJ.seq ?_
      refine CJ.region ?_
      refine OJ.pures tU_ok 1 rfl ?_
      refine OJ.nil (EJ.next ?_)
      refine CJ.ret (?_)
      obtain rfl := Option.some.inj H
      exact EJ.fin rfl (.tmp rfl .nil) ⟨rfl, hS.ext⟩

def impl_SameMeadows.f (k : Nat) (a0 : List Meadow) (a1 : List Meadow) : Option Bool := (slices_Equal_impl_Meadow_impl_Meadow.f k a0 a1).bind fun t1 => some t1
theorem impl_SameMeadows.c (k : Nat) (w : World) (Aa0 : Option Addr) (ca0 : Nat) (a0 : List Meadow) (hr0 : Rd cMeadow w Aa0 a0) (hc0 : a0.length ≤ ca0) (Aa1 : Option Addr) (ca1 : Nat) (a1 : List Meadow) (hr1 : Rd cMeadow w Aa1 a1) (hc1 : a1.length ≤ ca1) (r : Bool) (H : impl_SameMeadows.f k a0 a1 = some r) :
    CV Try.prog 57 [.slice Aa0 a0.length ca0, .slice Aa1 a1.length ca1].toArray w fun v w' => v = .bool r ∧ Ext w w' := by
  have hS := (((St.init w no).param cMeadow Aa0 ca0 a0 hr0 hc0).param cMeadow Aa1 ca1 a1 hr1 hc1)
  unfold impl_SameMeadows.f at H
  refine CV.body Try.func57 rfl Try.ntmps57 rfl ?_
  refine CJ.seq ?_
  refine CJ.region ?_
  refine OJ.pures tU_ok 1 rfl ?_
  refine OJ.nil (EJ.next ?_)
  refine CJ.seq ?_
  refine CJ.region ?_
  refine OJ.pures tU_ok 2 rfl ?_
  obtain ⟨t1, ht1, H⟩ := pbind H
  refine OJ.callF rfl rfl rfl rfl rfl hb125 rfl (slices_Equal_impl_Meadow_impl_Meadow.c k _ Aa0 ca0 a0 (hS.rd' (i := 0) rfl) (hS.le' (i := 0) rfl) Aa1 ca1 a1 (hS.rd' (i := 1) rfl) (hS.le' (i := 1) rfl) _ ht1) ?_
  rintro _ w1 ⟨rfl, hs⟩
  replace hS := hS.grow hs
  refine OJ.pures tU_ok 1 rfl ?_
  refine OJ.nil (EJ.next ?_)
  refine CJ.ret (?_)
  obtain rfl := Option.some.inj H
  exact EJ.fin rfl (.tmp rfl .nil) ⟨rfl, hS.ext⟩

def impl_GrassBehind.f (k : Nat) (a0 : List Meadow) (a1 : Int) (a2 : List Int) : Option (List Meadow × Int) := (impl_planCode.f k a0 a1 a2).bind fun t1 => if t1 ≠ 0 then (some ([], t1)) else ((impl_follow.f k a0 a1 a2).bind fun t2 => if t2.1 < (a2.length : Int) then (some ([], 4)) else ((slices_Clone_impl_Meadow_impl_Meadow.f t2.2).bind fun t5 => some (t5, 0)))
theorem impl_GrassBehind.c (k : Nat) (w : World) (Aa0 : Option Addr) (ca0 : Nat) (a0 : List Meadow) (hr0 : Rd cMeadow w Aa0 a0) (hc0 : a0.length ≤ ca0) (a1 : Int) (Aa2 : Option Addr) (ca2 : Nat) (a2 : List Int) (hr2 : Rd (ci .i64) w Aa2 a2) (hc2 : a2.length ≤ ca2) (r : List Meadow × Int) (H : impl_GrassBehind.f k a0 a1 a2 = some r) :
    CV Try.prog 58 [.slice Aa0 a0.length ca0, .int .i64 a1, .slice Aa2 a2.length ca2].toArray w fun v w' => ∃ (A0 : Option Addr) (c0 : Nat), v = .tuple #[.slice A0 r.1.length c0, .int .i64 r.2] ∧ St w no w' [rowC cMeadow A0 c0 85 r.1] [] := by
  have hS := (((St.init w no).param cMeadow Aa0 ca0 a0 hr0 hc0).param (ci .i64) Aa2 ca2 a2 hr2 hc2)
  unfold impl_GrassBehind.f at H
  refine CV.body Try.func58 rfl Try.ntmps58 rfl ?_
  refine CJ.seq ?_
  refine CJ.region ?_
  refine OJ.pures tU_ok 2 rfl ?_
  refine OJ.nil (EJ.next ?_)
  refine CJ.seq ?_
  refine CJ.seq ?_
  refine CJ.region ?_
  refine OJ.pures tU_ok 3 rfl ?_
  obtain ⟨t1, ht1, H⟩ := pbind H
  refine OJ.callF rfl rfl rfl rfl rfl hb120 rfl (impl_planCode.c k _ Aa0 ca0 a0 (hS.rd' (i := 0) rfl) (hS.le' (i := 0) rfl) a1 Aa2 ca2 a2 (hS.rd' (i := 1) rfl) (hS.le' (i := 1) rfl) _ ht1) ?_
  rintro _ w1 ⟨rfl, hs⟩
  replace hS := hS.grow hs
  refine OJ.pures tU_ok 1 rfl ?_
  refine OJ.nil (EJ.next ?_)
  refine CJ.seq ?_
  refine CJ.region ?_
  refine OJ.pures tU_ok 2 rfl ?_
  refine OJ.nil (EJ.next ?_)
  refine CJ.cond rfl (fun hb => ?_) (fun hb => ?_)
  · replace H := pif_t (of_decide_eq_true hb) H
    refine CJ.seq ?_
    refine CJ.region ?_
    refine OJ.pures tU_ok 3 rfl ?_
    refine OJ.nil (EJ.next ?_)
    refine CJ.ret (EJ.skR (?_))
    replace hS := hS.addNil cMeadow 85 none
    obtain rfl := Option.some.inj H
    exact EJ.fin rfl (.tmp rfl (.tmp rfl .nil)) ⟨none, 0, rfl, hS.pick [0] [] rfl⟩
  · replace H := pif_f (of_decide_eq_false hb) H
    refine CJ.skip (EJ.next ?_)
    refine CJ.seq ?_
    refine CJ.region ?_
    refine OJ.pures tU_ok 3 rfl ?_
    obtain ⟨t2, ht2, H⟩ := pbind H
    refine OJ.callF rfl rfl rfl rfl rfl hb121 rfl (impl_follow.c k _ Aa0 ca0 a0 (hS.rd' (i := 0) rfl) (hS.le' (i := 0) rfl) a1 Aa2 ca2 a2 (hS.rd' (i := 1) rfl) (hS.le' (i := 1) rfl) _ ht2) ?_
    rintro _ w1 ⟨A3, c4, rfl, hx, hr0⟩
    replace hS := hS.addRos hx [roC cMeadow A3 c4 t2.2] (by intro c hc; simp only [List.mem_cons, List.not_mem_nil, or_false] at hc; rcases hc with rfl; exact ⟨hr0.1, fun b hb => (by have hb := hr0.2 b hb; rcases hb with hb | hb | hb | hb; exact .inl hb; exact .inr ⟨_, List.mem_of_getElem? (i := 0) rfl, hb⟩; exact .inr ⟨_, List.mem_of_getElem? (i := 1) rfl, hb⟩; exact hb.elim)⟩)
    refine OJ.pures tU_ok 5 rfl ?_
    refine OJ.nil (EJ.next ?_)
    refine CJ.seq ?_
    refine CJ.seq ?_
    refine CJ.region ?_
    refine OJ.pures tU_ok 4 rfl ?_
    refine OJ.nil (EJ.next ?_)
    refine CJ.cond rfl (fun hb => ?_) (fun hb => ?_)
    · replace H := pif_t (of_decide_eq_true hb) H
      refine CJ.seq ?_
      refine CJ.region ?_
      refine OJ.pures tU_ok 2 rfl ?_
      refine OJ.nil (EJ.next ?_)
      refine CJ.ret (EJ.skR (?_))
      replace hS := hS.addNil cMeadow 85 none
      obtain rfl := Option.some.inj H
      exact EJ.fin rfl (.tmp rfl (.tmp rfl .nil)) ⟨none, 0, rfl, hS.pick [0] [] rfl⟩
    · replace H := pif_f (of_decide_eq_false hb) H
      refine CJ.skip (EJ.next ?_)
      refine CJ.seq ?_
      refine CJ.region ?_
      refine OJ.pures tU_ok 1 rfl ?_
      obtain ⟨t5, ht5, H⟩ := pbind H
      refine OJ.callF rfl rfl rfl rfl rfl hb126 rfl (slices_Clone_impl_Meadow_impl_Meadow.c _ A3 c4 t2.2 (hS.rd' (i := 2) rfl) (hS.le' (i := 2) rfl) _ ht5) ?_
      rintro _ w1 ⟨A6, c7, rfl, hs⟩
      replace hS := hS.addN hs
      refine OJ.pures tU_ok 2 rfl ?_
      refine OJ.nil (EJ.next ?_)
      refine CJ.ret (?_)
      obtain rfl := Option.some.inj H
      exact EJ.fin rfl (.tmp rfl (.tmp rfl .nil)) ⟨A6, c7, rfl, hS.pick [0] [] rfl⟩

def impl_RestsOf.l1 (a0 : List Int) (a1 : Int) : Nat → Int → Option ((List Int × Int) ⊕ Unit)
  | 0, _ => none
  | k + 1, y5 => if y5 < ((([a1] : List Int) ++ a0).length : Int) then ((getI (([a1] : List Int) ++ a0) y5).bind fun t6 => (impl_within.f t6 0 5).bind fun t7 => if (!t7) = true then (some (Sum.inl ([], 2))) else (if 30 < (a0.length : Int) then (some (Sum.inl ([], 2))) else (impl_RestsOf.l1 a0 a1 k (IntKind.i64.wrap (y5 + 1))))) else (some (Sum.inr ()))
def impl_RestsOf.l2 (a0 : List Int) (a1 : Int) : Nat → (List Int) → Int → Int → Option (List Int)
  | 0, _, _, _ => none
  | k + 1, y12, y15, y16 => if y16 < (a0.length : Int) then ((getI a0 y16).bind fun t17 => if t17 ≠ a1 then (impl_RestsOf.l2 a0 a1 k y12 y15 (IntKind.i64.wrap (y16 + 1))) else (if 0 ≤ y15 then ((chk (y12.length + ([IntKind.i64.wrap ((IntKind.i64.wrap (y16 - y15)) - 1)] : List Int).length ≤ 4294967296)).bind fun u19 => impl_RestsOf.l2 a0 a1 k (y12 ++ ([IntKind.i64.wrap ((IntKind.i64.wrap (y16 - y15)) - 1)] : List Int)) y16 (IntKind.i64.wrap (y16 + 1))) else (impl_RestsOf.l2 a0 a1 k y12 y16 (IntKind.i64.wrap (y16 + 1))))) else (some y12)
def impl_RestsOf.f (k : Nat) (a0 : List Int) (a1 : Int) : Option (List Int × Int) := (chk (([a1] : List Int).length + a0.length ≤ 4294967296)).bind fun u2 => (impl_RestsOf.l1 a0 a1 k 0).bind fun s148 => match s148 with | .inl r => some r | .inr _ => (impl_RestsOf.l2 a0 a1 k ([] : List Int) (-1) 0).bind fun y9 => some (y9, 0)
theorem impl_RestsOf.c (k : Nat) (w : World) (Aa0 : Option Addr) (ca0 : Nat) (a0 : List Int) (hr0 : Rd (ci .i64) w Aa0 a0) (hc0 : a0.length ≤ ca0) (a1 : Int) (r : List Int × Int) (H : impl_RestsOf.f k a0 a1 = some r) :
    CV Try.prog 59 [.slice Aa0 a0.length ca0, .int .i64 a1].toArray w fun v w' => ∃ (A0 : Option Addr) (c0 : Nat), v = .tuple #[.slice A0 r.1.length c0, .int .i64 r.2] ∧ St w no w' [rowC (ci .i64) A0 c0 2 r.1] [] := by
  have hS := ((St.init w no).param (ci .i64) Aa0 ca0 a0 hr0 hc0)
  unfold impl_RestsOf.f at H
  refine CV.body Try.func59 rfl Try.ntmps59 rfl ?_
  refine CJ.seq ?_
  refine CJ.region ?_
  refine OJ.pures tU_ok 2 rfl ?_
  refine OJ.nil (EJ.next ?_)
  refine CJ.seq ?_
  refine CJ.seq ?_
  refine CJ.region ?_
  refine OJ.pures tU_ok 1 rfl ?_
  refine OJ.ef rfl rfl rfl (Ef.lit tU_ok tI_ok hS (C := (ci .i64)) rfl rfl rfl rfl rfl rfl ([a1] : List Int) rfl rfl rfl rfl) ?_
  rintro _ w1 ⟨A1, rfl, hS⟩
  refine OJ.pures tU_ok 1 rfl ?_
  obtain ⟨u2, hu2, H⟩ := pbind H
  refine OJ.ew rfl rfl rfl (Ew.append tU_ok tI_ok (C := (ci .i64)) (xs := ([a1] : List Int)) (ys := a0) hS (i := 0) rfl rfl rfl rfl rfl rfl rfl rfl rfl rfl rfl rfl rfl (hS.rd' (i := 0) rfl) (chk_some hu2)) ?_
  rintro _ w1 ⟨A3, c4, rfl, hS⟩
  refine OJ.pures tU_ok 2 rfl ?_
  refine OJ.nil (EJ.next ?_)
  obtain ⟨j148, H, K148⟩ := pbind H
  refine CJ.cut1 (fun F w1 => (some (Sum.inr ()) : Option ((List Int × Int) ⊕ Unit)) = some j148 ∧ F = [(0, .slice Aa0 a0.length ca0), (1, .int .i64 a1)] ∧ St w no w1 [] [roC (ci .i64) Aa0 ca0 a0]) ?_ ?_
  · skip
    refine CJ.block ?_
    refine CJ.loop (fun k F w1 => ∃ (y5 : Int), F = [(0, .slice Aa0 a0.length ca0), (1, .int .i64 a1), (15, .slice A3 (([a1] : List Int) ++ a0).length c4), (16, .int .i64 ((([a1] : List Int) ++ a0).length : Int)), (17, .int .i64 y5)] ∧ St w no w1 [rowC (ci .i64) A3 c4 2 (([a1] : List Int) ++ a0)] [roC (ci .i64) Aa0 ca0 a0] ∧ impl_RestsOf.l1 a0 a1 k y5 = some j148) k (F' := [(0, .slice Aa0 a0.length ca0), (1, .int .i64 a1), (15, .slice A3 (([a1] : List Int) ++ a0).length c4), (16, .int .i64 ((([a1] : List Int) ++ a0).length : Int)), (17, .int .i64 0)]) ⟨rfl, rfl, rfl, rfl, rfl, trivial⟩ ⟨0, rfl, hS.pick [0] [0] rfl, H⟩ ?_
    rintro k F w1 ⟨y5, rfl, hS, H⟩
    cases k with
    | zero => rw [impl_RestsOf.l1] at H; cases H
    | succ k =>
      rw [impl_RestsOf.l1] at H
      refine CJ.seq ?_
      refine CJ.region ?_
      refine OJ.pures tU_ok 1 rfl ?_
      refine OJ.nil (EJ.next ?_)
      refine CJ.seq ?_
      refine CJ.cond rfl (fun hb => ?_) (fun hb => ?_)
      · replace H := pif_t (of_decide_eq_true hb) H
        refine CJ.skip (EJ.next ?_)
        refine CJ.seq ?_
        refine CJ.block ?_
        refine CJ.seq ?_
        refine CJ.region ?_
        obtain ⟨t6, ht6, H⟩ := pbind H
        obtain ⟨ad6, e6⟩ := (hS.rd (i := 0) rfl).some' ht6
        refine OJ.st rfl rfl rfl (SR.idxS tU_ok tI_ok rfl rfl rfl rfl e6 rfl (getI_some ht6).1) ?_
        refine OJ.st rfl rfl rfl (SR.load rfl rfl (fun w' hx => ld1 tU_ok rfl rfl (CA.ext ((hS.rd (i := 0) rfl).at_ e6 ht6) hx) rfl)) ?_
        refine OJ.pures tU_ok 1 rfl ?_
        refine OJ.nil (EJ.next ?_)
        refine CJ.seq ?_
        refine CJ.region ?_
        refine OJ.pures tU_ok 1 rfl ?_
        obtain ⟨t7, ht7, H⟩ := pbind H
        refine OJ.callF rfl rfl rfl rfl rfl hb74 rfl (impl_within.c _ t6 0 5 _ ht7) ?_
        rintro _ w1 ⟨rfl, hs⟩
        replace hS := hS.grow hs
        refine OJ.pures tU_ok 2 rfl ?_
        refine OJ.split (t := 24) rfl (fun hb => ?_) (fun hb => ?_)
        · replace H := pif_t hb H
          refine OJ.pures tU_ok 4 rfl ?_
          refine OJ.nil (EJ.next ?_)
          refine CJ.condT rfl ?_
          refine CJ.seq ?_
          refine CJ.region ?_
          refine OJ.pures tU_ok 2 rfl ?_
          refine OJ.nil (EJ.next ?_)
          refine CJ.ret (EJ.bkR (EJ.skR (EJ.skR (EJ.bkR (EJ.skR (EJ.skR (?_)))))))
          first | (obtain rfl := Option.some.inj H; have H := K148) | (obtain ⟨q148, H2, e148⟩ := pbind H; obtain rfl := Option.some.inj e148; obtain rfl := Option.some.inj K148; have H := H2)
          replace hS := hS.addNil (ci .i64) 2 none
          obtain rfl := Option.some.inj H
          exact EJ.fin rfl (.tmp rfl (.tmp rfl .nil)) ⟨none, 0, rfl, hS.pick [1] [] rfl⟩
        · replace H := pifb_f hb H
          refine OJ.pures tU_ok 4 rfl ?_
          refine OJ.nil (EJ.next ?_)
          refine CJ.cond rfl (fun hb => ?_) (fun hb => ?_)
          · replace H := pif_t (of_decide_eq_true hb) H
            refine CJ.seq ?_
            refine CJ.region ?_
            refine OJ.pures tU_ok 2 rfl ?_
            refine OJ.nil (EJ.next ?_)
            refine CJ.ret (EJ.bkR (EJ.skR (EJ.skR (EJ.bkR (EJ.skR (EJ.skR (?_)))))))
            first | (obtain rfl := Option.some.inj H; have H := K148) | (obtain ⟨q148, H2, e148⟩ := pbind H; obtain rfl := Option.some.inj e148; obtain rfl := Option.some.inj K148; have H := H2)
            replace hS := hS.addNil (ci .i64) 2 none
            obtain rfl := Option.some.inj H
            exact EJ.fin rfl (.tmp rfl (.tmp rfl .nil)) ⟨none, 0, rfl, hS.pick [1] [] rfl⟩
          · replace H := pif_f (of_decide_eq_false hb) H
            refine CJ.skip (EJ.blk (EJ.next ?_))
            refine CJ.region ?_
            refine OJ.pures tU_ok 2 rfl ?_
            refine OJ.nil ?_
            exact EJ.round k (F' := [(0, .slice Aa0 a0.length ca0), (1, .int .i64 a1), (15, .slice A3 (([a1] : List Int) ++ a0).length c4), (16, .int .i64 ((([a1] : List Int) ++ a0).length : Int)), (17, .int .i64 (IntKind.i64.wrap (y5 + 1)))]) ⟨rfl, rfl, rfl, rfl, rfl, trivial⟩ (Nat.lt_succ_self _) ⟨(IntKind.i64.wrap (y5 + 1)), rfl, hS.pick [0] [0] rfl, H⟩
      · replace H := pif_f (of_decide_eq_false hb) H
        refine CJ.exit (EJ.skE (EJ.skE (EJ.hit (?_))))
        exact EJ.meet (F' := [(0, .slice Aa0 a0.length ca0), (1, .int .i64 a1)]) ⟨rfl, rfl, trivial⟩ ⟨H, rfl, hS.pick [] [0] rfl⟩
  · rintro F w1 ⟨he, rfl, hS⟩
    obtain rfl := Option.some.inj he
    have H := K148
    refine EJ.next ?_
    refine CJ.seq ?_
    refine CJ.region ?_
    refine OJ.ef rfl rfl rfl (Ef.lit tU_ok tI_ok hS (C := (ci .i64)) rfl rfl rfl rfl rfl rfl ([] : List Int) rfl rfl rfl rfl) ?_
    rintro _ w1 ⟨A8, rfl, hS⟩
    refine OJ.pures tU_ok 2 rfl ?_
    refine OJ.nil (EJ.next ?_)
    refine CJ.seq ?_
    refine CJ.seq ?_
    refine CJ.region ?_
    refine OJ.pures tU_ok 3 rfl ?_
    refine OJ.nil (EJ.next ?_)
    obtain ⟨j149, H, K149⟩ := pbind H
    refine CJ.cut1 (fun F w1 => ∃ (y9 : List Int) (A10 : Option Addr) (c11 : Nat), (some y9 : Option (List Int)) = some j149 ∧ F = [(8, .slice A10 y9.length c11)] ∧ St w no w1 [rowC (ci .i64) A10 c11 2 y9] [roC (ci .i64) Aa0 ca0 a0]) ?_ ?_
    · skip
      refine CJ.block ?_
      refine CJ.loop (fun k F w1 => ∃ (y12 : List Int) (y15 : Int) (y16 : Int) (A13 : Option Addr) (c14 : Nat), F = [(1, .int .i64 a1), (8, .slice A13 y12.length c14), (9, .int .i64 y15), (31, .slice Aa0 a0.length ca0), (32, .int .i64 (a0.length : Int)), (33, .int .i64 y16)] ∧ St w no w1 [rowC (ci .i64) A13 c14 2 y12] [roC (ci .i64) Aa0 ca0 a0] ∧ impl_RestsOf.l2 a0 a1 k y12 y15 y16 = some j149) k (F' := [(1, .int .i64 a1), (8, .slice A8 ([] : List Int).length (([] : List Int).length)), (9, .int .i64 (-1)), (31, .slice Aa0 a0.length ca0), (32, .int .i64 (a0.length : Int)), (33, .int .i64 0)]) ⟨rfl, rfl, rfl, rfl, rfl, rfl, trivial⟩ ⟨([] : List Int), (-1), 0, A8, (([] : List Int).length), rfl, hS.pick [0] [0] rfl, H⟩ ?_
      rintro k F w1 ⟨y12, y15, y16, A13, c14, rfl, hS, H⟩
      cases k with
      | zero => rw [impl_RestsOf.l2] at H; cases H
      | succ k =>
        rw [impl_RestsOf.l2] at H
        refine CJ.seq ?_
        refine CJ.region ?_
        refine OJ.pures tU_ok 1 rfl ?_
        refine OJ.nil (EJ.next ?_)
        refine CJ.seq ?_
        refine CJ.cond rfl (fun hb => ?_) (fun hb => ?_)
        · replace H := pif_t (of_decide_eq_true hb) H
          refine CJ.skip (EJ.next ?_)
          refine CJ.seq ?_
          refine CJ.block ?_
          refine CJ.seq ?_
          refine CJ.region ?_
          refine OJ.pures tU_ok 1 rfl ?_
          obtain ⟨t17, ht17, H⟩ := pbind H
          obtain ⟨ad17, e17⟩ := (hS.rd' (i := 0) rfl).some' ht17
          refine OJ.st rfl rfl rfl (SR.idxS tU_ok tI_ok rfl rfl rfl rfl e17 rfl (getI_some ht17).1) ?_
          refine OJ.st rfl rfl rfl (SR.load rfl rfl (fun w' hx => ld1 tU_ok rfl rfl (CA.ext ((hS.rd' (i := 0) rfl).at_ e17 ht17) hx) rfl)) ?_
          refine OJ.pures tU_ok 2 rfl ?_
          refine OJ.nil (EJ.next ?_)
          refine CJ.seq ?_
          refine CJ.seq ?_
          refine CJ.region ?_
          refine OJ.pures tU_ok 3 rfl ?_
          refine OJ.nil (EJ.next ?_)
          refine CJ.cond rfl (fun hb => ?_) (fun hb => ?_)
          · replace H := pif_t (of_decide_eq_true hb) H
            refine CJ.exit (EJ.skE (EJ.hit (EJ.next ?_)))
            refine CJ.region ?_
            refine OJ.pures tU_ok 2 rfl ?_
            refine OJ.nil ?_
            exact EJ.round k (F' := [(1, .int .i64 a1), (8, .slice A13 y12.length c14), (9, .int .i64 y15), (31, .slice Aa0 a0.length ca0), (32, .int .i64 (a0.length : Int)), (33, .int .i64 (IntKind.i64.wrap (y16 + 1)))]) ⟨rfl, rfl, rfl, rfl, rfl, rfl, trivial⟩ (Nat.lt_succ_self _) ⟨y12, y15, (IntKind.i64.wrap (y16 + 1)), A13, c14, rfl, hS.pick [0] [0] rfl, H⟩
          · replace H := pif_f (of_decide_eq_false hb) H
            refine CJ.skip (EJ.next ?_)
            refine CJ.seq ?_
            refine CJ.seq ?_
            refine CJ.region ?_
            refine OJ.pures tU_ok 2 rfl ?_
            refine OJ.nil (EJ.next ?_)
            refine CJ.cond rfl (fun hb => ?_) (fun hb => ?_)
            · replace H := pif_t (of_decide_eq_true hb) H
              refine CJ.region ?_
              refine OJ.pures tU_ok 5 rfl ?_
              refine OJ.ef rfl rfl rfl (Ef.lit tU_ok tI_ok hS (C := (ci .i64)) rfl rfl rfl rfl rfl rfl ([IntKind.i64.wrap ((IntKind.i64.wrap (y16 - y15)) - 1)] : List Int) rfl rfl rfl rfl) ?_
              rintro _ w1 ⟨A18, rfl, hS⟩
              obtain ⟨u19, hu19, H⟩ := pbind H
              refine OJ.ew rfl rfl rfl (Ew.append tU_ok tI_ok (C := (ci .i64)) (xs := y12) (ys := ([IntKind.i64.wrap ((IntKind.i64.wrap (y16 - y15)) - 1)] : List Int)) hS (i := 0) rfl rfl rfl rfl rfl rfl rfl rfl rfl rfl rfl rfl rfl (hS.rd (i := 1) rfl) (chk_some hu19)) ?_
              rintro _ w1 ⟨A20, c21, rfl, hS⟩
              refine OJ.pures tU_ok 1 rfl ?_
              refine OJ.nil (EJ.next ?_)
              refine CJ.region ?_
              refine OJ.pures tU_ok 2 rfl ?_
              refine OJ.nil (EJ.blk (EJ.next ?_))
              refine CJ.region ?_
              refine OJ.pures tU_ok 2 rfl ?_
              refine OJ.nil ?_
              exact EJ.round k (F' := [(1, .int .i64 a1), (8, .slice A20 (y12 ++ ([IntKind.i64.wrap ((IntKind.i64.wrap (y16 - y15)) - 1)] : List Int)).length c21), (9, .int .i64 y16), (31, .slice Aa0 a0.length ca0), (32, .int .i64 (a0.length : Int)), (33, .int .i64 (IntKind.i64.wrap (y16 + 1)))]) ⟨rfl, rfl, rfl, rfl, rfl, rfl, trivial⟩ (Nat.lt_succ_self _) ⟨(y12 ++ ([IntKind.i64.wrap ((IntKind.i64.wrap (y16 - y15)) - 1)] : List Int)), y16, (IntKind.i64.wrap (y16 + 1)), A20, c21, rfl, hS.pick [0] [0] rfl, H⟩
            · replace H := pif_f (of_decide_eq_false hb) H
              refine CJ.skip (EJ.next ?_)
              refine CJ.region ?_
              refine OJ.pures tU_ok 2 rfl ?_
              refine OJ.nil (EJ.blk (EJ.next ?_))
              refine CJ.region ?_
              refine OJ.pures tU_ok 2 rfl ?_
              refine OJ.nil ?_
              exact EJ.round k (F' := [(1, .int .i64 a1), (8, .slice A13 y12.length c14), (9, .int .i64 y16), (31, .slice Aa0 a0.length ca0), (32, .int .i64 (a0.length : Int)), (33, .int .i64 (IntKind.i64.wrap (y16 + 1)))]) ⟨rfl, rfl, rfl, rfl, rfl, rfl, trivial⟩ (Nat.lt_succ_self _) ⟨y12, y16, (IntKind.i64.wrap (y16 + 1)), A13, c14, rfl, hS.pick [0] [0] rfl, H⟩
        · replace H := pif_f (of_decide_eq_false hb) H
          refine CJ.exit (EJ.skE (EJ.skE (EJ.hit (?_))))
          exact EJ.meet (F' := [(8, .slice A13 y12.length c14)]) ⟨rfl, trivial⟩ ⟨y12, A13, c14, H, rfl, hS.pick [0] [0] rfl⟩
    · rintro F w1 ⟨y9, A10, c11, he, rfl, hS⟩
      obtain rfl := Option.some.inj he
      have H := K149
      refine EJ.next ?_
      refine CJ.seq ?_
      refine CJ.region ?_
      refine OJ.pures tU_ok 3 rfl ?_
      refine OJ.nil (EJ.next ?_)
      refine CJ.ret (?_)
      obtain rfl := Option.some.inj H
      exact EJ.fin rfl (.tmp rfl (.tmp rfl .nil)) ⟨A10, c11, rfl, hS.pick [0] [] rfl⟩

def spec_RestsOf.l1 (a0 : List Int) : Nat → Bool → Int → Option Bool
  | 0, _, _ => none
  | k + 1, y4, y5 => if y5 < (a0.length : Int) then (if y4 = true then ((getI a0 y5).bind fun t6 => (spec_l00In.f t6 0 5).bind fun t7 => spec_RestsOf.l1 a0 k t7 (IntKind.i64.wrap (y5 + 1))) else (spec_RestsOf.l1 a0 k false (IntKind.i64.wrap (y5 + 1)))) else (some y4)
def spec_RestsOf.l2 (a0 : List Int) (a1 : Int) : Nat → (List Int) → Int → Int → Option (List Int)
  | 0, _, _, _ => none
  | k + 1, y13, y16, y17 => if y17 < (a0.length : Int) then ((getI a0 y17).bind fun t18 => if t18 ≠ a1 then (spec_RestsOf.l2 a0 a1 k y13 y16 (IntKind.i64.wrap (y17 + 1))) else (if 0 ≤ y16 then ((chk (y13.length + ([IntKind.i64.wrap ((IntKind.i64.wrap (y17 - y16)) - 1)] : List Int).length ≤ 4294967296)).bind fun u20 => spec_RestsOf.l2 a0 a1 k (y13 ++ ([IntKind.i64.wrap ((IntKind.i64.wrap (y17 - y16)) - 1)] : List Int)) y17 (IntKind.i64.wrap (y17 + 1))) else (spec_RestsOf.l2 a0 a1 k y13 y17 (IntKind.i64.wrap (y17 + 1))))) else (some y13)
def spec_RestsOf.f (k : Nat) (a0 : List Int) (a1 : Int) : Option (List Int × Int) := (if (a0.length : Int) ≤ 30 then ((spec_l00In.f a1 0 5).bind fun t2 => some t2) else (some false)).bind fun y1 => (spec_RestsOf.l1 a0 k y1 0).bind fun y3 => if (!y3) = true then (some (([] : List Int), 2)) else ((spec_RestsOf.l2 a0 a1 k ([] : List Int) (-1) 0).bind fun y10 => some (y10, 0))
theorem spec_RestsOf.c (k : Nat) (w : World) (Aa0 : Option Addr) (ca0 : Nat) (a0 : List Int) (hr0 : Rd (ci .i64) w Aa0 a0) (hc0 : a0.length ≤ ca0) (a1 : Int) (r : List Int × Int) (H : spec_RestsOf.f k a0 a1 = some r) :
    CV Try.prog 60 [.slice Aa0 a0.length ca0, .int .i64 a1].toArray w fun v w' => ∃ (A0 : Option Addr) (c0 : Nat), v = .tuple #[.slice A0 r.1.length c0, .int .i64 r.2] ∧ St w no w' [rowC (ci .i64) A0 c0 2 r.1] [] := by
  have hS := ((St.init w no).param (ci .i64) Aa0 ca0 a0 hr0 hc0)
  unfold spec_RestsOf.f at H
  refine CV.body Try.func60 rfl Try.ntmps60 rfl ?_
  refine CJ.seq ?_
  refine CJ.region ?_
  refine OJ.pures tU_ok 2 rfl ?_
  refine OJ.nil (EJ.next ?_)
  obtain ⟨j150, H, K150⟩ := pbind H
  refine CJ.cut (fun F w1 => ∃ (y1 : Bool) , (some y1 : Option Bool) = some j150 ∧ F = [(0, .slice Aa0 a0.length ca0), (1, .int .i64 a1), (6, .bool y1)] ∧ St w no w1 [] [roC (ci .i64) Aa0 ca0 a0]) ?_ ?_
  · skip
    refine CJ.region ?_
    refine OJ.pures tU_ok 4 rfl ?_
    refine OJ.split (t := 14) rfl (fun hb => ?_) (fun hb => ?_)
    · replace H := pif_t (of_decide_eq_true hb) H
      refine OJ.pures tU_ok 1 rfl ?_
      obtain ⟨t2, ht2, H⟩ := pbind H
      refine OJ.callF rfl rfl rfl rfl rfl hb68 rfl (spec_l00In.c _ a1 0 5 _ ht2) ?_
      rintro _ w1 ⟨rfl, hs⟩
      replace hS := hS.grow hs
      refine OJ.pures tU_ok 2 rfl ?_
      refine OJ.nil ?_
      exact EJ.meet (F' := [(0, .slice Aa0 a0.length ca0), (1, .int .i64 a1), (6, .bool t2)]) ⟨rfl, rfl, rfl, trivial⟩ ⟨t2, H, rfl, hS.pick [] [0] rfl⟩
    · replace H := pif_f (of_decide_eq_false hb) H
      refine OJ.pures tU_ok 4 rfl ?_
      refine OJ.nil ?_
      exact EJ.meet (F' := [(0, .slice Aa0 a0.length ca0), (1, .int .i64 a1), (6, .bool false)]) ⟨rfl, rfl, rfl, trivial⟩ ⟨false, H, rfl, hS.pick [] [0] rfl⟩
  · rintro F w1 ⟨y1, he, rfl, hS⟩
    obtain rfl := Option.some.inj he
    have H := K150
    refine CJ.seq ?_
    refine CJ.seq ?_
    refine CJ.region ?_
    refine OJ.pures tU_ok 1 rfl ?_
    refine OJ.nil (EJ.next ?_)
    obtain ⟨j151, H, K151⟩ := pbind H
    refine CJ.cut1 (fun F w1 => ∃ (y3 : Bool) , (some y3 : Option Bool) = some j151 ∧ F = [(0, .slice Aa0 a0.length ca0), (1, .int .i64 a1), (6, .bool y3)] ∧ St w no w1 [] [roC (ci .i64) Aa0 ca0 a0]) ?_ ?_
    · skip
      refine CJ.block ?_
      refine CJ.loop (fun k F w1 => ∃ (y4 : Bool) (y5 : Int), F = [(0, .slice Aa0 a0.length ca0), (1, .int .i64 a1), (6, .bool y4), (7, .int .i64 y5)] ∧ St w no w1 [] [roC (ci .i64) Aa0 ca0 a0] ∧ spec_RestsOf.l1 a0 k y4 y5 = some j151) k (F' := [(0, .slice Aa0 a0.length ca0), (1, .int .i64 a1), (6, .bool y1), (7, .int .i64 0)]) ⟨rfl, rfl, rfl, rfl, trivial⟩ ⟨y1, 0, rfl, hS.pick [] [0] rfl, H⟩ ?_
      rintro k F w1 ⟨y4, y5, rfl, hS, H⟩
      cases k with
      | zero => rw [spec_RestsOf.l1] at H; cases H
      | succ k =>
        rw [spec_RestsOf.l1] at H
        refine CJ.seq ?_
        refine CJ.seq ?_
        refine CJ.region ?_
        refine OJ.pures tU_ok 4 rfl ?_
        refine OJ.nil (EJ.next ?_)
        refine CJ.cond rfl (fun hb => ?_) (fun hb => ?_)
        · replace H := pif_t (of_decide_eq_true hb) H
          refine CJ.skip (EJ.next ?_)
          refine CJ.seq ?_
          refine CJ.block ?_
          refine CJ.region ?_
          refine OJ.pures tU_ok 2 rfl ?_
          refine OJ.split (t := 25) rfl (fun hb => ?_) (fun hb => ?_)
          · replace H := pif_t hb H
            refine OJ.pures tU_ok 2 rfl ?_
            obtain ⟨t6, ht6, H⟩ := pbind H
            obtain ⟨ad6, e6⟩ := (hS.rd' (i := 0) rfl).some' ht6
            refine OJ.st rfl rfl rfl (SR.idxS tU_ok tI_ok rfl rfl rfl rfl e6 rfl (getI_some ht6).1) ?_
            refine OJ.st rfl rfl rfl (SR.load rfl rfl (fun w' hx => ld1 tU_ok rfl rfl (CA.ext ((hS.rd' (i := 0) rfl).at_ e6 ht6) hx) rfl)) ?_
            obtain ⟨t7, ht7, H⟩ := pbind H
            refine OJ.callF rfl rfl rfl rfl rfl hb68 rfl (spec_l00In.c _ t6 0 5 _ ht7) ?_
            rintro _ w1 ⟨rfl, hs⟩
            replace hS := hS.grow hs
            refine OJ.pures tU_ok 2 rfl ?_
            refine OJ.nil (EJ.blk (EJ.next ?_))
            refine CJ.region ?_
            refine OJ.pures tU_ok 3 rfl ?_
            refine OJ.nil ?_
            exact EJ.round k (F' := [(0, .slice Aa0 a0.length ca0), (1, .int .i64 a1), (6, .bool t7), (7, .int .i64 (IntKind.i64.wrap (y5 + 1)))]) ⟨rfl, rfl, rfl, rfl, trivial⟩ (Nat.lt_succ_self _) ⟨t7, (IntKind.i64.wrap (y5 + 1)), rfl, hS.pick [] [0] rfl, H⟩
          · replace H := pifb_f hb H
            refine OJ.pures tU_ok 7 rfl ?_
            refine OJ.nil (EJ.blk (EJ.next ?_))
            refine CJ.region ?_
            refine OJ.pures tU_ok 3 rfl ?_
            refine OJ.nil ?_
            exact EJ.round k (F' := [(0, .slice Aa0 a0.length ca0), (1, .int .i64 a1), (6, .bool false), (7, .int .i64 (IntKind.i64.wrap (y5 + 1)))]) ⟨rfl, rfl, rfl, rfl, trivial⟩ (Nat.lt_succ_self _) ⟨false, (IntKind.i64.wrap (y5 + 1)), rfl, hS.pick [] [0] rfl, H⟩
        · replace H := pif_f (of_decide_eq_false hb) H
          refine CJ.exit (EJ.skE (EJ.skE (EJ.hit (?_))))
          exact EJ.meet (F' := [(0, .slice Aa0 a0.length ca0), (1, .int .i64 a1), (6, .bool y4)]) ⟨rfl, rfl, rfl, trivial⟩ ⟨y4, H, rfl, hS.pick [] [0] rfl⟩
    · rintro F w1 ⟨y3, he, rfl, hS⟩
      obtain rfl := Option.some.inj he
      have H := K151
      refine EJ.next ?_
      refine CJ.seq ?_
      refine CJ.seq ?_
      refine CJ.region ?_
      refine OJ.pures tU_ok 2 rfl ?_
      refine OJ.nil (EJ.next ?_)
      refine CJ.cond rfl (fun hb => ?_) (fun hb => ?_)
      · replace H := pif_t hb H
        refine CJ.seq ?_
        refine CJ.region ?_
        refine OJ.ef rfl rfl rfl (Ef.lit tU_ok tI_ok hS (C := (ci .i64)) rfl rfl rfl rfl rfl rfl ([] : List Int) rfl rfl rfl rfl) ?_
        rintro _ w1 ⟨A8, rfl, hS⟩
        refine OJ.pures tU_ok 2 rfl ?_
        refine OJ.nil (EJ.next ?_)
        refine CJ.ret (EJ.skR (?_))
        obtain rfl := Option.some.inj H
        exact EJ.fin rfl (.tmp rfl (.tmp rfl .nil)) ⟨A8, (([] : List Int).length), rfl, hS.pick [0] [] rfl⟩
      · replace H := pifb_f hb H
        refine CJ.skip (EJ.next ?_)
        refine CJ.seq ?_
        refine CJ.region ?_
        refine OJ.ef rfl rfl rfl (Ef.lit tU_ok tI_ok hS (C := (ci .i64)) rfl rfl rfl rfl rfl rfl ([] : List Int) rfl rfl rfl rfl) ?_
        rintro _ w1 ⟨A9, rfl, hS⟩
        refine OJ.pures tU_ok 1 rfl ?_
        refine OJ.nil (EJ.next ?_)
        refine CJ.seq ?_
        refine CJ.region ?_
        refine OJ.pures tU_ok 1 rfl ?_
        refine OJ.nil (EJ.next ?_)
        refine CJ.seq ?_
        refine CJ.seq ?_
        refine CJ.region ?_
        refine OJ.pures tU_ok 1 rfl ?_
        refine OJ.nil (EJ.next ?_)
        obtain ⟨j152, H, K152⟩ := pbind H
        refine CJ.cut1 (fun F w1 => ∃ (y10 : List Int) (A11 : Option Addr) (c12 : Nat), (some y10 : Option (List Int)) = some j152 ∧ F = [(8, .slice A11 y10.length c12)] ∧ St w no w1 [rowC (ci .i64) A11 c12 2 y10] [roC (ci .i64) Aa0 ca0 a0]) ?_ ?_
        · skip
          refine CJ.block ?_
          refine CJ.loop (fun k F w1 => ∃ (y13 : List Int) (y16 : Int) (y17 : Int) (A14 : Option Addr) (c15 : Nat), F = [(0, .slice Aa0 a0.length ca0), (1, .int .i64 a1), (8, .slice A14 y13.length c15), (9, .int .i64 y16), (10, .int .i64 y17)] ∧ St w no w1 [rowC (ci .i64) A14 c15 2 y13] [roC (ci .i64) Aa0 ca0 a0] ∧ spec_RestsOf.l2 a0 a1 k y13 y16 y17 = some j152) k (F' := [(0, .slice Aa0 a0.length ca0), (1, .int .i64 a1), (8, .slice A9 ([] : List Int).length (([] : List Int).length)), (9, .int .i64 (-1)), (10, .int .i64 0)]) ⟨rfl, rfl, rfl, rfl, rfl, trivial⟩ ⟨([] : List Int), (-1), 0, A9, (([] : List Int).length), rfl, hS.pick [0] [0] rfl, H⟩ ?_
          rintro k F w1 ⟨y13, y16, y17, A14, c15, rfl, hS, H⟩
          cases k with
          | zero => rw [spec_RestsOf.l2] at H; cases H
          | succ k =>
            rw [spec_RestsOf.l2] at H
            refine CJ.seq ?_
            refine CJ.seq ?_
            refine CJ.region ?_
            refine OJ.pures tU_ok 4 rfl ?_
            refine OJ.nil (EJ.next ?_)
            refine CJ.cond rfl (fun hb => ?_) (fun hb => ?_)
            · replace H := pif_t (of_decide_eq_true hb) H
              refine CJ.skip (EJ.next ?_)
              refine CJ.seq ?_
              refine CJ.block ?_
              refine CJ.seq ?_
              refine CJ.seq ?_
              refine CJ.region ?_
              refine OJ.pures tU_ok 2 rfl ?_
              obtain ⟨t18, ht18, H⟩ := pbind H
              obtain ⟨ad18, e18⟩ := (hS.rd' (i := 0) rfl).some' ht18
              refine OJ.st rfl rfl rfl (SR.idxS tU_ok tI_ok rfl rfl rfl rfl e18 rfl (getI_some ht18).1) ?_
              refine OJ.st rfl rfl rfl (SR.load rfl rfl (fun w' hx => ld1 tU_ok rfl rfl (CA.ext ((hS.rd' (i := 0) rfl).at_ e18 ht18) hx) rfl)) ?_
              refine OJ.pures tU_ok 2 rfl ?_
              refine OJ.nil (EJ.next ?_)
              refine CJ.cond rfl (fun hb => ?_) (fun hb => ?_)
              · replace H := pif_t (of_decide_eq_true hb) H
                refine CJ.exit (EJ.skE (EJ.hit (EJ.next ?_)))
                refine CJ.region ?_
                refine OJ.pures tU_ok 3 rfl ?_
                refine OJ.nil ?_
                exact EJ.round k (F' := [(0, .slice Aa0 a0.length ca0), (1, .int .i64 a1), (8, .slice A14 y13.length c15), (9, .int .i64 y16), (10, .int .i64 (IntKind.i64.wrap (y17 + 1)))]) ⟨rfl, rfl, rfl, rfl, rfl, trivial⟩ (Nat.lt_succ_self _) ⟨y13, y16, (IntKind.i64.wrap (y17 + 1)), A14, c15, rfl, hS.pick [0] [0] rfl, H⟩
              · replace H := pif_f (of_decide_eq_false hb) H
                refine CJ.skip (EJ.next ?_)
                refine CJ.seq ?_
                refine CJ.seq ?_
                refine CJ.region ?_
                refine OJ.pures tU_ok 2 rfl ?_
                refine OJ.nil (EJ.next ?_)
                refine CJ.cond rfl (fun hb => ?_) (fun hb => ?_)
                · replace H := pif_t (of_decide_eq_true hb) H
                  refine CJ.region ?_
                  refine OJ.pures tU_ok 5 rfl ?_
                  refine OJ.ef rfl rfl rfl (Ef.lit tU_ok tI_ok hS (C := (ci .i64)) rfl rfl rfl rfl rfl rfl ([IntKind.i64.wrap ((IntKind.i64.wrap (y17 - y16)) - 1)] : List Int) rfl rfl rfl rfl) ?_
                  rintro _ w1 ⟨A19, rfl, hS⟩
                  obtain ⟨u20, hu20, H⟩ := pbind H
                  refine OJ.ew rfl rfl rfl (Ew.append tU_ok tI_ok (C := (ci .i64)) (xs := y13) (ys := ([IntKind.i64.wrap ((IntKind.i64.wrap (y17 - y16)) - 1)] : List Int)) hS (i := 0) rfl rfl rfl rfl rfl rfl rfl rfl rfl rfl rfl rfl rfl (hS.rd (i := 1) rfl) (chk_some hu20)) ?_
                  rintro _ w1 ⟨A21, c22, rfl, hS⟩
                  refine OJ.pures tU_ok 1 rfl ?_
                  refine OJ.nil (EJ.next ?_)
                  refine CJ.region ?_
                  refine OJ.pures tU_ok 2 rfl ?_
                  refine OJ.nil (EJ.blk (EJ.next ?_))
                  refine CJ.region ?_
                  refine OJ.pures tU_ok 3 rfl ?_
                  refine OJ.nil ?_
                  exact EJ.round k (F' := [(0, .slice Aa0 a0.length ca0), (1, .int .i64 a1), (8, .slice A21 (y13 ++ ([IntKind.i64.wrap ((IntKind.i64.wrap (y17 - y16)) - 1)] : List Int)).length c22), (9, .int .i64 y17), (10, .int .i64 (IntKind.i64.wrap (y17 + 1)))]) ⟨rfl, rfl, rfl, rfl, rfl, trivial⟩ (Nat.lt_succ_self _) ⟨(y13 ++ ([IntKind.i64.wrap ((IntKind.i64.wrap (y17 - y16)) - 1)] : List Int)), y17, (IntKind.i64.wrap (y17 + 1)), A21, c22, rfl, hS.pick [0] [0] rfl, H⟩
                · replace H := pif_f (of_decide_eq_false hb) H
                  refine CJ.skip (EJ.next ?_)
                  refine CJ.region ?_
                  refine OJ.pures tU_ok 2 rfl ?_
                  refine OJ.nil (EJ.blk (EJ.next ?_))
                  refine CJ.region ?_
                  refine OJ.pures tU_ok 3 rfl ?_
                  refine OJ.nil ?_
                  exact EJ.round k (F' := [(0, .slice Aa0 a0.length ca0), (1, .int .i64 a1), (8, .slice A14 y13.length c15), (9, .int .i64 y17), (10, .int .i64 (IntKind.i64.wrap (y17 + 1)))]) ⟨rfl, rfl, rfl, rfl, rfl, trivial⟩ (Nat.lt_succ_self _) ⟨y13, y17, (IntKind.i64.wrap (y17 + 1)), A14, c15, rfl, hS.pick [0] [0] rfl, H⟩
            · replace H := pif_f (of_decide_eq_false hb) H
              refine CJ.exit (EJ.skE (EJ.skE (EJ.hit (?_))))
              exact EJ.meet (F' := [(8, .slice A14 y13.length c15)]) ⟨rfl, trivial⟩ ⟨y13, A14, c15, H, rfl, hS.pick [0] [0] rfl⟩
        · rintro F w1 ⟨y10, A11, c12, he, rfl, hS⟩
          obtain rfl := Option.some.inj he
          have H := K152
          refine EJ.next ?_
          refine CJ.seq ?_
          refine CJ.region ?_
          refine OJ.pures tU_ok 3 rfl ?_
          refine OJ.nil (EJ.next ?_)
          refine CJ.ret (?_)
          obtain rfl := Option.some.inj H
          exact EJ.fin rfl (.tmp rfl (.tmp rfl .nil)) ⟨A11, c12, rfl, hS.pick [0] [] rfl⟩

def laws_eqHurdle.f (a0 : Hurdle) (a1 : Hurdle) : Option Bool := (laws_eqSpot.f a0.At a1.At).bind fun t3 => if (!t3) = true then (some false) else (if a0.South ≠ a1.South then (some false) else (some true))
theorem laws_eqHurdle.c (w : World) (a0 : Hurdle) (a1 : Hurdle) (r : Bool) (H : laws_eqHurdle.f a0 a1 = some r) :
    CV Try.prog 133 [.agg (cHurdle.enc a0).toArray, .agg (cHurdle.enc a1).toArray].toArray w fun v w' => v = .bool r ∧ Ext w w' := by
  have hS := (St.init w no)
  unfold laws_eqHurdle.f at H
  refine CV.body Try.func133 rfl Try.ntmps133 rfl ?_
  refine CJ.seq ?_
  refine CJ.region ?_
  refine OJ.ef rfl rfl rfl (Ef.box hS rfl rfl (cHurdle.enc a0) rfl) ?_
  rintro _ w1 ⟨b1, rfl, hS⟩
  refine OJ.ef rfl rfl rfl (Ef.box hS rfl rfl (cHurdle.enc a1) rfl) ?_
  rintro _ w1 ⟨b2, rfl, hS⟩
  refine OJ.pures tU_ok 1 rfl ?_
  refine OJ.nil (EJ.next ?_)
  refine CJ.seq ?_
  refine CJ.seq ?_
  refine CJ.region ?_
  refine OJ.st rfl rfl rfl (SR.fieldAddr tU_ok tI_ok rfl rfl rfl rfl rfl rfl) ?_
  refine OJ.st rfl rfl rfl (SR.load rfl rfl (fun w' hx => ldN tU_ok tI_ok rfl rfl rfl (CA.ext (CA.sub (hS.cells (i := 0) rfl) 0) hx) (cSpot.len _) rfl)) ?_
  refine OJ.st rfl rfl rfl (SR.fieldAddr tU_ok tI_ok rfl rfl rfl rfl rfl rfl) ?_
  refine OJ.st rfl rfl rfl (SR.load rfl rfl (fun w' hx => ldN tU_ok tI_ok rfl rfl rfl (CA.ext (CA.sub (hS.cells (i := 1) rfl) 0) hx) (cSpot.len _) rfl)) ?_
  obtain ⟨t3, ht3, H⟩ := pbind H
  refine OJ.callF rfl rfl rfl rfl rfl hb108 rfl (laws_eqSpot.c _ a0.At a1.At _ ht3) ?_
  rintro _ w1 ⟨rfl, hs⟩
  replace hS := hS.grow hs
  refine OJ.pures tU_ok 1 rfl ?_
  refine OJ.nil (EJ.next ?_)
  refine CJ.cond rfl (fun hb => ?_) (fun hb => ?_)
  · replace H := pif_t hb H
    refine CJ.seq ?_
    refine CJ.region ?_
    refine OJ.pures tU_ok 1 rfl ?_
    refine OJ.nil (EJ.next ?_)
    refine CJ.ret (EJ.skR (?_))
    obtain rfl := Option.some.inj H
    exact EJ.fin rfl (.tmp rfl .nil) ⟨rfl, hS.ext⟩
  · replace H := pifb_f hb H
    refine CJ.skip (EJ.next ?_)
    refine CJ.seq ?_
    refine CJ.seq ?_
    refine CJ.region ?_
    refine OJ.st rfl rfl rfl (SR.fieldAddr tU_ok tI_ok rfl rfl rfl rfl rfl rfl) ?_
    refine OJ.st rfl rfl rfl (SR.load rfl rfl (fun w' hx => ld1 tU_ok rfl rfl (CA.ext (CA.sub (hS.cells (i := 0) rfl) 2) hx) rfl)) ?_
    refine OJ.st rfl rfl rfl (SR.fieldAddr tU_ok tI_ok rfl rfl rfl rfl rfl rfl) ?_
    refine OJ.st rfl rfl rfl (SR.load rfl rfl (fun w' hx => ld1 tU_ok rfl rfl (CA.ext (CA.sub (hS.cells (i := 1) rfl) 2) hx) rfl)) ?_
    refine OJ.st rfl rfl rfl (SR.neB tU_ok rfl rfl rfl rfl) ?_
    refine OJ.nil (EJ.next ?_)
    refine CJ.cond rfl (fun hb => ?_) (fun hb => ?_)
    · replace H := pif_t (of_decide_eq_true hb) H
      refine CJ.seq ?_
      refine CJ.region ?_
      refine OJ.pures tU_ok 1 rfl ?_
      refine OJ.nil (EJ.next ?_)
      refine CJ.ret (EJ.skR (?_))
      obtain rfl := Option.some.inj H
      exact EJ.fin rfl (.tmp rfl .nil) ⟨rfl, hS.ext⟩
    · replace H := pif_f (of_decide_eq_false hb) H
      refine CJ.skip (EJ.next ?_)
      refine CJ.seq ?_
      refine CJ.region ?_
      refine OJ.pures tU_ok 1 rfl ?_
      refine OJ.nil (EJ.next ?_)
      refine CJ.ret (?_)
      obtain rfl := Option.some.inj H
      exact EJ.fin rfl (.tmp rfl .nil) ⟨rfl, hS.ext⟩

def laws_eqHurdleS.l1 (a0 : List Hurdle) (a1 : List Hurdle) : Nat → Int → Option (Bool ⊕ Unit)
  | 0, _ => none
  | k + 1, y1 => if y1 < (a0.length : Int) then ((getI a0 y1).bind fun t2 => (getI a1 y1).bind fun t3 => (laws_eqHurdle.f t2 t3).bind fun t4 => if (!t4) = true then (some (Sum.inl false)) else (laws_eqHurdleS.l1 a0 a1 k (IntKind.i64.wrap (y1 + 1)))) else (some (Sum.inr ()))
def laws_eqHurdleS.f (k : Nat) (a0 : List Hurdle) (a1 : List Hurdle) : Option Bool := if (a0.length : Int) ≠ (a1.length : Int) then (some false) else ((laws_eqHurdleS.l1 a0 a1 k 0).bind fun s153 => match s153 with | .inl r => some r | .inr _ => some true)
theorem laws_eqHurdleS.c (k : Nat) (w : World) (Aa0 : Option Addr) (ca0 : Nat) (a0 : List Hurdle) (hr0 : Rd cHurdle w Aa0 a0) (hc0 : a0.length ≤ ca0) (Aa1 : Option Addr) (ca1 : Nat) (a1 : List Hurdle) (hr1 : Rd cHurdle w Aa1 a1) (hc1 : a1.length ≤ ca1) (r : Bool) (H : laws_eqHurdleS.f k a0 a1 = some r) :
    CV Try.prog 63 [.slice Aa0 a0.length ca0, .slice Aa1 a1.length ca1].toArray w fun v w' => v = .bool r ∧ Ext w w' := by
  have hS := (((St.init w no).param cHurdle Aa0 ca0 a0 hr0 hc0).param cHurdle Aa1 ca1 a1 hr1 hc1)
  unfold laws_eqHurdleS.f at H
  refine CV.body Try.func63 rfl Try.ntmps63 rfl ?_
  refine CJ.seq ?_
  refine CJ.region ?_
  refine OJ.pures tU_ok 1 rfl ?_
  refine OJ.nil (EJ.next ?_)
  refine CJ.seq ?_
  refine CJ.seq ?_
  refine CJ.region ?_
  refine OJ.pures tU_ok 5 rfl ?_
  refine OJ.nil (EJ.next ?_)
  refine CJ.cond rfl (fun hb => ?_) (fun hb => ?_)
  · replace H := pif_t (of_decide_eq_true hb) H
    refine CJ.seq ?_
    refine CJ.region ?_
    refine OJ.pures tU_ok 1 rfl ?_
    refine OJ.nil (EJ.next ?_)
    refine CJ.ret (EJ.skR (?_))
    obtain rfl := Option.some.inj H
    exact EJ.fin rfl (.tmp rfl .nil) ⟨rfl, hS.ext⟩
  · replace H := pif_f (of_decide_eq_false hb) H
    refine CJ.skip (EJ.next ?_)
    refine CJ.seq ?_
    refine CJ.seq ?_
    refine CJ.region ?_
    refine OJ.pures tU_ok 1 rfl ?_
    refine OJ.nil (EJ.next ?_)
    obtain ⟨j153, H, K153⟩ := pbind H
    refine CJ.cut1 (fun F w1 => (some (Sum.inr ()) : Option (Bool ⊕ Unit)) = some j153 ∧ F = [] ∧ St w no w1 [] [roC cHurdle Aa0 ca0 a0, roC cHurdle Aa1 ca1 a1]) ?_ ?_
    · skip
      refine CJ.block ?_
      refine CJ.loop (fun k F w1 => ∃ (y1 : Int), F = [(0, .slice Aa0 a0.length ca0), (1, .slice Aa1 a1.length ca1), (5, .int .i64 y1)] ∧ St w no w1 [] [roC cHurdle Aa0 ca0 a0, roC cHurdle Aa1 ca1 a1] ∧ laws_eqHurdleS.l1 a0 a1 k y1 = some j153) k (F' := [(0, .slice Aa0 a0.length ca0), (1, .slice Aa1 a1.length ca1), (5, .int .i64 0)]) ⟨rfl, rfl, rfl, trivial⟩ ⟨0, rfl, hS.pick [] [0, 1] rfl, H⟩ ?_
      rintro k F w1 ⟨y1, rfl, hS, H⟩
      cases k with
      | zero => rw [laws_eqHurdleS.l1] at H; cases H
      | succ k =>
        rw [laws_eqHurdleS.l1] at H
        refine CJ.seq ?_
        refine CJ.seq ?_
        refine CJ.region ?_
        refine OJ.pures tU_ok 4 rfl ?_
        refine OJ.nil (EJ.next ?_)
        refine CJ.cond rfl (fun hb => ?_) (fun hb => ?_)
        · replace H := pif_t (of_decide_eq_true hb) H
          refine CJ.skip (EJ.next ?_)
          refine CJ.seq ?_
          refine CJ.block ?_
          refine CJ.seq ?_
          refine CJ.draw [] [0, 1, 2, 3, 4, 5, 6, 7, 8, 9] mixed (by kernel_rfl) hS fun w1 hS => ?_
          refine DJ.pures tU_ok 2 rfl ?_
          obtain ⟨t2, ht2, H⟩ := pbind H
          obtain ⟨ad2, e2⟩ := (hS.rd' (i := 0) rfl).some' ht2
          refine DJ.st rfl rfl rfl rfl rfl (SR.idxS tU_ok tI_ok rfl rfl rfl rfl e2 rfl (getI_some ht2).1) ?_
          refine DJ.st rfl rfl rfl rfl rfl (SR.load rfl rfl (fun w' hx => ldE tU_ok tI_ok rfl rfl rfl (CA.ext ((hS.rd' (i := 0) rfl).at_ e2 ht2) hx) rfl)) ?_
          refine DJ.pures tU_ok 2 rfl ?_
          obtain ⟨t3, ht3, H⟩ := pbind H
          obtain ⟨ad3, e3⟩ := (hS.rd' (i := 1) rfl).some' ht3
          refine DJ.st rfl rfl rfl rfl rfl (SR.idxS tU_ok tI_ok rfl rfl rfl rfl e3 rfl (getI_some ht3).1) ?_
          refine DJ.st rfl rfl rfl rfl rfl (SR.load rfl rfl (fun w' hx => ldE tU_ok tI_ok rfl rfl rfl (CA.ext ((hS.rd' (i := 1) rfl).at_ e3 ht3) hx) rfl)) ?_
          obtain ⟨t4, ht4, H⟩ := pbind H
          refine DJ.callF rfl rfl rfl rfl rfl rfl rfl hb133 rfl (laws_eqHurdle.c _ t2 t3 _ ht4) (by rintro v w' ⟨rfl, hs⟩; exact hs) ?_
          rintro _ w1 ⟨rfl, hs⟩
          replace hS := hS.grow hs
          refine DJ.pures tU_ok 1 rfl ?_
          refine DJ.nil (EJ.next ?_)
          refine CJ.cond rfl (fun hb => ?_) (fun hb => ?_)
          · replace H := pif_t hb H
            refine CJ.seq ?_
            refine CJ.region ?_
            refine OJ.pures tU_ok 1 rfl ?_
            refine OJ.nil (EJ.next ?_)
            refine CJ.ret (EJ.bkR (EJ.skR (EJ.skR (EJ.bkR (EJ.skR (EJ.skR (?_)))))))
            first | (obtain rfl := Option.some.inj H; have H := K153) | (obtain ⟨q153, H2, e153⟩ := pbind H; obtain rfl := Option.some.inj e153; obtain rfl := Option.some.inj K153; have H := H2)
            obtain rfl := Option.some.inj H
            exact EJ.fin rfl (.tmp rfl .nil) ⟨rfl, hS.ext⟩
          · replace H := pifb_f hb H
            refine CJ.skip (EJ.blk (EJ.next ?_))
            refine CJ.region ?_
            refine OJ.pures tU_ok 3 rfl ?_
            refine OJ.nil ?_
            exact EJ.round k (F' := [(0, .slice Aa0 a0.length ca0), (1, .slice Aa1 a1.length ca1), (5, .int .i64 (IntKind.i64.wrap (y1 + 1)))]) ⟨rfl, rfl, rfl, trivial⟩ (Nat.lt_succ_self _) ⟨(IntKind.i64.wrap (y1 + 1)), rfl, hS.pick [] [0, 1] rfl, H⟩
        · replace H := pif_f (of_decide_eq_false hb) H
          refine CJ.exit (EJ.skE (EJ.skE (EJ.hit (?_))))
          exact EJ.meet (F' := []) trivial ⟨H, rfl, hS.pick [] [0, 1] rfl⟩
    · rintro F w1 ⟨he, rfl, hS⟩
      obtain rfl := Option.some.inj he
      have H := K153
      refine EJ.next ?_
      refine CJ.seq ?_
      refine CJ.region ?_
      refine OJ.pures tU_ok 1 rfl ?_
      refine OJ.nil (EJ.next ?_)
      refine CJ.ret (?_)
      obtain rfl := Option.some.inj H
      exact EJ.fin rfl (.tmp rfl .nil) ⟨rfl, hS.ext⟩

def laws_markSightS.l1 (a0 : List Sight) : Nat → (List Sight) → Int → Int → Option ((List Sight) × Int)
  | 0, _, _, _ => none
  | k + 1, y3, y4, y5 => if y5 < (a0.length : Int) then ((getI y3 y5).bind fun t6 => (getI (y3.set y5.toNat (⟨IntKind.i16.wrap y4, t6.At⟩ : Sight)) y5).bind fun t7 => (getI ((y3.set y5.toNat (⟨IntKind.i16.wrap y4, t6.At⟩ : Sight)).set y5.toNat (⟨t7.Day, (⟨IntKind.i8.wrap (IntKind.i64.wrap (y4 + 1)), t7.At.Y⟩ : Spot)⟩ : Sight)) y5).bind fun t8 => laws_markSightS.l1 a0 k (((y3.set y5.toNat (⟨IntKind.i16.wrap y4, t6.At⟩ : Sight)).set y5.toNat (⟨t7.Day, (⟨IntKind.i8.wrap (IntKind.i64.wrap (y4 + 1)), t7.At.Y⟩ : Spot)⟩ : Sight)).set y5.toNat (⟨t8.Day, (⟨t8.At.X, IntKind.i8.wrap (IntKind.i64.wrap ((IntKind.i64.wrap (y4 + 1)) + 1))⟩ : Spot)⟩ : Sight)) (IntKind.i64.wrap ((IntKind.i64.wrap ((IntKind.i64.wrap (y4 + 1)) + 1)) + 1)) (IntKind.i64.wrap (y5 + 1))) else (some (y3, y4))
def laws_markSightS.f (k : Nat) (a0 : List Sight) (a1 : Int) : Option (Int × List Sight) := (laws_markSightS.l1 a0 k a0 a1 0).bind fun (y1, y2) => some (y2, y1)
theorem laws_markSightS.c (k : Nat) (w : World) (Aa0 : Option Addr) (ca0 : Nat) (a0 : List Sight) (a1 : Int) (hin : St w (fpU [rowC cSight Aa0 ca0 109 a0]) w [rowC cSight Aa0 ca0 109 a0] []) (r : Int × List Sight) (H : laws_markSightS.f k a0 a1 = some r) :
    CV Try.prog 64 [.slice Aa0 a0.length ca0, .int .i64 a1].toArray w fun v w' => v = .int .i64 r.1 ∧ St w (fpU [rowC cSight Aa0 ca0 109 a0]) w' [rowC cSight Aa0 ca0 109 r.2] [] ∧ r.2.length = a0.length := by
  have hS := hin
  unfold laws_markSightS.f at H
  refine CV.body Try.func64 rfl Try.ntmps64 rfl ?_
  have hl0 : a0.length = a0.length := rfl
  refine CJ.seq ?_
  refine CJ.region ?_
  refine OJ.pures tU_ok 1 rfl ?_
  refine OJ.nil (EJ.next ?_)
  refine CJ.seq ?_
  refine CJ.seq ?_
  refine CJ.region ?_
  refine OJ.pures tU_ok 1 rfl ?_
  refine OJ.nil (EJ.next ?_)
  obtain ⟨j155, H, K155⟩ := pbind H
  refine CJ.cut1 (fun F w1 => ∃ (y1 : List Sight) (y2 : Int) , (some (y1, y2) : Option ((List Sight) × Int)) = some j155 ∧ F = [(1, .int .i64 y2)] ∧ St w (fpU [rowC cSight Aa0 ca0 109 a0]) w1 [rowC cSight Aa0 ca0 109 y1] [] ∧ y1.length = a0.length) ?_ ?_
  · skip
    refine CJ.block ?_
    refine CJ.loop (fun k F w1 => ∃ (y3 : List Sight) (y4 : Int) (y5 : Int), F = [(0, .slice Aa0 a0.length ca0), (1, .int .i64 y4), (5, .int .i64 y5)] ∧ St w (fpU [rowC cSight Aa0 ca0 109 a0]) w1 [rowC cSight Aa0 ca0 109 y3] [] ∧ y3.length = a0.length ∧ laws_markSightS.l1 a0 k y3 y4 y5 = some j155) k (F' := [(0, .slice Aa0 a0.length ca0), (1, .int .i64 a1), (5, .int .i64 0)]) ⟨rfl, rfl, rfl, trivial⟩ ⟨a0, a1, 0, rfl, hS.pick [0] [] rfl, (by first | exact hl0 | (simp only [List.length_set]; exact hl0)), H⟩ ?_
    rintro k F w1 ⟨y3, y4, y5, rfl, hS, hl0, H⟩
    cases k with
    | zero => rw [laws_markSightS.l1] at H; cases H
    | succ k =>
      rw [laws_markSightS.l1] at H
      refine CJ.seq ?_
      refine CJ.seq ?_
      refine CJ.region ?_
      refine OJ.pures tU_ok 4 rfl ?_
      refine OJ.nil (EJ.next ?_)
      refine CJ.cond rfl (fun hb => ?_) (fun hb => ?_)
      · replace H := pif_t (of_decide_eq_true hb) H
        refine CJ.skip (EJ.next ?_)
        refine CJ.seq ?_
        refine CJ.block ?_
        refine CJ.seq ?_
        refine CJ.region ?_
        refine OJ.pures tU_ok 4 rfl ?_
        obtain ⟨t6, ht6, H⟩ := pbind H
        obtain ⟨ad6, e6⟩ := (hS.rd (i := 0) rfl).some' ht6
        refine OJ.st rfl rfl rfl (SR.idxS tU_ok tI_ok rfl rfl rfl rfl e6 rfl (by have hg := (getI_some ht6).1; (first | rw [hl0] at hg | (simp only [List.length_set] at hg; rw [hl0] at hg)); exact hg)) ?_
        refine OJ.st rfl rfl rfl (SR.fieldAddr tU_ok tI_ok rfl rfl rfl rfl rfl rfl) ?_
        refine OJ.es rfl rfl (Es.storeR tI_ok hS (i := 0) (off := 0) rfl rfl ht6 e6 rfl (add_add _ _ _) rfl rfl (vs := (ci .i16).enc (IntKind.i16.wrap y4)) rfl rfl (one1 rfl) (Nat.le_of_ble_eq_true rfl) (⟨IntKind.i16.wrap y4, t6.At⟩ : Sight) rfl) ?_
        intro w1 hS
        refine OJ.nil (EJ.next ?_)
        refine CJ.seq ?_
        refine CJ.region ?_
        refine OJ.pures tU_ok 3 rfl ?_
        refine OJ.nil (EJ.next ?_)
        refine CJ.seq ?_
        refine CJ.region ?_
        refine OJ.pures tU_ok 4 rfl ?_
        obtain ⟨t7, ht7, H⟩ := pbind H
        obtain ⟨ad7, e7⟩ := (hS.rd (i := 0) rfl).some' ht7
        refine OJ.st rfl rfl rfl (SR.idxS tU_ok tI_ok rfl rfl rfl rfl e7 rfl (by have hg := (getI_some ht7).1; (first | rw [hl0] at hg | (simp only [List.length_set] at hg; rw [hl0] at hg)); exact hg)) ?_
        refine OJ.st rfl rfl rfl (SR.fieldAddr tU_ok tI_ok rfl rfl rfl rfl rfl rfl) ?_
        refine OJ.st rfl rfl rfl (SR.fieldAddr tU_ok tI_ok rfl rfl rfl rfl rfl rfl) ?_
        refine OJ.es rfl rfl (Es.storeR tI_ok hS (i := 0) (off := 1) rfl rfl ht7 e7 rfl (by simp only [add_add, Nat.add_assoc]; rfl) rfl rfl (vs := (ci .i8).enc (IntKind.i8.wrap (IntKind.i64.wrap (y4 + 1)))) rfl rfl (one1 rfl) (Nat.le_of_ble_eq_true rfl) (⟨t7.Day, (⟨IntKind.i8.wrap (IntKind.i64.wrap (y4 + 1)), t7.At.Y⟩ : Spot)⟩ : Sight) rfl) ?_
        intro w1 hS
        refine OJ.nil (EJ.next ?_)
        refine CJ.seq ?_
        refine CJ.region ?_
        refine OJ.pures tU_ok 3 rfl ?_
        refine OJ.nil (EJ.next ?_)
        refine CJ.seq ?_
        refine CJ.region ?_
        refine OJ.pures tU_ok 4 rfl ?_
        obtain ⟨t8, ht8, H⟩ := pbind H
        obtain ⟨ad8, e8⟩ := (hS.rd (i := 0) rfl).some' ht8
        refine OJ.st rfl rfl rfl (SR.idxS tU_ok tI_ok rfl rfl rfl rfl e8 rfl (by have hg := (getI_some ht8).1; (first | rw [hl0] at hg | (simp only [List.length_set] at hg; rw [hl0] at hg)); exact hg)) ?_
        refine OJ.st rfl rfl rfl (SR.fieldAddr tU_ok tI_ok rfl rfl rfl rfl rfl rfl) ?_
        refine OJ.st rfl rfl rfl (SR.fieldAddr tU_ok tI_ok rfl rfl rfl rfl rfl rfl) ?_
        refine OJ.es rfl rfl (Es.storeR tI_ok hS (i := 0) (off := 2) rfl rfl ht8 e8 rfl (by simp only [add_add, Nat.add_assoc]; rfl) rfl rfl (vs := (ci .i8).enc (IntKind.i8.wrap (IntKind.i64.wrap ((IntKind.i64.wrap (y4 + 1)) + 1)))) rfl rfl (one1 rfl) (Nat.le_of_ble_eq_true rfl) (⟨t8.Day, (⟨t8.At.X, IntKind.i8.wrap (IntKind.i64.wrap ((IntKind.i64.wrap (y4 + 1)) + 1))⟩ : Spot)⟩ : Sight) rfl) ?_
        intro w1 hS
        refine OJ.nil (EJ.next ?_)
        refine CJ.region ?_
        refine OJ.pures tU_ok 3 rfl ?_
        refine OJ.nil (EJ.blk (EJ.next ?_))
        refine CJ.region ?_
        refine OJ.pures tU_ok 3 rfl ?_
        refine OJ.nil ?_
        exact EJ.round k (F' := [(0, .slice Aa0 a0.length ca0), (1, .int .i64 (IntKind.i64.wrap ((IntKind.i64.wrap ((IntKind.i64.wrap (y4 + 1)) + 1)) + 1))), (5, .int .i64 (IntKind.i64.wrap (y5 + 1)))]) ⟨rfl, rfl, rfl, trivial⟩ (Nat.lt_succ_self _) ⟨(((y3.set y5.toNat (⟨IntKind.i16.wrap y4, t6.At⟩ : Sight)).set y5.toNat (⟨t7.Day, (⟨IntKind.i8.wrap (IntKind.i64.wrap (y4 + 1)), t7.At.Y⟩ : Spot)⟩ : Sight)).set y5.toNat (⟨t8.Day, (⟨t8.At.X, IntKind.i8.wrap (IntKind.i64.wrap ((IntKind.i64.wrap (y4 + 1)) + 1))⟩ : Spot)⟩ : Sight)), (IntKind.i64.wrap ((IntKind.i64.wrap ((IntKind.i64.wrap (y4 + 1)) + 1)) + 1)), (IntKind.i64.wrap (y5 + 1)), rfl, hS.pick [0] [] rfl, (by first | exact hl0 | (simp only [List.length_set]; exact hl0)), H⟩
      · replace H := pif_f (of_decide_eq_false hb) H
        refine CJ.exit (EJ.skE (EJ.skE (EJ.hit (?_))))
        exact EJ.meet (F' := [(1, .int .i64 y4)]) ⟨rfl, trivial⟩ ⟨y3, y4, H, rfl, hS.pick [0] [] rfl, (by first | exact hl0 | (simp only [List.length_set]; exact hl0))⟩
  · rintro F w1 ⟨y1, y2, he, rfl, hS, hl0⟩
    obtain rfl := Option.some.inj he
    have H := K155
    refine EJ.next ?_
    refine CJ.seq ?_
    refine CJ.region ?_
    refine OJ.pures tU_ok 2 rfl ?_
    refine OJ.nil (EJ.next ?_)
    refine CJ.ret (?_)
    obtain rfl := Option.some.inj H
    exact EJ.fin rfl (.tmp rfl .nil) ⟨rfl, hS.pick [0] [] rfl, (by first | exact hl0 | (simp only [List.length_set]; exact hl0))⟩

def laws_markHurdleS.l1 (a0 : List Hurdle) : Nat → (List Hurdle) → Int → Int → Option ((List Hurdle) × Int)
  | 0, _, _, _ => none
  | k + 1, y3, y4, y5 => if y5 < (a0.length : Int) then ((getI y3 y5).bind fun t6 => (getI (y3.set y5.toNat (⟨(⟨IntKind.i8.wrap y4, t6.At.Y⟩ : Spot), t6.South⟩ : Hurdle)) y5).bind fun t7 => (getI ((y3.set y5.toNat (⟨(⟨IntKind.i8.wrap y4, t6.At.Y⟩ : Spot), t6.South⟩ : Hurdle)).set y5.toNat (⟨(⟨t7.At.X, IntKind.i8.wrap (IntKind.i64.wrap (y4 + 1))⟩ : Spot), t7.South⟩ : Hurdle)) y5).bind fun t8 => laws_markHurdleS.l1 a0 k (((y3.set y5.toNat (⟨(⟨IntKind.i8.wrap y4, t6.At.Y⟩ : Spot), t6.South⟩ : Hurdle)).set y5.toNat (⟨(⟨t7.At.X, IntKind.i8.wrap (IntKind.i64.wrap (y4 + 1))⟩ : Spot), t7.South⟩ : Hurdle)).set y5.toNat (⟨t8.At, decide ((Int.tmod (IntKind.i64.wrap ((IntKind.i64.wrap (y4 + 1)) + 1)) 3) = 0)⟩ : Hurdle)) (IntKind.i64.wrap ((IntKind.i64.wrap ((IntKind.i64.wrap (y4 + 1)) + 1)) + 1)) (IntKind.i64.wrap (y5 + 1))) else (some (y3, y4))
def laws_markHurdleS.f (k : Nat) (a0 : List Hurdle) (a1 : Int) : Option (Int × List Hurdle) := (laws_markHurdleS.l1 a0 k a0 a1 0).bind fun (y1, y2) => some (y2, y1)
theorem laws_markHurdleS.c (k : Nat) (w : World) (Aa0 : Option Addr) (ca0 : Nat) (a0 : List Hurdle) (a1 : Int) (hin : St w (fpU [rowC cHurdle Aa0 ca0 161 a0]) w [rowC cHurdle Aa0 ca0 161 a0] []) (r : Int × List Hurdle) (H : laws_markHurdleS.f k a0 a1 = some r) :
    CV Try.prog 65 [.slice Aa0 a0.length ca0, .int .i64 a1].toArray w fun v w' => v = .int .i64 r.1 ∧ St w (fpU [rowC cHurdle Aa0 ca0 161 a0]) w' [rowC cHurdle Aa0 ca0 161 r.2] [] ∧ r.2.length = a0.length := by
  have hS := hin
  unfold laws_markHurdleS.f at H
  refine CV.body Try.func65 rfl Try.ntmps65 rfl ?_
  have hl0 : a0.length = a0.length := rfl
  refine CJ.seq ?_
  refine CJ.region ?_
  refine OJ.pures tU_ok 1 rfl ?_
  refine OJ.nil (EJ.next ?_)
  refine CJ.seq ?_
  refine CJ.seq ?_
  refine CJ.region ?_
  refine OJ.pures tU_ok 1 rfl ?_
  refine OJ.nil (EJ.next ?_)
  obtain ⟨j157, H, K157⟩ := pbind H
  refine CJ.cut1 (fun F w1 => ∃ (y1 : List Hurdle) (y2 : Int) , (some (y1, y2) : Option ((List Hurdle) × Int)) = some j157 ∧ F = [(1, .int .i64 y2)] ∧ St w (fpU [rowC cHurdle Aa0 ca0 161 a0]) w1 [rowC cHurdle Aa0 ca0 161 y1] [] ∧ y1.length = a0.length) ?_ ?_
  · skip
    refine CJ.block ?_
    refine CJ.loop (fun k F w1 => ∃ (y3 : List Hurdle) (y4 : Int) (y5 : Int), F = [(0, .slice Aa0 a0.length ca0), (1, .int .i64 y4), (5, .int .i64 y5)] ∧ St w (fpU [rowC cHurdle Aa0 ca0 161 a0]) w1 [rowC cHurdle Aa0 ca0 161 y3] [] ∧ y3.length = a0.length ∧ laws_markHurdleS.l1 a0 k y3 y4 y5 = some j157) k (F' := [(0, .slice Aa0 a0.length ca0), (1, .int .i64 a1), (5, .int .i64 0)]) ⟨rfl, rfl, rfl, trivial⟩ ⟨a0, a1, 0, rfl, hS.pick [0] [] rfl, (by first | exact hl0 | (simp only [List.length_set]; exact hl0)), H⟩ ?_
    rintro k F w1 ⟨y3, y4, y5, rfl, hS, hl0, H⟩
    cases k with
    | zero => rw [laws_markHurdleS.l1] at H; cases H
    | succ k =>
      rw [laws_markHurdleS.l1] at H
      refine CJ.seq ?_
      refine CJ.seq ?_
      refine CJ.region ?_
      refine OJ.pures tU_ok 4 rfl ?_
      refine OJ.nil (EJ.next ?_)
      refine CJ.cond rfl (fun hb => ?_) (fun hb => ?_)
      · replace H := pif_t (of_decide_eq_true hb) H
        refine CJ.skip (EJ.next ?_)
        refine CJ.seq ?_
        refine CJ.block ?_
        refine CJ.seq ?_
        refine CJ.region ?_
        refine OJ.pures tU_ok 4 rfl ?_
        obtain ⟨t6, ht6, H⟩ := pbind H
        obtain ⟨ad6, e6⟩ := (hS.rd (i := 0) rfl).some' ht6
        refine OJ.st rfl rfl rfl (SR.idxS tU_ok tI_ok rfl rfl rfl rfl e6 rfl (by have hg := (getI_some ht6).1; (first | rw [hl0] at hg | (simp only [List.length_set] at hg; rw [hl0] at hg)); exact hg)) ?_
        refine OJ.st rfl rfl rfl (SR.fieldAddr tU_ok tI_ok rfl rfl rfl rfl rfl rfl) ?_
        refine OJ.st rfl rfl rfl (SR.fieldAddr tU_ok tI_ok rfl rfl rfl rfl rfl rfl) ?_
        refine OJ.es rfl rfl (Es.storeR tI_ok hS (i := 0) (off := 0) rfl rfl ht6 e6 rfl (by simp only [add_add, Nat.add_assoc]; rfl) rfl rfl (vs := (ci .i8).enc (IntKind.i8.wrap y4)) rfl rfl (one1 rfl) (Nat.le_of_ble_eq_true rfl) (⟨(⟨IntKind.i8.wrap y4, t6.At.Y⟩ : Spot), t6.South⟩ : Hurdle) rfl) ?_
        intro w1 hS
        refine OJ.nil (EJ.next ?_)
        refine CJ.seq ?_
        refine CJ.region ?_
        refine OJ.pures tU_ok 3 rfl ?_
        refine OJ.nil (EJ.next ?_)
        refine CJ.seq ?_
        refine CJ.region ?_
        refine OJ.pures tU_ok 4 rfl ?_
        obtain ⟨t7, ht7, H⟩ := pbind H
        obtain ⟨ad7, e7⟩ := (hS.rd (i := 0) rfl).some' ht7
        refine OJ.st rfl rfl rfl (SR.idxS tU_ok tI_ok rfl rfl rfl rfl e7 rfl (by have hg := (getI_some ht7).1; (first | rw [hl0] at hg | (simp only [List.length_set] at hg; rw [hl0] at hg)); exact hg)) ?_
        refine OJ.st rfl rfl rfl (SR.fieldAddr tU_ok tI_ok rfl rfl rfl rfl rfl rfl) ?_
        refine OJ.st rfl rfl rfl (SR.fieldAddr tU_ok tI_ok rfl rfl rfl rfl rfl rfl) ?_
        refine OJ.es rfl rfl (Es.storeR tI_ok hS (i := 0) (off := 1) rfl rfl ht7 e7 rfl (by simp only [add_add, Nat.add_assoc]; rfl) rfl rfl (vs := (ci .i8).enc (IntKind.i8.wrap (IntKind.i64.wrap (y4 + 1)))) rfl rfl (one1 rfl) (Nat.le_of_ble_eq_true rfl) (⟨(⟨t7.At.X, IntKind.i8.wrap (IntKind.i64.wrap (y4 + 1))⟩ : Spot), t7.South⟩ : Hurdle) rfl) ?_
        intro w1 hS
        refine OJ.nil (EJ.next ?_)
        refine CJ.seq ?_
        refine CJ.region ?_
        refine OJ.pures tU_ok 3 rfl ?_
        refine OJ.nil (EJ.next ?_)
        refine CJ.seq ?_
        refine CJ.region ?_
        refine OJ.pures tU_ok 3 rfl ?_
        refine OJ.st rfl rfl rfl (SR.rem rfl rfl rfl (by decide)) ?_
        refine OJ.pures tU_ok 1 rfl ?_
        obtain ⟨t8, ht8, H⟩ := pbind H
        obtain ⟨ad8, e8⟩ := (hS.rd (i := 0) rfl).some' ht8
        refine OJ.st rfl rfl rfl (SR.idxS tU_ok tI_ok rfl rfl rfl rfl e8 rfl (by have hg := (getI_some ht8).1; (first | rw [hl0] at hg | (simp only [List.length_set] at hg; rw [hl0] at hg)); exact hg)) ?_
        refine OJ.st rfl rfl rfl (SR.fieldAddr tU_ok tI_ok rfl rfl rfl rfl rfl rfl) ?_
        refine OJ.es rfl rfl (Es.storeR tI_ok hS (i := 0) (off := 2) rfl rfl ht8 e8 rfl (add_add _ _ _) rfl rfl (vs := cb.enc (decide ((Int.tmod (IntKind.i64.wrap ((IntKind.i64.wrap (y4 + 1)) + 1)) 3) = 0))) rfl rfl (one1 rfl) (Nat.le_of_ble_eq_true rfl) (⟨t8.At, decide ((Int.tmod (IntKind.i64.wrap ((IntKind.i64.wrap (y4 + 1)) + 1)) 3) = 0)⟩ : Hurdle) rfl) ?_
        intro w1 hS
        refine OJ.nil (EJ.next ?_)
        refine CJ.region ?_
        refine OJ.pures tU_ok 3 rfl ?_
        refine OJ.nil (EJ.blk (EJ.next ?_))
        refine CJ.region ?_
        refine OJ.pures tU_ok 3 rfl ?_
        refine OJ.nil ?_
        exact EJ.round k (F' := [(0, .slice Aa0 a0.length ca0), (1, .int .i64 (IntKind.i64.wrap ((IntKind.i64.wrap ((IntKind.i64.wrap (y4 + 1)) + 1)) + 1))), (5, .int .i64 (IntKind.i64.wrap (y5 + 1)))]) ⟨rfl, rfl, rfl, trivial⟩ (Nat.lt_succ_self _) ⟨(((y3.set y5.toNat (⟨(⟨IntKind.i8.wrap y4, t6.At.Y⟩ : Spot), t6.South⟩ : Hurdle)).set y5.toNat (⟨(⟨t7.At.X, IntKind.i8.wrap (IntKind.i64.wrap (y4 + 1))⟩ : Spot), t7.South⟩ : Hurdle)).set y5.toNat (⟨t8.At, decide ((Int.tmod (IntKind.i64.wrap ((IntKind.i64.wrap (y4 + 1)) + 1)) 3) = 0)⟩ : Hurdle)), (IntKind.i64.wrap ((IntKind.i64.wrap ((IntKind.i64.wrap (y4 + 1)) + 1)) + 1)), (IntKind.i64.wrap (y5 + 1)), rfl, hS.pick [0] [] rfl, (by first | exact hl0 | (simp only [List.length_set]; exact hl0)), H⟩
      · replace H := pif_f (of_decide_eq_false hb) H
        refine CJ.exit (EJ.skE (EJ.skE (EJ.hit (?_))))
        exact EJ.meet (F' := [(1, .int .i64 y4)]) ⟨rfl, trivial⟩ ⟨y3, y4, H, rfl, hS.pick [0] [] rfl, (by first | exact hl0 | (simp only [List.length_set]; exact hl0))⟩
  · rintro F w1 ⟨y1, y2, he, rfl, hS, hl0⟩
    obtain rfl := Option.some.inj he
    have H := K157
    refine EJ.next ?_
    refine CJ.seq ?_
    refine CJ.region ?_
    refine OJ.pures tU_ok 2 rfl ?_
    refine OJ.nil (EJ.next ?_)
    refine CJ.ret (?_)
    obtain rfl := Option.some.inj H
    exact EJ.fin rfl (.tmp rfl .nil) ⟨rfl, hS.pick [0] [] rfl, (by first | exact hl0 | (simp only [List.length_set]; exact hl0))⟩

def laws_heldHurdleS.l1 (a0 : List Hurdle) : Nat → Int → Int → Option (Int ⊕ Int)
  | 0, _, _ => none
  | k + 1, y2, y3 => if y3 < (a0.length : Int) then ((getI a0 y3).bind fun t4 => if t4.At.X ≠ (IntKind.i8.wrap y2) then (some (Sum.inl (-1))) else ((getI a0 y3).bind fun t5 => if t5.At.Y ≠ (IntKind.i8.wrap (IntKind.i64.wrap (y2 + 1))) then (some (Sum.inl (-1))) else ((getI a0 y3).bind fun t6 => if t6.South ≠ (decide ((Int.tmod (IntKind.i64.wrap ((IntKind.i64.wrap (y2 + 1)) + 1)) 3) = 0)) then (some (Sum.inl (-1))) else (laws_heldHurdleS.l1 a0 k (IntKind.i64.wrap ((IntKind.i64.wrap ((IntKind.i64.wrap (y2 + 1)) + 1)) + 1)) (IntKind.i64.wrap (y3 + 1)))))) else (some (Sum.inr y2))
def laws_heldHurdleS.f (k : Nat) (a0 : List Hurdle) (a1 : Int) : Option Int := (laws_heldHurdleS.l1 a0 k a1 0).bind fun s158 => match s158 with | .inl r => some r | .inr y1 => some y1
theorem laws_heldHurdleS.c (k : Nat) (w : World) (Aa0 : Option Addr) (ca0 : Nat) (a0 : List Hurdle) (hr0 : Rd cHurdle w Aa0 a0) (hc0 : a0.length ≤ ca0) (a1 : Int) (r : Int) (H : laws_heldHurdleS.f k a0 a1 = some r) :
    CV Try.prog 66 [.slice Aa0 a0.length ca0, .int .i64 a1].toArray w fun v w' => v = .int .i64 r ∧ Ext w w' := by
  have hS := ((St.init w no).param cHurdle Aa0 ca0 a0 hr0 hc0)
  unfold laws_heldHurdleS.f at H
  refine CV.body Try.func66 rfl Try.ntmps66 rfl ?_
  refine CJ.seq ?_
  refine CJ.region ?_
  refine OJ.pures tU_ok 1 rfl ?_
  refine OJ.nil (EJ.next ?_)
  refine CJ.seq ?_
  refine CJ.seq ?_
  refine CJ.region ?_
  refine OJ.pures tU_ok 1 rfl ?_
  refine OJ.nil (EJ.next ?_)
  obtain ⟨j158, H, K158⟩ := pbind H
  refine CJ.cut1 (fun F w1 => ∃ (y1 : Int) , (some (Sum.inr y1) : Option (Int ⊕ Int)) = some j158 ∧ F = [(1, .int .i64 y1)] ∧ St w no w1 [] [roC cHurdle Aa0 ca0 a0]) ?_ ?_
  · skip
    refine CJ.block ?_
    refine CJ.loop (fun k F w1 => ∃ (y2 : Int) (y3 : Int), F = [(0, .slice Aa0 a0.length ca0), (1, .int .i64 y2), (5, .int .i64 y3)] ∧ St w no w1 [] [roC cHurdle Aa0 ca0 a0] ∧ laws_heldHurdleS.l1 a0 k y2 y3 = some j158) k (F' := [(0, .slice Aa0 a0.length ca0), (1, .int .i64 a1), (5, .int .i64 0)]) ⟨rfl, rfl, rfl, trivial⟩ ⟨a1, 0, rfl, hS.pick [] [0] rfl, H⟩ ?_
    rintro k F w1 ⟨y2, y3, rfl, hS, H⟩
    cases k with
    | zero => rw [laws_heldHurdleS.l1] at H; cases H
    | succ k =>
      rw [laws_heldHurdleS.l1] at H
      refine CJ.seq ?_
      refine CJ.seq ?_
      refine CJ.region ?_
      refine OJ.pures tU_ok 4 rfl ?_
      refine OJ.nil (EJ.next ?_)
      refine CJ.cond rfl (fun hb => ?_) (fun hb => ?_)
      · replace H := pif_t (of_decide_eq_true hb) H
        refine CJ.skip (EJ.next ?_)
        refine CJ.seq ?_
        refine CJ.block ?_
        refine CJ.seq ?_
        refine CJ.seq ?_
        refine CJ.region ?_
        refine OJ.pures tU_ok 2 rfl ?_
        obtain ⟨t4, ht4, H⟩ := pbind H
        obtain ⟨ad4, e4⟩ := (hS.rd' (i := 0) rfl).some' ht4
        refine OJ.st rfl rfl rfl (SR.idxS tU_ok tI_ok rfl rfl rfl rfl e4 rfl (getI_some ht4).1) ?_
        refine OJ.st rfl rfl rfl (SR.fieldAddr tU_ok tI_ok rfl rfl rfl rfl rfl rfl) ?_
        refine OJ.st rfl rfl rfl (SR.fieldAddr tU_ok tI_ok rfl rfl rfl rfl rfl rfl) ?_
        refine OJ.st rfl rfl rfl (SR.load rfl rfl (fun w' hx => ld1 tU_ok rfl rfl (CA.ext (CA.sub (CA.sub ((hS.rd' (i := 0) rfl).at_ e4 ht4) 0) 0) hx) rfl)) ?_
        refine OJ.pures tU_ok 3 rfl ?_
        refine OJ.nil (EJ.next ?_)
        refine CJ.cond rfl (fun hb => ?_) (fun hb => ?_)
        · replace H := pif_t (of_decide_eq_true hb) H
          refine CJ.seq ?_
          refine CJ.region ?_
          refine OJ.pures tU_ok 1 rfl ?_
          refine OJ.nil (EJ.next ?_)
          refine CJ.ret (EJ.skR (EJ.bkR (EJ.skR (EJ.skR (EJ.bkR (EJ.skR (EJ.skR (?_))))))))
          first | (obtain rfl := Option.some.inj H; have H := K158) | (obtain ⟨q158, H2, e158⟩ := pbind H; obtain rfl := Option.some.inj e158; obtain rfl := Option.some.inj K158; have H := H2)
          obtain rfl := Option.some.inj H
          exact EJ.fin rfl (.tmp rfl .nil) ⟨rfl, hS.ext⟩
        · replace H := pif_f (of_decide_eq_false hb) H
          refine CJ.skip (EJ.next ?_)
          refine CJ.seq ?_
          refine CJ.region ?_
          refine OJ.pures tU_ok 3 rfl ?_
          refine OJ.nil (EJ.next ?_)
          refine CJ.seq ?_
          refine CJ.seq ?_
          refine CJ.region ?_
          refine OJ.pures tU_ok 2 rfl ?_
          obtain ⟨t5, ht5, H⟩ := pbind H
          obtain ⟨ad5, e5⟩ := (hS.rd' (i := 0) rfl).some' ht5
          refine OJ.st rfl rfl rfl (SR.idxS tU_ok tI_ok rfl rfl rfl rfl e5 rfl (getI_some ht5).1) ?_
          refine OJ.st rfl rfl rfl (SR.fieldAddr tU_ok tI_ok rfl rfl rfl rfl rfl rfl) ?_
          refine OJ.st rfl rfl rfl (SR.fieldAddr tU_ok tI_ok rfl rfl rfl rfl rfl rfl) ?_
          refine OJ.st rfl rfl rfl (SR.load rfl rfl (fun w' hx => ld1 tU_ok rfl rfl (CA.ext (CA.sub (CA.sub ((hS.rd' (i := 0) rfl).at_ e5 ht5) 0) 1) hx) rfl)) ?_
          refine OJ.pures tU_ok 3 rfl ?_
          refine OJ.nil (EJ.next ?_)
          refine CJ.cond rfl (fun hb => ?_) (fun hb => ?_)
          · replace H := pif_t (of_decide_eq_true hb) H
            refine CJ.seq ?_
            refine CJ.region ?_
            refine OJ.pures tU_ok 1 rfl ?_
            refine OJ.nil (EJ.next ?_)
            refine CJ.ret (EJ.skR (EJ.bkR (EJ.skR (EJ.skR (EJ.bkR (EJ.skR (EJ.skR (?_))))))))
            first | (obtain rfl := Option.some.inj H; have H := K158) | (obtain ⟨q158, H2, e158⟩ := pbind H; obtain rfl := Option.some.inj e158; obtain rfl := Option.some.inj K158; have H := H2)
            obtain rfl := Option.some.inj H
            exact EJ.fin rfl (.tmp rfl .nil) ⟨rfl, hS.ext⟩
          · replace H := pif_f (of_decide_eq_false hb) H
            refine CJ.skip (EJ.next ?_)
            refine CJ.seq ?_
            refine CJ.region ?_
            refine OJ.pures tU_ok 3 rfl ?_
            refine OJ.nil (EJ.next ?_)
            refine CJ.seq ?_
            refine CJ.seq ?_
            refine CJ.region ?_
            refine OJ.pures tU_ok 2 rfl ?_
            obtain ⟨t6, ht6, H⟩ := pbind H
            obtain ⟨ad6, e6⟩ := (hS.rd' (i := 0) rfl).some' ht6
            refine OJ.st rfl rfl rfl (SR.idxS tU_ok tI_ok rfl rfl rfl rfl e6 rfl (getI_some ht6).1) ?_
            refine OJ.st rfl rfl rfl (SR.fieldAddr tU_ok tI_ok rfl rfl rfl rfl rfl rfl) ?_
            refine OJ.st rfl rfl rfl (SR.load rfl rfl (fun w' hx => ld1 tU_ok rfl rfl (CA.ext (CA.sub ((hS.rd' (i := 0) rfl).at_ e6 ht6) 2) hx) rfl)) ?_
            refine OJ.pures tU_ok 1 rfl ?_
            refine OJ.st rfl rfl rfl (SR.rem rfl rfl rfl (by decide)) ?_
            refine OJ.pures tU_ok 1 rfl ?_
            refine OJ.st rfl rfl rfl (SR.neB tU_ok rfl rfl rfl rfl) ?_
            refine OJ.nil (EJ.next ?_)
            refine CJ.cond rfl (fun hb => ?_) (fun hb => ?_)
            · replace H := pif_t (of_decide_eq_true hb) H
              refine CJ.seq ?_
              refine CJ.region ?_
              refine OJ.pures tU_ok 1 rfl ?_
              refine OJ.nil (EJ.next ?_)
              refine CJ.ret (EJ.skR (EJ.bkR (EJ.skR (EJ.skR (EJ.bkR (EJ.skR (EJ.skR (?_))))))))
              first | (obtain rfl := Option.some.inj H; have H := K158) | (obtain ⟨q158, H2, e158⟩ := pbind H; obtain rfl := Option.some.inj e158; obtain rfl := Option.some.inj K158; have H := H2)
              obtain rfl := Option.some.inj H
              exact EJ.fin rfl (.tmp rfl .nil) ⟨rfl, hS.ext⟩
            · replace H := pif_f (of_decide_eq_false hb) H
              refine CJ.skip (EJ.next ?_)
              refine CJ.region ?_
              refine OJ.pures tU_ok 3 rfl ?_
              refine OJ.nil (EJ.blk (EJ.next ?_))
              refine CJ.region ?_
              refine OJ.pures tU_ok 3 rfl ?_
              refine OJ.nil ?_
              exact EJ.round k (F' := [(0, .slice Aa0 a0.length ca0), (1, .int .i64 (IntKind.i64.wrap ((IntKind.i64.wrap ((IntKind.i64.wrap (y2 + 1)) + 1)) + 1))), (5, .int .i64 (IntKind.i64.wrap (y3 + 1)))]) ⟨rfl, rfl, rfl, trivial⟩ (Nat.lt_succ_self _) ⟨(IntKind.i64.wrap ((IntKind.i64.wrap ((IntKind.i64.wrap (y2 + 1)) + 1)) + 1)), (IntKind.i64.wrap (y3 + 1)), rfl, hS.pick [] [0] rfl, H⟩
      · replace H := pif_f (of_decide_eq_false hb) H
        refine CJ.exit (EJ.skE (EJ.skE (EJ.hit (?_))))
        exact EJ.meet (F' := [(1, .int .i64 y2)]) ⟨rfl, trivial⟩ ⟨y2, H, rfl, hS.pick [] [0] rfl⟩
  · rintro F w1 ⟨y1, he, rfl, hS⟩
    obtain rfl := Option.some.inj he
    have H := K158
    refine EJ.next ?_
    refine CJ.seq ?_
    refine CJ.region ?_
    refine OJ.pures tU_ok 2 rfl ?_
    refine OJ.nil (EJ.next ?_)
    refine CJ.ret (?_)
    obtain rfl := Option.some.inj H
    exact EJ.fin rfl (.tmp rfl .nil) ⟨rfl, hS.ext⟩

def spec_GrassOf.l1 (a0 : Pasture) (a1 : List Spot) : Nat → Int → Int → Option Int
  | 0, _, _ => none
  | k + 1, y4, y5 => if y5 < (a1.length : Int) then ((getI a1 y5).bind fun t6 => (getI a1 y5).bind fun t7 => (getI a0.Grass.l t6.Y).bind fun t8 => (getI t8.l t7.X).bind fun t9 => spec_GrassOf.l1 a0 a1 k (IntKind.i64.wrap (y4 + (IntKind.i64.wrap t9))) (IntKind.i64.wrap (y5 + 1))) else (some y4)
def spec_GrassOf.f (k : Nat) (a0 : Pasture) (a1 : List Spot) : Option (Int × Int) := (spec_l01All.f k a0 a1).bind fun t2 => if t2 ≠ 0 then (some (0, t2)) else ((spec_GrassOf.l1 a0 a1 k 0 0).bind fun y3 => some (y3, 0))
theorem spec_GrassOf.c (k : Nat) (w : World) (a0 : Pasture) (Aa1 : Option Addr) (ca1 : Nat) (a1 : List Spot) (hr1 : Rd cSpot w Aa1 a1) (hc1 : a1.length ≤ ca1) (r : Int × Int) (H : spec_GrassOf.f k a0 a1 = some r) :
    CV Try.prog 99 [.agg (cPasture.enc a0).toArray, .slice Aa1 a1.length ca1].toArray w fun v w' => v = .tuple #[.int .i64 r.1, .int .i64 r.2] ∧ Ext w w' := by
  have hS := ((St.init w no).param cSpot Aa1 ca1 a1 hr1 hc1)
  unfold spec_GrassOf.f at H
  refine CV.body Try.func99 rfl Try.ntmps99 rfl ?_
  refine CJ.seq ?_
  refine CJ.region ?_
  refine OJ.ef rfl rfl rfl (Ef.box hS rfl rfl (cPasture.enc a0) rfl) ?_
  rintro _ w1 ⟨b1, rfl, hS⟩
  refine OJ.pures tU_ok 2 rfl ?_
  refine OJ.nil (EJ.next ?_)
  refine CJ.seq ?_
  refine CJ.seq ?_
  refine CJ.region ?_
  refine OJ.pures tU_ok 1 rfl ?_
  obtain ⟨t2, ht2, H⟩ := pbind H
  refine OJ.callF rfl rfl rfl rfl rfl hb104 rfl (spec_l01All.c k _ _ a0 (hS.cells (i := 0) rfl) Aa1 ca1 a1 (hS.rd' (i := 0) rfl) (hS.le' (i := 0) rfl) _ ht2) ?_
  rintro _ w1 ⟨rfl, hs⟩
  replace hS := hS.grow hs
  refine OJ.pures tU_ok 1 rfl ?_
  refine OJ.nil (EJ.next ?_)
  refine CJ.seq ?_
  refine CJ.region ?_
  refine OJ.pures tU_ok 2 rfl ?_
  refine OJ.nil (EJ.next ?_)
  refine CJ.cond rfl (fun hb => ?_) (fun hb => ?_)
  · replace H := pif_t (of_decide_eq_true hb) H
    refine CJ.seq ?_
    refine CJ.region ?_
    refine OJ.pures tU_ok 3 rfl ?_
    refine OJ.nil (EJ.next ?_)
    refine CJ.ret (EJ.skR (?_))
    obtain rfl := Option.some.inj H
    exact EJ.fin rfl (.tmp rfl (.tmp rfl .nil)) ⟨rfl, hS.ext⟩
  · replace H := pif_f (of_decide_eq_false hb) H
    refine CJ.skip (EJ.next ?_)
    refine CJ.seq ?_
    refine CJ.region ?_
    refine OJ.pures tU_ok 1 rfl ?_
    refine OJ.nil (EJ.next ?_)
    refine CJ.seq ?_
    refine CJ.seq ?_
    refine CJ.region ?_
    refine OJ.pures tU_ok 1 rfl ?_
    refine OJ.nil (EJ.next ?_)
    obtain ⟨j159, H, K159⟩ := pbind H
    refine CJ.cut1 (fun F w1 => ∃ (y3 : Int) , (some y3 : Option Int) = some j159 ∧ F = [(7, .int .i64 y3)] ∧ St w no w1 [] [roC cSpot Aa1 ca1 a1]) ?_ ?_
    · skip
      refine CJ.block ?_
      refine CJ.loop (fun k F w1 => ∃ (y4 : Int) (y5 : Int), F = [(1, .slice Aa1 a1.length ca1), (2, .pointer (some ⟨b1, 0, none⟩)), (7, .int .i64 y4), (8, .int .i64 y5)] ∧ St w no w1 [box b1 (cPasture.enc a0) 32] [roC cSpot Aa1 ca1 a1] ∧ spec_GrassOf.l1 a0 a1 k y4 y5 = some j159) k (F' := [(1, .slice Aa1 a1.length ca1), (2, .pointer (some ⟨b1, 0, none⟩)), (7, .int .i64 0), (8, .int .i64 0)]) ⟨rfl, rfl, rfl, rfl, trivial⟩ ⟨0, 0, rfl, hS.pick [0] [0] rfl, H⟩ ?_
      rintro k F w1 ⟨y4, y5, rfl, hS, H⟩
      cases k with
      | zero => rw [spec_GrassOf.l1] at H; cases H
      | succ k =>
        rw [spec_GrassOf.l1] at H
        refine CJ.seq ?_
        refine CJ.seq ?_
        refine CJ.region ?_
        refine OJ.pures tU_ok 4 rfl ?_
        refine OJ.nil (EJ.next ?_)
        refine CJ.cond rfl (fun hb => ?_) (fun hb => ?_)
        · replace H := pif_t (of_decide_eq_true hb) H
          refine CJ.skip (EJ.next ?_)
          refine CJ.seq ?_
          refine CJ.block ?_
          refine CJ.draw [] [0, 1, 2, 3, 4, 5, 6, 7, 8, 9, 10, 11, 12, 13, 14, 15, 16, 17] mixed (by kernel_rfl) hS fun w1 hS => ?_
          refine DJ.pures tU_ok 3 rfl ?_
          obtain ⟨t6, ht6, H⟩ := pbind H
          obtain ⟨ad6, e6⟩ := (hS.rd' (i := 0) rfl).some' ht6
          refine DJ.st rfl rfl rfl rfl rfl (SR.idxS tU_ok tI_ok rfl rfl rfl rfl e6 rfl (getI_some ht6).1) ?_
          refine DJ.st rfl rfl rfl rfl rfl (SR.fieldAddr tU_ok tI_ok rfl rfl rfl rfl rfl rfl) ?_
          refine DJ.st rfl rfl rfl rfl rfl (SR.load rfl rfl (fun w' hx => ld1 tU_ok rfl rfl (CA.ext (CA.sub ((hS.rd' (i := 0) rfl).at_ e6 ht6) 1) hx) rfl)) ?_
          refine DJ.pures tU_ok 2 rfl ?_
          obtain ⟨t7, ht7, H⟩ := pbind H
          obtain ⟨ad7, e7⟩ := (hS.rd' (i := 0) rfl).some' ht7
          refine DJ.st rfl rfl rfl rfl rfl (SR.idxS tU_ok tI_ok rfl rfl rfl rfl e7 rfl (getI_some ht7).1) ?_
          refine DJ.st rfl rfl rfl rfl rfl (SR.fieldAddr tU_ok tI_ok rfl rfl rfl rfl rfl rfl) ?_
          refine DJ.st rfl rfl rfl rfl rfl (SR.load rfl rfl (fun w' hx => ld1 tU_ok rfl rfl (CA.ext (CA.sub ((hS.rd' (i := 0) rfl).at_ e7 ht7) 0) hx) rfl)) ?_
          refine DJ.st rfl rfl rfl rfl rfl (SR.fieldAddr tU_ok tI_ok rfl rfl rfl rfl rfl rfl) ?_
          obtain ⟨t8, ht8, H⟩ := pbind H
          refine DJ.st rfl rfl rfl rfl rfl (SR.idxA tU_ok tI_ok rfl rfl rfl rfl rfl (Arr.lt ht8)) ?_
          obtain ⟨t9, ht9, H⟩ := pbind H
          refine DJ.st rfl rfl rfl rfl rfl (SR.idxA tU_ok tI_ok rfl rfl rfl rfl rfl (Arr.lt ht9)) ?_
          refine DJ.st rfl rfl rfl rfl rfl (SR.load rfl rfl (fun w' hx => ld1 tU_ok rfl rfl (CA.ext (CA.idx (CA.idx (CA.fld (hS.cells (i := 0) rfl) (mid_part (fe_Pasture_2 _) (fl_Pasture_2 _) ((carr 10 (carr 10 (ci .i16))).len _))) ht8) ht9) hx) rfl)) ?_
          refine DJ.pures tU_ok 3 rfl ?_
          refine DJ.nil (EJ.blk (EJ.next ?_))
          refine CJ.region ?_
          refine OJ.pures tU_ok 3 rfl ?_
          refine OJ.nil ?_
          exact EJ.round k (F' := [(1, .slice Aa1 a1.length ca1), (2, .pointer (some ⟨b1, 0, none⟩)), (7, .int .i64 (IntKind.i64.wrap (y4 + (IntKind.i64.wrap t9)))), (8, .int .i64 (IntKind.i64.wrap (y5 + 1)))]) ⟨rfl, rfl, rfl, rfl, trivial⟩ (Nat.lt_succ_self _) ⟨(IntKind.i64.wrap (y4 + (IntKind.i64.wrap t9))), (IntKind.i64.wrap (y5 + 1)), rfl, hS.pick [0] [0] rfl, H⟩
        · replace H := pif_f (of_decide_eq_false hb) H
          refine CJ.exit (EJ.skE (EJ.skE (EJ.hit (?_))))
          exact EJ.meet (F' := [(7, .int .i64 y4)]) ⟨rfl, trivial⟩ ⟨y4, H, rfl, hS.pick [] [0] rfl⟩
    · rintro F w1 ⟨y3, he, rfl, hS⟩
      obtain rfl := Option.some.inj he
      have H := K159
      refine EJ.next ?_
      refine CJ.seq ?_
      refine CJ.region ?_
      refine OJ.pures tU_ok 3 rfl ?_
      refine OJ.nil (EJ.next ?_)
      refine CJ.ret (?_)
      obtain rfl := Option.some.inj H
      exact EJ.fin rfl (.tmp rfl (.tmp rfl .nil)) ⟨rfl, hS.ext⟩

def impl_size_impl_Spot.f (a0 : List Spot) : Option Int := some (a0.length : Int)
theorem impl_size_impl_Spot.c (w : World) (Aa0 : Option Addr) (ca0 : Nat) (a0 : List Spot) (hr0 : Rd cSpot w Aa0 a0) (hc0 : a0.length ≤ ca0) (r : Int) (H : impl_size_impl_Spot.f a0 = some r) :
    CV Try.prog 103 [.slice Aa0 a0.length ca0].toArray w fun v w' => v = .int .i64 r ∧ Ext w w' := by
  have hS := ((St.init w no).param cSpot Aa0 ca0 a0 hr0 hc0)
  unfold impl_size_impl_Spot.f at H
  refine CV.body Try.func103 rfl Try.ntmps103 rfl ?_
  refine CJ.seq ?_
  refine CJ.region ?_
  refine OJ.pures tU_ok 1 rfl ?_
  refine OJ.nil (EJ.next ?_)
  refine CJ.seq ?_
  refine CJ.region ?_
  refine OJ.pures tU_ok 3 rfl ?_
  refine OJ.nil (EJ.next ?_)
  refine CJ.ret (?_)
  obtain rfl := Option.some.inj H
  exact EJ.fin rfl (.tmp rfl .nil) ⟨rfl, hS.ext⟩

def spec_l00Put.l1 (a0 : List Int) (a1 : Int) : Nat → (List Int) → Bool → Int → Option ((List Int) × Bool)
  | 0, _, _, _ => none
  | k + 1, y6, y9, y10 => if y10 < (a0.length : Int) then ((if (!y9) = true then ((getI a0 y10).bind fun t12 => some (decide (a1 ≤ t12))) else (some false)).bind fun y11 => if y11 = true then ((getI a0 y10).bind fun t13 => if a1 < t13 then ((chk (y6.length + ([a1] : List Int).length ≤ 4294967296)).bind fun u15 => (getI a0 y10).bind fun t18 => (chk ((y6 ++ ([a1] : List Int)).length + ([t18] : List Int).length ≤ 4294967296)).bind fun u20 => spec_l00Put.l1 a0 a1 k ((y6 ++ ([a1] : List Int)) ++ ([t18] : List Int)) true (IntKind.i64.wrap (y10 + 1))) else ((getI a0 y10).bind fun t23 => (chk (y6.length + ([t23] : List Int).length ≤ 4294967296)).bind fun u25 => spec_l00Put.l1 a0 a1 k (y6 ++ ([t23] : List Int)) true (IntKind.i64.wrap (y10 + 1)))) else ((getI a0 y10).bind fun t28 => (chk (y6.length + ([t28] : List Int).length ≤ 4294967296)).bind fun u30 => spec_l00Put.l1 a0 a1 k (y6 ++ ([t28] : List Int)) y9 (IntKind.i64.wrap (y10 + 1)))) else (some (y6, y9))
def spec_l00Put.f (k : Nat) (a0 : List Int) (a1 : Int) : Option (List Int) := (spec_l00Put.l1 a0 a1 k ([] : List Int) false 0).bind fun (y2, y5) => if (!y5) = true then ((chk (y2.length + ([a1] : List Int).length ≤ 4294967296)).bind fun u34 => some (y2 ++ ([a1] : List Int))) else (some y2)
theorem spec_l00Put.c (k : Nat) (w : World) (Aa0 : Option Addr) (ca0 : Nat) (a0 : List Int) (hr0 : Rd (ci .i64) w Aa0 a0) (hc0 : a0.length ≤ ca0) (a1 : Int) (r : List Int) (H : spec_l00Put.f k a0 a1 = some r) :
    CV Try.prog 105 [.slice Aa0 a0.length ca0, .int .i64 a1].toArray w fun v w' => ∃ (A0 : Option Addr) (c0 : Nat), v = .slice A0 r.length c0 ∧ St w no w' [rowC (ci .i64) A0 c0 2 r] [] := by
  have hS := ((St.init w no).param (ci .i64) Aa0 ca0 a0 hr0 hc0)
  unfold spec_l00Put.f at H
  refine CV.body Try.func105 rfl Try.ntmps105 rfl ?_
  refine CJ.seq ?_
  refine CJ.region ?_
  refine OJ.pures tU_ok 1 rfl ?_
  refine OJ.nil (EJ.next ?_)
  refine CJ.seq ?_
  refine CJ.region ?_
  refine OJ.ef rfl rfl rfl (Ef.lit tU_ok tI_ok hS (C := (ci .i64)) rfl rfl rfl rfl rfl rfl ([] : List Int) rfl rfl rfl rfl) ?_
  rintro _ w1 ⟨A1, rfl, hS⟩
  refine OJ.pures tU_ok 1 rfl ?_
  refine OJ.nil (EJ.next ?_)
  refine CJ.seq ?_
  refine CJ.region ?_
  refine OJ.pures tU_ok 1 rfl ?_
  refine OJ.nil (EJ.next ?_)
  refine CJ.seq ?_
  refine CJ.seq ?_
  refine CJ.region ?_
  refine OJ.pures tU_ok 1 rfl ?_
  refine OJ.nil (EJ.next ?_)
  obtain ⟨j160, H, K160⟩ := pbind H
  refine CJ.cut1 (fun F w1 => ∃ (y2 : List Int) (y5 : Bool) (A3 : Option Addr) (c4 : Nat), (some (y2, y5) : Option ((List Int) × Bool)) = some j160 ∧ F = [(1, .int .i64 a1), (5, .slice A3 y2.length c4), (6, .bool y5)] ∧ St w no w1 [rowC (ci .i64) A3 c4 2 y2] [roC (ci .i64) Aa0 ca0 a0]) ?_ ?_
  · skip
    refine CJ.block ?_
    refine CJ.loop (fun k F w1 => ∃ (y6 : List Int) (y9 : Bool) (y10 : Int) (A7 : Option Addr) (c8 : Nat), F = [(0, .slice Aa0 a0.length ca0), (1, .int .i64 a1), (5, .slice A7 y6.length c8), (6, .bool y9), (7, .int .i64 y10)] ∧ St w no w1 [rowC (ci .i64) A7 c8 2 y6] [roC (ci .i64) Aa0 ca0 a0] ∧ spec_l00Put.l1 a0 a1 k y6 y9 y10 = some j160) k (F' := [(0, .slice Aa0 a0.length ca0), (1, .int .i64 a1), (5, .slice A1 ([] : List Int).length (([] : List Int).length)), (6, .bool false), (7, .int .i64 0)]) ⟨rfl, rfl, rfl, rfl, rfl, trivial⟩ ⟨([] : List Int), false, 0, A1, (([] : List Int).length), rfl, hS.pick [0] [0] rfl, H⟩ ?_
    rintro k F w1 ⟨y6, y9, y10, A7, c8, rfl, hS, H⟩
    cases k with
    | zero => rw [spec_l00Put.l1] at H; cases H
    | succ k =>
      rw [spec_l00Put.l1] at H
      refine CJ.seq ?_
      refine CJ.seq ?_
      refine CJ.region ?_
      refine OJ.pures tU_ok 4 rfl ?_
      refine OJ.nil (EJ.next ?_)
      refine CJ.cond rfl (fun hb => ?_) (fun hb => ?_)
      · replace H := pif_t (of_decide_eq_true hb) H
        refine CJ.skip (EJ.next ?_)
        refine CJ.seq ?_
        refine CJ.block ?_
        refine CJ.seq ?_
        obtain ⟨j163, H, K163⟩ := pbind H
        refine CJ.cut (fun F w1 => ∃ (y11 : Bool) , (some y11 : Option Bool) = some j163 ∧ F = [(0, .slice Aa0 a0.length ca0), (1, .int .i64 a1), (5, .slice A7 y6.length c8), (6, .bool y9), (7, .int .i64 y10), (24, .bool y11)] ∧ St w no w1 [rowC (ci .i64) A7 c8 2 y6] [roC (ci .i64) Aa0 ca0 a0]) ?_ ?_
        · skip
          refine CJ.region ?_
          refine OJ.pures tU_ok 3 rfl ?_
          refine OJ.split (t := 17) rfl (fun hb => ?_) (fun hb => ?_)
          · replace H := pif_t hb H
            refine OJ.pures tU_ok 2 rfl ?_
            obtain ⟨t12, ht12, H⟩ := pbind H
            obtain ⟨ad12, e12⟩ := (hS.rd' (i := 0) rfl).some' ht12
            refine OJ.st rfl rfl rfl (SR.idxS tU_ok tI_ok rfl rfl rfl rfl e12 rfl (getI_some ht12).1) ?_
            refine OJ.st rfl rfl rfl (SR.load rfl rfl (fun w' hx => ld1 tU_ok rfl rfl (CA.ext ((hS.rd' (i := 0) rfl).at_ e12 ht12) hx) rfl)) ?_
            refine OJ.pures tU_ok 3 rfl ?_
            refine OJ.nil ?_
            exact EJ.meet (F' := [(0, .slice Aa0 a0.length ca0), (1, .int .i64 a1), (5, .slice A7 y6.length c8), (6, .bool y9), (7, .int .i64 y10), (24, .bool (decide (a1 ≤ t12)))]) ⟨rfl, rfl, rfl, rfl, rfl, rfl, trivial⟩ ⟨(decide (a1 ≤ t12)), H, rfl, hS.pick [0] [0] rfl⟩
          · replace H := pifb_f hb H
            refine OJ.pures tU_ok 7 rfl ?_
            refine OJ.nil ?_
            exact EJ.meet (F' := [(0, .slice Aa0 a0.length ca0), (1, .int .i64 a1), (5, .slice A7 y6.length c8), (6, .bool y9), (7, .int .i64 y10), (24, .bool false)]) ⟨rfl, rfl, rfl, rfl, rfl, rfl, trivial⟩ ⟨false, H, rfl, hS.pick [0] [0] rfl⟩
        · rintro F w1 ⟨y11, he, rfl, hS⟩
          obtain rfl := Option.some.inj he
          have H := K163
          refine CJ.cond rfl (fun hb => ?_) (fun hb => ?_)
          · replace H := pif_t hb H
            refine CJ.seq ?_
            refine CJ.region ?_
            refine OJ.pures tU_ok 1 rfl ?_
            refine OJ.nil (EJ.next ?_)
            refine CJ.seq ?_
            refine CJ.region ?_
            refine OJ.pures tU_ok 2 rfl ?_
            obtain ⟨t13, ht13, H⟩ := pbind H
            obtain ⟨ad13, e13⟩ := (hS.rd' (i := 0) rfl).some' ht13
            refine OJ.st rfl rfl rfl (SR.idxS tU_ok tI_ok rfl rfl rfl rfl e13 rfl (getI_some ht13).1) ?_
            refine OJ.st rfl rfl rfl (SR.load rfl rfl (fun w' hx => ld1 tU_ok rfl rfl (CA.ext ((hS.rd' (i := 0) rfl).at_ e13 ht13) hx) rfl)) ?_
            refine OJ.pures tU_ok 2 rfl ?_
            refine OJ.nil (EJ.next ?_)
            refine CJ.cond rfl (fun hb => ?_) (fun hb => ?_)
            · replace H := pif_t (of_decide_eq_true hb) H
              refine CJ.region ?_
              refine OJ.pures tU_ok 2 rfl ?_
              refine OJ.ef rfl rfl rfl (Ef.lit tU_ok tI_ok hS (C := (ci .i64)) rfl rfl rfl rfl rfl rfl ([a1] : List Int) rfl rfl rfl rfl) ?_
              rintro _ w1 ⟨A14, rfl, hS⟩
              obtain ⟨u15, hu15, H⟩ := pbind H
              refine OJ.ew rfl rfl rfl (Ew.append tU_ok tI_ok (C := (ci .i64)) (xs := y6) (ys := ([a1] : List Int)) hS (i := 0) rfl rfl rfl rfl rfl rfl rfl rfl rfl rfl rfl rfl rfl (hS.rd (i := 1) rfl) (chk_some hu15)) ?_
              rintro _ w1 ⟨A16, c17, rfl, hS⟩
              refine OJ.pures tU_ok 1 rfl ?_
              refine OJ.nil (EJ.next ?_)
              refine CJ.region ?_
              refine OJ.pures tU_ok 3 rfl ?_
              obtain ⟨t18, ht18, H⟩ := pbind H
              obtain ⟨ad18, e18⟩ := (hS.rd' (i := 0) rfl).some' ht18
              refine OJ.st rfl rfl rfl (SR.idxS tU_ok tI_ok rfl rfl rfl rfl e18 rfl (getI_some ht18).1) ?_
              refine OJ.st rfl rfl rfl (SR.load rfl rfl (fun w' hx => ld1 tU_ok rfl rfl (CA.ext ((hS.rd' (i := 0) rfl).at_ e18 ht18) hx) rfl)) ?_
              refine OJ.ef rfl rfl rfl (Ef.lit tU_ok tI_ok hS (C := (ci .i64)) rfl rfl rfl rfl rfl rfl ([t18] : List Int) rfl rfl rfl rfl) ?_
              rintro _ w1 ⟨A19, rfl, hS⟩
              obtain ⟨u20, hu20, H⟩ := pbind H
              refine OJ.ew rfl rfl rfl (Ew.append tU_ok tI_ok (C := (ci .i64)) (xs := (y6 ++ ([a1] : List Int))) (ys := ([t18] : List Int)) hS (i := 0) rfl rfl rfl rfl rfl rfl rfl rfl rfl rfl rfl rfl rfl (hS.rd (i := 2) rfl) (chk_some hu20)) ?_
              rintro _ w1 ⟨A21, c22, rfl, hS⟩
              refine OJ.pures tU_ok 1 rfl ?_
              refine OJ.nil (EJ.blk (EJ.next ?_))
              refine CJ.region ?_
              refine OJ.pures tU_ok 3 rfl ?_
              refine OJ.nil ?_
              exact EJ.round k (F' := [(0, .slice Aa0 a0.length ca0), (1, .int .i64 a1), (5, .slice A21 ((y6 ++ ([a1] : List Int)) ++ ([t18] : List Int)).length c22), (6, .bool true), (7, .int .i64 (IntKind.i64.wrap (y10 + 1)))]) ⟨rfl, rfl, rfl, rfl, rfl, trivial⟩ (Nat.lt_succ_self _) ⟨((y6 ++ ([a1] : List Int)) ++ ([t18] : List Int)), true, (IntKind.i64.wrap (y10 + 1)), A21, c22, rfl, hS.pick [0] [0] rfl, H⟩
            · replace H := pif_f (of_decide_eq_false hb) H
              refine CJ.skip (EJ.next ?_)
              refine CJ.region ?_
              refine OJ.pures tU_ok 3 rfl ?_
              obtain ⟨t23, ht23, H⟩ := pbind H
              obtain ⟨ad23, e23⟩ := (hS.rd' (i := 0) rfl).some' ht23
              refine OJ.st rfl rfl rfl (SR.idxS tU_ok tI_ok rfl rfl rfl rfl e23 rfl (getI_some ht23).1) ?_
              refine OJ.st rfl rfl rfl (SR.load rfl rfl (fun w' hx => ld1 tU_ok rfl rfl (CA.ext ((hS.rd' (i := 0) rfl).at_ e23 ht23) hx) rfl)) ?_
              refine OJ.ef rfl rfl rfl (Ef.lit tU_ok tI_ok hS (C := (ci .i64)) rfl rfl rfl rfl rfl rfl ([t23] : List Int) rfl rfl rfl rfl) ?_
              rintro _ w1 ⟨A24, rfl, hS⟩
              obtain ⟨u25, hu25, H⟩ := pbind H
              refine OJ.ew rfl rfl rfl (Ew.append tU_ok tI_ok (C := (ci .i64)) (xs := y6) (ys := ([t23] : List Int)) hS (i := 0) rfl rfl rfl rfl rfl rfl rfl rfl rfl rfl rfl rfl rfl (hS.rd (i := 1) rfl) (chk_some hu25)) ?_
              rintro _ w1 ⟨A26, c27, rfl, hS⟩
              refine OJ.pures tU_ok 1 rfl ?_
              refine OJ.nil (EJ.blk (EJ.next ?_))
              refine CJ.region ?_
              refine OJ.pures tU_ok 3 rfl ?_
              refine OJ.nil ?_
              exact EJ.round k (F' := [(0, .slice Aa0 a0.length ca0), (1, .int .i64 a1), (5, .slice A26 (y6 ++ ([t23] : List Int)).length c27), (6, .bool true), (7, .int .i64 (IntKind.i64.wrap (y10 + 1)))]) ⟨rfl, rfl, rfl, rfl, rfl, trivial⟩ (Nat.lt_succ_self _) ⟨(y6 ++ ([t23] : List Int)), true, (IntKind.i64.wrap (y10 + 1)), A26, c27, rfl, hS.pick [0] [0] rfl, H⟩
          · replace H := pifb_f hb H
            refine CJ.skip (EJ.next ?_)
            refine CJ.region ?_
            refine OJ.pures tU_ok 3 rfl ?_
            obtain ⟨t28, ht28, H⟩ := pbind H
            obtain ⟨ad28, e28⟩ := (hS.rd' (i := 0) rfl).some' ht28
            refine OJ.st rfl rfl rfl (SR.idxS tU_ok tI_ok rfl rfl rfl rfl e28 rfl (getI_some ht28).1) ?_
            refine OJ.st rfl rfl rfl (SR.load rfl rfl (fun w' hx => ld1 tU_ok rfl rfl (CA.ext ((hS.rd' (i := 0) rfl).at_ e28 ht28) hx) rfl)) ?_
            refine OJ.ef rfl rfl rfl (Ef.lit tU_ok tI_ok hS (C := (ci .i64)) rfl rfl rfl rfl rfl rfl ([t28] : List Int) rfl rfl rfl rfl) ?_
            rintro _ w1 ⟨A29, rfl, hS⟩
            obtain ⟨u30, hu30, H⟩ := pbind H
            refine OJ.ew rfl rfl rfl (Ew.append tU_ok tI_ok (C := (ci .i64)) (xs := y6) (ys := ([t28] : List Int)) hS (i := 0) rfl rfl rfl rfl rfl rfl rfl rfl rfl rfl rfl rfl rfl (hS.rd (i := 1) rfl) (chk_some hu30)) ?_
            rintro _ w1 ⟨A31, c32, rfl, hS⟩
            refine OJ.pures tU_ok 1 rfl ?_
            refine OJ.nil (EJ.blk (EJ.next ?_))
            refine CJ.region ?_
            refine OJ.pures tU_ok 3 rfl ?_
            refine OJ.nil ?_
            exact EJ.round k (F' := [(0, .slice Aa0 a0.length ca0), (1, .int .i64 a1), (5, .slice A31 (y6 ++ ([t28] : List Int)).length c32), (6, .bool y9), (7, .int .i64 (IntKind.i64.wrap (y10 + 1)))]) ⟨rfl, rfl, rfl, rfl, rfl, trivial⟩ (Nat.lt_succ_self _) ⟨(y6 ++ ([t28] : List Int)), y9, (IntKind.i64.wrap (y10 + 1)), A31, c32, rfl, hS.pick [0] [0] rfl, H⟩
      · replace H := pif_f (of_decide_eq_false hb) H
        refine CJ.exit (EJ.skE (EJ.skE (EJ.hit (?_))))
        exact EJ.meet (F' := [(1, .int .i64 a1), (5, .slice A7 y6.length c8), (6, .bool y9)]) ⟨rfl, rfl, rfl, trivial⟩ ⟨y6, y9, A7, c8, H, rfl, hS.pick [0] [0] rfl⟩
  · rintro F w1 ⟨y2, y5, A3, c4, he, rfl, hS⟩
    obtain rfl := Option.some.inj he
    have H := K160
    refine EJ.next ?_
    refine CJ.seq ?_
    refine CJ.seq ?_
    refine CJ.region ?_
    refine OJ.pures tU_ok 2 rfl ?_
    refine OJ.nil (EJ.next ?_)
    refine CJ.cond rfl (fun hb => ?_) (fun hb => ?_)
    · replace H := pif_t hb H
      refine CJ.region ?_
      refine OJ.pures tU_ok 2 rfl ?_
      refine OJ.ef rfl rfl rfl (Ef.lit tU_ok tI_ok hS (C := (ci .i64)) rfl rfl rfl rfl rfl rfl ([a1] : List Int) rfl rfl rfl rfl) ?_
      rintro _ w1 ⟨A33, rfl, hS⟩
      obtain ⟨u34, hu34, H⟩ := pbind H
      refine OJ.ew rfl rfl rfl (Ew.append tU_ok tI_ok (C := (ci .i64)) (xs := y2) (ys := ([a1] : List Int)) hS (i := 0) rfl rfl rfl rfl rfl rfl rfl rfl rfl rfl rfl rfl rfl (hS.rd (i := 1) rfl) (chk_some hu34)) ?_
      rintro _ w1 ⟨A35, c36, rfl, hS⟩
      refine OJ.pures tU_ok 1 rfl ?_
      refine OJ.nil (EJ.next ?_)
      refine CJ.seq ?_
      refine CJ.region ?_
      refine OJ.pures tU_ok 2 rfl ?_
      refine OJ.nil (EJ.next ?_)
      refine CJ.ret (?_)
      obtain rfl := Option.some.inj H
      exact EJ.fin rfl (.tmp rfl .nil) ⟨A35, c36, rfl, hS.pick [0] [] rfl⟩
    · replace H := pifb_f hb H
      refine CJ.skip (EJ.next ?_)
      refine CJ.seq ?_
      refine CJ.region ?_
      refine OJ.pures tU_ok 2 rfl ?_
      refine OJ.nil (EJ.next ?_)
      refine CJ.ret (?_)
      obtain rfl := Option.some.inj H
      exact EJ.fin rfl (.tmp rfl .nil) ⟨A3, c4, rfl, hS.pick [0] [] rfl⟩

def slices_Clone_impl_Spot_impl_Spot.f (a0 : List Spot) : Option (List Spot) := (chk (([] : List Spot).length + a0.length ≤ 4294967296)).bind fun _ => some a0
theorem slices_Clone_impl_Spot_impl_Spot.c (w : World) (A : Option Addr) (c : Nat) (a0 : List Spot) (hr0 : Rd cSpot w A a0) (hc0 : a0.length ≤ c) (r : List Spot) (H : slices_Clone_impl_Spot_impl_Spot.f a0 = some r) :
    CV Try.prog 152 [.slice A a0.length c].toArray w fun v w' => ∃ (A0 : Option Addr) (c0 : Nat), v = .slice A0 r.length c0 ∧ St w no w' [rowC cSpot A0 c0 105 r] [] := by
  have hS := ((St.init w no).param cSpot A c a0 hr0 hc0)
  obtain ⟨u, hu, H⟩ := pbind H
  obtain rfl := Option.some.inj H
  refine CV.body Try.func152 rfl Try.ntmps152 rfl ?_
  refine CJ.seq ?_
  refine CJ.region ?_
  refine OJ.pures tU_ok 1 rfl ?_
  refine OJ.nil (EJ.next ?_)
  refine CJ.seq ?_
  refine CJ.seq ?_
  refine CJ.region ?_
  refine OJ.pures tU_ok 1 rfl ?_
  refine OJ.st rfl rfl rfl (SR.eqNil tU_ok rfl rfl rfl rfl) ?_
  refine OJ.nil (EJ.next ?_)
  refine CJ.cond rfl (fun hb => ?_) (fun hb => ?_)
  · obtain rfl := hr0.isNone hb
    refine CJ.seq ?_
    refine CJ.region ?_
    refine OJ.pures tU_ok 1 rfl ?_
    refine OJ.nil (EJ.next ?_)
    refine CJ.ret (EJ.skR ?_)
    replace hS := hS.addNil cSpot 105 none
    exact EJ.fin rfl (.tmp rfl .nil) ⟨none, 0, rfl, hS.pick [0] [] rfl⟩
  · refine CJ.skip (EJ.next ?_)
    refine CJ.seq ?_
    refine CJ.region ?_
    refine OJ.ef rfl rfl rfl (Ef.lit tU_ok tI_ok hS (C := cSpot) rfl rfl rfl rfl rfl rfl ([] : List Spot) rfl rfl rfl rfl) ?_
    rintro _ w1 ⟨A1, rfl, hS⟩
    refine OJ.pures tU_ok 1 rfl ?_
    refine OJ.ew rfl rfl rfl (Ew.append tU_ok tI_ok (C := cSpot) (xs := ([] : List Spot)) (ys := a0) hS (i := 0) rfl rfl rfl rfl rfl rfl rfl rfl rfl rfl rfl rfl rfl (hS.rd' (i := 0) rfl) (chk_some hu)) ?_
    rintro _ w1 ⟨A2, c2, rfl, hS⟩
    refine OJ.pures tU_ok 1 rfl ?_
    refine OJ.nil (EJ.next ?_)
    exact CJ.ret (EJ.fin rfl (.tmp rfl .nil) ⟨A2, c2, rfl, hS.pick [0] [] rfl⟩)

def slices_DeleteFunc_impl_Spot_impl_Spot.l1 (a1 : Spot → Option Bool) : Nat → (List Spot) → Int → Int → Option ((List Spot) × Int)
  | 0, _, _, _ => none
  | k + 1, y4, y5, y6 => if y6 < (y4.length : Int) then ((getI y4 y6).bind fun t7 => (a1 t7).bind fun t9 => if (!t9) = true then ((getI y4 y5).bind fun t10 => slices_DeleteFunc_impl_Spot_impl_Spot.l1 a1 k (y4.set y5.toNat t7) (IntKind.i64.wrap (y5 + 1)) (IntKind.i64.wrap (y6 + 1))) else (slices_DeleteFunc_impl_Spot_impl_Spot.l1 a1 k y4 y5 (IntKind.i64.wrap (y6 + 1)))) else (some (y4, y5))
def slices_DeleteFunc_impl_Spot_impl_Spot.f (k : Nat) (a0 : List Spot) (a1 : Spot → Option Bool) : Option (List Spot) := (slices_IndexFunc_impl_Spot_impl_Spot.f k a0 a1).bind fun t1 => if t1 = (-1) then (some a0) else ((slices_DeleteFunc_impl_Spot_impl_Spot.l1 a1 k a0 t1 (IntKind.i64.wrap (t1 + 1))).bind fun (y2, y3) => (chk (0 ≤ y3 ∧ y3 ≤ (y2.length : Int) ∧ (y2.length : Int) ≤ (y2.length : Int))).bind fun u11 => (chk (0 ≤ 0 ∧ 0 ≤ y3 ∧ y3 ≤ ((y2.take y3.toNat ++ List.replicate (y2.length - y3.toNat) (⟨0, 0⟩ : Spot)).length : Int))).bind fun u12 => some ((y2.take y3.toNat ++ List.replicate (y2.length - y3.toNat) (⟨0, 0⟩ : Spot)).take y3.toNat))
theorem slices_DeleteFunc_impl_Spot_impl_Spot.c (k : Nat) (w : World) (Aa0 : Option Addr) (ca0 : Nat) (a0 : List Spot) (na1 : Nat) (fsa1 capa1 : Array Value) (hb1 : hasBody Try.prog na1) (a1 : Spot → Option Bool) (hf1 : ∀ (z0 : Spot) (r : Bool), a1 z0 = some r → ∀ w', Chg (fpU [rowC cSpot Aa0 ca0 105 a0]) w w' → CV Try.prog na1 (fsa1 ++ [.agg (cSpot.enc z0).toArray].toArray ++ capa1) w' fun v w'' => v = .bool r ∧ Ext w' w'') (hin : St w (fpU [rowC cSpot Aa0 ca0 105 a0]) w [rowC cSpot Aa0 ca0 105 a0] []) (r : List Spot) (H : slices_DeleteFunc_impl_Spot_impl_Spot.f k a0 a1 = some r) :
    CV Try.prog 151 [.slice Aa0 a0.length ca0, .func (.func na1) fsa1 capa1].toArray w fun v w' => ∃ (A0 : Option Addr) (c0 : Nat), v = .slice A0 r.length c0 ∧ St w (fpU [rowC cSpot Aa0 ca0 105 a0]) w' [rowC cSpot A0 c0 105 r] [] := by
  have hS := hin
  unfold slices_DeleteFunc_impl_Spot_impl_Spot.f at H
  refine CV.body Try.func151 rfl Try.ntmps151 rfl ?_
  refine CJ.seq ?_
  refine CJ.region ?_
  refine OJ.pures tU_ok 1 rfl ?_
  refine OJ.nil (EJ.next ?_)
  refine CJ.seq ?_
  refine CJ.region ?_
  refine OJ.pures tU_ok 2 rfl ?_
  obtain ⟨t1, ht1, H⟩ := pbind H
  refine OJ.callF rfl rfl rfl rfl rfl hb172 rfl (slices_IndexFunc_impl_Spot_impl_Spot.c k _ Aa0 ca0 a0 (hS.rd (i := 0) rfl) (hS.le (i := 0) rfl) na1 fsa1 capa1 hb1 a1 (fun z0 r h w' hx => hf1 z0 r h w' (hS.chg.then hx (fun _ _ e => e.elim))) _ ht1) ?_
  rintro _ w1 ⟨rfl, hs⟩
  replace hS := hS.grow hs
  refine OJ.pures tU_ok 1 rfl ?_
  refine OJ.nil (EJ.next ?_)
  refine CJ.seq ?_
  refine CJ.seq ?_
  refine CJ.region ?_
  refine OJ.pures tU_ok 2 rfl ?_
  refine OJ.nil (EJ.next ?_)
  refine CJ.cond rfl (fun hb => ?_) (fun hb => ?_)
  · replace H := pif_t (of_decide_eq_true hb) H
    refine CJ.seq ?_
    refine CJ.region ?_
    refine OJ.pures tU_ok 2 rfl ?_
    refine OJ.nil (EJ.next ?_)
    refine CJ.ret (EJ.skR (?_))
    obtain rfl := Option.some.inj H
    exact EJ.fin rfl (.tmp rfl .nil) ⟨Aa0, ca0, rfl, hS.pick [0] [] rfl⟩
  · replace H := pif_f (of_decide_eq_false hb) H
    refine CJ.skip (EJ.next ?_)
    refine CJ.seq ?_
    refine CJ.seq ?_
    refine CJ.region ?_
    refine OJ.pures tU_ok 3 rfl ?_
    refine OJ.nil (EJ.next ?_)
    obtain ⟨j164, H, K164⟩ := pbind H
    refine CJ.cut1 (fun F w1 => ∃ (y2 : List Spot) (y3 : Int) , (some (y2, y3) : Option ((List Spot) × Int)) = some j164 ∧ F = [(0, .slice Aa0 y2.length ca0), (5, .int .i64 y3)] ∧ St w (fpU [rowC cSpot Aa0 ca0 105 a0]) w1 [rowC cSpot Aa0 ca0 105 y2] []) ?_ ?_
    · skip
      refine CJ.block ?_
      refine CJ.loop (fun k F w1 => ∃ (y4 : List Spot) (y5 : Int) (y6 : Int), F = [(0, .slice Aa0 y4.length ca0), (1, .func (.func na1) fsa1 capa1), (5, .int .i64 y5), (6, .int .i64 y6)] ∧ St w (fpU [rowC cSpot Aa0 ca0 105 a0]) w1 [rowC cSpot Aa0 ca0 105 y4] [] ∧ slices_DeleteFunc_impl_Spot_impl_Spot.l1 a1 k y4 y5 y6 = some j164) k (F' := [(0, .slice Aa0 a0.length ca0), (1, .func (.func na1) fsa1 capa1), (5, .int .i64 t1), (6, .int .i64 (IntKind.i64.wrap (t1 + 1)))]) ⟨rfl, rfl, rfl, rfl, trivial⟩ ⟨a0, t1, (IntKind.i64.wrap (t1 + 1)), rfl, hS.pick [0] [] rfl, H⟩ ?_
      rintro k F w1 ⟨y4, y5, y6, rfl, hS, H⟩
      cases k with
      | zero => rw [slices_DeleteFunc_impl_Spot_impl_Spot.l1] at H; cases H
      | succ k =>
        rw [slices_DeleteFunc_impl_Spot_impl_Spot.l1] at H
        refine CJ.seq ?_
        refine CJ.seq ?_
        refine CJ.region ?_
        refine OJ.pures tU_ok 4 rfl ?_
        refine OJ.nil (EJ.next ?_)
        refine CJ.cond rfl (fun hb => ?_) (fun hb => ?_)
        · replace H := pif_t (of_decide_eq_true hb) H
          refine CJ.skip (EJ.next ?_)
          refine CJ.seq ?_
          refine CJ.block ?_
          refine CJ.seq ?_
          refine CJ.region ?_
          refine OJ.pures tU_ok 2 rfl ?_
          obtain ⟨t7, ht7, H⟩ := pbind H
          obtain ⟨ad7, e7⟩ := (hS.rd (i := 0) rfl).some' ht7
          refine OJ.st rfl rfl rfl (SR.idxS tU_ok tI_ok rfl rfl rfl rfl e7 rfl (getI_some ht7).1) ?_
          refine OJ.st rfl rfl rfl (SR.load rfl rfl (fun w' hx => ldE tU_ok tI_ok rfl rfl rfl (CA.ext ((hS.rd (i := 0) rfl).at_ e7 ht7) hx) rfl)) ?_
          refine OJ.ef rfl rfl rfl (Ef.alloc hS tI_ok rfl rfl (cSpot.enc (⟨0, 0⟩ : Spot)) rfl) ?_
          rintro _ w1 ⟨b8, rfl, hS⟩
          refine OJ.es rfl rfl (Es.store tI_ok hS (i := 1) rfl rfl rfl rfl rfl rfl (vs := cSpot.enc t7) rfl (cSpot.len _) (cSpot.one _) (Nat.le_of_ble_eq_true rfl) (cSpot.enc t7) rfl) ?_
          intro w1 hS
          refine OJ.nil (EJ.next ?_)
          refine CJ.seq ?_
          refine CJ.region ?_
          refine OJ.pures tU_ok 1 rfl ?_
          refine OJ.st rfl rfl rfl (SR.load rfl rfl (fun w' hx => ldE tU_ok tI_ok rfl rfl rfl (CA.ext (hS.cells (i := 1) rfl) hx) rfl)) ?_
          obtain ⟨t9, ht9, H⟩ := pbind H
          refine OJ.call rfl rfl (Nat.le_of_ble_eq_true rfl) rfl rfl rfl hb1 rfl (hf1 t7 _ ht9 _ hS.chg) ?_
          rintro _ w1 ⟨rfl, hs⟩
          replace hS := hS.grow hs
          refine OJ.pures tU_ok 1 rfl ?_
          refine OJ.nil (EJ.next ?_)
          refine CJ.cond rfl (fun hb => ?_) (fun hb => ?_)
          · replace H := pif_t hb H
            refine CJ.seq ?_
            refine CJ.region ?_
            refine OJ.pures tU_ok 2 rfl ?_
            refine OJ.st rfl rfl rfl (SR.load rfl rfl (fun w' hx => ldE tU_ok tI_ok rfl rfl rfl (CA.ext (hS.cells (i := 1) rfl) hx) rfl)) ?_
            obtain ⟨t10, ht10, H⟩ := pbind H
            obtain ⟨ad10, e10⟩ := (hS.rd (i := 0) rfl).some' ht10
            refine OJ.st rfl rfl rfl (SR.idxS tU_ok tI_ok rfl rfl rfl rfl e10 rfl (getI_some ht10).1) ?_
            refine OJ.es rfl rfl (Es.storeR tI_ok hS (i := 0) (off := 0) rfl rfl ht10 e10 rfl rfl rfl rfl (vs := cSpot.enc t7) rfl (cSpot.len _) (cSpot.one _) (Nat.le_of_ble_eq_true rfl) t7 rfl) ?_
            intro w1 hS
            refine OJ.as (t := 0) rfl (show _ = (.slice Aa0 (y4.set y5.toNat t7).length ca0 : Value) by simp only [List.length_set]) ?_
            refine OJ.as (t := 17) rfl (show _ = (.slice Aa0 (y4.set y5.toNat t7).length ca0 : Value) by simp only [List.length_set]) ?_
            refine OJ.as (t := 22) rfl (show _ = (.slice Aa0 (y4.set y5.toNat t7).length ca0 : Value) by simp only [List.length_set]) ?_
            refine OJ.as (t := 30) rfl (show _ = (.slice Aa0 (y4.set y5.toNat t7).length ca0 : Value) by simp only [List.length_set]) ?_
            refine OJ.nil (EJ.next ?_)
            refine CJ.region ?_
            refine OJ.pures tU_ok 3 rfl ?_
            refine OJ.nil (EJ.blk (EJ.next ?_))
            refine CJ.region ?_
            refine OJ.pures tU_ok 3 rfl ?_
            refine OJ.nil ?_
            exact EJ.round k (F' := [(0, .slice Aa0 (y4.set y5.toNat t7).length ca0), (1, .func (.func na1) fsa1 capa1), (5, .int .i64 (IntKind.i64.wrap (y5 + 1))), (6, .int .i64 (IntKind.i64.wrap (y6 + 1)))]) ⟨rfl, rfl, rfl, rfl, trivial⟩ (Nat.lt_succ_self _) ⟨(y4.set y5.toNat t7), (IntKind.i64.wrap (y5 + 1)), (IntKind.i64.wrap (y6 + 1)), rfl, hS.pick [0] [] rfl, H⟩
          · replace H := pifb_f hb H
            refine CJ.skip (EJ.blk (EJ.next ?_))
            refine CJ.region ?_
            refine OJ.pures tU_ok 3 rfl ?_
            refine OJ.nil ?_
            exact EJ.round k (F' := [(0, .slice Aa0 y4.length ca0), (1, .func (.func na1) fsa1 capa1), (5, .int .i64 y5), (6, .int .i64 (IntKind.i64.wrap (y6 + 1)))]) ⟨rfl, rfl, rfl, rfl, trivial⟩ (Nat.lt_succ_self _) ⟨y4, y5, (IntKind.i64.wrap (y6 + 1)), rfl, hS.pick [0] [] rfl, H⟩
        · replace H := pif_f (of_decide_eq_false hb) H
          refine CJ.exit (EJ.skE (EJ.skE (EJ.hit (?_))))
          exact EJ.meet (F' := [(0, .slice Aa0 y4.length ca0), (5, .int .i64 y5)]) ⟨rfl, rfl, trivial⟩ ⟨y4, y5, H, rfl, hS.pick [0] [] rfl⟩
    · rintro F w1 ⟨y2, y3, he, rfl, hS⟩
      obtain rfl := Option.some.inj he
      have H := K164
      refine EJ.next ?_
      refine CJ.seq ?_
      refine CJ.region ?_
      refine OJ.pures tU_ok 2 rfl ?_
      obtain ⟨u11, hu11, H⟩ := pbind H
      refine OJ.st rfl rfl rfl (SR.cutS tU_ok tI_ok (y3.toNat) (y2.length) rfl rfl rfl rfl rfl rfl (.inr ⟨_, _, rfl, (chk_some hu11).1, rfl⟩) (.inl ⟨rfl, rfl⟩) (by have := (chk_some hu11); omega) (by have := (chk_some hu11); have := (hS.le (i := 0) rfl : y2.length ≤ ca0); omega)) ?_
      refine OJ.ewn rfl rfl (Ew.clear tU_ok tI_ok (C := cSpot) (lo := y3.toNat) hS (i := 0) rfl rfl rfl rfl rfl rfl rfl rfl rfl (⟨0, 0⟩ : Spot) rfl (by have := (chk_some hu11); omega) rfl) ?_
      rintro _ w1 ⟨rfl, hS⟩
      refine OJ.as (t := 0) rfl (show _ = (.slice Aa0 (y2.take y3.toNat ++ List.replicate (y2.length - y3.toNat) (⟨0, 0⟩ : Spot)).length ca0 : Value) by (rw [List.length_append, List.length_take, List.length_replicate, Nat.min_eq_left (by have := (chk_some hu11); omega), Nat.add_sub_cancel' (by have := (chk_some hu11); omega)])) ?_
      refine OJ.as (t := 36) rfl (show _ = (.slice Aa0 (y2.take y3.toNat ++ List.replicate (y2.length - y3.toNat) (⟨0, 0⟩ : Spot)).length ca0 : Value) by (rw [List.length_append, List.length_take, List.length_replicate, Nat.min_eq_left (by have := (chk_some hu11); omega), Nat.add_sub_cancel' (by have := (chk_some hu11); omega)])) ?_
      refine OJ.nil (EJ.next ?_)
      refine CJ.seq ?_
      refine CJ.region ?_
      refine OJ.pures tU_ok 2 rfl ?_
      obtain ⟨u12, hu12, H⟩ := pbind H
      refine OJ.st rfl rfl rfl (SR.cut0 tU_ok tI_ok rfl rfl rfl rfl rfl (by have := (chk_some hu12); omega) (by have := (chk_some hu12); have := (hS.le (i := 0) rfl : (y2.take y3.toNat ++ List.replicate (y2.length - y3.toNat) (⟨0, 0⟩ : Spot)).length ≤ ca0); omega)) ?_
      replace hS := hS.shrink (i := 0) (m := y3.toNat) rfl (by have := (chk_some hu12); omega)
      refine OJ.as (t := 41) rfl (show _ = (.slice Aa0 ((y2.take y3.toNat ++ List.replicate (y2.length - y3.toNat) (⟨0, 0⟩ : Spot)).take y3.toNat).length ca0 : Value) by rw [List.length_take, Nat.min_eq_left (by have := (chk_some hu12); omega)]) ?_
      refine OJ.pures tU_ok 1 rfl ?_
      refine OJ.nil (EJ.next ?_)
      refine CJ.ret (?_)
      obtain rfl := Option.some.inj H
      exact EJ.fin rfl (.tmp rfl .nil) ⟨Aa0, ca0, rfl, hS.pick [0] [] rfl⟩

def slices_Index_impl_Spot_impl_Spot.l1 (a0 : List Spot) (a1 : Spot) : Nat → Int → Option (Int ⊕ Unit)
  | 0, _ => none
  | k + 1, y2 => if y2 < (a0.length : Int) then ((getI a0 y2).bind fun t3 => if a1 = t3 then (some (Sum.inl y2)) else (slices_Index_impl_Spot_impl_Spot.l1 a0 a1 k (IntKind.i64.wrap (y2 + 1)))) else (some (Sum.inr ()))
def slices_Index_impl_Spot_impl_Spot.f (k : Nat) (a0 : List Spot) (a1 : Spot) : Option Int := (slices_Index_impl_Spot_impl_Spot.l1 a0 a1 k 0).bind fun s165 => match s165 with | .inl r => some r | .inr _ => some (-1)
theorem slices_Index_impl_Spot_impl_Spot.c (k : Nat) (w : World) (Aa0 : Option Addr) (ca0 : Nat) (a0 : List Spot) (hr0 : Rd cSpot w Aa0 a0) (hc0 : a0.length ≤ ca0) (a1 : Spot) (r : Int) (H : slices_Index_impl_Spot_impl_Spot.f k a0 a1 = some r) :
    CV Try.prog 174 [.slice Aa0 a0.length ca0, .agg (cSpot.enc a1).toArray].toArray w fun v w' => v = .int .i64 r ∧ Ext w w' := by
  have hS := ((St.init w no).param cSpot Aa0 ca0 a0 hr0 hc0)
  unfold slices_Index_impl_Spot_impl_Spot.f at H
  refine CV.body Try.func174 rfl Try.ntmps174 rfl ?_
  refine CJ.seq ?_
  refine CJ.region ?_
  refine OJ.ef rfl rfl rfl (Ef.box hS rfl rfl (cSpot.enc a1) rfl) ?_
  rintro _ w1 ⟨b1, rfl, hS⟩
  refine OJ.pures tU_ok 1 rfl ?_
  refine OJ.nil (EJ.next ?_)
  refine CJ.seq ?_
  refine CJ.seq ?_
  refine CJ.region ?_
  refine OJ.pures tU_ok 3 rfl ?_
  refine OJ.nil (EJ.next ?_)
  obtain ⟨j165, H, K165⟩ := pbind H
  refine CJ.cut1 (fun F w1 => (some (Sum.inr ()) : Option (Int ⊕ Unit)) = some j165 ∧ F = [] ∧ St w no w1 [] [roC cSpot Aa0 ca0 a0]) ?_ ?_
  · skip
    refine CJ.block ?_
    refine CJ.loop (fun k F w1 => ∃ (y2 : Int), F = [(0, .slice Aa0 a0.length ca0), (3, .pointer (some ⟨b1, 0, none⟩)), (7, .int .i64 (a0.length : Int)), (8, .int .i64 y2)] ∧ St w no w1 [box b1 (cSpot.enc a1) 105] [roC cSpot Aa0 ca0 a0] ∧ slices_Index_impl_Spot_impl_Spot.l1 a0 a1 k y2 = some j165) k (F' := [(0, .slice Aa0 a0.length ca0), (3, .pointer (some ⟨b1, 0, none⟩)), (7, .int .i64 (a0.length : Int)), (8, .int .i64 0)]) ⟨rfl, rfl, rfl, rfl, trivial⟩ ⟨0, rfl, hS.pick [0] [0] rfl, H⟩ ?_
    rintro k F w1 ⟨y2, rfl, hS, H⟩
    cases k with
    | zero => rw [slices_Index_impl_Spot_impl_Spot.l1] at H; cases H
    | succ k =>
      rw [slices_Index_impl_Spot_impl_Spot.l1] at H
      refine CJ.seq ?_
      refine CJ.region ?_
      refine OJ.pures tU_ok 1 rfl ?_
      refine OJ.nil (EJ.next ?_)
      refine CJ.seq ?_
      refine CJ.cond rfl (fun hb => ?_) (fun hb => ?_)
      · replace H := pif_t (of_decide_eq_true hb) H
        refine CJ.skip (EJ.next ?_)
        refine CJ.seq ?_
        refine CJ.block ?_
        refine CJ.seq ?_
        refine CJ.region ?_
        refine OJ.pures tU_ok 2 rfl ?_
        refine OJ.nil (EJ.next ?_)
        refine CJ.seq ?_
        refine CJ.draw [] [0, 1, 2, 3, 4, 5] mixed (by kernel_rfl) hS fun w1 hS => ?_
        refine DJ.st rfl rfl rfl rfl rfl (SR.load rfl rfl (fun w' hx => ldE tU_ok tI_ok rfl rfl rfl (CA.ext (hS.cells (i := 0) rfl) hx) rfl)) ?_
        refine DJ.pures tU_ok 2 rfl ?_
        obtain ⟨t3, ht3, H⟩ := pbind H
        obtain ⟨ad3, e3⟩ := (hS.rd' (i := 0) rfl).some' ht3
        refine DJ.st rfl rfl rfl rfl rfl (SR.idxS tU_ok tI_ok rfl rfl rfl rfl e3 rfl (getI_some ht3).1) ?_
        refine DJ.st rfl rfl rfl rfl rfl (SR.load rfl rfl (fun w' hx => ldE tU_ok tI_ok rfl rfl rfl (CA.ext ((hS.rd' (i := 0) rfl).at_ e3 ht3) hx) rfl)) ?_
        refine DJ.st rfl rfl rfl rfl rfl (SR.eqS eqT105 eqG105 rfl rfl rfl (rfl : _ = (cSpot.enc a1).toArray) (rfl : _ = (cSpot.enc t3).toArray)) ?_
        refine DJ.nil (EJ.next ?_)
        refine CJ.cond rfl (fun hb => ?_) (fun hb => ?_)
        · replace H := pif_t (of_decide_eq_true hb) H
          refine CJ.seq ?_
          refine CJ.region ?_
          refine OJ.pures tU_ok 2 rfl ?_
          refine OJ.nil (EJ.next ?_)
          refine CJ.ret (EJ.bkR (EJ.skR (EJ.skR (EJ.bkR (EJ.skR (EJ.skR (?_)))))))
          first | (obtain rfl := Option.some.inj H; have H := K165) | (obtain ⟨q165, H2, e165⟩ := pbind H; obtain rfl := Option.some.inj e165; obtain rfl := Option.some.inj K165; have H := H2)
          obtain rfl := Option.some.inj H
          exact EJ.fin rfl (.tmp rfl .nil) ⟨rfl, hS.ext⟩
        · replace H := pif_f (of_decide_eq_false hb) H
          refine CJ.skip (EJ.blk (EJ.next ?_))
          refine CJ.region ?_
          refine OJ.pures tU_ok 2 rfl ?_
          refine OJ.nil ?_
          exact EJ.round k (F' := [(0, .slice Aa0 a0.length ca0), (3, .pointer (some ⟨b1, 0, none⟩)), (7, .int .i64 (a0.length : Int)), (8, .int .i64 (IntKind.i64.wrap (y2 + 1)))]) ⟨rfl, rfl, rfl, rfl, trivial⟩ (Nat.lt_succ_self _) ⟨(IntKind.i64.wrap (y2 + 1)), rfl, hS.pick [0] [0] rfl, H⟩
      · replace H := pif_f (of_decide_eq_false hb) H
        refine CJ.exit (EJ.skE (EJ.skE (EJ.hit (?_))))
        exact EJ.meet (F' := []) trivial ⟨H, rfl, hS.pick [] [0] rfl⟩
  · rintro F w1 ⟨he, rfl, hS⟩
    obtain rfl := Option.some.inj he
    have H := K165
    refine EJ.next ?_
    refine CJ.seq ?_
    refine CJ.region ?_
    refine OJ.pures tU_ok 1 rfl ?_
    refine OJ.nil (EJ.next ?_)
    refine CJ.ret (?_)
    obtain rfl := Option.some.inj H
    exact EJ.fin rfl (.tmp rfl .nil) ⟨rfl, hS.ext⟩

def slices_Contains_impl_Spot_impl_Spot.f (k : Nat) (a0 : List Spot) (a1 : Spot) : Option Bool := (slices_Index_impl_Spot_impl_Spot.f k a0 a1).bind fun t2 => some (decide (0 ≤ t2))
theorem slices_Contains_impl_Spot_impl_Spot.c (k : Nat) (w : World) (Aa0 : Option Addr) (ca0 : Nat) (a0 : List Spot) (hr0 : Rd cSpot w Aa0 a0) (hc0 : a0.length ≤ ca0) (a1 : Spot) (r : Bool) (H : slices_Contains_impl_Spot_impl_Spot.f k a0 a1 = some r) :
    CV Try.prog 154 [.slice Aa0 a0.length ca0, .agg (cSpot.enc a1).toArray].toArray w fun v w' => v = .bool r ∧ Ext w w' := by
  have hS := ((St.init w no).param cSpot Aa0 ca0 a0 hr0 hc0)
  unfold slices_Contains_impl_Spot_impl_Spot.f at H
  refine CV.body Try.func154 rfl Try.ntmps154 rfl ?_
  refine CJ.seq ?_
  refine CJ.region ?_
  refine OJ.ef rfl rfl rfl (Ef.box hS rfl rfl (cSpot.enc a1) rfl) ?_
  rintro _ w1 ⟨b1, rfl, hS⟩
  refine OJ.pures tU_ok 1 rfl ?_
  refine OJ.nil (EJ.next ?_)
  refine CJ.seq ?_
  refine CJ.region ?_
  refine OJ.pures tU_ok 1 rfl ?_
  refine OJ.st rfl rfl rfl (SR.load rfl rfl (fun w' hx => ldE tU_ok tI_ok rfl rfl rfl (CA.ext (hS.cells (i := 0) rfl) hx) rfl)) ?_
  obtain ⟨t2, ht2, H⟩ := pbind H
  refine OJ.callF rfl rfl rfl rfl rfl hb174 rfl (slices_Index_impl_Spot_impl_Spot.c k _ Aa0 ca0 a0 (hS.rd' (i := 0) rfl) (hS.le' (i := 0) rfl) a1 _ ht2) ?_
  rintro _ w1 ⟨rfl, hs⟩
  replace hS := hS.grow hs
  refine OJ.pures tU_ok 2 rfl ?_
  refine OJ.nil (EJ.next ?_)
  refine CJ.ret (?_)
  obtain rfl := Option.some.inj H
  exact EJ.fin rfl (.tmp rfl .nil) ⟨rfl, hS.ext⟩

def impl_common_1.f (k : Nat) (a1 : List Spot) (a0 : Spot) : Option Bool := (slices_Contains_impl_Spot_impl_Spot.f k a1 a0).bind fun t2 => some (!t2)
theorem impl_common_1.c (k : Nat) (w : World) (Aa1 : Option Addr) (ca1 : Nat) (a1 : List Spot) (hr1 : Rd cSpot w Aa1 a1) (hc1 : a1.length ≤ ca1) (pa1 : Addr) (hp1 : CA w pa1 [.slice Aa1 a1.length ca1]) (a0 : Spot) (r : Bool) (H : impl_common_1.f k a1 a0 = some r) :
    CV Try.prog 153 [.agg (cSpot.enc a0).toArray, .pointer (some pa1)].toArray w fun v w' => v = .bool r ∧ Ext w w' := by
  have hS := (((St.init w no).param cSpot Aa1 ca1 a1 hr1 hc1).paramP pa1 [.slice Aa1 a1.length ca1] hp1)
  unfold impl_common_1.f at H
  refine CV.body Try.func153 rfl Try.ntmps153 rfl ?_
  refine CJ.seq ?_
  refine CJ.region ?_
  refine OJ.ef rfl rfl rfl (Ef.box hS rfl rfl (cSpot.enc a0) rfl) ?_
  rintro _ w1 ⟨b1, rfl, hS⟩
  refine OJ.pures tU_ok 1 rfl ?_
  refine OJ.nil (EJ.next ?_)
  refine CJ.seq ?_
  refine CJ.region ?_
  refine OJ.st rfl rfl rfl (SR.load rfl rfl (fun w' hx => ld1 tU_ok rfl rfl (CA.ext (hS.ca (i := 1) rfl) hx) rfl)) ?_
  refine OJ.st rfl rfl rfl (SR.load rfl rfl (fun w' hx => ldE tU_ok tI_ok rfl rfl rfl (CA.ext (hS.cells (i := 0) rfl) hx) rfl)) ?_
  obtain ⟨t2, ht2, H⟩ := pbind H
  refine OJ.callF rfl rfl rfl rfl rfl hb154 rfl (slices_Contains_impl_Spot_impl_Spot.c k _ Aa1 ca1 a1 (hS.rd' (i := 0) rfl) (hS.le' (i := 0) rfl) a0 _ ht2) ?_
  rintro _ w1 ⟨rfl, hs⟩
  replace hS := hS.grow hs
  refine OJ.pures tU_ok 2 rfl ?_
  refine OJ.nil (EJ.next ?_)
  refine CJ.ret (?_)
  obtain rfl := Option.some.inj H
  exact EJ.fin rfl (.tmp rfl .nil) ⟨rfl, hS.ext⟩

def impl_common.f (k : Nat) (a0 : List Spot) (a1 : List Spot) : Option (List Spot) := (slices_Clone_impl_Spot_impl_Spot.f a0).bind fun t2 => (slices_DeleteFunc_impl_Spot_impl_Spot.f k t2 (impl_common_1.f k a1)).bind fun t5 => some t5
theorem impl_common.c (k : Nat) (w : World) (Aa0 : Option Addr) (ca0 : Nat) (a0 : List Spot) (hr0 : Rd cSpot w Aa0 a0) (hc0 : a0.length ≤ ca0) (Aa1 : Option Addr) (ca1 : Nat) (a1 : List Spot) (hr1 : Rd cSpot w Aa1 a1) (hc1 : a1.length ≤ ca1) (r : List Spot) (H : impl_common.f k a0 a1 = some r) :
    CV Try.prog 107 [.slice Aa0 a0.length ca0, .slice Aa1 a1.length ca1].toArray w fun v w' => ∃ (A0 : Option Addr) (c0 : Nat), v = .slice A0 r.length c0 ∧ St w no w' [rowC cSpot A0 c0 105 r] [] := by
  have hS := (((St.init w no).param cSpot Aa0 ca0 a0 hr0 hc0).param cSpot Aa1 ca1 a1 hr1 hc1)
  unfold impl_common.f at H
  refine CV.body Try.func107 rfl Try.ntmps107 rfl ?_
  refine CJ.seq ?_
  refine CJ.region ?_
  refine OJ.ef rfl rfl rfl (Ef.box hS rfl rfl ([.slice Aa1 a1.length ca1]) rfl) ?_
  rintro _ w1 ⟨b1, rfl, hS⟩
  refine OJ.pures tU_ok 1 rfl ?_
  refine OJ.nil (EJ.next ?_)
  refine CJ.seq ?_
  refine CJ.region ?_
  refine OJ.pures tU_ok 1 rfl ?_
  obtain ⟨t2, ht2, H⟩ := pbind H
  refine OJ.callF rfl rfl rfl rfl rfl hb152 rfl (slices_Clone_impl_Spot_impl_Spot.c _ Aa0 ca0 a0 (hS.rd' (i := 0) rfl) (hS.le' (i := 0) rfl) _ ht2) ?_
  rintro _ w1 ⟨A3, c4, rfl, hs⟩
  replace hS := hS.addN hs
  refine OJ.pures tU_ok 1 rfl ?_
  obtain ⟨t5, ht5, H⟩ := pbind H
  refine OJ.callF rfl rfl rfl rfl rfl hb151 rfl (slices_DeleteFunc_impl_Spot_impl_Spot.c k _ A3 c4 t2 153 #[] #[.pointer (some ⟨b1, 0, none⟩)] hb153 (impl_common_1.f k a1) (fun z0 r h w' hx => CV.cast (impl_common_1.c k w' Aa1 ca1 a1 (roC.rd (hS.stayR [1] hx (j := 1) rfl)) (hS.le' (i := 1) rfl) ⟨b1, 0, none⟩ (box.ca (hS.stayL [1] hx (j := 0) rfl rfl))  z0 r h) (by simp)) ((hS.subs [1] [] [] rfl).pick [0] [] rfl) _ ht5) ?_
  rintro _ w1 ⟨A6, c7, rfl, hs⟩
  replace hS := hS.back' [] [1] rfl rfl [] [rowC cSpot A6 c7 105 t5] [] hs trivial (fun _ h => by cases h) (.inr rfl)
  refine OJ.pures tU_ok 1 rfl ?_
  refine OJ.nil (EJ.next ?_)
  refine CJ.ret (?_)
  obtain rfl := Option.some.inj H
  exact EJ.fin rfl (.tmp rfl .nil) ⟨A6, c7, rfl, hS.pick [2] [] rfl⟩
end Go.Proofs.Ytpaciifeklccfaa
