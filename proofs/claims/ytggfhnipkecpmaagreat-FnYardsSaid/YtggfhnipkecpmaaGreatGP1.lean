/-
  What the functions come to.
-/
import Derived.Test.YtggfhnipkecpmaaGreatGP0
namespace Go.Proofs.YtggfhnipkecpmaaGreat
open G
set_option linter.unusedVariables false
set_option linter.unusedSimpArgs false
set_option maxRecDepth 100000
set_option maxHeartbeats 4000000
def spec_l01Steps.l2 (t17 : Spot) (t19 : List Spot) : Nat → (Arr 10 (Arr 10 Int)) → (List Spot) → Int → Option ((Arr 10 (Arr 10 Int)) × (List Spot))
  | 0, _, _, _ => none
  | k + 1, y26, y27, y30 => if y30 < (t19.length : Int) then ((getI t19 y30).bind fun t31 => (getI t19 y30).bind fun t32 => (getI y26.l t31.Y).bind fun t33 => (getI t33.l t32.X).bind fun t34 => if t34 = 0 then ((getI t19 y30).bind fun t35 => (getI t19 y30).bind fun t36 => (getI y26.l t17.Y).bind fun t37 => (getI t37.l t17.X).bind fun t38 => (getI y26.l t35.Y).bind fun t39 => (getI t39.l t36.X).bind fun t40 => (getI t19 y30).bind fun t41 => (chk (y27.length + ([t41] : List Spot).length ≤ 4294967296)).bind fun u43 => spec_l01Steps.l2 t17 t19 k (aset y26 t35.Y.toNat (aset t39 t36.X.toNat (IntKind.i64.wrap (t38 + 1)))) (y27 ++ ([t41] : List Spot)) (IntKind.i64.wrap (y30 + 1))) else (spec_l01Steps.l2 t17 t19 k y26 y27 (IntKind.i64.wrap (y30 + 1)))) else (some (y26, y27))
def spec_l01Steps.l1 (a0 : Pasture) : Nat → (Arr 10 (Arr 10 Int)) → (List Spot) → Int → Option (Arr 10 (Arr 10 Int))
  | 0, _, _, _ => none
  | k + 1, y8, y9, y12 => if y12 < (y9.length : Int) then (((getI y9 y12).bind fun t17 => (spec_l01Beside.f k a0 t17).bind fun t19 => (spec_l01Steps.l2 t17 t19 k y8 y9 0).bind fun (y22, y23) => some (y22, y23)).bind fun (y13, y14) => spec_l01Steps.l1 a0 k y13 y14 (IntKind.i64.wrap (y12 + 1))) else (some y8)
def spec_l01Steps.f (k : Nat) (a0 : Pasture) (a1 : Spot) : Option (Arr 10 (Arr 10 Int)) := (getI (Arr.mk' (Arr.mk' 0 : Arr 10 Int) : Arr 10 (Arr 10 Int)).l a1.Y).bind fun t4 => (getI t4.l a1.X).bind fun t5 => (spec_l01Steps.l1 a0 k (aset (Arr.mk' (Arr.mk' 0 : Arr 10 Int) : Arr 10 (Arr 10 Int)) a1.Y.toNat (aset t4 a1.X.toNat 1)) ([a1] : List Spot) 0).bind fun y7 => some y7
theorem spec_l01Steps.c (k : Nat) (w : World) (pa0 : Addr) (a0 : Pasture) (hp0 : CA w pa0 (cPasture.enc a0)) (a1 : Spot) (r : Arr 10 (Arr 10 Int)) (H : spec_l01Steps.f k a0 a1 = some r) :
    CV Tryz.prog 51 [.pointer (some pa0), .agg (cSpot.enc a1).toArray].toArray w fun v w' => v = .agg ((carr 10 (carr 10 (ci .i64))).enc r).toArray ∧ Ext w w' := by
  have hS := ((St.init w no).paramP pa0 (cPasture.enc a0) hp0)
  unfold spec_l01Steps.f at H
  refine CV.body Tryz.func51 rfl Tryz.ntmps51 rfl ?_
  refine CJ.seq ?_
  refine CJ.region ?_
  refine OJ.ef rfl rfl rfl (Ef.box hS rfl rfl (cSpot.enc a1) rfl) ?_
  rintro _ w1 ⟨b1, rfl, hS⟩
  refine OJ.ef rfl rfl rfl (Ef.alloc hS tI_ok rfl rfl ((carr 10 (carr 10 (ci .i64))).enc (Arr.mk' (Arr.mk' 0 : Arr 10 Int) : Arr 10 (Arr 10 Int))) (by kernel_rfl)) ?_
  rintro _ w1 ⟨b2, rfl, hS⟩
  refine OJ.nil (EJ.next ?_)
  refine CJ.seq ?_
  refine CJ.region ?_
  refine OJ.st rfl rfl rfl (SR.buildA tU_ok tI_ok rfl rfl rfl rfl (zs := [.int .i64 0, .int .i64 0, .int .i64 0, .int .i64 0, .int .i64 0, .int .i64 0, .int .i64 0, .int .i64 0, .int .i64 0, .int .i64 0, .int .i64 0, .int .i64 0, .int .i64 0, .int .i64 0, .int .i64 0, .int .i64 0, .int .i64 0, .int .i64 0, .int .i64 0, .int .i64 0, .int .i64 0, .int .i64 0, .int .i64 0, .int .i64 0, .int .i64 0, .int .i64 0, .int .i64 0, .int .i64 0, .int .i64 0, .int .i64 0, .int .i64 0, .int .i64 0, .int .i64 0, .int .i64 0, .int .i64 0, .int .i64 0, .int .i64 0, .int .i64 0, .int .i64 0, .int .i64 0, .int .i64 0, .int .i64 0, .int .i64 0, .int .i64 0, .int .i64 0, .int .i64 0, .int .i64 0, .int .i64 0, .int .i64 0, .int .i64 0, .int .i64 0, .int .i64 0, .int .i64 0, .int .i64 0, .int .i64 0, .int .i64 0, .int .i64 0, .int .i64 0, .int .i64 0, .int .i64 0, .int .i64 0, .int .i64 0, .int .i64 0, .int .i64 0, .int .i64 0, .int .i64 0, .int .i64 0, .int .i64 0, .int .i64 0, .int .i64 0, .int .i64 0, .int .i64 0, .int .i64 0, .int .i64 0, .int .i64 0, .int .i64 0, .int .i64 0, .int .i64 0, .int .i64 0, .int .i64 0, .int .i64 0, .int .i64 0, .int .i64 0, .int .i64 0, .int .i64 0, .int .i64 0, .int .i64 0, .int .i64 0, .int .i64 0, .int .i64 0, .int .i64 0, .int .i64 0, .int .i64 0, .int .i64 0, .int .i64 0, .int .i64 0, .int .i64 0, .int .i64 0, .int .i64 0, .int .i64 0]) rfl rfl ((carr 10 (carr 10 (ci .i64))).enc (Arr.mk' (Arr.mk' 0 : Arr 10 Int) : Arr 10 (Arr 10 Int))) (by kernel_rfl)) ?_
  refine OJ.ef rfl rfl rfl (Ef.alloc hS tI_ok rfl rfl ((carr 10 (carr 10 (ci .i64))).enc (Arr.mk' (Arr.mk' 0 : Arr 10 Int) : Arr 10 (Arr 10 Int))) (by kernel_rfl)) ?_
  rintro _ w1 ⟨b3, rfl, hS⟩
  refine OJ.es rfl rfl (Es.put tI_ok hS (i := 2) rfl rfl rfl rfl rfl (vs := (carr 10 (carr 10 (ci .i64))).enc (Arr.mk' (Arr.mk' 0 : Arr 10 Int) : Arr 10 (Arr 10 Int))) rfl ((carr 10 (carr 10 (ci .i64))).len _) ((carr 10 (carr 10 (ci .i64))).one _) (Put.all (carr 10 (carr 10 (ci .i64))) (Arr.mk' (Arr.mk' 0 : Arr 10 Int) : Arr 10 (Arr 10 Int)) (Arr.mk' (Arr.mk' 0 : Arr 10 Int) : Arr 10 (Arr 10 Int))) (by (try simp only [add_lit, Nat.add_assoc, Nat.zero_add, Nat.add_zero]) <;> rfl)) ?_
  intro w1 hS
  refine OJ.nil (EJ.next ?_)
  refine CJ.seq ?_
  refine CJ.draw [] [0, 1, 2, 3, 4, 5, 6] mixed (by kernel_rfl) hS fun w1 hS => ?_
  refine DJ.st rfl rfl rfl rfl rfl (SR.fieldAddr tU_ok tI_ok rfl rfl rfl rfl rfl rfl) ?_
  refine DJ.st rfl rfl rfl rfl rfl (SR.load rfl rfl (fun w' hx => ld1 tU_ok rfl rfl (CA.ext (CA.sub (hS.cells (i := 0) rfl) 1) hx) rfl)) ?_
  refine DJ.st rfl rfl rfl rfl rfl (SR.fieldAddr tU_ok tI_ok rfl rfl rfl rfl rfl rfl) ?_
  refine DJ.st rfl rfl rfl rfl rfl (SR.load rfl rfl (fun w' hx => ld1 tU_ok rfl rfl (CA.ext (CA.sub (hS.cells (i := 0) rfl) 0) hx) rfl)) ?_
  obtain ⟨t4, ht4, H⟩ := pbind H
  refine DJ.st rfl rfl rfl rfl rfl (SR.idxA tU_ok tI_ok rfl rfl rfl rfl rfl (Arr.lt ht4)) ?_
  obtain ⟨t5, ht5, H⟩ := pbind H
  refine DJ.st rfl rfl rfl rfl rfl (SR.idxA tU_ok tI_ok rfl rfl rfl rfl rfl (Arr.lt ht5)) ?_
  refine DJ.es rfl rfl rfl rfl (Es.put tI_ok hS (i := 2) rfl rfl rfl rfl rfl (vs := (ci .i64).enc 1) rfl rfl (one1 rfl) (Put.idx (Put.idx (Put.all (ci .i64) t5 1) ht5) ht4) (by (try simp only [add_lit, Nat.add_assoc, Nat.zero_add, Nat.add_zero]) <;> rfl)) ?_
  intro w1 hS
  refine DJ.nil (EJ.next ?_)
  refine CJ.seq ?_
  refine CJ.region ?_
  refine OJ.st rfl rfl rfl (SR.load rfl rfl (fun w' hx => ldE tU_ok tI_ok rfl rfl rfl (CA.ext (hS.cells (i := 0) rfl) hx) rfl)) ?_
  refine OJ.ef rfl rfl rfl (Ef.lit tU_ok tI_ok hS (C := cSpot) rfl rfl rfl rfl rfl rfl ([a1] : List Spot) rfl rfl rfl rfl) ?_
  rintro _ w1 ⟨A6, rfl, hS⟩
  refine OJ.pures tU_ok 1 rfl ?_
  refine OJ.nil (EJ.next ?_)
  refine CJ.seq ?_
  refine CJ.seq ?_
  refine CJ.region ?_
  refine OJ.pures tU_ok 1 rfl ?_
  refine OJ.nil (EJ.next ?_)
  obtain ⟨j157, H, K157⟩ := pbind H
  refine CJ.cut1 (fun F w1 => ∃ (y7 : Arr 10 (Arr 10 Int)) , (some y7 : Option (Arr 10 (Arr 10 Int))) = some j157 ∧ F = [(4, .pointer (some ⟨b2, 0, none⟩)), (5, .pointer (some ⟨b3, 0, none⟩))] ∧ St w no w1 [box b2 ((carr 10 (carr 10 (ci .i64))).enc (Arr.mk' (Arr.mk' 0 : Arr 10 Int) : Arr 10 (Arr 10 Int))) 64, box b3 ((carr 10 (carr 10 (ci .i64))).enc y7) 64] [roP pa0 (cPasture.enc a0)]) ?_ ?_
  · skip
    refine CJ.block ?_
    refine CJ.loop (fun k F w1 => ∃ (y8 : Arr 10 (Arr 10 Int)) (y9 : List Spot) (y12 : Int) (A10 : Option Addr) (c11 : Nat), F = [(0, .pointer (some pa0)), (4, .pointer (some ⟨b2, 0, none⟩)), (5, .pointer (some ⟨b3, 0, none⟩)), (6, .slice A10 y9.length c11), (7, .int .i64 y12)] ∧ St w no w1 [box b2 ((carr 10 (carr 10 (ci .i64))).enc (Arr.mk' (Arr.mk' 0 : Arr 10 Int) : Arr 10 (Arr 10 Int))) 64, box b3 ((carr 10 (carr 10 (ci .i64))).enc y8) 64, rowC cSpot A10 c11 46 y9] [roP pa0 (cPasture.enc a0)] ∧ spec_l01Steps.l1 a0 k y8 y9 y12 = some j157) k (F' := [(0, .pointer (some pa0)), (4, .pointer (some ⟨b2, 0, none⟩)), (5, .pointer (some ⟨b3, 0, none⟩)), (6, .slice A6 ([a1] : List Spot).length (([a1] : List Spot).length)), (7, .int .i64 0)]) ⟨rfl, rfl, rfl, rfl, rfl, trivial⟩ ⟨(aset (Arr.mk' (Arr.mk' 0 : Arr 10 Int) : Arr 10 (Arr 10 Int)) a1.Y.toNat (aset t4 a1.X.toNat 1)), ([a1] : List Spot), 0, A6, (([a1] : List Spot).length), rfl, hS.pick [1, 2, 3] [0] rfl, H⟩ ?_
    rintro k F w1 ⟨y8, y9, y12, A10, c11, rfl, hS, H⟩
    cases k with
    | zero => rw [spec_l01Steps.l1] at H; cases H
    | succ k =>
      rw [spec_l01Steps.l1] at H
      refine CJ.seq ?_
      refine CJ.seq ?_
      refine CJ.region ?_
      refine OJ.pures tU_ok 4 rfl ?_
      refine OJ.nil (EJ.next ?_)
      refine CJ.cond rfl (fun hb => ?_) (fun hb => ?_)
      · replace H := pif_t (of_decide_eq_true hb) H
        refine CJ.skip (EJ.next ?_)
        obtain ⟨j165, H, K165⟩ := pbind H
        refine CJ.cut (fun F w1 => ∃ (y13 : Arr 10 (Arr 10 Int)) (y14 : List Spot) (A15 : Option Addr) (c16 : Nat), (some (y13, y14) : Option ((Arr 10 (Arr 10 Int)) × (List Spot))) = some j165 ∧ F = [(0, .pointer (some pa0)), (4, .pointer (some ⟨b2, 0, none⟩)), (5, .pointer (some ⟨b3, 0, none⟩)), (6, .slice A15 y14.length c16), (7, .int .i64 y12)] ∧ St w no w1 [box b2 ((carr 10 (carr 10 (ci .i64))).enc (Arr.mk' (Arr.mk' 0 : Arr 10 Int) : Arr 10 (Arr 10 Int))) 64, box b3 ((carr 10 (carr 10 (ci .i64))).enc y13) 64, rowC cSpot A15 c16 46 y14] [roP pa0 (cPasture.enc a0)]) ?_ ?_
        · skip
          refine CJ.block ?_
          refine CJ.seq ?_
          refine CJ.region ?_
          refine OJ.pures tU_ok 2 rfl ?_
          obtain ⟨t17, ht17, H⟩ := pbind H
          obtain ⟨ad17, e17⟩ := (hS.rd (i := 2) rfl).some' ht17
          refine OJ.st rfl rfl rfl (SR.idxS tU_ok tI_ok rfl rfl rfl rfl e17 rfl (getI_some ht17).1) ?_
          refine OJ.st rfl rfl rfl (SR.load rfl rfl (fun w' hx => ldE tU_ok tI_ok rfl rfl rfl (CA.ext ((hS.rd (i := 2) rfl).at_ e17 ht17) hx) rfl)) ?_
          refine OJ.ef rfl rfl rfl (Ef.alloc hS tI_ok rfl rfl (cSpot.enc (⟨0, 0⟩ : Spot)) rfl) ?_
          rintro _ w1 ⟨b18, rfl, hS⟩
          refine OJ.es rfl rfl (Es.store tI_ok hS (i := 3) rfl rfl rfl rfl rfl rfl (vs := cSpot.enc t17) rfl (cSpot.len _) (cSpot.one _) (Nat.le_of_ble_eq_true rfl) (cSpot.enc t17) rfl) ?_
          intro w1 hS
          refine OJ.nil (EJ.next ?_)
          refine CJ.seq ?_
          refine CJ.region ?_
          refine OJ.pures tU_ok 1 rfl ?_
          refine OJ.st rfl rfl rfl (SR.load rfl rfl (fun w' hx => ldE tU_ok tI_ok rfl rfl rfl (CA.ext (hS.cells (i := 3) rfl) hx) rfl)) ?_
          obtain ⟨t19, ht19, H⟩ := pbind H
          refine OJ.callF rfl rfl rfl rfl rfl hb52 rfl (spec_l01Beside.c k _ _ a0 (hS.ca (i := 0) rfl) t17 _ ht19) ?_
          rintro _ w1 ⟨A20, c21, rfl, hs⟩
          replace hS := hS.addN hs
          refine OJ.pures tU_ok 1 rfl ?_
          refine OJ.nil (EJ.next ?_)
          refine CJ.seq ?_
          refine CJ.region ?_
          refine OJ.pures tU_ok 1 rfl ?_
          refine OJ.nil (EJ.next ?_)
          obtain ⟨j167, H, K167⟩ := pbind H
          refine CJ.cut1 (fun F w1 => ∃ (y22 : Arr 10 (Arr 10 Int)) (y23 : List Spot) (A24 : Option Addr) (c25 : Nat), (some (y22, y23) : Option ((Arr 10 (Arr 10 Int)) × (List Spot))) = some j167 ∧ F = [(0, .pointer (some pa0)), (4, .pointer (some ⟨b2, 0, none⟩)), (5, .pointer (some ⟨b3, 0, none⟩)), (6, .slice A24 y23.length c25), (7, .int .i64 y12)] ∧ St w no w1 [box b2 ((carr 10 (carr 10 (ci .i64))).enc (Arr.mk' (Arr.mk' 0 : Arr 10 Int) : Arr 10 (Arr 10 Int))) 64, box b3 ((carr 10 (carr 10 (ci .i64))).enc y22) 64, rowC cSpot A24 c25 46 y23] [roP pa0 (cPasture.enc a0)]) ?_ ?_
          · skip
            refine CJ.block ?_
            refine CJ.loop (fun k F w1 => ∃ (y26 : Arr 10 (Arr 10 Int)) (y27 : List Spot) (y30 : Int) (A28 : Option Addr) (c29 : Nat), F = [(0, .pointer (some pa0)), (4, .pointer (some ⟨b2, 0, none⟩)), (5, .pointer (some ⟨b3, 0, none⟩)), (6, .slice A28 y27.length c29), (7, .int .i64 y12), (8, .pointer (some ⟨b18, 0, none⟩)), (9, .slice A20 t19.length c21), (10, .int .i64 y30)] ∧ St w no w1 [box b2 ((carr 10 (carr 10 (ci .i64))).enc (Arr.mk' (Arr.mk' 0 : Arr 10 Int) : Arr 10 (Arr 10 Int))) 64, box b3 ((carr 10 (carr 10 (ci .i64))).enc y26) 64, rowC cSpot A28 c29 46 y27, box b18 (cSpot.enc t17) 46, rowC cSpot A20 c21 46 t19] [roP pa0 (cPasture.enc a0)] ∧ spec_l01Steps.l2 t17 t19 k y26 y27 y30 = some j167) k (F' := [(0, .pointer (some pa0)), (4, .pointer (some ⟨b2, 0, none⟩)), (5, .pointer (some ⟨b3, 0, none⟩)), (6, .slice A10 y9.length c11), (7, .int .i64 y12), (8, .pointer (some ⟨b18, 0, none⟩)), (9, .slice A20 t19.length c21), (10, .int .i64 0)]) ⟨rfl, rfl, rfl, rfl, rfl, rfl, rfl, rfl, trivial⟩ ⟨y8, y9, 0, A10, c11, rfl, hS.pick [0, 1, 2, 3, 4] [0] rfl, H⟩ ?_
            rintro k F w1 ⟨y26, y27, y30, A28, c29, rfl, hS, H⟩
            cases k with
            | zero => rw [spec_l01Steps.l2] at H; cases H
            | succ k =>
              rw [spec_l01Steps.l2] at H
              refine CJ.seq ?_
              refine CJ.seq ?_
              refine CJ.region ?_
              refine OJ.pures tU_ok 4 rfl ?_
              refine OJ.nil (EJ.next ?_)
              refine CJ.cond rfl (fun hb => ?_) (fun hb => ?_)
              · replace H := pif_t (of_decide_eq_true hb) H
                refine CJ.skip (EJ.next ?_)
                refine CJ.seq ?_
                refine CJ.block ?_
                refine CJ.seq ?_
                refine CJ.draw [] [0, 1, 2, 3, 4, 5, 6, 7, 8, 9, 10, 11, 12, 13] mixed (by kernel_rfl) hS fun w1 hS => ?_
                refine DJ.pures tU_ok 2 rfl ?_
                obtain ⟨t31, ht31, H⟩ := pbind H
                obtain ⟨ad31, e31⟩ := (hS.rd (i := 4) rfl).some' ht31
                refine DJ.st rfl rfl rfl rfl rfl (SR.idxS tU_ok tI_ok rfl rfl rfl rfl e31 rfl (getI_some ht31).1) ?_
                refine DJ.st rfl rfl rfl rfl rfl (SR.fieldAddr tU_ok tI_ok rfl rfl rfl rfl rfl rfl) ?_
                refine DJ.st rfl rfl rfl rfl rfl (SR.load rfl rfl (fun w' hx => ld1 tU_ok rfl rfl (CA.ext (CA.sub ((hS.rd (i := 4) rfl).at_ e31 ht31) 1) hx) rfl)) ?_
                refine DJ.pures tU_ok 2 rfl ?_
                obtain ⟨t32, ht32, H⟩ := pbind H
                obtain ⟨ad32, e32⟩ := (hS.rd (i := 4) rfl).some' ht32
                refine DJ.st rfl rfl rfl rfl rfl (SR.idxS tU_ok tI_ok rfl rfl rfl rfl e32 rfl (getI_some ht32).1) ?_
                refine DJ.st rfl rfl rfl rfl rfl (SR.fieldAddr tU_ok tI_ok rfl rfl rfl rfl rfl rfl) ?_
                refine DJ.st rfl rfl rfl rfl rfl (SR.load rfl rfl (fun w' hx => ld1 tU_ok rfl rfl (CA.ext (CA.sub ((hS.rd (i := 4) rfl).at_ e32 ht32) 0) hx) rfl)) ?_
                obtain ⟨t33, ht33, H⟩ := pbind H
                refine DJ.st rfl rfl rfl rfl rfl (SR.idxA tU_ok tI_ok rfl rfl rfl rfl rfl (Arr.lt ht33)) ?_
                obtain ⟨t34, ht34, H⟩ := pbind H
                refine DJ.st rfl rfl rfl rfl rfl (SR.idxA tU_ok tI_ok rfl rfl rfl rfl rfl (Arr.lt ht34)) ?_
                refine DJ.st rfl rfl rfl rfl rfl (SR.load rfl rfl (fun w' hx => ld1 tU_ok rfl rfl (CA.ext (CA.idx (CA.idx (hS.cells (i := 1) rfl) ht33) ht34) hx) rfl)) ?_
                refine DJ.pures tU_ok 1 rfl ?_
                refine DJ.nil (EJ.next ?_)
                refine CJ.cond rfl (fun hb => ?_) (fun hb => ?_)
                · replace H := pif_t (of_decide_eq_true hb) H
                  refine CJ.seq ?_
                  refine CJ.draw [] [0, 1, 2, 3, 4, 5, 6, 7, 8, 9, 10, 11, 12, 13, 14, 15, 16, 17, 18, 19, 20] mixed (by kernel_rfl) hS fun w1 hS => ?_
                  refine DJ.pures tU_ok 2 rfl ?_
                  obtain ⟨t35, ht35, H⟩ := pbind H
                  obtain ⟨ad35, e35⟩ := (hS.rd (i := 4) rfl).some' ht35
                  refine DJ.st rfl rfl rfl rfl rfl (SR.idxS tU_ok tI_ok rfl rfl rfl rfl e35 rfl (getI_some ht35).1) ?_
                  refine DJ.st rfl rfl rfl rfl rfl (SR.fieldAddr tU_ok tI_ok rfl rfl rfl rfl rfl rfl) ?_
                  refine DJ.st rfl rfl rfl rfl rfl (SR.load rfl rfl (fun w' hx => ld1 tU_ok rfl rfl (CA.ext (CA.sub ((hS.rd (i := 4) rfl).at_ e35 ht35) 1) hx) rfl)) ?_
                  refine DJ.pures tU_ok 2 rfl ?_
                  obtain ⟨t36, ht36, H⟩ := pbind H
                  obtain ⟨ad36, e36⟩ := (hS.rd (i := 4) rfl).some' ht36
                  refine DJ.st rfl rfl rfl rfl rfl (SR.idxS tU_ok tI_ok rfl rfl rfl rfl e36 rfl (getI_some ht36).1) ?_
                  refine DJ.st rfl rfl rfl rfl rfl (SR.fieldAddr tU_ok tI_ok rfl rfl rfl rfl rfl rfl) ?_
                  refine DJ.st rfl rfl rfl rfl rfl (SR.load rfl rfl (fun w' hx => ld1 tU_ok rfl rfl (CA.ext (CA.sub ((hS.rd (i := 4) rfl).at_ e36 ht36) 0) hx) rfl)) ?_
                  refine DJ.st rfl rfl rfl rfl rfl (SR.fieldAddr tU_ok tI_ok rfl rfl rfl rfl rfl rfl) ?_
                  refine DJ.st rfl rfl rfl rfl rfl (SR.load rfl rfl (fun w' hx => ld1 tU_ok rfl rfl (CA.ext (CA.sub (hS.cells (i := 3) rfl) 1) hx) rfl)) ?_
                  refine DJ.st rfl rfl rfl rfl rfl (SR.fieldAddr tU_ok tI_ok rfl rfl rfl rfl rfl rfl) ?_
                  refine DJ.st rfl rfl rfl rfl rfl (SR.load rfl rfl (fun w' hx => ld1 tU_ok rfl rfl (CA.ext (CA.sub (hS.cells (i := 3) rfl) 0) hx) rfl)) ?_
                  obtain ⟨t37, ht37, H⟩ := pbind H
                  refine DJ.st rfl rfl rfl rfl rfl (SR.idxA tU_ok tI_ok rfl rfl rfl rfl rfl (Arr.lt ht37)) ?_
                  obtain ⟨t38, ht38, H⟩ := pbind H
                  refine DJ.st rfl rfl rfl rfl rfl (SR.idxA tU_ok tI_ok rfl rfl rfl rfl rfl (Arr.lt ht38)) ?_
                  refine DJ.st rfl rfl rfl rfl rfl (SR.load rfl rfl (fun w' hx => ld1 tU_ok rfl rfl (CA.ext (CA.idx (CA.idx (hS.cells (i := 1) rfl) ht37) ht38) hx) rfl)) ?_
                  refine DJ.pures tU_ok 1 rfl ?_
                  obtain ⟨t39, ht39, H⟩ := pbind H
                  refine DJ.st rfl rfl rfl rfl rfl (SR.idxA tU_ok tI_ok rfl rfl rfl rfl rfl (Arr.lt ht39)) ?_
                  obtain ⟨t40, ht40, H⟩ := pbind H
                  refine DJ.st rfl rfl rfl rfl rfl (SR.idxA tU_ok tI_ok rfl rfl rfl rfl rfl (Arr.lt ht40)) ?_
                  refine DJ.es rfl rfl rfl rfl (Es.put tI_ok hS (i := 1) rfl rfl rfl rfl rfl (vs := (ci .i64).enc (IntKind.i64.wrap (t38 + 1))) rfl rfl (one1 rfl) (Put.idx (Put.idx (Put.all (ci .i64) t40 (IntKind.i64.wrap (t38 + 1))) ht40) ht39) (by (try simp only [add_lit, Nat.add_assoc, Nat.zero_add, Nat.add_zero]) <;> rfl)) ?_
                  intro w1 hS
                  refine DJ.nil (EJ.next ?_)
                  refine CJ.region ?_
                  refine OJ.pures tU_ok 3 rfl ?_
                  obtain ⟨t41, ht41, H⟩ := pbind H
                  obtain ⟨ad41, e41⟩ := (hS.rd (i := 4) rfl).some' ht41
                  refine OJ.st rfl rfl rfl (SR.idxS tU_ok tI_ok rfl rfl rfl rfl e41 rfl (getI_some ht41).1) ?_
                  refine OJ.st rfl rfl rfl (SR.load rfl rfl (fun w' hx => ldE tU_ok tI_ok rfl rfl rfl (CA.ext ((hS.rd (i := 4) rfl).at_ e41 ht41) hx) rfl)) ?_
                  refine OJ.ef rfl rfl rfl (Ef.lit tU_ok tI_ok hS (C := cSpot) rfl rfl rfl rfl rfl rfl ([t41] : List Spot) rfl rfl rfl rfl) ?_
                  rintro _ w1 ⟨A42, rfl, hS⟩
                  obtain ⟨u43, hu43, H⟩ := pbind H
                  refine OJ.ew rfl rfl rfl (Ew.append tU_ok tI_ok (C := cSpot) (xs := y27) (ys := ([t41] : List Spot)) hS (i := 2) rfl rfl rfl rfl rfl rfl rfl rfl rfl rfl rfl rfl rfl (hS.rd (i := 5) rfl) (chk_some hu43)) ?_
                  rintro _ w1 ⟨A44, c45, rfl, hS⟩
                  refine OJ.pures tU_ok 1 rfl ?_
                  refine OJ.nil (EJ.blk (EJ.next ?_))
                  refine CJ.region ?_
                  refine OJ.pures tU_ok 3 rfl ?_
                  refine OJ.nil ?_
                  exact EJ.round k (F' := [(0, .pointer (some pa0)), (4, .pointer (some ⟨b2, 0, none⟩)), (5, .pointer (some ⟨b3, 0, none⟩)), (6, .slice A44 (y27 ++ ([t41] : List Spot)).length c45), (7, .int .i64 y12), (8, .pointer (some ⟨b18, 0, none⟩)), (9, .slice A20 t19.length c21), (10, .int .i64 (IntKind.i64.wrap (y30 + 1)))]) ⟨rfl, rfl, rfl, rfl, rfl, rfl, rfl, rfl, trivial⟩ (Nat.lt_succ_self _) ⟨(aset y26 t35.Y.toNat (aset t39 t36.X.toNat (IntKind.i64.wrap (t38 + 1)))), (y27 ++ ([t41] : List Spot)), (IntKind.i64.wrap (y30 + 1)), A44, c45, rfl, hS.pick [0, 1, 2, 3, 4] [0] rfl, H⟩
                · replace H := pif_f (of_decide_eq_false hb) H
                  refine CJ.skip (EJ.blk (EJ.next ?_))
                  refine CJ.region ?_
                  refine OJ.pures tU_ok 3 rfl ?_
                  refine OJ.nil ?_
                  exact EJ.round k (F' := [(0, .pointer (some pa0)), (4, .pointer (some ⟨b2, 0, none⟩)), (5, .pointer (some ⟨b3, 0, none⟩)), (6, .slice A28 y27.length c29), (7, .int .i64 y12), (8, .pointer (some ⟨b18, 0, none⟩)), (9, .slice A20 t19.length c21), (10, .int .i64 (IntKind.i64.wrap (y30 + 1)))]) ⟨rfl, rfl, rfl, rfl, rfl, rfl, rfl, rfl, trivial⟩ (Nat.lt_succ_self _) ⟨y26, y27, (IntKind.i64.wrap (y30 + 1)), A28, c29, rfl, hS.pick [0, 1, 2, 3, 4] [0] rfl, H⟩
              · replace H := pif_f (of_decide_eq_false hb) H
                refine CJ.exit (EJ.skE (EJ.skE (EJ.hit (?_))))
                exact EJ.meet (F' := [(0, .pointer (some pa0)), (4, .pointer (some ⟨b2, 0, none⟩)), (5, .pointer (some ⟨b3, 0, none⟩)), (6, .slice A28 y27.length c29), (7, .int .i64 y12)]) ⟨rfl, rfl, rfl, rfl, rfl, trivial⟩ ⟨y26, y27, A28, c29, H, rfl, hS.pick [0, 1, 2] [0] rfl⟩
          · rintro F w1 ⟨y22, y23, A24, c25, he, rfl, hS⟩
            obtain rfl := Option.some.inj he
            have H := K167
            refine EJ.blk (?_)
            exact EJ.meet (F' := [(0, .pointer (some pa0)), (4, .pointer (some ⟨b2, 0, none⟩)), (5, .pointer (some ⟨b3, 0, none⟩)), (6, .slice A24 y23.length c25), (7, .int .i64 y12)]) ⟨rfl, rfl, rfl, rfl, rfl, trivial⟩ ⟨y22, y23, A24, c25, H, rfl, hS.pick [0, 1, 2] [0] rfl⟩
        · rintro F w1 ⟨y13, y14, A15, c16, he, rfl, hS⟩
          obtain rfl := Option.some.inj he
          have H := K165
          refine CJ.region ?_
          refine OJ.pures tU_ok 3 rfl ?_
          refine OJ.nil ?_
          exact EJ.round k (F' := [(0, .pointer (some pa0)), (4, .pointer (some ⟨b2, 0, none⟩)), (5, .pointer (some ⟨b3, 0, none⟩)), (6, .slice A15 y14.length c16), (7, .int .i64 (IntKind.i64.wrap (y12 + 1)))]) ⟨rfl, rfl, rfl, rfl, rfl, trivial⟩ (Nat.lt_succ_self _) ⟨y13, y14, (IntKind.i64.wrap (y12 + 1)), A15, c16, rfl, hS.pick [0, 1, 2] [0] rfl, H⟩
      · replace H := pif_f (of_decide_eq_false hb) H
        refine CJ.exit (EJ.skE (EJ.skE (EJ.hit (?_))))
        exact EJ.meet (F' := [(4, .pointer (some ⟨b2, 0, none⟩)), (5, .pointer (some ⟨b3, 0, none⟩))]) ⟨rfl, rfl, trivial⟩ ⟨y8, H, rfl, hS.pick [0, 1] [0] rfl⟩
  · rintro F w1 ⟨y7, he, rfl, hS⟩
    obtain rfl := Option.some.inj he
    have H := K157
    refine EJ.next ?_
    refine CJ.seq ?_
    refine CJ.region ?_
    refine OJ.st rfl rfl rfl (SR.load rfl rfl (fun w' hx => ldE tU_ok tI_ok rfl rfl rfl (CA.ext (hS.cells (i := 1) rfl) hx) rfl)) ?_
    refine OJ.es rfl rfl (Es.put tI_ok hS (i := 0) rfl rfl rfl rfl rfl (vs := (carr 10 (carr 10 (ci .i64))).enc y7) rfl ((carr 10 (carr 10 (ci .i64))).len _) ((carr 10 (carr 10 (ci .i64))).one _) (Put.all (carr 10 (carr 10 (ci .i64))) (Arr.mk' (Arr.mk' 0 : Arr 10 Int) : Arr 10 (Arr 10 Int)) y7) (by (try simp only [add_lit, Nat.add_assoc, Nat.zero_add, Nat.add_zero]) <;> rfl)) ?_
    intro w1 hS
    refine OJ.nil (EJ.next ?_)
    refine CJ.ret (?_)
    obtain rfl := Option.some.inj H
    exact EJ.fin rfl (.cell rfl (ldE tU_ok tI_ok rfl rfl rfl (hS.cells (i := 0) rfl) rfl) .nil) ⟨rfl, hS.ext⟩

def spec_l01Yard.l2 (a0 : Pasture) (t2 : Arr 10 (Arr 10 Int)) (y11 : Int) : Nat → (List Spot) → Int → Option (List Spot)
  | 0, _, _ => none
  | k + 1, y18, y21 => if y21 < a0.Wide then ((getI t2.l y11).bind fun t22 => (getI t22.l y21).bind fun t23 => if 0 < t23 then ((chk (y18.length + ([(⟨y21, y11⟩ : Spot)] : List Spot).length ≤ 4294967296)).bind fun u25 => spec_l01Yard.l2 a0 t2 y11 k (y18 ++ ([(⟨y21, y11⟩ : Spot)] : List Spot)) (IntKind.i8.wrap (y21 + 1))) else (spec_l01Yard.l2 a0 t2 y11 k y18 (IntKind.i8.wrap (y21 + 1)))) else (some y18)
def spec_l01Yard.l1 (a0 : Pasture) (t2 : Arr 10 (Arr 10 Int)) : Nat → (List Spot) → Int → Option (List Spot)
  | 0, _, _ => none
  | k + 1, y8, y11 => if y11 < a0.High then (((spec_l01Yard.l2 a0 t2 y11 k y8 0).bind fun y15 => some y15).bind fun y12 => spec_l01Yard.l1 a0 t2 k y12 (IntKind.i8.wrap (y11 + 1))) else (some y8)
def spec_l01Yard.f (k : Nat) (a0 : Pasture) (a1 : Spot) : Option (List Spot) := (spec_l01Steps.f k a0 a1).bind fun t2 => (spec_l01Yard.l1 a0 t2 k ([] : List Spot) 0).bind fun y5 => some y5
theorem spec_l01Yard.c (k : Nat) (w : World) (pa0 : Addr) (a0 : Pasture) (hp0 : CA w pa0 (cPasture.enc a0)) (a1 : Spot) (r : List Spot) (H : spec_l01Yard.f k a0 a1 = some r) :
    CV Tryz.prog 62 [.pointer (some pa0), .agg (cSpot.enc a1).toArray].toArray w fun v w' => ∃ (A0 : Option Addr) (c0 : Nat), v = .slice A0 r.length c0 ∧ St w no w' [rowC cSpot A0 c0 46 r] [] := by
  have hS := ((St.init w no).paramP pa0 (cPasture.enc a0) hp0)
  unfold spec_l01Yard.f at H
  refine CV.body Tryz.func62 rfl Tryz.ntmps62 rfl ?_
  refine CJ.seq ?_
  refine CJ.region ?_
  refine OJ.ef rfl rfl rfl (Ef.box hS rfl rfl (cSpot.enc a1) rfl) ?_
  rintro _ w1 ⟨b1, rfl, hS⟩
  refine OJ.pures tU_ok 1 rfl ?_
  refine OJ.nil (EJ.next ?_)
  refine CJ.seq ?_
  refine CJ.region ?_
  refine OJ.pures tU_ok 1 rfl ?_
  refine OJ.st rfl rfl rfl (SR.load rfl rfl (fun w' hx => ldE tU_ok tI_ok rfl rfl rfl (CA.ext (hS.cells (i := 0) rfl) hx) rfl)) ?_
  obtain ⟨t2, ht2, H⟩ := pbind H
  refine OJ.callF rfl rfl rfl rfl rfl hb51 rfl (spec_l01Steps.c k _ _ a0 (hS.ca (i := 0) rfl) a1 _ ht2) ?_
  rintro _ w1 ⟨rfl, hs⟩
  replace hS := hS.grow hs
  refine OJ.ef rfl rfl rfl (Ef.alloc hS tI_ok rfl rfl ((carr 10 (carr 10 (ci .i64))).enc (Arr.mk' (Arr.mk' 0 : Arr 10 Int) : Arr 10 (Arr 10 Int))) (by kernel_rfl)) ?_
  rintro _ w1 ⟨b3, rfl, hS⟩
  refine OJ.es rfl rfl (Es.put tI_ok hS (i := 1) rfl rfl rfl rfl rfl (vs := (carr 10 (carr 10 (ci .i64))).enc t2) rfl ((carr 10 (carr 10 (ci .i64))).len _) ((carr 10 (carr 10 (ci .i64))).one _) (Put.all (carr 10 (carr 10 (ci .i64))) (Arr.mk' (Arr.mk' 0 : Arr 10 Int) : Arr 10 (Arr 10 Int)) t2) (by (try simp only [add_lit, Nat.add_assoc, Nat.zero_add, Nat.add_zero]) <;> rfl)) ?_
  intro w1 hS
  refine OJ.nil (EJ.next ?_)
  refine CJ.seq ?_
  refine CJ.region ?_
  refine OJ.ef rfl rfl rfl (Ef.lit tU_ok tI_ok hS (C := cSpot) rfl rfl rfl rfl rfl rfl ([] : List Spot) rfl rfl rfl rfl) ?_
  rintro _ w1 ⟨A4, rfl, hS⟩
  refine OJ.pures tU_ok 1 rfl ?_
  refine OJ.nil (EJ.next ?_)
  refine CJ.seq ?_
  refine CJ.seq ?_
  refine CJ.region ?_
  refine OJ.pures tU_ok 1 rfl ?_
  refine OJ.nil (EJ.next ?_)
  obtain ⟨j168, H, K168⟩ := pbind H
  refine CJ.cut1 (fun F w1 => ∃ (y5 : List Spot) (A6 : Option Addr) (c7 : Nat), (some y5 : Option (List Spot)) = some j168 ∧ F = [(6, .slice A6 y5.length c7)] ∧ St w no w1 [rowC cSpot A6 c7 46 y5] [roP pa0 (cPasture.enc a0)]) ?_ ?_
  · skip
    refine CJ.block ?_
    refine CJ.loop (fun k F w1 => ∃ (y8 : List Spot) (y11 : Int) (A9 : Option Addr) (c10 : Nat), F = [(0, .pointer (some pa0)), (5, .pointer (some ⟨b3, 0, none⟩)), (6, .slice A9 y8.length c10), (7, .int .i8 y11)] ∧ St w no w1 [box b3 ((carr 10 (carr 10 (ci .i64))).enc t2) 64, rowC cSpot A9 c10 46 y8] [roP pa0 (cPasture.enc a0)] ∧ spec_l01Yard.l1 a0 t2 k y8 y11 = some j168) k (F' := [(0, .pointer (some pa0)), (5, .pointer (some ⟨b3, 0, none⟩)), (6, .slice A4 ([] : List Spot).length (([] : List Spot).length)), (7, .int .i8 0)]) ⟨rfl, rfl, rfl, rfl, trivial⟩ ⟨([] : List Spot), 0, A4, (([] : List Spot).length), rfl, hS.pick [1, 2] [0] rfl, H⟩ ?_
    rintro k F w1 ⟨y8, y11, A9, c10, rfl, hS, H⟩
    cases k with
    | zero => rw [spec_l01Yard.l1] at H; cases H
    | succ k =>
      rw [spec_l01Yard.l1] at H
      refine CJ.seq ?_
      refine CJ.seq ?_
      refine CJ.region ?_
      refine OJ.pures tU_ok 3 rfl ?_
      refine OJ.st rfl rfl rfl (SR.fieldAddr tU_ok tI_ok rfl rfl rfl rfl rfl rfl) ?_
      refine OJ.st rfl rfl rfl (SR.load rfl rfl (fun w' hx => ld1 tU_ok rfl rfl (CA.ext (CA.fld (hS.ca (i := 0) rfl) (mid_part (fe_Pasture_1 _) (fl_Pasture_1 _) ((ci .i8).len _))) hx) rfl)) ?_
      refine OJ.pures tU_ok 1 rfl ?_
      refine OJ.nil (EJ.next ?_)
      refine CJ.cond rfl (fun hb => ?_) (fun hb => ?_)
      · replace H := pif_t (of_decide_eq_true hb) H
        refine CJ.skip (EJ.next ?_)
        obtain ⟨j175, H, K175⟩ := pbind H
        refine CJ.cut (fun F w1 => ∃ (y12 : List Spot) (A13 : Option Addr) (c14 : Nat), (some y12 : Option (List Spot)) = some j175 ∧ F = [(0, .pointer (some pa0)), (5, .pointer (some ⟨b3, 0, none⟩)), (6, .slice A13 y12.length c14), (7, .int .i8 y11)] ∧ St w no w1 [box b3 ((carr 10 (carr 10 (ci .i64))).enc t2) 64, rowC cSpot A13 c14 46 y12] [roP pa0 (cPasture.enc a0)]) ?_ ?_
        · skip
          refine CJ.block ?_
          refine CJ.seq ?_
          refine CJ.region ?_
          refine OJ.pures tU_ok 1 rfl ?_
          refine OJ.nil (EJ.next ?_)
          obtain ⟨j177, H, K177⟩ := pbind H
          refine CJ.cut1 (fun F w1 => ∃ (y15 : List Spot) (A16 : Option Addr) (c17 : Nat), (some y15 : Option (List Spot)) = some j177 ∧ F = [(0, .pointer (some pa0)), (5, .pointer (some ⟨b3, 0, none⟩)), (6, .slice A16 y15.length c17), (7, .int .i8 y11)] ∧ St w no w1 [box b3 ((carr 10 (carr 10 (ci .i64))).enc t2) 64, rowC cSpot A16 c17 46 y15] [roP pa0 (cPasture.enc a0)]) ?_ ?_
          · skip
            refine CJ.block ?_
            refine CJ.loop (fun k F w1 => ∃ (y18 : List Spot) (y21 : Int) (A19 : Option Addr) (c20 : Nat), F = [(0, .pointer (some pa0)), (5, .pointer (some ⟨b3, 0, none⟩)), (6, .slice A19 y18.length c20), (7, .int .i8 y11), (8, .int .i8 y21)] ∧ St w no w1 [box b3 ((carr 10 (carr 10 (ci .i64))).enc t2) 64, rowC cSpot A19 c20 46 y18] [roP pa0 (cPasture.enc a0)] ∧ spec_l01Yard.l2 a0 t2 y11 k y18 y21 = some j177) k (F' := [(0, .pointer (some pa0)), (5, .pointer (some ⟨b3, 0, none⟩)), (6, .slice A9 y8.length c10), (7, .int .i8 y11), (8, .int .i8 0)]) ⟨rfl, rfl, rfl, rfl, rfl, trivial⟩ ⟨y8, 0, A9, c10, rfl, hS.pick [0, 1] [0] rfl, H⟩ ?_
            rintro k F w1 ⟨y18, y21, A19, c20, rfl, hS, H⟩
            cases k with
            | zero => rw [spec_l01Yard.l2] at H; cases H
            | succ k =>
              rw [spec_l01Yard.l2] at H
              refine CJ.seq ?_
              refine CJ.seq ?_
              refine CJ.region ?_
              refine OJ.pures tU_ok 3 rfl ?_
              refine OJ.st rfl rfl rfl (SR.fieldAddr tU_ok tI_ok rfl rfl rfl rfl rfl rfl) ?_
              refine OJ.st rfl rfl rfl (SR.load rfl rfl (fun w' hx => ld1 tU_ok rfl rfl (CA.ext (CA.fld (hS.ca (i := 0) rfl) (mid_part (fe_Pasture_0 _) (fl_Pasture_0 _) ((ci .i8).len _))) hx) rfl)) ?_
              refine OJ.pures tU_ok 1 rfl ?_
              refine OJ.nil (EJ.next ?_)
              refine CJ.cond rfl (fun hb => ?_) (fun hb => ?_)
              · replace H := pif_t (of_decide_eq_true hb) H
                refine CJ.skip (EJ.next ?_)
                refine CJ.seq ?_
                refine CJ.block ?_
                refine CJ.seq ?_
                refine CJ.region ?_
                refine OJ.pures tU_ok 2 rfl ?_
                obtain ⟨t22, ht22, H⟩ := pbind H
                refine OJ.st rfl rfl rfl (SR.idxA tU_ok tI_ok rfl rfl rfl rfl rfl (Arr.lt ht22)) ?_
                obtain ⟨t23, ht23, H⟩ := pbind H
                refine OJ.st rfl rfl rfl (SR.idxA tU_ok tI_ok rfl rfl rfl rfl rfl (Arr.lt ht23)) ?_
                refine OJ.st rfl rfl rfl (SR.load rfl rfl (fun w' hx => ld1 tU_ok rfl rfl (CA.ext (CA.idx (CA.idx (hS.cells (i := 0) rfl) ht22) ht23) hx) rfl)) ?_
                refine OJ.pures tU_ok 1 rfl ?_
                refine OJ.nil (EJ.next ?_)
                refine CJ.cond rfl (fun hb => ?_) (fun hb => ?_)
                · replace H := pif_t (of_decide_eq_true hb) H
                  refine CJ.region ?_
                  refine OJ.pures tU_ok 3 rfl ?_
                  refine OJ.st rfl rfl rfl (SR.build (C := cSpot) tU_ok tI_ok rfl rfl rfl (zs := [.int .i8 0, .int .i8 0]) rfl rfl rfl (⟨y21, y11⟩ : Spot) rfl) ?_
                  refine OJ.ef rfl rfl rfl (Ef.lit tU_ok tI_ok hS (C := cSpot) rfl rfl rfl rfl rfl rfl ([(⟨y21, y11⟩ : Spot)] : List Spot) rfl rfl rfl rfl) ?_
                  rintro _ w1 ⟨A24, rfl, hS⟩
                  obtain ⟨u25, hu25, H⟩ := pbind H
                  refine OJ.ew rfl rfl rfl (Ew.append tU_ok tI_ok (C := cSpot) (xs := y18) (ys := ([(⟨y21, y11⟩ : Spot)] : List Spot)) hS (i := 1) rfl rfl rfl rfl rfl rfl rfl rfl rfl rfl rfl rfl rfl (hS.rd (i := 2) rfl) (chk_some hu25)) ?_
                  rintro _ w1 ⟨A26, c27, rfl, hS⟩
                  refine OJ.pures tU_ok 1 rfl ?_
                  refine OJ.nil (EJ.blk (EJ.next ?_))
                  refine CJ.region ?_
                  refine OJ.pures tU_ok 3 rfl ?_
                  refine OJ.nil ?_
                  exact EJ.round k (F' := [(0, .pointer (some pa0)), (5, .pointer (some ⟨b3, 0, none⟩)), (6, .slice A26 (y18 ++ ([(⟨y21, y11⟩ : Spot)] : List Spot)).length c27), (7, .int .i8 y11), (8, .int .i8 (IntKind.i8.wrap (y21 + 1)))]) ⟨rfl, rfl, rfl, rfl, rfl, trivial⟩ (Nat.lt_succ_self _) ⟨(y18 ++ ([(⟨y21, y11⟩ : Spot)] : List Spot)), (IntKind.i8.wrap (y21 + 1)), A26, c27, rfl, hS.pick [0, 1] [0] rfl, H⟩
                · replace H := pif_f (of_decide_eq_false hb) H
                  refine CJ.skip (EJ.blk (EJ.next ?_))
                  refine CJ.region ?_
                  refine OJ.pures tU_ok 3 rfl ?_
                  refine OJ.nil ?_
                  exact EJ.round k (F' := [(0, .pointer (some pa0)), (5, .pointer (some ⟨b3, 0, none⟩)), (6, .slice A19 y18.length c20), (7, .int .i8 y11), (8, .int .i8 (IntKind.i8.wrap (y21 + 1)))]) ⟨rfl, rfl, rfl, rfl, rfl, trivial⟩ (Nat.lt_succ_self _) ⟨y18, (IntKind.i8.wrap (y21 + 1)), A19, c20, rfl, hS.pick [0, 1] [0] rfl, H⟩
              · replace H := pif_f (of_decide_eq_false hb) H
                refine CJ.exit (EJ.skE (EJ.skE (EJ.hit (?_))))
                exact EJ.meet (F' := [(0, .pointer (some pa0)), (5, .pointer (some ⟨b3, 0, none⟩)), (6, .slice A19 y18.length c20), (7, .int .i8 y11)]) ⟨rfl, rfl, rfl, rfl, trivial⟩ ⟨y18, A19, c20, H, rfl, hS.pick [0, 1] [0] rfl⟩
          · rintro F w1 ⟨y15, A16, c17, he, rfl, hS⟩
            obtain rfl := Option.some.inj he
            have H := K177
            refine EJ.blk (?_)
            exact EJ.meet (F' := [(0, .pointer (some pa0)), (5, .pointer (some ⟨b3, 0, none⟩)), (6, .slice A16 y15.length c17), (7, .int .i8 y11)]) ⟨rfl, rfl, rfl, rfl, trivial⟩ ⟨y15, A16, c17, H, rfl, hS.pick [0, 1] [0] rfl⟩
        · rintro F w1 ⟨y12, A13, c14, he, rfl, hS⟩
          obtain rfl := Option.some.inj he
          have H := K175
          refine CJ.region ?_
          refine OJ.pures tU_ok 3 rfl ?_
          refine OJ.nil ?_
          exact EJ.round k (F' := [(0, .pointer (some pa0)), (5, .pointer (some ⟨b3, 0, none⟩)), (6, .slice A13 y12.length c14), (7, .int .i8 (IntKind.i8.wrap (y11 + 1)))]) ⟨rfl, rfl, rfl, rfl, trivial⟩ (Nat.lt_succ_self _) ⟨y12, (IntKind.i8.wrap (y11 + 1)), A13, c14, rfl, hS.pick [0, 1] [0] rfl, H⟩
      · replace H := pif_f (of_decide_eq_false hb) H
        refine CJ.exit (EJ.skE (EJ.skE (EJ.hit (?_))))
        exact EJ.meet (F' := [(6, .slice A9 y8.length c10)]) ⟨rfl, trivial⟩ ⟨y8, A9, c10, H, rfl, hS.pick [1] [0] rfl⟩
  · rintro F w1 ⟨y5, A6, c7, he, rfl, hS⟩
    obtain rfl := Option.some.inj he
    have H := K168
    refine EJ.next ?_
    refine CJ.seq ?_
    refine CJ.region ?_
    refine OJ.pures tU_ok 2 rfl ?_
    refine OJ.nil (EJ.next ?_)
    refine CJ.ret (?_)
    obtain rfl := Option.some.inj H
    exact EJ.fin rfl (.tmp rfl .nil) ⟨A6, c7, rfl, hS.pick [0] [] rfl⟩

def spec_l01Numbers.l3 (y26 : List (List Spot)) (t38 : List Spot) : Nat → (Arr 10 (Arr 10 Int)) → Int → Option (Arr 10 (Arr 10 Int))
  | 0, _, _ => none
  | k + 1, y47, y48 => if y48 < (t38.length : Int) then ((getI t38 y48).bind fun t49 => (getI t38 y48).bind fun t50 => (getI y47.l t49.Y).bind fun t51 => (getI t51.l t50.X).bind fun t52 => spec_l01Numbers.l3 y26 t38 k (aset y47 t49.Y.toNat (aset t51 t50.X.toNat ((y26 ++ [t38]).length : Int))) (IntKind.i64.wrap (y48 + 1))) else (some y47)
def spec_l01Numbers.l2 (a0 : Pasture) (y14 : Int) : Nat → (Arr 10 (Arr 10 Int)) → (List (List Spot)) → Int → Option ((Arr 10 (Arr 10 Int)) × (List (List Spot)))
  | 0, _, _, _ => none
  | k + 1, y25, y26, y30 => if y30 < a0.Wide then (((getI y25.l y14).bind fun t36 => (getI t36.l y30).bind fun t37 => if 0 < t37 then (some (y25, y26)) else ((spec_l01Yard.f k a0 (⟨y30, y14⟩ : Spot)).bind fun t38 => (chk (y26.length + [t38].length ≤ 4294967296)).bind fun u42 => (spec_l01Numbers.l3 y26 t38 k y25 0).bind fun y46 => some (y46, y26 ++ [t38]))).bind fun (y31, y32) => spec_l01Numbers.l2 a0 y14 k y31 y32 (IntKind.i8.wrap (y30 + 1))) else (some (y25, y26))
def spec_l01Numbers.l1 (a0 : Pasture) : Nat → (Arr 10 (Arr 10 Int)) → (List (List Spot)) → Int → Option ((Arr 10 (Arr 10 Int)) × (List (List Spot)))
  | 0, _, _, _ => none
  | k + 1, y9, y10, y14 => if y14 < a0.High then (((spec_l01Numbers.l2 a0 y14 k y9 y10 0).bind fun (y20, y21) => some (y20, y21)).bind fun (y15, y16) => spec_l01Numbers.l1 a0 k y15 y16 (IntKind.i8.wrap (y14 + 1))) else (some (y9, y10))
def spec_l01Numbers.f (k : Nat) (a0 : Pasture) : Option (Arr 10 (Arr 10 Int) × List (List Spot)) := (spec_l01Numbers.l1 a0 k (Arr.mk' (Arr.mk' 0 : Arr 10 Int) : Arr 10 (Arr 10 Int)) ([] : List (List Spot)) 0).bind fun (y4, y5) => some (y4, y5)
theorem spec_l01Numbers.c (k : Nat) (w : World) (pa0 : Addr) (a0 : Pasture) (hp0 : CA w pa0 (cPasture.enc a0)) (r : Arr 10 (Arr 10 Int) × List (List Spot)) (H : spec_l01Numbers.f k a0 = some r) :
    CV Tryz.prog 32 [.pointer (some pa0)].toArray w fun v w' => ∃ (A1 : Option Addr) (c1 : Nat) (D1 : List SH), v = .tuple #[.agg ((carr 10 (carr 10 (ci .i64))).enc r.1).toArray, .slice A1 r.2.length c1] ∧ St w no w' [rowsC cSpot A1 c1 41 46 D1 r.2] [] := by
  have hS := ((St.init w no).paramP pa0 (cPasture.enc a0) hp0)
  unfold spec_l01Numbers.f at H
  refine CV.body Tryz.func32 rfl Tryz.ntmps32 rfl ?_
  refine CJ.seq ?_
  refine CJ.region ?_
  refine OJ.ef rfl rfl rfl (Ef.alloc hS tI_ok rfl rfl ((carr 10 (carr 10 (ci .i64))).enc (Arr.mk' (Arr.mk' 0 : Arr 10 Int) : Arr 10 (Arr 10 Int))) (by kernel_rfl)) ?_
  rintro _ w1 ⟨b1, rfl, hS⟩
  refine OJ.pures tU_ok 1 rfl ?_
  refine OJ.nil (EJ.next ?_)
  refine CJ.seq ?_
  refine CJ.region ?_
  refine OJ.st rfl rfl rfl (SR.buildA tU_ok tI_ok rfl rfl rfl rfl (zs := [.int .i64 0, .int .i64 0, .int .i64 0, .int .i64 0, .int .i64 0, .int .i64 0, .int .i64 0, .int .i64 0, .int .i64 0, .int .i64 0, .int .i64 0, .int .i64 0, .int .i64 0, .int .i64 0, .int .i64 0, .int .i64 0, .int .i64 0, .int .i64 0, .int .i64 0, .int .i64 0, .int .i64 0, .int .i64 0, .int .i64 0, .int .i64 0, .int .i64 0, .int .i64 0, .int .i64 0, .int .i64 0, .int .i64 0, .int .i64 0, .int .i64 0, .int .i64 0, .int .i64 0, .int .i64 0, .int .i64 0, .int .i64 0, .int .i64 0, .int .i64 0, .int .i64 0, .int .i64 0, .int .i64 0, .int .i64 0, .int .i64 0, .int .i64 0, .int .i64 0, .int .i64 0, .int .i64 0, .int .i64 0, .int .i64 0, .int .i64 0, .int .i64 0, .int .i64 0, .int .i64 0, .int .i64 0, .int .i64 0, .int .i64 0, .int .i64 0, .int .i64 0, .int .i64 0, .int .i64 0, .int .i64 0, .int .i64 0, .int .i64 0, .int .i64 0, .int .i64 0, .int .i64 0, .int .i64 0, .int .i64 0, .int .i64 0, .int .i64 0, .int .i64 0, .int .i64 0, .int .i64 0, .int .i64 0, .int .i64 0, .int .i64 0, .int .i64 0, .int .i64 0, .int .i64 0, .int .i64 0, .int .i64 0, .int .i64 0, .int .i64 0, .int .i64 0, .int .i64 0, .int .i64 0, .int .i64 0, .int .i64 0, .int .i64 0, .int .i64 0, .int .i64 0, .int .i64 0, .int .i64 0, .int .i64 0, .int .i64 0, .int .i64 0, .int .i64 0, .int .i64 0, .int .i64 0, .int .i64 0]) rfl rfl ((carr 10 (carr 10 (ci .i64))).enc (Arr.mk' (Arr.mk' 0 : Arr 10 Int) : Arr 10 (Arr 10 Int))) (by kernel_rfl)) ?_
  refine OJ.ef rfl rfl rfl (Ef.alloc hS tI_ok rfl rfl ((carr 10 (carr 10 (ci .i64))).enc (Arr.mk' (Arr.mk' 0 : Arr 10 Int) : Arr 10 (Arr 10 Int))) (by kernel_rfl)) ?_
  rintro _ w1 ⟨b2, rfl, hS⟩
  refine OJ.es rfl rfl (Es.put tI_ok hS (i := 1) rfl rfl rfl rfl rfl (vs := (carr 10 (carr 10 (ci .i64))).enc (Arr.mk' (Arr.mk' 0 : Arr 10 Int) : Arr 10 (Arr 10 Int))) rfl ((carr 10 (carr 10 (ci .i64))).len _) ((carr 10 (carr 10 (ci .i64))).one _) (Put.all (carr 10 (carr 10 (ci .i64))) (Arr.mk' (Arr.mk' 0 : Arr 10 Int) : Arr 10 (Arr 10 Int)) (Arr.mk' (Arr.mk' 0 : Arr 10 Int) : Arr 10 (Arr 10 Int))) (by (try simp only [add_lit, Nat.add_assoc, Nat.zero_add, Nat.add_zero]) <;> rfl)) ?_
  intro w1 hS
  refine OJ.nil (EJ.next ?_)
  refine CJ.seq ?_
  refine CJ.region ?_
  refine OJ.ef rfl rfl rfl (Ef.litS0 (e := 46) tU_ok tI_ok hS rfl rfl rfl rfl cSpot) ?_
  rintro _ w1 ⟨A3, rfl, hS⟩
  refine OJ.pures tU_ok 1 rfl ?_
  refine OJ.nil (EJ.next ?_)
  refine CJ.seq ?_
  refine CJ.seq ?_
  refine CJ.region ?_
  refine OJ.pures tU_ok 1 rfl ?_
  refine OJ.nil (EJ.next ?_)
  obtain ⟨j153, H, K153⟩ := pbind H
  refine CJ.cut1 (fun F w1 => ∃ (y4 : Arr 10 (Arr 10 Int)) (y5 : List (List Spot)) (A6 : Option Addr) (c7 : Nat) (D8 : List SH), (some (y4, y5) : Option ((Arr 10 (Arr 10 Int)) × (List (List Spot)))) = some j153 ∧ F = [(2, .pointer (some ⟨b1, 0, none⟩)), (4, .pointer (some ⟨b2, 0, none⟩)), (5, .slice A6 y5.length c7)] ∧ St w no w1 [box b1 ((carr 10 (carr 10 (ci .i64))).enc (Arr.mk' (Arr.mk' 0 : Arr 10 Int) : Arr 10 (Arr 10 Int))) 64, box b2 ((carr 10 (carr 10 (ci .i64))).enc y4) 64, rowsC cSpot A6 c7 41 46 D8 y5] [roP pa0 (cPasture.enc a0)]) ?_ ?_
  · skip
    refine CJ.block ?_
    refine CJ.loop (fun k F w1 => ∃ (y9 : Arr 10 (Arr 10 Int)) (y10 : List (List Spot)) (y14 : Int) (A11 : Option Addr) (c12 : Nat) (D13 : List SH), F = [(0, .pointer (some pa0)), (2, .pointer (some ⟨b1, 0, none⟩)), (4, .pointer (some ⟨b2, 0, none⟩)), (5, .slice A11 y10.length c12), (6, .int .i8 y14)] ∧ St w no w1 [box b1 ((carr 10 (carr 10 (ci .i64))).enc (Arr.mk' (Arr.mk' 0 : Arr 10 Int) : Arr 10 (Arr 10 Int))) 64, box b2 ((carr 10 (carr 10 (ci .i64))).enc y9) 64, rowsC cSpot A11 c12 41 46 D13 y10] [roP pa0 (cPasture.enc a0)] ∧ spec_l01Numbers.l1 a0 k y9 y10 y14 = some j153) k (F' := [(0, .pointer (some pa0)), (2, .pointer (some ⟨b1, 0, none⟩)), (4, .pointer (some ⟨b2, 0, none⟩)), (5, .slice A3 ([] : List (List Spot)).length (([] : List (List Spot)).length)), (6, .int .i8 0)]) ⟨rfl, rfl, rfl, rfl, rfl, trivial⟩ ⟨(Arr.mk' (Arr.mk' 0 : Arr 10 Int) : Arr 10 (Arr 10 Int)), ([] : List (List Spot)), 0, A3, (([] : List (List Spot)).length), [], rfl, hS.pick [0, 1, 2] [0] rfl, H⟩ ?_
    rintro k F w1 ⟨y9, y10, y14, A11, c12, D13, rfl, hS, H⟩
    cases k with
    | zero => rw [spec_l01Numbers.l1] at H; cases H
    | succ k =>
      rw [spec_l01Numbers.l1] at H
      refine CJ.seq ?_
      refine CJ.seq ?_
      refine CJ.region ?_
      refine OJ.pures tU_ok 3 rfl ?_
      refine OJ.st rfl rfl rfl (SR.fieldAddr tU_ok tI_ok rfl rfl rfl rfl rfl rfl) ?_
      refine OJ.st rfl rfl rfl (SR.load rfl rfl (fun w' hx => ld1 tU_ok rfl rfl (CA.ext (CA.fld (hS.ca (i := 0) rfl) (mid_part (fe_Pasture_1 _) (fl_Pasture_1 _) ((ci .i8).len _))) hx) rfl)) ?_
      refine OJ.pures tU_ok 1 rfl ?_
      refine OJ.nil (EJ.next ?_)
      refine CJ.cond rfl (fun hb => ?_) (fun hb => ?_)
      · replace H := pif_t (of_decide_eq_true hb) H
        refine CJ.skip (EJ.next ?_)
        obtain ⟨j217, H, K217⟩ := pbind H
        refine CJ.cut (fun F w1 => ∃ (y15 : Arr 10 (Arr 10 Int)) (y16 : List (List Spot)) (A17 : Option Addr) (c18 : Nat) (D19 : List SH), (some (y15, y16) : Option ((Arr 10 (Arr 10 Int)) × (List (List Spot)))) = some j217 ∧ F = [(0, .pointer (some pa0)), (2, .pointer (some ⟨b1, 0, none⟩)), (4, .pointer (some ⟨b2, 0, none⟩)), (5, .slice A17 y16.length c18), (6, .int .i8 y14)] ∧ St w no w1 [box b1 ((carr 10 (carr 10 (ci .i64))).enc (Arr.mk' (Arr.mk' 0 : Arr 10 Int) : Arr 10 (Arr 10 Int))) 64, box b2 ((carr 10 (carr 10 (ci .i64))).enc y15) 64, rowsC cSpot A17 c18 41 46 D19 y16] [roP pa0 (cPasture.enc a0)]) ?_ ?_
        · skip
          refine CJ.block ?_
          refine CJ.seq ?_
          refine CJ.region ?_
          refine OJ.pures tU_ok 1 rfl ?_
          refine OJ.nil (EJ.next ?_)
          obtain ⟨j228, H, K228⟩ := pbind H
          refine CJ.cut1 (fun F w1 => ∃ (y20 : Arr 10 (Arr 10 Int)) (y21 : List (List Spot)) (A22 : Option Addr) (c23 : Nat) (D24 : List SH), (some (y20, y21) : Option ((Arr 10 (Arr 10 Int)) × (List (List Spot)))) = some j228 ∧ F = [(0, .pointer (some pa0)), (2, .pointer (some ⟨b1, 0, none⟩)), (4, .pointer (some ⟨b2, 0, none⟩)), (5, .slice A22 y21.length c23), (6, .int .i8 y14)] ∧ St w no w1 [box b1 ((carr 10 (carr 10 (ci .i64))).enc (Arr.mk' (Arr.mk' 0 : Arr 10 Int) : Arr 10 (Arr 10 Int))) 64, box b2 ((carr 10 (carr 10 (ci .i64))).enc y20) 64, rowsC cSpot A22 c23 41 46 D24 y21] [roP pa0 (cPasture.enc a0)]) ?_ ?_
          · skip
            refine CJ.block ?_
            refine CJ.loop (fun k F w1 => ∃ (y25 : Arr 10 (Arr 10 Int)) (y26 : List (List Spot)) (y30 : Int) (A27 : Option Addr) (c28 : Nat) (D29 : List SH), F = [(0, .pointer (some pa0)), (2, .pointer (some ⟨b1, 0, none⟩)), (4, .pointer (some ⟨b2, 0, none⟩)), (5, .slice A27 y26.length c28), (6, .int .i8 y14), (7, .int .i8 y30)] ∧ St w no w1 [box b1 ((carr 10 (carr 10 (ci .i64))).enc (Arr.mk' (Arr.mk' 0 : Arr 10 Int) : Arr 10 (Arr 10 Int))) 64, box b2 ((carr 10 (carr 10 (ci .i64))).enc y25) 64, rowsC cSpot A27 c28 41 46 D29 y26] [roP pa0 (cPasture.enc a0)] ∧ spec_l01Numbers.l2 a0 y14 k y25 y26 y30 = some j228) k (F' := [(0, .pointer (some pa0)), (2, .pointer (some ⟨b1, 0, none⟩)), (4, .pointer (some ⟨b2, 0, none⟩)), (5, .slice A11 y10.length c12), (6, .int .i8 y14), (7, .int .i8 0)]) ⟨rfl, rfl, rfl, rfl, rfl, rfl, trivial⟩ ⟨y9, y10, 0, A11, c12, D13, rfl, hS.pick [0, 1, 2] [0] rfl, H⟩ ?_
            rintro k F w1 ⟨y25, y26, y30, A27, c28, D29, rfl, hS, H⟩
            cases k with
            | zero => rw [spec_l01Numbers.l2] at H; cases H
            | succ k =>
              rw [spec_l01Numbers.l2] at H
              refine CJ.seq ?_
              refine CJ.seq ?_
              refine CJ.region ?_
              refine OJ.pures tU_ok 3 rfl ?_
              refine OJ.st rfl rfl rfl (SR.fieldAddr tU_ok tI_ok rfl rfl rfl rfl rfl rfl) ?_
              refine OJ.st rfl rfl rfl (SR.load rfl rfl (fun w' hx => ld1 tU_ok rfl rfl (CA.ext (CA.fld (hS.ca (i := 0) rfl) (mid_part (fe_Pasture_0 _) (fl_Pasture_0 _) ((ci .i8).len _))) hx) rfl)) ?_
              refine OJ.pures tU_ok 1 rfl ?_
              refine OJ.nil (EJ.next ?_)
              refine CJ.cond rfl (fun hb => ?_) (fun hb => ?_)
              · replace H := pif_t (of_decide_eq_true hb) H
                refine CJ.skip (EJ.next ?_)
                obtain ⟨j235, H, K235⟩ := pbind H
                refine CJ.cut (fun F w1 => ∃ (y31 : Arr 10 (Arr 10 Int)) (y32 : List (List Spot)) (A33 : Option Addr) (c34 : Nat) (D35 : List SH), (some (y31, y32) : Option ((Arr 10 (Arr 10 Int)) × (List (List Spot)))) = some j235 ∧ F = [(0, .pointer (some pa0)), (2, .pointer (some ⟨b1, 0, none⟩)), (4, .pointer (some ⟨b2, 0, none⟩)), (5, .slice A33 y32.length c34), (6, .int .i8 y14), (7, .int .i8 y30)] ∧ St w no w1 [box b1 ((carr 10 (carr 10 (ci .i64))).enc (Arr.mk' (Arr.mk' 0 : Arr 10 Int) : Arr 10 (Arr 10 Int))) 64, box b2 ((carr 10 (carr 10 (ci .i64))).enc y31) 64, rowsC cSpot A33 c34 41 46 D35 y32] [roP pa0 (cPasture.enc a0)]) ?_ ?_
                · skip
                  refine CJ.block ?_
                  refine CJ.seq ?_
                  refine CJ.seq ?_
                  refine CJ.region ?_
                  refine OJ.pures tU_ok 2 rfl ?_
                  obtain ⟨t36, ht36, H⟩ := pbind H
                  refine OJ.st rfl rfl rfl (SR.idxA tU_ok tI_ok rfl rfl rfl rfl rfl (Arr.lt ht36)) ?_
                  obtain ⟨t37, ht37, H⟩ := pbind H
                  refine OJ.st rfl rfl rfl (SR.idxA tU_ok tI_ok rfl rfl rfl rfl rfl (Arr.lt ht37)) ?_
                  refine OJ.st rfl rfl rfl (SR.load rfl rfl (fun w' hx => ld1 tU_ok rfl rfl (CA.ext (CA.idx (CA.idx (hS.cells (i := 1) rfl) ht36) ht37) hx) rfl)) ?_
                  refine OJ.pures tU_ok 1 rfl ?_
                  refine OJ.nil (EJ.next ?_)
                  refine CJ.cond rfl (fun hb => ?_) (fun hb => ?_)
                  · replace H := pif_t (of_decide_eq_true hb) H
                    refine CJ.exit (EJ.skE (EJ.hit (?_)))
                    exact EJ.meet (F' := [(0, .pointer (some pa0)), (2, .pointer (some ⟨b1, 0, none⟩)), (4, .pointer (some ⟨b2, 0, none⟩)), (5, .slice A27 y26.length c28), (6, .int .i8 y14), (7, .int .i8 y30)]) ⟨rfl, rfl, rfl, rfl, rfl, rfl, trivial⟩ ⟨y25, y26, A27, c28, D29, H, rfl, hS.pick [0, 1, 2] [0] rfl⟩
                  · replace H := pif_f (of_decide_eq_false hb) H
                    refine CJ.skip (EJ.next ?_)
                    refine CJ.seq ?_
                    refine CJ.region ?_
                    refine OJ.pures tU_ok 3 rfl ?_
                    refine OJ.st rfl rfl rfl (SR.build (C := cSpot) tU_ok tI_ok rfl rfl rfl (zs := [.int .i8 0, .int .i8 0]) rfl rfl rfl (⟨y30, y14⟩ : Spot) rfl) ?_
                    obtain ⟨t38, ht38, H⟩ := pbind H
                    refine OJ.callF rfl rfl rfl rfl rfl hb62 rfl (spec_l01Yard.c k _ _ a0 (hS.ca (i := 0) rfl) (⟨y30, y14⟩ : Spot) _ ht38) ?_
                    rintro _ w1 ⟨A39, c40, rfl, hs⟩
                    replace hS := hS.addN hs
                    refine OJ.pures tU_ok 1 rfl ?_
                    refine OJ.nil (EJ.next ?_)
                    refine CJ.seq ?_
                    refine CJ.region ?_
                    refine OJ.pures tU_ok 2 rfl ?_
                    refine OJ.ef rfl rfl rfl (Ef.litS1 (C := cSpot) tU_ok tI_ok hS (k := 3) rfl rfl rfl rfl rfl rfl) ?_
                    rintro _ w1 ⟨A41, rfl, hS⟩
                    obtain ⟨u42, hu42, H⟩ := pbind H
                    have hdl := (hS.rowsRo (i := 2) rfl).1
                    have dd45 := subD (D := D29) hdl (show ([(A39, c40)] : List SH)[0]? = _ from rfl)
                    have xd45 := subD (D := y26) rfl (show ([t38] : List (List Spot))[0]? = _ from rfl)
                    refine OJ.ew rfl rfl rfl (Ew.appendS tU_ok tI_ok hS (i := 2) (j := 4) rfl rfl rfl rfl rfl rfl rfl rfl rfl rfl rfl rfl rfl rfl (chk_some hu42)) ?_
                    rintro _ w1 ⟨A43, c44, rfl, hS⟩
                    refine OJ.pures tU_ok 1 rfl ?_
                    refine OJ.nil (EJ.next ?_)
                    refine CJ.seq ?_
                    refine CJ.region ?_
                    refine OJ.pures tU_ok 1 rfl ?_
                    refine OJ.nil (EJ.next ?_)
                    obtain ⟨j237, H, K237⟩ := pbind H
                    refine CJ.cut1 (fun F w1 => ∃ (y46 : Arr 10 (Arr 10 Int)) , (some y46 : Option (Arr 10 (Arr 10 Int))) = some j237 ∧ F = [(0, .pointer (some pa0)), (2, .pointer (some ⟨b1, 0, none⟩)), (4, .pointer (some ⟨b2, 0, none⟩)), (5, .slice A43 (y26 ++ [t38]).length c44), (6, .int .i8 y14), (7, .int .i8 y30)] ∧ St w no w1 [box b1 ((carr 10 (carr 10 (ci .i64))).enc (Arr.mk' (Arr.mk' 0 : Arr 10 Int) : Arr 10 (Arr 10 Int))) 64, box b2 ((carr 10 (carr 10 (ci .i64))).enc y46) 64, rowsC cSpot A43 c44 41 46 (D29 ++ [(A39, c40)]) (y26 ++ [t38])] [roP pa0 (cPasture.enc a0)]) ?_ ?_
                    · skip
                      refine CJ.block ?_
                      refine CJ.loop (fun k F w1 => ∃ (y47 : Arr 10 (Arr 10 Int)) (y48 : Int), F = [(0, .pointer (some pa0)), (2, .pointer (some ⟨b1, 0, none⟩)), (4, .pointer (some ⟨b2, 0, none⟩)), (5, .slice A43 (y26 ++ [t38]).length c44), (6, .int .i8 y14), (7, .int .i8 y30), (8, .slice A39 t38.length c40), (9, .int .i64 y48)] ∧ St w no w1 [box b1 ((carr 10 (carr 10 (ci .i64))).enc (Arr.mk' (Arr.mk' 0 : Arr 10 Int) : Arr 10 (Arr 10 Int))) 64, box b2 ((carr 10 (carr 10 (ci .i64))).enc y47) 64, rowsC cSpot A43 c44 41 46 (D29 ++ [(A39, c40)]) (y26 ++ [t38])] [roP pa0 (cPasture.enc a0)] ∧ spec_l01Numbers.l3 y26 t38 k y47 y48 = some j237) k (F' := [(0, .pointer (some pa0)), (2, .pointer (some ⟨b1, 0, none⟩)), (4, .pointer (some ⟨b2, 0, none⟩)), (5, .slice A43 (y26 ++ [t38]).length c44), (6, .int .i8 y14), (7, .int .i8 y30), (8, .slice A39 t38.length c40), (9, .int .i64 0)]) ⟨rfl, rfl, rfl, rfl, rfl, rfl, rfl, rfl, trivial⟩ ⟨y25, 0, rfl, hS.pick [0, 1, 2] [0] rfl, H⟩ ?_
                      rintro k F w1 ⟨y47, y48, rfl, hS, H⟩
                      cases k with
                      | zero => rw [spec_l01Numbers.l3] at H; cases H
                      | succ k =>
                        rw [spec_l01Numbers.l3] at H
                        refine CJ.seq ?_
                        refine CJ.seq ?_
                        refine CJ.region ?_
                        refine OJ.pures tU_ok 4 rfl ?_
                        refine OJ.nil (EJ.next ?_)
                        refine CJ.cond rfl (fun hb => ?_) (fun hb => ?_)
                        · replace H := pif_t (of_decide_eq_true hb) H
                          refine CJ.skip (EJ.next ?_)
                          refine CJ.seq ?_
                          refine CJ.block ?_
                          refine CJ.draw [] [0, 1, 2, 3, 4, 5, 6, 7, 8, 9, 10, 11, 12, 13, 14] mixed (by kernel_rfl) hS fun w1 hS => ?_
                          refine DJ.pures tU_ok 2 rfl ?_
                          obtain ⟨t49, ht49, H⟩ := pbind H
                          obtain ⟨ad49, e49⟩ := ((ros_sub (hS.rowsRo (i := 2) rfl) dd45 xd45)).some' ht49
                          refine DJ.st rfl rfl rfl rfl rfl (SR.idxS tU_ok tI_ok rfl rfl rfl rfl e49 rfl (getI_some ht49).1) ?_
                          refine DJ.st rfl rfl rfl rfl rfl (SR.fieldAddr tU_ok tI_ok rfl rfl rfl rfl rfl rfl) ?_
                          refine DJ.st rfl rfl rfl rfl rfl (SR.load rfl rfl (fun w' hx => ld1 tU_ok rfl rfl (CA.ext (CA.sub ((ros_sub (hS.rowsRo (i := 2) rfl) dd45 xd45).at_ e49 ht49) 1) hx) rfl)) ?_
                          refine DJ.pures tU_ok 2 rfl ?_
                          obtain ⟨t50, ht50, H⟩ := pbind H
                          obtain ⟨ad50, e50⟩ := ((ros_sub (hS.rowsRo (i := 2) rfl) dd45 xd45)).some' ht50
                          refine DJ.st rfl rfl rfl rfl rfl (SR.idxS tU_ok tI_ok rfl rfl rfl rfl e50 rfl (getI_some ht50).1) ?_
                          refine DJ.st rfl rfl rfl rfl rfl (SR.fieldAddr tU_ok tI_ok rfl rfl rfl rfl rfl rfl) ?_
                          refine DJ.st rfl rfl rfl rfl rfl (SR.load rfl rfl (fun w' hx => ld1 tU_ok rfl rfl (CA.ext (CA.sub ((ros_sub (hS.rowsRo (i := 2) rfl) dd45 xd45).at_ e50 ht50) 0) hx) rfl)) ?_
                          refine DJ.pures tU_ok 2 rfl ?_
                          obtain ⟨t51, ht51, H⟩ := pbind H
                          refine DJ.st rfl rfl rfl rfl rfl (SR.idxA tU_ok tI_ok rfl rfl rfl rfl rfl (Arr.lt ht51)) ?_
                          obtain ⟨t52, ht52, H⟩ := pbind H
                          refine DJ.st rfl rfl rfl rfl rfl (SR.idxA tU_ok tI_ok rfl rfl rfl rfl rfl (Arr.lt ht52)) ?_
                          refine DJ.es rfl rfl rfl rfl (Es.put tI_ok hS (i := 1) rfl rfl rfl rfl rfl (vs := (ci .i64).enc ((y26 ++ [t38]).length : Int)) rfl rfl (one1 rfl) (Put.idx (Put.idx (Put.all (ci .i64) t52 ((y26 ++ [t38]).length : Int)) ht52) ht51) (by (try simp only [add_lit, Nat.add_assoc, Nat.zero_add, Nat.add_zero]) <;> rfl)) ?_
                          intro w1 hS
                          refine DJ.nil (EJ.blk (EJ.next ?_))
                          refine CJ.region ?_
                          refine OJ.pures tU_ok 3 rfl ?_
                          refine OJ.nil ?_
                          exact EJ.round k (F' := [(0, .pointer (some pa0)), (2, .pointer (some ⟨b1, 0, none⟩)), (4, .pointer (some ⟨b2, 0, none⟩)), (5, .slice A43 (y26 ++ [t38]).length c44), (6, .int .i8 y14), (7, .int .i8 y30), (8, .slice A39 t38.length c40), (9, .int .i64 (IntKind.i64.wrap (y48 + 1)))]) ⟨rfl, rfl, rfl, rfl, rfl, rfl, rfl, rfl, trivial⟩ (Nat.lt_succ_self _) ⟨(aset y47 t49.Y.toNat (aset t51 t50.X.toNat ((y26 ++ [t38]).length : Int))), (IntKind.i64.wrap (y48 + 1)), rfl, hS.pick [0, 1, 2] [0] rfl, H⟩
                        · replace H := pif_f (of_decide_eq_false hb) H
                          refine CJ.exit (EJ.skE (EJ.skE (EJ.hit (?_))))
                          exact EJ.meet (F' := [(0, .pointer (some pa0)), (2, .pointer (some ⟨b1, 0, none⟩)), (4, .pointer (some ⟨b2, 0, none⟩)), (5, .slice A43 (y26 ++ [t38]).length c44), (6, .int .i8 y14), (7, .int .i8 y30)]) ⟨rfl, rfl, rfl, rfl, rfl, rfl, trivial⟩ ⟨y47, H, rfl, hS.pick [0, 1, 2] [0] rfl⟩
                    · rintro F w1 ⟨y46, he, rfl, hS⟩
                      obtain rfl := Option.some.inj he
                      have H := K237
                      refine EJ.blk (?_)
                      exact EJ.meet (F' := [(0, .pointer (some pa0)), (2, .pointer (some ⟨b1, 0, none⟩)), (4, .pointer (some ⟨b2, 0, none⟩)), (5, .slice A43 (y26 ++ [t38]).length c44), (6, .int .i8 y14), (7, .int .i8 y30)]) ⟨rfl, rfl, rfl, rfl, rfl, rfl, trivial⟩ ⟨y46, (y26 ++ [t38]), A43, c44, (D29 ++ [(A39, c40)]), H, rfl, hS.pick [0, 1, 2] [0] rfl⟩
                · rintro F w1 ⟨y31, y32, A33, c34, D35, he, rfl, hS⟩
                  obtain rfl := Option.some.inj he
                  have H := K235
                  refine CJ.region ?_
                  refine OJ.pures tU_ok 3 rfl ?_
                  refine OJ.nil ?_
                  exact EJ.round k (F' := [(0, .pointer (some pa0)), (2, .pointer (some ⟨b1, 0, none⟩)), (4, .pointer (some ⟨b2, 0, none⟩)), (5, .slice A33 y32.length c34), (6, .int .i8 y14), (7, .int .i8 (IntKind.i8.wrap (y30 + 1)))]) ⟨rfl, rfl, rfl, rfl, rfl, rfl, trivial⟩ (Nat.lt_succ_self _) ⟨y31, y32, (IntKind.i8.wrap (y30 + 1)), A33, c34, D35, rfl, hS.pick [0, 1, 2] [0] rfl, H⟩
              · replace H := pif_f (of_decide_eq_false hb) H
                refine CJ.exit (EJ.skE (EJ.skE (EJ.hit (?_))))
                exact EJ.meet (F' := [(0, .pointer (some pa0)), (2, .pointer (some ⟨b1, 0, none⟩)), (4, .pointer (some ⟨b2, 0, none⟩)), (5, .slice A27 y26.length c28), (6, .int .i8 y14)]) ⟨rfl, rfl, rfl, rfl, rfl, trivial⟩ ⟨y25, y26, A27, c28, D29, H, rfl, hS.pick [0, 1, 2] [0] rfl⟩
          · rintro F w1 ⟨y20, y21, A22, c23, D24, he, rfl, hS⟩
            obtain rfl := Option.some.inj he
            have H := K228
            refine EJ.blk (?_)
            exact EJ.meet (F' := [(0, .pointer (some pa0)), (2, .pointer (some ⟨b1, 0, none⟩)), (4, .pointer (some ⟨b2, 0, none⟩)), (5, .slice A22 y21.length c23), (6, .int .i8 y14)]) ⟨rfl, rfl, rfl, rfl, rfl, trivial⟩ ⟨y20, y21, A22, c23, D24, H, rfl, hS.pick [0, 1, 2] [0] rfl⟩
        · rintro F w1 ⟨y15, y16, A17, c18, D19, he, rfl, hS⟩
          obtain rfl := Option.some.inj he
          have H := K217
          refine CJ.region ?_
          refine OJ.pures tU_ok 3 rfl ?_
          refine OJ.nil ?_
          exact EJ.round k (F' := [(0, .pointer (some pa0)), (2, .pointer (some ⟨b1, 0, none⟩)), (4, .pointer (some ⟨b2, 0, none⟩)), (5, .slice A17 y16.length c18), (6, .int .i8 (IntKind.i8.wrap (y14 + 1)))]) ⟨rfl, rfl, rfl, rfl, rfl, trivial⟩ (Nat.lt_succ_self _) ⟨y15, y16, (IntKind.i8.wrap (y14 + 1)), A17, c18, D19, rfl, hS.pick [0, 1, 2] [0] rfl, H⟩
      · replace H := pif_f (of_decide_eq_false hb) H
        refine CJ.exit (EJ.skE (EJ.skE (EJ.hit (?_))))
        exact EJ.meet (F' := [(2, .pointer (some ⟨b1, 0, none⟩)), (4, .pointer (some ⟨b2, 0, none⟩)), (5, .slice A11 y10.length c12)]) ⟨rfl, rfl, rfl, trivial⟩ ⟨y9, y10, A11, c12, D13, H, rfl, hS.pick [0, 1, 2] [0] rfl⟩
  · rintro F w1 ⟨y4, y5, A6, c7, D8, he, rfl, hS⟩
    obtain rfl := Option.some.inj he
    have H := K153
    refine EJ.next ?_
    refine CJ.seq ?_
    refine CJ.region ?_
    refine OJ.st rfl rfl rfl (SR.load rfl rfl (fun w' hx => ldE tU_ok tI_ok rfl rfl rfl (CA.ext (hS.cells (i := 1) rfl) hx) rfl)) ?_
    refine OJ.pures tU_ok 1 rfl ?_
    refine OJ.es rfl rfl (Es.put tI_ok hS (i := 0) rfl rfl rfl rfl rfl (vs := (carr 10 (carr 10 (ci .i64))).enc y4) rfl ((carr 10 (carr 10 (ci .i64))).len _) ((carr 10 (carr 10 (ci .i64))).one _) (Put.all (carr 10 (carr 10 (ci .i64))) (Arr.mk' (Arr.mk' 0 : Arr 10 Int) : Arr 10 (Arr 10 Int)) y4) (by (try simp only [add_lit, Nat.add_assoc, Nat.zero_add, Nat.add_zero]) <;> rfl)) ?_
    intro w1 hS
    refine OJ.pures tU_ok 1 rfl ?_
    refine OJ.nil (EJ.next ?_)
    refine CJ.ret (?_)
    obtain rfl := Option.some.inj H
    exact EJ.fin rfl (.cell rfl (ldE tU_ok tI_ok rfl rfl rfl (hS.cells (i := 0) rfl) rfl) (.tmp rfl .nil)) ⟨A6, c7, D8, rfl, hS.pick [2] [] rfl⟩

def spec_YardsOf.f (k : Nat) (a0 : Pasture) : Option (List (List Spot) × Int) := (spec_l01Ok.f k a0).bind fun t2 => if (!t2) = true then (some (([] : List (List Spot)), 1)) else ((spec_l01Numbers.f k a0).bind fun t4 => some (t4.2, 0))
theorem spec_YardsOf.c (k : Nat) (w : World) (a0 : Pasture) (r : List (List Spot) × Int) (H : spec_YardsOf.f k a0 = some r) :
    CV Tryz.prog 7 [.agg (cPasture.enc a0).toArray].toArray w fun v w' => ∃ (A0 : Option Addr) (c0 : Nat) (D0 : List SH), v = .tuple #[.slice A0 r.1.length c0, .int .i64 r.2] ∧ St w no w' [rowsC cSpot A0 c0 41 46 D0 r.1] [] := by
  have hS := (St.init w no)
  unfold spec_YardsOf.f at H
  refine CV.body Tryz.func7 rfl Tryz.ntmps7 rfl ?_
  refine CJ.seq ?_
  refine CJ.region ?_
  refine OJ.ef rfl rfl rfl (Ef.box hS rfl rfl (cPasture.enc a0) rfl) ?_
  rintro _ w1 ⟨b1, rfl, hS⟩
  refine OJ.pures tU_ok 2 rfl ?_
  refine OJ.nil (EJ.next ?_)
  refine CJ.seq ?_
  refine CJ.seq ?_
  refine CJ.region ?_
  obtain ⟨t2, ht2, H⟩ := pbind H
  refine OJ.callF rfl rfl rfl rfl rfl hb31 rfl (spec_l01Ok.c k _ _ a0 (hS.cells (i := 0) rfl) _ ht2) ?_
  rintro _ w1 ⟨rfl, hs⟩
  replace hS := hS.grow hs
  refine OJ.pures tU_ok 1 rfl ?_
  refine OJ.nil (EJ.next ?_)
  refine CJ.cond rfl (fun hb => ?_) (fun hb => ?_)
  · replace H := pif_t hb H
    refine CJ.seq ?_
    refine CJ.region ?_
    refine OJ.ef rfl rfl rfl (Ef.litS0 (e := 46) tU_ok tI_ok hS rfl rfl rfl rfl cSpot) ?_
    rintro _ w1 ⟨A3, rfl, hS⟩
    refine OJ.pures tU_ok 2 rfl ?_
    refine OJ.nil (EJ.next ?_)
    refine CJ.ret (EJ.skR (?_))
    obtain rfl := Option.some.inj H
    exact EJ.fin rfl (.tmp rfl (.tmp rfl .nil)) ⟨A3, (([] : List (List Spot)).length), [], rfl, hS.pick [1] [] rfl⟩
  · replace H := pifb_f hb H
    refine CJ.skip (EJ.next ?_)
    refine CJ.seq ?_
    refine CJ.region ?_
    obtain ⟨t4, ht4, H⟩ := pbind H
    refine OJ.callF rfl rfl rfl rfl rfl hb32 rfl (spec_l01Numbers.c k _ _ a0 (hS.cells (i := 0) rfl) _ ht4) ?_
    rintro _ w1 ⟨A5, c6, D7, rfl, hs⟩
    replace hS := hS.addN hs
    refine OJ.pures tU_ok 3 rfl ?_
    refine OJ.ef rfl rfl rfl (Ef.alloc hS tI_ok rfl rfl ((carr 10 (carr 10 (ci .i64))).enc (Arr.mk' (Arr.mk' 0 : Arr 10 Int) : Arr 10 (Arr 10 Int))) (by kernel_rfl)) ?_
    rintro _ w1 ⟨b8, rfl, hS⟩
    refine OJ.es rfl rfl (Es.put tI_ok hS (i := 2) rfl rfl rfl rfl rfl (vs := (carr 10 (carr 10 (ci .i64))).enc t4.1) rfl ((carr 10 (carr 10 (ci .i64))).len _) ((carr 10 (carr 10 (ci .i64))).one _) (Put.all (carr 10 (carr 10 (ci .i64))) (Arr.mk' (Arr.mk' 0 : Arr 10 Int) : Arr 10 (Arr 10 Int)) t4.1) (by (try simp only [add_lit, Nat.add_assoc, Nat.zero_add, Nat.add_zero]) <;> rfl)) ?_
    intro w1 hS
    refine OJ.pures tU_ok 1 rfl ?_
    refine OJ.nil (EJ.next ?_)
    refine CJ.seq ?_
    refine CJ.region ?_
    refine OJ.pures tU_ok 3 rfl ?_
    refine OJ.nil (EJ.next ?_)
    refine CJ.ret (?_)
    obtain rfl := Option.some.inj H
    exact EJ.fin rfl (.tmp rfl (.tmp rfl .nil)) ⟨A5, c6, D7, rfl, hS.pick [1] [] rfl⟩

def impl_Hurdle_other.f (a0 : Hurdle) : Option Spot := if a0.South = true then ((impl_Spot_ahead.f a0.At 2).bind fun t3 => some t3) else ((impl_Spot_ahead.f a0.At 1).bind fun t4 => some t4)
theorem impl_Hurdle_other.c (w : World) (a0 : Hurdle) (r : Spot) (H : impl_Hurdle_other.f a0 = some r) :
    CV Tryz.prog 66 [.agg (cHurdle.enc a0).toArray].toArray w fun v w' => v = .agg (cSpot.enc r).toArray ∧ Ext w w' := by
  have hS := (St.init w no)
  unfold impl_Hurdle_other.f at H
  refine CV.body Tryz.func66 rfl Tryz.ntmps66 rfl ?_
  refine CJ.seq ?_
  refine CJ.region ?_
  refine OJ.ef rfl rfl rfl (Ef.box hS rfl rfl (cHurdle.enc a0) rfl) ?_
  rintro _ w1 ⟨b1, rfl, hS⟩
  refine OJ.ef rfl rfl rfl (Ef.alloc hS tI_ok rfl rfl (cSpot.enc (⟨0, 0⟩ : Spot)) rfl) ?_
  rintro _ w1 ⟨b2, rfl, hS⟩
  refine OJ.nil (EJ.next ?_)
  refine CJ.seq ?_
  refine CJ.seq ?_
  refine CJ.region ?_
  refine OJ.st rfl rfl rfl (SR.fieldAddr tU_ok tI_ok rfl rfl rfl rfl rfl rfl) ?_
  refine OJ.st rfl rfl rfl (SR.load rfl rfl (fun w' hx => ld1 tU_ok rfl rfl (CA.ext (CA.sub (hS.cells (i := 0) rfl) 2) hx) rfl)) ?_
  refine OJ.nil (EJ.next ?_)
  refine CJ.cond rfl (fun hb => ?_) (fun hb => ?_)
  · replace H := pif_t hb H
    refine CJ.seq ?_
    refine CJ.region ?_
    refine OJ.st rfl rfl rfl (SR.fieldAddr tU_ok tI_ok rfl rfl rfl rfl rfl rfl) ?_
    refine OJ.st rfl rfl rfl (SR.load rfl rfl (fun w' hx => ldN tU_ok tI_ok rfl rfl rfl (CA.ext (CA.sub (hS.cells (i := 0) rfl) 0) hx) (cSpot.len _) rfl)) ?_
    obtain ⟨t3, ht3, H⟩ := pbind H
    refine OJ.callF rfl rfl rfl rfl rfl hb74 rfl (impl_Spot_ahead.c _ a0.At 2 _ ht3) ?_
    rintro _ w1 ⟨rfl, hs⟩
    replace hS := hS.grow hs
    refine OJ.es rfl rfl (Es.store tI_ok hS (i := 1) rfl rfl rfl rfl rfl rfl (vs := cSpot.enc t3) rfl (cSpot.len _) (cSpot.one _) (Nat.le_of_ble_eq_true rfl) (cSpot.enc t3) rfl) ?_
    intro w1 hS
    refine OJ.nil (EJ.next ?_)
    refine CJ.ret (EJ.skR (?_))
    obtain rfl := Option.some.inj H
    exact EJ.fin rfl (.cell rfl (ldE tU_ok tI_ok rfl rfl rfl (hS.cells (i := 1) rfl) rfl) .nil) ⟨rfl, hS.ext⟩
  · replace H := pifb_f hb H
    refine CJ.skip (EJ.next ?_)
    refine CJ.seq ?_
    refine CJ.region ?_
    refine OJ.st rfl rfl rfl (SR.fieldAddr tU_ok tI_ok rfl rfl rfl rfl rfl rfl) ?_
    refine OJ.st rfl rfl rfl (SR.load rfl rfl (fun w' hx => ldN tU_ok tI_ok rfl rfl rfl (CA.ext (CA.sub (hS.cells (i := 0) rfl) 0) hx) (cSpot.len _) rfl)) ?_
    obtain ⟨t4, ht4, H⟩ := pbind H
    refine OJ.callF rfl rfl rfl rfl rfl hb74 rfl (impl_Spot_ahead.c _ a0.At 1 _ ht4) ?_
    rintro _ w1 ⟨rfl, hs⟩
    replace hS := hS.grow hs
    refine OJ.es rfl rfl (Es.store tI_ok hS (i := 1) rfl rfl rfl rfl rfl rfl (vs := cSpot.enc t4) rfl (cSpot.len _) (cSpot.one _) (Nat.le_of_ble_eq_true rfl) (cSpot.enc t4) rfl) ?_
    intro w1 hS
    refine OJ.nil (EJ.next ?_)
    refine CJ.ret (?_)
    obtain rfl := Option.some.inj H
    exact EJ.fin rfl (.cell rfl (ldE tU_ok tI_ok rfl rfl rfl (hS.cells (i := 1) rfl) rfl) .nil) ⟨rfl, hS.ext⟩

def impl_Pasture_isHurdle.f (a0 : Pasture) (a1 : Hurdle) : Option Bool := (impl_Pasture_isCell.f a0 a1.At).bind fun t3 => if t3 = true then ((impl_Hurdle_other.f a1).bind fun t4 => (impl_Pasture_isCell.f a0 t4).bind fun t5 => some t5) else (some false)
theorem impl_Pasture_isHurdle.c (w : World) (a0 : Pasture) (a1 : Hurdle) (r : Bool) (H : impl_Pasture_isHurdle.f a0 a1 = some r) :
    CV Tryz.prog 95 [.agg (cPasture.enc a0).toArray, .agg (cHurdle.enc a1).toArray].toArray w fun v w' => v = .bool r ∧ Ext w w' := by
  have hS := (St.init w no)
  unfold impl_Pasture_isHurdle.f at H
  refine CV.body Tryz.func95 rfl Tryz.ntmps95 rfl ?_
  refine CJ.seq ?_
  refine CJ.region ?_
  refine OJ.ef rfl rfl rfl (Ef.box hS rfl rfl (cPasture.enc a0) rfl) ?_
  rintro _ w1 ⟨b1, rfl, hS⟩
  refine OJ.ef rfl rfl rfl (Ef.box hS rfl rfl (cHurdle.enc a1) rfl) ?_
  rintro _ w1 ⟨b2, rfl, hS⟩
  refine OJ.pures tU_ok 1 rfl ?_
  refine OJ.nil (EJ.next ?_)
  refine CJ.seq ?_
  refine CJ.draw [] [0, 1, 2, 3, 4, 5, 6, 7, 8, 9, 10] mixed (by kernel_rfl) hS fun w1 hS => ?_
  refine DJ.st rfl rfl rfl rfl rfl (SR.load rfl rfl (fun w' hx => ldE tU_ok tI_ok rfl rfl rfl (CA.ext (hS.cells (i := 0) rfl) hx) rfl)) ?_
  refine DJ.st rfl rfl rfl rfl rfl (SR.fieldAddr tU_ok tI_ok rfl rfl rfl rfl rfl rfl) ?_
  refine DJ.st rfl rfl rfl rfl rfl (SR.load rfl rfl (fun w' hx => ldN tU_ok tI_ok rfl rfl rfl (CA.ext (CA.sub (hS.cells (i := 1) rfl) 0) hx) (cSpot.len _) rfl)) ?_
  obtain ⟨t3, ht3, H⟩ := pbind H
  refine DJ.callF rfl rfl rfl rfl rfl rfl rfl hb58 rfl (impl_Pasture_isCell.c _ a0 a1.At _ ht3) (by rintro v w' ⟨rfl, hs⟩; exact hs) ?_
  rintro _ w1 ⟨rfl, hs⟩
  replace hS := hS.grow hs
  refine DJ.pures tU_ok 1 rfl ?_
  refine DJ.split (t := 9) rfl (fun hb => ?_) (fun hb => ?_)
  · replace H := pif_t hb H
    refine DJ.st rfl rfl rfl rfl rfl (SR.load rfl rfl (fun w' hx => ldE tU_ok tI_ok rfl rfl rfl (CA.ext (hS.cells (i := 0) rfl) hx) rfl)) ?_
    refine DJ.st rfl rfl rfl rfl rfl (SR.load rfl rfl (fun w' hx => ldE tU_ok tI_ok rfl rfl rfl (CA.ext (hS.cells (i := 1) rfl) hx) rfl)) ?_
    obtain ⟨t4, ht4, H⟩ := pbind H
    refine DJ.callF rfl rfl rfl rfl rfl rfl rfl hb66 rfl (impl_Hurdle_other.c _ a1 _ ht4) (by rintro v w' ⟨rfl, hs⟩; exact hs) ?_
    rintro _ w1 ⟨rfl, hs⟩
    replace hS := hS.grow hs
    obtain ⟨t5, ht5, H⟩ := pbind H
    refine DJ.callF rfl rfl rfl rfl rfl rfl rfl hb58 rfl (impl_Pasture_isCell.c _ a0 t4 _ ht5) (by rintro v w' ⟨rfl, hs⟩; exact hs) ?_
    rintro _ w1 ⟨rfl, hs⟩
    replace hS := hS.grow hs
    refine DJ.pures tU_ok 2 rfl ?_
    refine DJ.nil (EJ.next ?_)
    refine CJ.ret (?_)
    obtain rfl := Option.some.inj H
    exact EJ.fin rfl (.tmp rfl .nil) ⟨rfl, hS.ext⟩
  · replace H := pifb_f hb H
    refine DJ.pures tU_ok 6 rfl ?_
    refine DJ.nil (EJ.next ?_)
    refine CJ.ret (?_)
    obtain rfl := Option.some.inj H
    exact EJ.fin rfl (.tmp rfl .nil) ⟨rfl, hS.ext⟩

def impl_Pasture_sides.l2 (a0 : Pasture) (a1 : Hurdle → Option Bool) (t16 : Spot) : Nat → (List Hurdle) → Int → Option (List Hurdle)
  | 0, _, _ => none
  | k + 1, y22, y25 => if y25 < (([false, true] : List Bool).length : Int) then ((getI ([false, true] : List Bool) y25).bind fun t26 => (impl_Pasture_isHurdle.f a0 (⟨t16, t26⟩ : Hurdle)).bind fun t28 => if t28 = true then ((a1 (⟨t16, t26⟩ : Hurdle)).bind fun t29 => if t29 = true then ((chk (y22.length + ([(⟨t16, t26⟩ : Hurdle)] : List Hurdle).length ≤ 4294967296)).bind fun u31 => impl_Pasture_sides.l2 a0 a1 t16 k (y22 ++ ([(⟨t16, t26⟩ : Hurdle)] : List Hurdle)) (IntKind.i64.wrap (y25 + 1))) else (impl_Pasture_sides.l2 a0 a1 t16 k y22 (IntKind.i64.wrap (y25 + 1)))) else (impl_Pasture_sides.l2 a0 a1 t16 k y22 (IntKind.i64.wrap (y25 + 1)))) else (some y22)
def impl_Pasture_sides.l1 (a0 : Pasture) (a1 : Hurdle → Option Bool) (t3 : List Spot) : Nat → (List Hurdle) → Int → Option (List Hurdle)
  | 0, _, _ => none
  | k + 1, y9, y12 => if y12 < (t3.length : Int) then (((getI t3 y12).bind fun t16 => (impl_Pasture_sides.l2 a0 a1 t16 k y9 0).bind fun y19 => some y19).bind fun y13 => impl_Pasture_sides.l1 a0 a1 t3 k y13 (IntKind.i64.wrap (y12 + 1))) else (some y9)
def impl_Pasture_sides.f (k : Nat) (a0 : Pasture) (a1 : Hurdle → Option Bool) : Option (List Hurdle) := (impl_Pasture_all.f k a0).bind fun t3 => (impl_Pasture_sides.l1 a0 a1 t3 k ([] : List Hurdle) 0).bind fun y6 => some y6
theorem impl_Pasture_sides.c (k : Nat) (w : World) (a0 : Pasture) (na1 : Nat) (fsa1 capa1 : Array Value) (hb1 : hasBody Tryz.prog na1) (a1 : Hurdle → Option Bool) (hf1 : ∀ (z0 : Hurdle) (r : Bool), a1 z0 = some r → ∀ w', Chg no w w' → CV Tryz.prog na1 (fsa1 ++ [.agg (cHurdle.enc z0).toArray].toArray ++ capa1) w' fun v w'' => v = .bool r ∧ Ext w' w'') (r : List Hurdle) (H : impl_Pasture_sides.f k a0 a1 = some r) :
    CV Tryz.prog 89 [.agg (cPasture.enc a0).toArray, .func (.func na1) fsa1 capa1].toArray w fun v w' => ∃ (A0 : Option Addr) (c0 : Nat), v = .slice A0 r.length c0 ∧ St w no w' [rowC cHurdle A0 c0 69 r] [] := by
  have hS := (St.init w no)
  unfold impl_Pasture_sides.f at H
  refine CV.body Tryz.func89 rfl Tryz.ntmps89 rfl ?_
  refine CJ.seq ?_
  refine CJ.region ?_
  refine OJ.ef rfl rfl rfl (Ef.box hS rfl rfl (cPasture.enc a0) rfl) ?_
  rintro _ w1 ⟨b1, rfl, hS⟩
  refine OJ.pures tU_ok 1 rfl ?_
  refine OJ.nil (EJ.next ?_)
  refine CJ.seq ?_
  refine CJ.region ?_
  refine OJ.ef rfl rfl rfl (Ef.lit tU_ok tI_ok hS (C := cHurdle) rfl rfl rfl rfl rfl rfl ([] : List Hurdle) rfl rfl rfl rfl) ?_
  rintro _ w1 ⟨A2, rfl, hS⟩
  refine OJ.pures tU_ok 1 rfl ?_
  refine OJ.nil (EJ.next ?_)
  refine CJ.seq ?_
  refine CJ.seq ?_
  refine CJ.region ?_
  refine OJ.st rfl rfl rfl (SR.load rfl rfl (fun w' hx => ldE tU_ok tI_ok rfl rfl rfl (CA.ext (hS.cells (i := 0) rfl) hx) rfl)) ?_
  obtain ⟨t3, ht3, H⟩ := pbind H
  refine OJ.callF rfl rfl rfl rfl rfl hb44 rfl (impl_Pasture_all.c k _ a0 _ ht3) ?_
  rintro _ w1 ⟨A4, c5, rfl, hs⟩
  replace hS := hS.addN hs
  refine OJ.pures tU_ok 2 rfl ?_
  refine OJ.nil (EJ.next ?_)
  obtain ⟨j248, H, K248⟩ := pbind H
  refine CJ.cut1 (fun F w1 => ∃ (y6 : List Hurdle) (A7 : Option Addr) (c8 : Nat), (some y6 : Option (List Hurdle)) = some j248 ∧ F = [(5, .slice A7 y6.length c8)] ∧ St w no w1 [rowC cHurdle A7 c8 69 y6] []) ?_ ?_
  · skip
    refine CJ.block ?_
    refine CJ.loop (fun k F w1 => ∃ (y9 : List Hurdle) (y12 : Int) (A10 : Option Addr) (c11 : Nat), F = [(1, .func (.func na1) fsa1 capa1), (2, .pointer (some ⟨b1, 0, none⟩)), (5, .slice A10 y9.length c11), (13, .slice A4 t3.length c5), (14, .int .i64 (t3.length : Int)), (15, .int .i64 y12)] ∧ St w no w1 [box b1 (cPasture.enc a0) 31, rowC cHurdle A10 c11 69 y9, rowC cSpot A4 c5 46 t3] [] ∧ impl_Pasture_sides.l1 a0 a1 t3 k y9 y12 = some j248) k (F' := [(1, .func (.func na1) fsa1 capa1), (2, .pointer (some ⟨b1, 0, none⟩)), (5, .slice A2 ([] : List Hurdle).length (([] : List Hurdle).length)), (13, .slice A4 t3.length c5), (14, .int .i64 (t3.length : Int)), (15, .int .i64 0)]) ⟨rfl, rfl, rfl, rfl, rfl, rfl, trivial⟩ ⟨([] : List Hurdle), 0, A2, (([] : List Hurdle).length), rfl, hS.pick [0, 1, 2] [] rfl, H⟩ ?_
    rintro k F w1 ⟨y9, y12, A10, c11, rfl, hS, H⟩
    cases k with
    | zero => rw [impl_Pasture_sides.l1] at H; cases H
    | succ k =>
      rw [impl_Pasture_sides.l1] at H
      refine CJ.seq ?_
      refine CJ.region ?_
      refine OJ.pures tU_ok 1 rfl ?_
      refine OJ.nil (EJ.next ?_)
      refine CJ.seq ?_
      refine CJ.cond rfl (fun hb => ?_) (fun hb => ?_)
      · replace H := pif_t (of_decide_eq_true hb) H
        refine CJ.skip (EJ.next ?_)
        obtain ⟨j255, H, K255⟩ := pbind H
        refine CJ.cut (fun F w1 => ∃ (y13 : List Hurdle) (A14 : Option Addr) (c15 : Nat), (some y13 : Option (List Hurdle)) = some j255 ∧ F = [(1, .func (.func na1) fsa1 capa1), (2, .pointer (some ⟨b1, 0, none⟩)), (5, .slice A14 y13.length c15), (13, .slice A4 t3.length c5), (14, .int .i64 (t3.length : Int)), (15, .int .i64 y12)] ∧ St w no w1 [box b1 (cPasture.enc a0) 31, rowC cHurdle A14 c15 69 y13, rowC cSpot A4 c5 46 t3] []) ?_ ?_
        · skip
          refine CJ.block ?_
          refine CJ.seq ?_
          refine CJ.region ?_
          obtain ⟨t16, ht16, H⟩ := pbind H
          obtain ⟨ad16, e16⟩ := (hS.rd (i := 2) rfl).some' ht16
          refine OJ.st rfl rfl rfl (SR.idxS tU_ok tI_ok rfl rfl rfl rfl e16 rfl (getI_some ht16).1) ?_
          refine OJ.st rfl rfl rfl (SR.load rfl rfl (fun w' hx => ldE tU_ok tI_ok rfl rfl rfl (CA.ext ((hS.rd (i := 2) rfl).at_ e16 ht16) hx) rfl)) ?_
          refine OJ.ef rfl rfl rfl (Ef.alloc hS tI_ok rfl rfl (cSpot.enc (⟨0, 0⟩ : Spot)) rfl) ?_
          rintro _ w1 ⟨b17, rfl, hS⟩
          refine OJ.es rfl rfl (Es.store tI_ok hS (i := 3) rfl rfl rfl rfl rfl rfl (vs := cSpot.enc t16) rfl (cSpot.len _) (cSpot.one _) (Nat.le_of_ble_eq_true rfl) (cSpot.enc t16) rfl) ?_
          intro w1 hS
          refine OJ.nil (EJ.next ?_)
          refine CJ.seq ?_
          refine CJ.region ?_
          refine OJ.ef rfl rfl rfl (Ef.lit tU_ok tI_ok hS (C := cb) rfl rfl rfl rfl rfl rfl ([false, true] : List Bool) rfl rfl rfl rfl) ?_
          rintro _ w1 ⟨A18, rfl, hS⟩
          refine OJ.pures tU_ok 2 rfl ?_
          refine OJ.nil (EJ.next ?_)
          obtain ⟨j257, H, K257⟩ := pbind H
          refine CJ.cut1 (fun F w1 => ∃ (y19 : List Hurdle) (A20 : Option Addr) (c21 : Nat), (some y19 : Option (List Hurdle)) = some j257 ∧ F = [(1, .func (.func na1) fsa1 capa1), (2, .pointer (some ⟨b1, 0, none⟩)), (5, .slice A20 y19.length c21), (13, .slice A4 t3.length c5), (14, .int .i64 (t3.length : Int)), (15, .int .i64 y12)] ∧ St w no w1 [box b1 (cPasture.enc a0) 31, rowC cHurdle A20 c21 69 y19, rowC cSpot A4 c5 46 t3] []) ?_ ?_
          · skip
            refine CJ.block ?_
            refine CJ.loop (fun k F w1 => ∃ (y22 : List Hurdle) (y25 : Int) (A23 : Option Addr) (c24 : Nat), F = [(1, .func (.func na1) fsa1 capa1), (2, .pointer (some ⟨b1, 0, none⟩)), (5, .slice A23 y22.length c24), (7, .pointer (some ⟨b17, 0, none⟩)), (13, .slice A4 t3.length c5), (14, .int .i64 (t3.length : Int)), (15, .int .i64 y12), (19, .slice A18 ([false, true] : List Bool).length (([false, true] : List Bool).length)), (20, .int .i64 (([false, true] : List Bool).length : Int)), (21, .int .i64 y25)] ∧ St w no w1 [box b1 (cPasture.enc a0) 31, rowC cHurdle A23 c24 69 y22, rowC cSpot A4 c5 46 t3, box b17 (cSpot.enc t16) 46, rowC cb A18 (([false, true] : List Bool).length) 4 ([false, true] : List Bool)] [] ∧ impl_Pasture_sides.l2 a0 a1 t16 k y22 y25 = some j257) k (F' := [(1, .func (.func na1) fsa1 capa1), (2, .pointer (some ⟨b1, 0, none⟩)), (5, .slice A10 y9.length c11), (7, .pointer (some ⟨b17, 0, none⟩)), (13, .slice A4 t3.length c5), (14, .int .i64 (t3.length : Int)), (15, .int .i64 y12), (19, .slice A18 ([false, true] : List Bool).length (([false, true] : List Bool).length)), (20, .int .i64 (([false, true] : List Bool).length : Int)), (21, .int .i64 0)]) ⟨rfl, rfl, rfl, rfl, rfl, rfl, rfl, rfl, rfl, rfl, trivial⟩ ⟨y9, 0, A10, c11, rfl, hS.pick [0, 1, 2, 3, 4] [] rfl, H⟩ ?_
            rintro k F w1 ⟨y22, y25, A23, c24, rfl, hS, H⟩
            cases k with
            | zero => rw [impl_Pasture_sides.l2] at H; cases H
            | succ k =>
              rw [impl_Pasture_sides.l2] at H
              refine CJ.seq ?_
              refine CJ.region ?_
              refine OJ.pures tU_ok 1 rfl ?_
              refine OJ.nil (EJ.next ?_)
              refine CJ.seq ?_
              refine CJ.cond rfl (fun hb => ?_) (fun hb => ?_)
              · replace H := pif_t (of_decide_eq_true hb) H
                refine CJ.skip (EJ.next ?_)
                refine CJ.seq ?_
                refine CJ.block ?_
                refine CJ.seq ?_
                refine CJ.region ?_
                obtain ⟨t26, ht26, H⟩ := pbind H
                obtain ⟨ad26, e26⟩ := (hS.rd (i := 4) rfl).some' ht26
                refine OJ.st rfl rfl rfl (SR.idxS tU_ok tI_ok rfl rfl rfl rfl e26 rfl (getI_some ht26).1) ?_
                refine OJ.st rfl rfl rfl (SR.load rfl rfl (fun w' hx => ld1 tU_ok rfl rfl (CA.ext ((hS.rd (i := 4) rfl).at_ e26 ht26) hx) rfl)) ?_
                refine OJ.pures tU_ok 1 rfl ?_
                refine OJ.nil (EJ.next ?_)
                refine CJ.seq ?_
                refine CJ.region ?_
                refine OJ.st rfl rfl rfl (SR.load rfl rfl (fun w' hx => ldE tU_ok tI_ok rfl rfl rfl (CA.ext (hS.cells (i := 3) rfl) hx) rfl)) ?_
                refine OJ.pures tU_ok 1 rfl ?_
                refine OJ.st rfl rfl rfl (SR.build (C := cHurdle) tU_ok tI_ok rfl rfl rfl (zs := [.int .i8 0, .int .i8 0, .bool false]) rfl rfl rfl (⟨t16, t26⟩ : Hurdle) rfl) ?_
                refine OJ.ef rfl rfl rfl (Ef.alloc hS tI_ok rfl rfl (cHurdle.enc (⟨(⟨0, 0⟩ : Spot), false⟩ : Hurdle)) rfl) ?_
                rintro _ w1 ⟨b27, rfl, hS⟩
                refine OJ.es rfl rfl (Es.store tI_ok hS (i := 5) rfl rfl rfl rfl rfl rfl (vs := cHurdle.enc (⟨t16, t26⟩ : Hurdle)) rfl (cHurdle.len _) (cHurdle.one _) (Nat.le_of_ble_eq_true rfl) (cHurdle.enc (⟨t16, t26⟩ : Hurdle)) rfl) ?_
                intro w1 hS
                refine OJ.nil (EJ.next ?_)
                refine CJ.seq ?_
                refine CJ.region ?_
                refine OJ.st rfl rfl rfl (SR.load rfl rfl (fun w' hx => ldE tU_ok tI_ok rfl rfl rfl (CA.ext (hS.cells (i := 0) rfl) hx) rfl)) ?_
                refine OJ.st rfl rfl rfl (SR.load rfl rfl (fun w' hx => ldE tU_ok tI_ok rfl rfl rfl (CA.ext (hS.cells (i := 5) rfl) hx) rfl)) ?_
                obtain ⟨t28, ht28, H⟩ := pbind H
                refine OJ.callF rfl rfl rfl rfl rfl hb95 rfl (impl_Pasture_isHurdle.c _ a0 (⟨t16, t26⟩ : Hurdle) _ ht28) ?_
                rintro _ w1 ⟨rfl, hs⟩
                replace hS := hS.grow hs
                refine OJ.pures tU_ok 1 rfl ?_
                refine OJ.split (t := 31) rfl (fun hb => ?_) (fun hb => ?_)
                · replace H := pif_t hb H
                  refine OJ.pures tU_ok 1 rfl ?_
                  refine OJ.st rfl rfl rfl (SR.load rfl rfl (fun w' hx => ldE tU_ok tI_ok rfl rfl rfl (CA.ext (hS.cells (i := 5) rfl) hx) rfl)) ?_
                  obtain ⟨t29, ht29, H⟩ := pbind H
                  refine OJ.call rfl rfl (Nat.le_of_ble_eq_true rfl) rfl rfl rfl hb1 rfl (hf1 (⟨t16, t26⟩ : Hurdle) _ ht29 _ hS.chg) ?_
                  rintro _ w1 ⟨rfl, hs⟩
                  replace hS := hS.grow hs
                  refine OJ.pures tU_ok 1 rfl ?_
                  refine OJ.nil (EJ.next ?_)
                  refine CJ.cond rfl (fun hb => ?_) (fun hb => ?_)
                  · replace H := pif_t hb H
                    refine CJ.region ?_
                    refine OJ.pures tU_ok 1 rfl ?_
                    refine OJ.st rfl rfl rfl (SR.load rfl rfl (fun w' hx => ldE tU_ok tI_ok rfl rfl rfl (CA.ext (hS.cells (i := 5) rfl) hx) rfl)) ?_
                    refine OJ.ef rfl rfl rfl (Ef.lit tU_ok tI_ok hS (C := cHurdle) rfl rfl rfl rfl rfl rfl ([(⟨t16, t26⟩ : Hurdle)] : List Hurdle) rfl rfl rfl rfl) ?_
                    rintro _ w1 ⟨A30, rfl, hS⟩
                    obtain ⟨u31, hu31, H⟩ := pbind H
                    refine OJ.ew rfl rfl rfl (Ew.append tU_ok tI_ok (C := cHurdle) (xs := y22) (ys := ([(⟨t16, t26⟩ : Hurdle)] : List Hurdle)) hS (i := 1) rfl rfl rfl rfl rfl rfl rfl rfl rfl rfl rfl rfl rfl (hS.rd (i := 6) rfl) (chk_some hu31)) ?_
                    rintro _ w1 ⟨A32, c33, rfl, hS⟩
                    refine OJ.pures tU_ok 1 rfl ?_
                    refine OJ.nil (EJ.blk (EJ.next ?_))
                    refine CJ.region ?_
                    refine OJ.pures tU_ok 2 rfl ?_
                    refine OJ.nil ?_
                    exact EJ.round k (F' := [(1, .func (.func na1) fsa1 capa1), (2, .pointer (some ⟨b1, 0, none⟩)), (5, .slice A32 (y22 ++ ([(⟨t16, t26⟩ : Hurdle)] : List Hurdle)).length c33), (7, .pointer (some ⟨b17, 0, none⟩)), (13, .slice A4 t3.length c5), (14, .int .i64 (t3.length : Int)), (15, .int .i64 y12), (19, .slice A18 ([false, true] : List Bool).length (([false, true] : List Bool).length)), (20, .int .i64 (([false, true] : List Bool).length : Int)), (21, .int .i64 (IntKind.i64.wrap (y25 + 1)))]) ⟨rfl, rfl, rfl, rfl, rfl, rfl, rfl, rfl, rfl, rfl, trivial⟩ (Nat.lt_succ_self _) ⟨(y22 ++ ([(⟨t16, t26⟩ : Hurdle)] : List Hurdle)), (IntKind.i64.wrap (y25 + 1)), A32, c33, rfl, hS.pick [0, 1, 2, 3, 4] [] rfl, H⟩
                  · replace H := pifb_f hb H
                    refine CJ.skip (EJ.blk (EJ.next ?_))
                    refine CJ.region ?_
                    refine OJ.pures tU_ok 2 rfl ?_
                    refine OJ.nil ?_
                    exact EJ.round k (F' := [(1, .func (.func na1) fsa1 capa1), (2, .pointer (some ⟨b1, 0, none⟩)), (5, .slice A23 y22.length c24), (7, .pointer (some ⟨b17, 0, none⟩)), (13, .slice A4 t3.length c5), (14, .int .i64 (t3.length : Int)), (15, .int .i64 y12), (19, .slice A18 ([false, true] : List Bool).length (([false, true] : List Bool).length)), (20, .int .i64 (([false, true] : List Bool).length : Int)), (21, .int .i64 (IntKind.i64.wrap (y25 + 1)))]) ⟨rfl, rfl, rfl, rfl, rfl, rfl, rfl, rfl, rfl, rfl, trivial⟩ (Nat.lt_succ_self _) ⟨y22, (IntKind.i64.wrap (y25 + 1)), A23, c24, rfl, hS.pick [0, 1, 2, 3, 4] [] rfl, H⟩
                · replace H := pifb_f hb H
                  refine OJ.pures tU_ok 4 rfl ?_
                  refine OJ.nil (EJ.next ?_)
                  refine CJ.condF rfl ?_
                  refine CJ.skip (EJ.blk (EJ.next ?_))
                  refine CJ.region ?_
                  refine OJ.pures tU_ok 2 rfl ?_
                  refine OJ.nil ?_
                  exact EJ.round k (F' := [(1, .func (.func na1) fsa1 capa1), (2, .pointer (some ⟨b1, 0, none⟩)), (5, .slice A23 y22.length c24), (7, .pointer (some ⟨b17, 0, none⟩)), (13, .slice A4 t3.length c5), (14, .int .i64 (t3.length : Int)), (15, .int .i64 y12), (19, .slice A18 ([false, true] : List Bool).length (([false, true] : List Bool).length)), (20, .int .i64 (([false, true] : List Bool).length : Int)), (21, .int .i64 (IntKind.i64.wrap (y25 + 1)))]) ⟨rfl, rfl, rfl, rfl, rfl, rfl, rfl, rfl, rfl, rfl, trivial⟩ (Nat.lt_succ_self _) ⟨y22, (IntKind.i64.wrap (y25 + 1)), A23, c24, rfl, hS.pick [0, 1, 2, 3, 4] [] rfl, H⟩
              · replace H := pif_f (of_decide_eq_false hb) H
                refine CJ.exit (EJ.skE (EJ.skE (EJ.hit (?_))))
                exact EJ.meet (F' := [(1, .func (.func na1) fsa1 capa1), (2, .pointer (some ⟨b1, 0, none⟩)), (5, .slice A23 y22.length c24), (13, .slice A4 t3.length c5), (14, .int .i64 (t3.length : Int)), (15, .int .i64 y12)]) ⟨rfl, rfl, rfl, rfl, rfl, rfl, trivial⟩ ⟨y22, A23, c24, H, rfl, hS.pick [0, 1, 2] [] rfl⟩
          · rintro F w1 ⟨y19, A20, c21, he, rfl, hS⟩
            obtain rfl := Option.some.inj he
            have H := K257
            refine EJ.blk (?_)
            exact EJ.meet (F' := [(1, .func (.func na1) fsa1 capa1), (2, .pointer (some ⟨b1, 0, none⟩)), (5, .slice A20 y19.length c21), (13, .slice A4 t3.length c5), (14, .int .i64 (t3.length : Int)), (15, .int .i64 y12)]) ⟨rfl, rfl, rfl, rfl, rfl, rfl, trivial⟩ ⟨y19, A20, c21, H, rfl, hS.pick [0, 1, 2] [] rfl⟩
        · rintro F w1 ⟨y13, A14, c15, he, rfl, hS⟩
          obtain rfl := Option.some.inj he
          have H := K255
          refine CJ.region ?_
          refine OJ.pures tU_ok 2 rfl ?_
          refine OJ.nil ?_
          exact EJ.round k (F' := [(1, .func (.func na1) fsa1 capa1), (2, .pointer (some ⟨b1, 0, none⟩)), (5, .slice A14 y13.length c15), (13, .slice A4 t3.length c5), (14, .int .i64 (t3.length : Int)), (15, .int .i64 (IntKind.i64.wrap (y12 + 1)))]) ⟨rfl, rfl, rfl, rfl, rfl, rfl, trivial⟩ (Nat.lt_succ_self _) ⟨y13, (IntKind.i64.wrap (y12 + 1)), A14, c15, rfl, hS.pick [0, 1, 2] [] rfl, H⟩
      · replace H := pif_f (of_decide_eq_false hb) H
        refine CJ.exit (EJ.skE (EJ.skE (EJ.hit (?_))))
        exact EJ.meet (F' := [(5, .slice A10 y9.length c11)]) ⟨rfl, trivial⟩ ⟨y9, A10, c11, H, rfl, hS.pick [1] [] rfl⟩
  · rintro F w1 ⟨y6, A7, c8, he, rfl, hS⟩
    obtain rfl := Option.some.inj he
    have H := K248
    refine EJ.next ?_
    refine CJ.seq ?_
    refine CJ.region ?_
    refine OJ.pures tU_ok 2 rfl ?_
    refine OJ.nil (EJ.next ?_)
    refine CJ.ret (?_)
    obtain rfl := Option.some.inj H
    exact EJ.fin rfl (.tmp rfl .nil) ⟨A7, c8, rfl, hS.pick [0] [] rfl⟩

def impl_Pasture_hurdles.f (k : Nat) (a0 : Pasture) : Option (List Hurdle) := (impl_Pasture_sides.f k a0 (impl_Pasture_stands.f a0)).bind fun t2 => some t2
theorem impl_Pasture_hurdles.c (k : Nat) (w : World) (a0 : Pasture) (r : List Hurdle) (H : impl_Pasture_hurdles.f k a0 = some r) :
    CV Tryz.prog 64 [.agg (cPasture.enc a0).toArray].toArray w fun v w' => ∃ (A0 : Option Addr) (c0 : Nat), v = .slice A0 r.length c0 ∧ St w no w' [rowC cHurdle A0 c0 69 r] [] := by
  have hS := (St.init w no)
  unfold impl_Pasture_hurdles.f at H
  refine CV.body Tryz.func64 rfl Tryz.ntmps64 rfl ?_
  refine CJ.seq ?_
  refine CJ.region ?_
  refine OJ.ef rfl rfl rfl (Ef.box hS rfl rfl (cPasture.enc a0) rfl) ?_
  rintro _ w1 ⟨b1, rfl, hS⟩
  refine OJ.pures tU_ok 1 rfl ?_
  refine OJ.nil (EJ.next ?_)
  refine CJ.seq ?_
  refine CJ.region ?_
  refine OJ.st rfl rfl rfl (SR.load rfl rfl (fun w' hx => ldE tU_ok tI_ok rfl rfl rfl (CA.ext (hS.cells (i := 0) rfl) hx) rfl)) ?_
  refine OJ.st rfl rfl rfl (SR.load rfl rfl (fun w' hx => ldE tU_ok tI_ok rfl rfl rfl (CA.ext (hS.cells (i := 0) rfl) hx) rfl)) ?_
  refine OJ.pures tU_ok 1 rfl ?_
  obtain ⟨t2, ht2, H⟩ := pbind H
  refine OJ.callF rfl rfl rfl rfl rfl hb89 rfl (impl_Pasture_sides.c k _ a0 90 #[.agg (cPasture.enc a0).toArray] #[] hb90 (impl_Pasture_stands.f a0) (fun z0 r h w' hx => CV.cast (impl_Pasture_stands.c w'  a0 z0 r h) (by simp)) _ ht2) ?_
  rintro _ w1 ⟨A3, c4, rfl, hs⟩
  replace hS := hS.addN hs
  refine OJ.pures tU_ok 1 rfl ?_
  refine OJ.nil (EJ.next ?_)
  refine CJ.ret (?_)
  obtain rfl := Option.some.inj H
  exact EJ.fin rfl (.tmp rfl .nil) ⟨A3, c4, rfl, hS.pick [1] [] rfl⟩

def slices_IndexFunc_impl_Hurdle_impl_Hurdle.l1 (a0 : List Hurdle) (a1 : Hurdle → Option Bool) : Nat → Int → Option (Int ⊕ Unit)
  | 0, _ => none
  | k + 1, y1 => if y1 < (a0.length : Int) then ((getI a0 y1).bind fun t2 => (a1 t2).bind fun t3 => if t3 = true then (some (Sum.inl y1)) else (slices_IndexFunc_impl_Hurdle_impl_Hurdle.l1 a0 a1 k (IntKind.i64.wrap (y1 + 1)))) else (some (Sum.inr ()))
def slices_IndexFunc_impl_Hurdle_impl_Hurdle.f (k : Nat) (a0 : List Hurdle) (a1 : Hurdle → Option Bool) : Option Int := (slices_IndexFunc_impl_Hurdle_impl_Hurdle.l1 a0 a1 k 0).bind fun s258 => match s258 with | .inl r => some r | .inr _ => some (-1)
theorem slices_IndexFunc_impl_Hurdle_impl_Hurdle.c (k : Nat) (w : World) (Aa0 : Option Addr) (ca0 : Nat) (a0 : List Hurdle) (hr0 : Rd cHurdle w Aa0 a0) (hc0 : a0.length ≤ ca0) (na1 : Nat) (fsa1 capa1 : Array Value) (hb1 : hasBody Tryz.prog na1) (a1 : Hurdle → Option Bool) (hf1 : ∀ (z0 : Hurdle) (r : Bool), a1 z0 = some r → ∀ w', Chg no w w' → CV Tryz.prog na1 (fsa1 ++ [.agg (cHurdle.enc z0).toArray].toArray ++ capa1) w' fun v w'' => v = .bool r ∧ Ext w' w'') (r : Int) (H : slices_IndexFunc_impl_Hurdle_impl_Hurdle.f k a0 a1 = some r) :
    CV Tryz.prog 88 [.slice Aa0 a0.length ca0, .func (.func na1) fsa1 capa1].toArray w fun v w' => v = .int .i64 r ∧ Ext w w' := by
  have hS := ((St.init w no).param cHurdle Aa0 ca0 a0 hr0 hc0)
  unfold slices_IndexFunc_impl_Hurdle_impl_Hurdle.f at H
  refine CV.body Tryz.func88 rfl Tryz.ntmps88 rfl ?_
  refine CJ.seq ?_
  refine CJ.region ?_
  refine OJ.pures tU_ok 1 rfl ?_
  refine OJ.nil (EJ.next ?_)
  refine CJ.seq ?_
  refine CJ.seq ?_
  refine CJ.region ?_
  refine OJ.pures tU_ok 3 rfl ?_
  refine OJ.nil (EJ.next ?_)
  obtain ⟨j258, H, K258⟩ := pbind H
  refine CJ.cut1 (fun F w1 => (some (Sum.inr ()) : Option (Int ⊕ Unit)) = some j258 ∧ F = [] ∧ St w no w1 [] [roC cHurdle Aa0 ca0 a0]) ?_ ?_
  · skip
    refine CJ.block ?_
    refine CJ.loop (fun k F w1 => ∃ (y1 : Int), F = [(0, .slice Aa0 a0.length ca0), (1, .func (.func na1) fsa1 capa1), (7, .int .i64 (a0.length : Int)), (8, .int .i64 y1)] ∧ St w no w1 [] [roC cHurdle Aa0 ca0 a0] ∧ slices_IndexFunc_impl_Hurdle_impl_Hurdle.l1 a0 a1 k y1 = some j258) k (F' := [(0, .slice Aa0 a0.length ca0), (1, .func (.func na1) fsa1 capa1), (7, .int .i64 (a0.length : Int)), (8, .int .i64 0)]) ⟨rfl, rfl, rfl, rfl, trivial⟩ ⟨0, rfl, hS.pick [] [0] rfl, H⟩ ?_
    rintro k F w1 ⟨y1, rfl, hS, H⟩
    cases k with
    | zero => rw [slices_IndexFunc_impl_Hurdle_impl_Hurdle.l1] at H; cases H
    | succ k =>
      rw [slices_IndexFunc_impl_Hurdle_impl_Hurdle.l1] at H
      refine CJ.seq ?_
      refine CJ.region ?_
      refine OJ.pures tU_ok 1 rfl ?_
      refine OJ.nil (EJ.next ?_)
      refine CJ.seq ?_
      refine CJ.cond rfl (fun hb => ?_) (fun hb => ?_)
      · replace H := pif_t (of_decide_eq_true hb) H
        refine CJ.skip (EJ.next ?_)
        refine CJ.seq ?_
        refine CJ.block ?_
        refine CJ.seq ?_
        refine CJ.region ?_
        refine OJ.pures tU_ok 2 rfl ?_
        refine OJ.nil (EJ.next ?_)
        refine CJ.seq ?_
        refine CJ.region ?_
        refine OJ.pures tU_ok 3 rfl ?_
        obtain ⟨t2, ht2, H⟩ := pbind H
        obtain ⟨ad2, e2⟩ := (hS.rd' (i := 0) rfl).some' ht2
        refine OJ.st rfl rfl rfl (SR.idxS tU_ok tI_ok rfl rfl rfl rfl e2 rfl (getI_some ht2).1) ?_
        refine OJ.st rfl rfl rfl (SR.load rfl rfl (fun w' hx => ldE tU_ok tI_ok rfl rfl rfl (CA.ext ((hS.rd' (i := 0) rfl).at_ e2 ht2) hx) rfl)) ?_
        obtain ⟨t3, ht3, H⟩ := pbind H
        refine OJ.call rfl rfl (Nat.le_of_ble_eq_true rfl) rfl rfl rfl hb1 rfl (hf1 t2 _ ht3 _ hS.chg) ?_
        rintro _ w1 ⟨rfl, hs⟩
        replace hS := hS.grow hs
        refine OJ.nil (EJ.next ?_)
        refine CJ.cond rfl (fun hb => ?_) (fun hb => ?_)
        · replace H := pif_t hb H
          refine CJ.seq ?_
          refine CJ.region ?_
          refine OJ.pures tU_ok 2 rfl ?_
          refine OJ.nil (EJ.next ?_)
          refine CJ.ret (EJ.bkR (EJ.skR (EJ.skR (EJ.bkR (EJ.skR (EJ.skR (?_)))))))
          first | (obtain rfl := Option.some.inj H; have H := K258) | (obtain ⟨q258, H2, e258⟩ := pbind H; obtain rfl := Option.some.inj e258; obtain rfl := Option.some.inj K258; have H := H2)
          obtain rfl := Option.some.inj H
          exact EJ.fin rfl (.tmp rfl .nil) ⟨rfl, hS.ext⟩
        · replace H := pifb_f hb H
          refine CJ.skip (EJ.blk (EJ.next ?_))
          refine CJ.region ?_
          refine OJ.pures tU_ok 2 rfl ?_
          refine OJ.nil ?_
          exact EJ.round k (F' := [(0, .slice Aa0 a0.length ca0), (1, .func (.func na1) fsa1 capa1), (7, .int .i64 (a0.length : Int)), (8, .int .i64 (IntKind.i64.wrap (y1 + 1)))]) ⟨rfl, rfl, rfl, rfl, trivial⟩ (Nat.lt_succ_self _) ⟨(IntKind.i64.wrap (y1 + 1)), rfl, hS.pick [] [0] rfl, H⟩
      · replace H := pif_f (of_decide_eq_false hb) H
        refine CJ.exit (EJ.skE (EJ.skE (EJ.hit (?_))))
        exact EJ.meet (F' := []) trivial ⟨H, rfl, hS.pick [] [0] rfl⟩
  · rintro F w1 ⟨he, rfl, hS⟩
    obtain rfl := Option.some.inj he
    have H := K258
    refine EJ.next ?_
    refine CJ.seq ?_
    refine CJ.region ?_
    refine OJ.pures tU_ok 1 rfl ?_
    refine OJ.nil (EJ.next ?_)
    refine CJ.ret (?_)
    obtain rfl := Option.some.inj H
    exact EJ.fin rfl (.tmp rfl .nil) ⟨rfl, hS.ext⟩

def slices_DeleteFunc_impl_Hurdle_impl_Hurdle.l1 (a1 : Hurdle → Option Bool) : Nat → (List Hurdle) → Int → Int → Option ((List Hurdle) × Int)
  | 0, _, _, _ => none
  | k + 1, y4, y5, y6 => if y6 < (y4.length : Int) then ((getI y4 y6).bind fun t7 => (a1 t7).bind fun t9 => if (!t9) = true then ((getI y4 y5).bind fun t10 => slices_DeleteFunc_impl_Hurdle_impl_Hurdle.l1 a1 k (y4.set y5.toNat t7) (IntKind.i64.wrap (y5 + 1)) (IntKind.i64.wrap (y6 + 1))) else (slices_DeleteFunc_impl_Hurdle_impl_Hurdle.l1 a1 k y4 y5 (IntKind.i64.wrap (y6 + 1)))) else (some (y4, y5))
def slices_DeleteFunc_impl_Hurdle_impl_Hurdle.f (k : Nat) (a0 : List Hurdle) (a1 : Hurdle → Option Bool) : Option (List Hurdle) := (slices_IndexFunc_impl_Hurdle_impl_Hurdle.f k a0 a1).bind fun t1 => if t1 = (-1) then (some a0) else ((slices_DeleteFunc_impl_Hurdle_impl_Hurdle.l1 a1 k a0 t1 (IntKind.i64.wrap (t1 + 1))).bind fun (y2, y3) => (chk ((0 : Int) ≤ y3 ∧ y3 ≤ (y2.length : Int) ∧ (y2.length : Int) ≤ (y2.length : Int))).bind fun u11 => (chk ((0 : Int) ≤ 0 ∧ 0 ≤ y3 ∧ y3 ≤ ((y2.take y3.toNat ++ List.replicate (y2.length - y3.toNat) (⟨(⟨0, 0⟩ : Spot), false⟩ : Hurdle)).length : Int))).bind fun u12 => some ((y2.take y3.toNat ++ List.replicate (y2.length - y3.toNat) (⟨(⟨0, 0⟩ : Spot), false⟩ : Hurdle)).take y3.toNat))
theorem slices_DeleteFunc_impl_Hurdle_impl_Hurdle.c (k : Nat) (w : World) (Aa0 : Option Addr) (ca0 : Nat) (a0 : List Hurdle) (na1 : Nat) (fsa1 capa1 : Array Value) (hb1 : hasBody Tryz.prog na1) (a1 : Hurdle → Option Bool) (hf1 : ∀ (z0 : Hurdle) (r : Bool), a1 z0 = some r → ∀ w', Chg (fpU [rowC cHurdle Aa0 ca0 69 a0]) w w' → CV Tryz.prog na1 (fsa1 ++ [.agg (cHurdle.enc z0).toArray].toArray ++ capa1) w' fun v w'' => v = .bool r ∧ Ext w' w'') (hin : St w (fpU [rowC cHurdle Aa0 ca0 69 a0]) w [rowC cHurdle Aa0 ca0 69 a0] []) (r : List Hurdle) (H : slices_DeleteFunc_impl_Hurdle_impl_Hurdle.f k a0 a1 = some r) :
    CV Tryz.prog 63 [.slice Aa0 a0.length ca0, .func (.func na1) fsa1 capa1].toArray w fun v w' => ∃ (A0 : Option Addr) (c0 : Nat), v = .slice A0 r.length c0 ∧ St w (fpU [rowC cHurdle Aa0 ca0 69 a0]) w' [rowC cHurdle A0 c0 69 r] [] := by
  have hS := hin
  unfold slices_DeleteFunc_impl_Hurdle_impl_Hurdle.f at H
  refine CV.body Tryz.func63 rfl Tryz.ntmps63 rfl ?_
  refine CJ.seq ?_
  refine CJ.region ?_
  refine OJ.pures tU_ok 1 rfl ?_
  refine OJ.nil (EJ.next ?_)
  refine CJ.seq ?_
  refine CJ.region ?_
  refine OJ.pures tU_ok 2 rfl ?_
  obtain ⟨t1, ht1, H⟩ := pbind H
  refine OJ.callF rfl rfl rfl rfl rfl hb88 rfl (slices_IndexFunc_impl_Hurdle_impl_Hurdle.c k _ Aa0 ca0 a0 (hS.rd (i := 0) rfl) (hS.le (i := 0) rfl) na1 fsa1 capa1 hb1 a1 (fun z0 r h w' hx => hf1 z0 r h w' (hS.chg.then hx (fun _ _ e => e.elim))) _ ht1) ?_
  rintro _ w1 ⟨rfl, hs⟩
  replace hS := hS.grow hs
  refine OJ.pures tU_ok 1 rfl ?_
  refine OJ.nil (EJ.next ?_)
  refine CJ.seq ?_
  refine CJ.seq ?_
  refine CJ.region ?_
  refine OJ.pures tU_ok 2 rfl ?_
  refine OJ.nil (EJ.next ?_)
  refine CJ.cond rfl (fun hb => ?_) (fun hb => ?_)
  · replace H := pif_t (of_decide_eq_true hb) H
    refine CJ.seq ?_
    refine CJ.region ?_
    refine OJ.pures tU_ok 2 rfl ?_
    refine OJ.nil (EJ.next ?_)
    refine CJ.ret (EJ.skR (?_))
    obtain rfl := Option.some.inj H
    exact EJ.fin rfl (.tmp rfl .nil) ⟨Aa0, ca0, rfl, hS.pick [0] [] rfl⟩
  · replace H := pif_f (of_decide_eq_false hb) H
    refine CJ.skip (EJ.next ?_)
    refine CJ.seq ?_
    refine CJ.seq ?_
    refine CJ.region ?_
    refine OJ.pures tU_ok 3 rfl ?_
    refine OJ.nil (EJ.next ?_)
    obtain ⟨j259, H, K259⟩ := pbind H
    refine CJ.cut1 (fun F w1 => ∃ (y2 : List Hurdle) (y3 : Int) , (some (y2, y3) : Option ((List Hurdle) × Int)) = some j259 ∧ F = [(0, .slice Aa0 y2.length ca0), (5, .int .i64 y3)] ∧ St w (fpU [rowC cHurdle Aa0 ca0 69 a0]) w1 [rowC cHurdle Aa0 ca0 69 y2] []) ?_ ?_
    · skip
      refine CJ.block ?_
      refine CJ.loop (fun k F w1 => ∃ (y4 : List Hurdle) (y5 : Int) (y6 : Int), F = [(0, .slice Aa0 y4.length ca0), (1, .func (.func na1) fsa1 capa1), (5, .int .i64 y5), (6, .int .i64 y6)] ∧ St w (fpU [rowC cHurdle Aa0 ca0 69 a0]) w1 [rowC cHurdle Aa0 ca0 69 y4] [] ∧ slices_DeleteFunc_impl_Hurdle_impl_Hurdle.l1 a1 k y4 y5 y6 = some j259) k (F' := [(0, .slice Aa0 a0.length ca0), (1, .func (.func na1) fsa1 capa1), (5, .int .i64 t1), (6, .int .i64 (IntKind.i64.wrap (t1 + 1)))]) ⟨rfl, rfl, rfl, rfl, trivial⟩ ⟨a0, t1, (IntKind.i64.wrap (t1 + 1)), rfl, hS.pick [0] [] rfl, H⟩ ?_
      rintro k F w1 ⟨y4, y5, y6, rfl, hS, H⟩
      cases k with
      | zero => rw [slices_DeleteFunc_impl_Hurdle_impl_Hurdle.l1] at H; cases H
      | succ k =>
        rw [slices_DeleteFunc_impl_Hurdle_impl_Hurdle.l1] at H
        refine CJ.seq ?_
        refine CJ.seq ?_
        refine CJ.region ?_
        refine OJ.pures tU_ok 4 rfl ?_
        refine OJ.nil (EJ.next ?_)
        refine CJ.cond rfl (fun hb => ?_) (fun hb => ?_)
        · replace H := pif_t (of_decide_eq_true hb) H
          refine CJ.skip (EJ.next ?_)
          refine CJ.seq ?_
          refine CJ.block ?_
          refine CJ.seq ?_
          refine CJ.region ?_
          refine OJ.pures tU_ok 2 rfl ?_
          obtain ⟨t7, ht7, H⟩ := pbind H
          obtain ⟨ad7, e7⟩ := (hS.rd (i := 0) rfl).some' ht7
          refine OJ.st rfl rfl rfl (SR.idxS tU_ok tI_ok rfl rfl rfl rfl e7 rfl (getI_some ht7).1) ?_
          refine OJ.st rfl rfl rfl (SR.load rfl rfl (fun w' hx => ldE tU_ok tI_ok rfl rfl rfl (CA.ext ((hS.rd (i := 0) rfl).at_ e7 ht7) hx) rfl)) ?_
          refine OJ.ef rfl rfl rfl (Ef.alloc hS tI_ok rfl rfl (cHurdle.enc (⟨(⟨0, 0⟩ : Spot), false⟩ : Hurdle)) rfl) ?_
          rintro _ w1 ⟨b8, rfl, hS⟩
          refine OJ.es rfl rfl (Es.store tI_ok hS (i := 1) rfl rfl rfl rfl rfl rfl (vs := cHurdle.enc t7) rfl (cHurdle.len _) (cHurdle.one _) (Nat.le_of_ble_eq_true rfl) (cHurdle.enc t7) rfl) ?_
          intro w1 hS
          refine OJ.nil (EJ.next ?_)
          refine CJ.seq ?_
          refine CJ.region ?_
          refine OJ.pures tU_ok 1 rfl ?_
          refine OJ.st rfl rfl rfl (SR.load rfl rfl (fun w' hx => ldE tU_ok tI_ok rfl rfl rfl (CA.ext (hS.cells (i := 1) rfl) hx) rfl)) ?_
          obtain ⟨t9, ht9, H⟩ := pbind H
          refine OJ.call rfl rfl (Nat.le_of_ble_eq_true rfl) rfl rfl rfl hb1 rfl (hf1 t7 _ ht9 _ hS.chg) ?_
          rintro _ w1 ⟨rfl, hs⟩
          replace hS := hS.grow hs
          refine OJ.pures tU_ok 1 rfl ?_
          refine OJ.nil (EJ.next ?_)
          refine CJ.cond rfl (fun hb => ?_) (fun hb => ?_)
          · replace H := pif_t hb H
            refine CJ.seq ?_
            refine CJ.region ?_
            refine OJ.pures tU_ok 2 rfl ?_
            refine OJ.st rfl rfl rfl (SR.load rfl rfl (fun w' hx => ldE tU_ok tI_ok rfl rfl rfl (CA.ext (hS.cells (i := 1) rfl) hx) rfl)) ?_
            obtain ⟨t10, ht10, H⟩ := pbind H
            obtain ⟨ad10, e10⟩ := (hS.rd (i := 0) rfl).some' ht10
            refine OJ.st rfl rfl rfl (SR.idxS tU_ok tI_ok rfl rfl rfl rfl e10 rfl (getI_some ht10).1) ?_
            refine OJ.es rfl rfl (Es.storeR tI_ok hS (i := 0) (off := 0) rfl rfl ht10 e10 rfl rfl rfl rfl (vs := cHurdle.enc t7) rfl (cHurdle.len _) (cHurdle.one _) (Nat.le_of_ble_eq_true rfl) t7 rfl) ?_
            intro w1 hS
            refine OJ.as (t := 0) rfl (show _ = (.slice Aa0 (y4.set y5.toNat t7).length ca0 : Value) by simp only [List.length_set]) ?_
            refine OJ.as (t := 17) rfl (show _ = (.slice Aa0 (y4.set y5.toNat t7).length ca0 : Value) by simp only [List.length_set]) ?_
            refine OJ.as (t := 22) rfl (show _ = (.slice Aa0 (y4.set y5.toNat t7).length ca0 : Value) by simp only [List.length_set]) ?_
            refine OJ.as (t := 30) rfl (show _ = (.slice Aa0 (y4.set y5.toNat t7).length ca0 : Value) by simp only [List.length_set]) ?_
            refine OJ.nil (EJ.next ?_)
            refine CJ.region ?_
            refine OJ.pures tU_ok 3 rfl ?_
            refine OJ.nil (EJ.blk (EJ.next ?_))
            refine CJ.region ?_
            refine OJ.pures tU_ok 3 rfl ?_
            refine OJ.nil ?_
            exact EJ.round k (F' := [(0, .slice Aa0 (y4.set y5.toNat t7).length ca0), (1, .func (.func na1) fsa1 capa1), (5, .int .i64 (IntKind.i64.wrap (y5 + 1))), (6, .int .i64 (IntKind.i64.wrap (y6 + 1)))]) ⟨rfl, rfl, rfl, rfl, trivial⟩ (Nat.lt_succ_self _) ⟨(y4.set y5.toNat t7), (IntKind.i64.wrap (y5 + 1)), (IntKind.i64.wrap (y6 + 1)), rfl, hS.pick [0] [] rfl, H⟩
          · replace H := pifb_f hb H
            refine CJ.skip (EJ.blk (EJ.next ?_))
            refine CJ.region ?_
            refine OJ.pures tU_ok 3 rfl ?_
            refine OJ.nil ?_
            exact EJ.round k (F' := [(0, .slice Aa0 y4.length ca0), (1, .func (.func na1) fsa1 capa1), (5, .int .i64 y5), (6, .int .i64 (IntKind.i64.wrap (y6 + 1)))]) ⟨rfl, rfl, rfl, rfl, trivial⟩ (Nat.lt_succ_self _) ⟨y4, y5, (IntKind.i64.wrap (y6 + 1)), rfl, hS.pick [0] [] rfl, H⟩
        · replace H := pif_f (of_decide_eq_false hb) H
          refine CJ.exit (EJ.skE (EJ.skE (EJ.hit (?_))))
          exact EJ.meet (F' := [(0, .slice Aa0 y4.length ca0), (5, .int .i64 y5)]) ⟨rfl, rfl, trivial⟩ ⟨y4, y5, H, rfl, hS.pick [0] [] rfl⟩
    · rintro F w1 ⟨y2, y3, he, rfl, hS⟩
      obtain rfl := Option.some.inj he
      have H := K259
      refine EJ.next ?_
      refine CJ.seq ?_
      refine CJ.region ?_
      refine OJ.pures tU_ok 2 rfl ?_
      obtain ⟨u11, hu11, H⟩ := pbind H
      refine OJ.st rfl rfl rfl (SR.cutS tU_ok tI_ok (y3.toNat) (y2.length) rfl rfl rfl rfl rfl rfl (.inr ⟨_, _, rfl, (chk_some hu11).1, rfl⟩) (.inl ⟨rfl, rfl⟩) (by have := (chk_some hu11); omega) (by have := (chk_some hu11); have := (hS.le (i := 0) rfl : y2.length ≤ ca0); omega)) ?_
      refine OJ.ewn rfl rfl (Ew.clear tU_ok tI_ok (C := cHurdle) (lo := y3.toNat) hS (i := 0) rfl rfl rfl rfl rfl rfl rfl rfl rfl (⟨(⟨0, 0⟩ : Spot), false⟩ : Hurdle) rfl (by have := (chk_some hu11); omega) rfl) ?_
      rintro _ w1 ⟨rfl, hS⟩
      refine OJ.as (t := 0) rfl (show _ = (.slice Aa0 (y2.take y3.toNat ++ List.replicate (y2.length - y3.toNat) (⟨(⟨0, 0⟩ : Spot), false⟩ : Hurdle)).length ca0 : Value) by (rw [List.length_append, List.length_take, List.length_replicate, Nat.min_eq_left (by have := (chk_some hu11); omega), Nat.add_sub_cancel' (by have := (chk_some hu11); omega)])) ?_
      refine OJ.as (t := 36) rfl (show _ = (.slice Aa0 (y2.take y3.toNat ++ List.replicate (y2.length - y3.toNat) (⟨(⟨0, 0⟩ : Spot), false⟩ : Hurdle)).length ca0 : Value) by (rw [List.length_append, List.length_take, List.length_replicate, Nat.min_eq_left (by have := (chk_some hu11); omega), Nat.add_sub_cancel' (by have := (chk_some hu11); omega)])) ?_
      refine OJ.nil (EJ.next ?_)
      refine CJ.seq ?_
      refine CJ.region ?_
      refine OJ.pures tU_ok 2 rfl ?_
      obtain ⟨u12, hu12, H⟩ := pbind H
      refine OJ.st rfl rfl rfl (SR.cut0 tU_ok tI_ok rfl rfl rfl rfl rfl (by have := (chk_some hu12); omega) (by have := (chk_some hu12); have := (hS.le (i := 0) rfl : (y2.take y3.toNat ++ List.replicate (y2.length - y3.toNat) (⟨(⟨0, 0⟩ : Spot), false⟩ : Hurdle)).length ≤ ca0); omega)) ?_
      replace hS := hS.shrink (i := 0) (m := y3.toNat) rfl (by have := (chk_some hu12); omega)
      refine OJ.as (t := 41) rfl (show _ = (.slice Aa0 ((y2.take y3.toNat ++ List.replicate (y2.length - y3.toNat) (⟨(⟨0, 0⟩ : Spot), false⟩ : Hurdle)).take y3.toNat).length ca0 : Value) by rw [List.length_take, Nat.min_eq_left (by have := (chk_some hu12); omega)]) ?_
      refine OJ.pures tU_ok 1 rfl ?_
      refine OJ.nil (EJ.next ?_)
      refine CJ.ret (?_)
      obtain rfl := Option.some.inj H
      exact EJ.fin rfl (.tmp rfl .nil) ⟨Aa0, ca0, rfl, hS.pick [0] [] rfl⟩

def impl_Pasture_idle_1.f (a1 : List (Spot × Int)) (a0 : Hurdle) : Option Bool := (impl_Hurdle_other.f a0).bind fun t2 => some (decide ((getV a1 a0.At) ≠ (getV a1 t2)))
theorem impl_Pasture_idle_1.c (w : World) (ba1 : Nat) (a1 : List (Spot × Int)) (hm1 : (mapV cSpot ba1 a1).holds w) (pa1 : Addr) (hp1 : CA w pa1 [.map (some ba1)]) (a0 : Hurdle) (r : Bool) (H : impl_Pasture_idle_1.f a1 a0 = some r) :
    CV Tryz.prog 65 [.agg (cHurdle.enc a0).toArray, .pointer (some pa1)].toArray w fun v w' => v = .bool r ∧ Ext w w' := by
  have hS := (((St.init w no).read (mapV cSpot ba1 a1) hm1 (by simp)).paramP pa1 [.map (some ba1)] hp1)
  unfold impl_Pasture_idle_1.f at H
  refine CV.body Tryz.func65 rfl Tryz.ntmps65 rfl ?_
  refine CJ.seq ?_
  refine CJ.region ?_
  refine OJ.ef rfl rfl rfl (Ef.box hS rfl rfl (cHurdle.enc a0) rfl) ?_
  rintro _ w1 ⟨b1, rfl, hS⟩
  refine OJ.pures tU_ok 1 rfl ?_
  refine OJ.nil (EJ.next ?_)
  refine CJ.seq ?_
  obtain ⟨t2, ht2, H⟩ := pbind H
  refine CJ.cut1 (fun F w1 => F = [(3, .bool (decide ((getV a1 a0.At) ≠ (getV a1 t2))))] ∧ St w no w1 [box b1 (cHurdle.enc a0) 69] [mapV cSpot ba1 a1, roP pa1 ([.map (some ba1)])]) ?_ ?_
  · skip
    refine CJ.drawT [] [3, 6, 7] (.one 0 (.one 1 (.one 2 (.one 4 (.one 5 (.br (.alt 3 (.one 6 (.one 7 (.one 8 (.one 9 (.fin))))) (.alt 6 (.br (.alt 3 (.one 7 (.one 8 (.one 9 (.fin)))) (.alt 7 (.one 3 (.one 8 (.one 9 (.fin)))) (.stop)))) (.stop))))))))) mixed (by kernel_rfl) hS [0] fun w1 hS hY hV => ?_
    refine TJ.st hY rfl rfl rfl rfl rfl (fun w2 hY => SR.load rfl rfl (fun w' hx => ld1 tU_ok rfl rfl (CA.ext ((hV w2 hY).ca (i := 1) rfl) hx) rfl)) ?_
    refine TJ.sp rfl rfl rfl rfl rfl (fun w2 => SR.fieldAddr tU_ok tI_ok rfl rfl rfl rfl rfl rfl) ?_
    refine TJ.st hY rfl rfl rfl rfl rfl (fun w2 hY => SR.load rfl rfl (fun w' hx => ldN tU_ok tI_ok rfl rfl rfl (CA.ext (CA.sub ((hV w2 hY).cellsR (i := 2) rfl) 0) hx) (cSpot.len _) rfl)) ?_
    refine TJ.st hY rfl rfl rfl rfl rfl (fun w2 hY => SR.load rfl rfl (fun w' hx => ld1 tU_ok rfl rfl (CA.ext ((hV w2 hY).ca (i := 1) rfl) hx) rfl)) ?_
    refine TJ.st hY rfl rfl rfl rfl rfl (fun w2 hY => SR.load rfl rfl (fun w' hx => ldE tU_ok tI_ok rfl rfl rfl (CA.ext ((hV w2 hY).cellsR (i := 2) rfl) hx) rfl)) ?_
    refine TJ.br ?_
    refine TJ.alt ?_ ?_
    · skip
      refine TJ.se hY rfl rfl rfl rfl rfl (SR.lookupV key46 (E := 3) (by kernel_rfl) (by kernel_rfl) (zero_of (E := 3) tI_ok rfl rfl) (hS.ro (i := 0) rfl) rfl rfl rfl) ?_
      refine TJ.callF hY rfl rfl rfl rfl rfl rfl rfl hb66 rfl (impl_Hurdle_other.c _ a0 _ ht2) (by rintro v w' ⟨rfl, hs⟩; exact hs) ?_
      rintro _ w1 hY ⟨rfl, hs⟩
      replace hS := hS.grow hs
      refine TJ.se hY rfl rfl rfl rfl rfl (SR.lookupV key46 (E := 3) (by kernel_rfl) (by kernel_rfl) (zero_of (E := 3) tI_ok rfl rfl) (hS.ro (i := 0) rfl) rfl rfl rfl) ?_
      refine TJ.pures tU_ok 2 rfl ?_
      refine TJ.nil ?_
      exact EJ.meet (F' := [(3, .bool (decide ((getV a1 a0.At) ≠ (getV a1 t2))))]) ⟨rfl, trivial⟩ ⟨rfl, hS.pick [0] [0, 1] rfl⟩
    refine TJ.alt ?_ ?_
    · skip
      refine TJ.callF hY rfl rfl rfl rfl rfl rfl rfl hb66 rfl (impl_Hurdle_other.c _ a0 _ ht2) (by rintro v w' ⟨rfl, hs⟩; exact hs) ?_
      rintro _ w1 hY ⟨rfl, hs⟩
      replace hS := hS.grow hs
      refine TJ.br ?_
      refine TJ.alt ?_ ?_
      · skip
        refine TJ.se hY rfl rfl rfl rfl rfl (SR.lookupV key46 (E := 3) (by kernel_rfl) (by kernel_rfl) (zero_of (E := 3) tI_ok rfl rfl) (hS.ro (i := 0) rfl) rfl rfl rfl) ?_
        refine TJ.se hY rfl rfl rfl rfl rfl (SR.lookupV key46 (E := 3) (by kernel_rfl) (by kernel_rfl) (zero_of (E := 3) tI_ok rfl rfl) (hS.ro (i := 0) rfl) rfl rfl rfl) ?_
        refine TJ.pures tU_ok 2 rfl ?_
        refine TJ.nil ?_
        exact EJ.meet (F' := [(3, .bool (decide ((getV a1 a0.At) ≠ (getV a1 t2))))]) ⟨rfl, trivial⟩ ⟨rfl, hS.pick [0] [0, 1] rfl⟩
      refine TJ.alt ?_ ?_
      · skip
        refine TJ.se hY rfl rfl rfl rfl rfl (SR.lookupV key46 (E := 3) (by kernel_rfl) (by kernel_rfl) (zero_of (E := 3) tI_ok rfl rfl) (hS.ro (i := 0) rfl) rfl rfl rfl) ?_
        refine TJ.se hY rfl rfl rfl rfl rfl (SR.lookupV key46 (E := 3) (by kernel_rfl) (by kernel_rfl) (zero_of (E := 3) tI_ok rfl rfl) (hS.ro (i := 0) rfl) rfl rfl rfl) ?_
        refine TJ.pures tU_ok 2 rfl ?_
        refine TJ.nil ?_
        exact EJ.meet (F' := [(3, .bool (decide ((getV a1 a0.At) ≠ (getV a1 t2))))]) ⟨rfl, trivial⟩ ⟨rfl, hS.pick [0] [0, 1] rfl⟩
      exact TJ.stop
    exact TJ.stop
  · rintro F w1 ⟨rfl, hS⟩
    refine EJ.next ?_
    refine CJ.ret (?_)
    obtain rfl := Option.some.inj H
    exact EJ.fin rfl (.tmp rfl .nil) ⟨rfl, hS.ext⟩

def impl_Pasture_idle.l2 (y10 : Int) (t12 : List Spot) : Nat → (List (Spot × Int)) → Int → Option (List (Spot × Int))
  | 0, _, _ => none
  | k + 1, y14, y15 => if y15 < (t12.length : Int) then ((getI t12 y15).bind fun t16 => impl_Pasture_idle.l2 y10 t12 k (setV y14 t16 y10) (IntKind.i64.wrap (y15 + 1))) else (some y14)
def impl_Pasture_idle.l1 (t4 : List (List Spot)) : Nat → (List (Spot × Int)) → Int → Option (List (Spot × Int))
  | 0, _, _ => none
  | k + 1, y9, y10 => if y10 < (t4.length : Int) then (((getI t4 y10).bind fun t12 => (impl_Pasture_idle.l2 y10 t12 k y9 0).bind fun y13 => some y13).bind fun y11 => impl_Pasture_idle.l1 t4 k y11 (IntKind.i64.wrap (y10 + 1))) else (some y9)
def impl_Pasture_idle.f (k : Nat) (a0 : Pasture) : Option (List Hurdle) := (impl_Pasture_yards.f k a0).bind fun t4 => (impl_Pasture_idle.l1 t4 k ([] : List (Spot × Int)) 0).bind fun y8 => (impl_Pasture_hurdles.f k a0).bind fun t18 => (slices_DeleteFunc_impl_Hurdle_impl_Hurdle.f k t18 (impl_Pasture_idle_1.f y8)).bind fun t21 => some t21
theorem impl_Pasture_idle.c (k : Nat) (w : World) (a0 : Pasture) (r : List Hurdle) (H : impl_Pasture_idle.f k a0 = some r) :
    CV Tryz.prog 34 [.agg (cPasture.enc a0).toArray].toArray w fun v w' => ∃ (A0 : Option Addr) (c0 : Nat), v = .slice A0 r.length c0 ∧ St w no w' [rowC cHurdle A0 c0 69 r] [] := by
  have hS := (St.init w no)
  unfold impl_Pasture_idle.f at H
  refine CV.body Tryz.func34 rfl Tryz.ntmps34 rfl ?_
  refine CJ.seq ?_
  refine CJ.region ?_
  refine OJ.ef rfl rfl rfl (Ef.box hS rfl rfl (cPasture.enc a0) rfl) ?_
  rintro _ w1 ⟨b1, rfl, hS⟩
  refine OJ.pures tU_ok 1 rfl ?_
  refine OJ.nil (EJ.next ?_)
  refine CJ.seq ?_
  refine CJ.region ?_
  refine OJ.ef rfl rfl rfl (Ef.makeMapV hS rfl cSpot) ?_
  rintro _ w1 ⟨b2, rfl, hS⟩
  refine OJ.ef rfl rfl rfl (Ef.alloc hS tI_ok rfl rfl ([.map none]) rfl) ?_
  rintro _ w1 ⟨b3, rfl, hS⟩
  refine OJ.es rfl rfl (Es.store tI_ok hS (i := 2) (vs := [.map (some b2)]) rfl rfl rfl rfl rfl rfl rfl rfl (one1 rfl) (Nat.le_of_ble_eq_true rfl) ([.map (some b2)]) rfl) ?_
  intro w1 hS
  refine OJ.nil (EJ.next ?_)
  refine CJ.seq ?_
  refine CJ.seq ?_
  refine CJ.region ?_
  refine OJ.st rfl rfl rfl (SR.load rfl rfl (fun w' hx => ldE tU_ok tI_ok rfl rfl rfl (CA.ext (hS.cells (i := 0) rfl) hx) rfl)) ?_
  obtain ⟨t4, ht4, H⟩ := pbind H
  refine OJ.callF rfl rfl rfl rfl rfl hb30 rfl (impl_Pasture_yards.c k _ a0 _ ht4) ?_
  rintro _ w1 ⟨A5, c6, D7, rfl, hs⟩
  replace hS := hS.addN hs
  refine OJ.pures tU_ok 2 rfl ?_
  refine OJ.nil (EJ.next ?_)
  obtain ⟨j238, H, K238⟩ := pbind H
  refine CJ.cut1 (fun F w1 => ∃ (y8 : List (Spot × Int)) , (some y8 : Option (List (Spot × Int))) = some j238 ∧ F = [(1, .pointer (some ⟨b1, 0, none⟩)), (3, .pointer (some ⟨b3, 0, none⟩))] ∧ St w no w1 [box b1 (cPasture.enc a0) 31, mapV cSpot b2 y8, box b3 ([.map (some b2)]) 101] []) ?_ ?_
  · skip
    refine CJ.block ?_
    refine CJ.loop (fun k F w1 => ∃ (y9 : List (Spot × Int)) (y10 : Int), F = [(1, .pointer (some ⟨b1, 0, none⟩)), (3, .pointer (some ⟨b3, 0, none⟩)), (10, .slice A5 t4.length c6), (11, .int .i64 (t4.length : Int)), (12, .int .i64 y10)] ∧ St w no w1 [box b1 (cPasture.enc a0) 31, mapV cSpot b2 y9, box b3 ([.map (some b2)]) 101, rowsC cSpot A5 c6 41 46 D7 t4] [] ∧ impl_Pasture_idle.l1 t4 k y9 y10 = some j238) k (F' := [(1, .pointer (some ⟨b1, 0, none⟩)), (3, .pointer (some ⟨b3, 0, none⟩)), (10, .slice A5 t4.length c6), (11, .int .i64 (t4.length : Int)), (12, .int .i64 0)]) ⟨rfl, rfl, rfl, rfl, rfl, trivial⟩ ⟨([] : List (Spot × Int)), 0, rfl, hS.pick [0, 1, 2, 3] [] rfl, H⟩ ?_
    rintro k F w1 ⟨y9, y10, rfl, hS, H⟩
    cases k with
    | zero => rw [impl_Pasture_idle.l1] at H; cases H
    | succ k =>
      rw [impl_Pasture_idle.l1] at H
      refine CJ.seq ?_
      refine CJ.region ?_
      refine OJ.pures tU_ok 1 rfl ?_
      refine OJ.nil (EJ.next ?_)
      refine CJ.seq ?_
      refine CJ.cond rfl (fun hb => ?_) (fun hb => ?_)
      · replace H := pif_t (of_decide_eq_true hb) H
        refine CJ.skip (EJ.next ?_)
        obtain ⟨j245, H, K245⟩ := pbind H
        refine CJ.cut (fun F w1 => ∃ (y11 : List (Spot × Int)) , (some y11 : Option (List (Spot × Int))) = some j245 ∧ F = [(1, .pointer (some ⟨b1, 0, none⟩)), (3, .pointer (some ⟨b3, 0, none⟩)), (10, .slice A5 t4.length c6), (11, .int .i64 (t4.length : Int)), (12, .int .i64 y10)] ∧ St w no w1 [box b1 (cPasture.enc a0) 31, mapV cSpot b2 y11, box b3 ([.map (some b2)]) 101, rowsC cSpot A5 c6 41 46 D7 t4] []) ?_ ?_
        · skip
          refine CJ.block ?_
          refine CJ.seq ?_
          refine CJ.region ?_
          refine OJ.pures tU_ok 1 rfl ?_
          obtain ⟨t12, ht12, H⟩ := pbind H
          obtain ⟨Ae12, ce12, g12, d12, hx12⟩ := ros_el (hS.rowsRo (i := 3) rfl) ht12
          obtain ⟨ad12, e12⟩ := (ros_rd (hS.rowsRo (i := 3) rfl)).some' g12
          refine OJ.st rfl rfl rfl (SR.idxS tU_ok tI_ok rfl rfl rfl rfl e12 rfl (getI_some ht12).1) ?_
          refine OJ.st rfl rfl rfl (SR.load rfl rfl (fun w' hx => ld1 tU_ok rfl rfl (CA.ext ((ros_rd (hS.rowsRo (i := 3) rfl)).at_ e12 g12) hx) rfl)) ?_
          refine OJ.pures tU_ok 2 rfl ?_
          refine OJ.nil (EJ.next ?_)
          refine CJ.seq ?_
          refine CJ.region ?_
          refine OJ.pures tU_ok 3 rfl ?_
          refine OJ.nil (EJ.next ?_)
          obtain ⟨j247, H, K247⟩ := pbind H
          refine CJ.cut1 (fun F w1 => ∃ (y13 : List (Spot × Int)) , (some y13 : Option (List (Spot × Int))) = some j247 ∧ F = [(1, .pointer (some ⟨b1, 0, none⟩)), (3, .pointer (some ⟨b3, 0, none⟩)), (10, .slice A5 t4.length c6), (11, .int .i64 (t4.length : Int)), (12, .int .i64 y10)] ∧ St w no w1 [box b1 (cPasture.enc a0) 31, mapV cSpot b2 y13, box b3 ([.map (some b2)]) 101, rowsC cSpot A5 c6 41 46 D7 t4] []) ?_ ?_
          · skip
            refine CJ.block ?_
            refine CJ.loop (fun k F w1 => ∃ (y14 : List (Spot × Int)) (y15 : Int), F = [(1, .pointer (some ⟨b1, 0, none⟩)), (3, .pointer (some ⟨b3, 0, none⟩)), (4, .int .i64 y10), (10, .slice A5 t4.length c6), (11, .int .i64 (t4.length : Int)), (12, .int .i64 y10), (17, .slice Ae12 t12.length ce12), (18, .int .i64 (t12.length : Int)), (19, .int .i64 y15)] ∧ St w no w1 [box b1 (cPasture.enc a0) 31, mapV cSpot b2 y14, box b3 ([.map (some b2)]) 101, rowsC cSpot A5 c6 41 46 D7 t4] [] ∧ impl_Pasture_idle.l2 y10 t12 k y14 y15 = some j247) k (F' := [(1, .pointer (some ⟨b1, 0, none⟩)), (3, .pointer (some ⟨b3, 0, none⟩)), (4, .int .i64 y10), (10, .slice A5 t4.length c6), (11, .int .i64 (t4.length : Int)), (12, .int .i64 y10), (17, .slice Ae12 t12.length ce12), (18, .int .i64 (t12.length : Int)), (19, .int .i64 0)]) ⟨rfl, rfl, rfl, rfl, rfl, rfl, rfl, rfl, rfl, trivial⟩ ⟨y9, 0, rfl, hS.pick [0, 1, 2, 3] [] rfl, H⟩ ?_
            rintro k F w1 ⟨y14, y15, rfl, hS, H⟩
            cases k with
            | zero => rw [impl_Pasture_idle.l2] at H; cases H
            | succ k =>
              rw [impl_Pasture_idle.l2] at H
              refine CJ.seq ?_
              refine CJ.region ?_
              refine OJ.pures tU_ok 1 rfl ?_
              refine OJ.nil (EJ.next ?_)
              refine CJ.seq ?_
              refine CJ.cond rfl (fun hb => ?_) (fun hb => ?_)
              · replace H := pif_t (of_decide_eq_true hb) H
                refine CJ.skip (EJ.next ?_)
                refine CJ.seq ?_
                refine CJ.block ?_
                refine CJ.seq ?_
                refine CJ.region ?_
                obtain ⟨t16, ht16, H⟩ := pbind H
                obtain ⟨ad16, e16⟩ := ((ros_sub (hS.rowsRo (i := 3) rfl) d12 hx12)).some' ht16
                refine OJ.st rfl rfl rfl (SR.idxS tU_ok tI_ok rfl rfl rfl rfl e16 rfl (getI_some ht16).1) ?_
                refine OJ.st rfl rfl rfl (SR.load rfl rfl (fun w' hx => ldE tU_ok tI_ok rfl rfl rfl (CA.ext ((ros_sub (hS.rowsRo (i := 3) rfl) d12 hx12).at_ e16 ht16) hx) rfl)) ?_
                refine OJ.ef rfl rfl rfl (Ef.alloc hS tI_ok rfl rfl (cSpot.enc (⟨0, 0⟩ : Spot)) rfl) ?_
                rintro _ w1 ⟨b17, rfl, hS⟩
                refine OJ.es rfl rfl (Es.store tI_ok hS (i := 4) rfl rfl rfl rfl rfl rfl (vs := cSpot.enc t16) rfl (cSpot.len _) (cSpot.one _) (Nat.le_of_ble_eq_true rfl) (cSpot.enc t16) rfl) ?_
                intro w1 hS
                refine OJ.nil (EJ.next ?_)
                refine CJ.region ?_
                refine OJ.st rfl rfl rfl (SR.load rfl rfl (fun w' hx => ld1 tU_ok rfl rfl (CA.ext (hS.cells (i := 2) rfl) hx) rfl)) ?_
                refine OJ.st rfl rfl rfl (SR.load rfl rfl (fun w' hx => ldE tU_ok tI_ok rfl rfl rfl (CA.ext (hS.cells (i := 4) rfl) hx) rfl)) ?_
                refine OJ.pures tU_ok 1 rfl ?_
                refine OJ.es rfl rfl (Es.mapUpdateV key46 (E := 3) (by kernel_rfl) hS (i := 1) rfl rfl rfl rfl rfl) ?_
                intro w1 hS
                refine OJ.nil (EJ.blk (EJ.next ?_))
                refine CJ.region ?_
                refine OJ.pures tU_ok 2 rfl ?_
                refine OJ.nil ?_
                exact EJ.round k (F' := [(1, .pointer (some ⟨b1, 0, none⟩)), (3, .pointer (some ⟨b3, 0, none⟩)), (4, .int .i64 y10), (10, .slice A5 t4.length c6), (11, .int .i64 (t4.length : Int)), (12, .int .i64 y10), (17, .slice Ae12 t12.length ce12), (18, .int .i64 (t12.length : Int)), (19, .int .i64 (IntKind.i64.wrap (y15 + 1)))]) ⟨rfl, rfl, rfl, rfl, rfl, rfl, rfl, rfl, rfl, trivial⟩ (Nat.lt_succ_self _) ⟨(setV y14 t16 y10), (IntKind.i64.wrap (y15 + 1)), rfl, hS.pick [0, 1, 2, 3] [] rfl, H⟩
              · replace H := pif_f (of_decide_eq_false hb) H
                refine CJ.exit (EJ.skE (EJ.skE (EJ.hit (?_))))
                exact EJ.meet (F' := [(1, .pointer (some ⟨b1, 0, none⟩)), (3, .pointer (some ⟨b3, 0, none⟩)), (10, .slice A5 t4.length c6), (11, .int .i64 (t4.length : Int)), (12, .int .i64 y10)]) ⟨rfl, rfl, rfl, rfl, rfl, trivial⟩ ⟨y14, H, rfl, hS.pick [0, 1, 2, 3] [] rfl⟩
          · rintro F w1 ⟨y13, he, rfl, hS⟩
            obtain rfl := Option.some.inj he
            have H := K247
            refine EJ.blk (?_)
            exact EJ.meet (F' := [(1, .pointer (some ⟨b1, 0, none⟩)), (3, .pointer (some ⟨b3, 0, none⟩)), (10, .slice A5 t4.length c6), (11, .int .i64 (t4.length : Int)), (12, .int .i64 y10)]) ⟨rfl, rfl, rfl, rfl, rfl, trivial⟩ ⟨y13, H, rfl, hS.pick [0, 1, 2, 3] [] rfl⟩
        · rintro F w1 ⟨y11, he, rfl, hS⟩
          obtain rfl := Option.some.inj he
          have H := K245
          refine CJ.region ?_
          refine OJ.pures tU_ok 2 rfl ?_
          refine OJ.nil ?_
          exact EJ.round k (F' := [(1, .pointer (some ⟨b1, 0, none⟩)), (3, .pointer (some ⟨b3, 0, none⟩)), (10, .slice A5 t4.length c6), (11, .int .i64 (t4.length : Int)), (12, .int .i64 (IntKind.i64.wrap (y10 + 1)))]) ⟨rfl, rfl, rfl, rfl, rfl, trivial⟩ (Nat.lt_succ_self _) ⟨y11, (IntKind.i64.wrap (y10 + 1)), rfl, hS.pick [0, 1, 2, 3] [] rfl, H⟩
      · replace H := pif_f (of_decide_eq_false hb) H
        refine CJ.exit (EJ.skE (EJ.skE (EJ.hit (?_))))
        exact EJ.meet (F' := [(1, .pointer (some ⟨b1, 0, none⟩)), (3, .pointer (some ⟨b3, 0, none⟩))]) ⟨rfl, rfl, trivial⟩ ⟨y9, H, rfl, hS.pick [0, 1, 2] [] rfl⟩
  · rintro F w1 ⟨y8, he, rfl, hS⟩
    obtain rfl := Option.some.inj he
    have H := K238
    refine EJ.next ?_
    refine CJ.seq ?_
    refine CJ.region ?_
    refine OJ.st rfl rfl rfl (SR.load rfl rfl (fun w' hx => ldE tU_ok tI_ok rfl rfl rfl (CA.ext (hS.cells (i := 0) rfl) hx) rfl)) ?_
    obtain ⟨t18, ht18, H⟩ := pbind H
    refine OJ.callF rfl rfl rfl rfl rfl hb64 rfl (impl_Pasture_hurdles.c k _ a0 _ ht18) ?_
    rintro _ w1 ⟨A19, c20, rfl, hs⟩
    replace hS := hS.addN hs
    refine OJ.pures tU_ok 1 rfl ?_
    obtain ⟨t21, ht21, H⟩ := pbind H
    refine OJ.callF rfl rfl rfl rfl rfl hb63 rfl (slices_DeleteFunc_impl_Hurdle_impl_Hurdle.c k _ A19 c20 t18 65 #[] #[.pointer (some ⟨b3, 0, none⟩)] hb65 (impl_Pasture_idle_1.f y8) (fun z0 r h w' hx => CV.cast (impl_Pasture_idle_1.c w' b2 y8 (hS.stayL [3] hx (j := 1) rfl rfl) ⟨b3, 0, none⟩ (box.ca (hS.stayL [3] hx (j := 2) rfl rfl))  z0 r h) (by simp)) ((hS.subs [3] [] [] rfl).pick [0] [] rfl) _ ht21) ?_
    rintro _ w1 ⟨A22, c23, rfl, hs⟩
    replace hS := hS.back' [] [3] rfl rfl [] [rowC cHurdle A22 c23 69 t21] [] hs trivial (fun _ h => by cases h) (.inr rfl)
    refine OJ.pures tU_ok 1 rfl ?_
    refine OJ.nil (EJ.next ?_)
    refine CJ.ret (?_)
    obtain rfl := Option.some.inj H
    exact EJ.fin rfl (.tmp rfl .nil) ⟨A22, c23, rfl, hS.pick [4] [] rfl⟩

def impl_size_impl_Hurdle.f (a0 : List Hurdle) : Option Int := some (a0.length : Int)
theorem impl_size_impl_Hurdle.c (w : World) (Aa0 : Option Addr) (ca0 : Nat) (a0 : List Hurdle) (hr0 : Rd cHurdle w Aa0 a0) (hc0 : a0.length ≤ ca0) (r : Int) (H : impl_size_impl_Hurdle.f a0 = some r) :
    CV Tryz.prog 33 [.slice Aa0 a0.length ca0].toArray w fun v w' => v = .int .i64 r ∧ Ext w w' := by
  have hS := ((St.init w no).param cHurdle Aa0 ca0 a0 hr0 hc0)
  unfold impl_size_impl_Hurdle.f at H
  refine CV.body Tryz.func33 rfl Tryz.ntmps33 rfl ?_
  refine CJ.seq ?_
  refine CJ.region ?_
  refine OJ.pures tU_ok 1 rfl ?_
  refine OJ.nil (EJ.next ?_)
  refine CJ.seq ?_
  refine CJ.region ?_
  refine OJ.pures tU_ok 3 rfl ?_
  refine OJ.nil (EJ.next ?_)
  refine CJ.ret (?_)
  obtain rfl := Option.some.inj H
  exact EJ.fin rfl (.tmp rfl .nil) ⟨rfl, hS.ext⟩

def impl_IdleHurdles.f (k : Nat) (a0 : Pasture) : Option (Int × Int) := (impl_ValidPasture.f k a0).bind fun t2 => if (!t2) = true then (some (0, 1)) else ((impl_Pasture_idle.f k a0).bind fun t3 => (impl_size_impl_Hurdle.f t3).bind fun t6 => some (t6, 0))
theorem impl_IdleHurdles.c (k : Nat) (w : World) (a0 : Pasture) (r : Int × Int) (H : impl_IdleHurdles.f k a0 = some r) :
    CV Tryz.prog 8 [.agg (cPasture.enc a0).toArray].toArray w fun v w' => v = .tuple #[.int .i64 r.1, .int .i64 r.2] ∧ Ext w w' := by
  have hS := (St.init w no)
  unfold impl_IdleHurdles.f at H
  refine CV.body Tryz.func8 rfl Tryz.ntmps8 rfl ?_
  refine CJ.seq ?_
  refine CJ.region ?_
  refine OJ.ef rfl rfl rfl (Ef.box hS rfl rfl (cPasture.enc a0) rfl) ?_
  rintro _ w1 ⟨b1, rfl, hS⟩
  refine OJ.pures tU_ok 2 rfl ?_
  refine OJ.nil (EJ.next ?_)
  refine CJ.seq ?_
  refine CJ.seq ?_
  refine CJ.region ?_
  refine OJ.st rfl rfl rfl (SR.load rfl rfl (fun w' hx => ldE tU_ok tI_ok rfl rfl rfl (CA.ext (hS.cells (i := 0) rfl) hx) rfl)) ?_
  obtain ⟨t2, ht2, H⟩ := pbind H
  refine OJ.callF rfl rfl rfl rfl rfl hb29 rfl (impl_ValidPasture.c k _ a0 _ ht2) ?_
  rintro _ w1 ⟨rfl, hs⟩
  replace hS := hS.grow hs
  refine OJ.pures tU_ok 1 rfl ?_
  refine OJ.nil (EJ.next ?_)
  refine CJ.cond rfl (fun hb => ?_) (fun hb => ?_)
  · replace H := pif_t hb H
    refine CJ.seq ?_
    refine CJ.region ?_
    refine OJ.pures tU_ok 2 rfl ?_
    refine OJ.nil (EJ.next ?_)
    refine CJ.ret (EJ.skR (?_))
    obtain rfl := Option.some.inj H
    exact EJ.fin rfl (.tmp rfl (.tmp rfl .nil)) ⟨rfl, hS.ext⟩
  · replace H := pifb_f hb H
    refine CJ.skip (EJ.next ?_)
    refine CJ.seq ?_
    refine CJ.region ?_
    refine OJ.st rfl rfl rfl (SR.load rfl rfl (fun w' hx => ldE tU_ok tI_ok rfl rfl rfl (CA.ext (hS.cells (i := 0) rfl) hx) rfl)) ?_
    obtain ⟨t3, ht3, H⟩ := pbind H
    refine OJ.callF rfl rfl rfl rfl rfl hb34 rfl (impl_Pasture_idle.c k _ a0 _ ht3) ?_
    rintro _ w1 ⟨A4, c5, rfl, hs⟩
    replace hS := hS.addN hs
    obtain ⟨t6, ht6, H⟩ := pbind H
    refine OJ.callF rfl rfl rfl rfl rfl hb33 rfl (impl_size_impl_Hurdle.c _ A4 c5 t3 (hS.rd (i := 1) rfl) (hS.le (i := 1) rfl) _ ht6) ?_
    rintro _ w1 ⟨rfl, hs⟩
    replace hS := hS.grow hs
    refine OJ.pures tU_ok 2 rfl ?_
    refine OJ.nil (EJ.next ?_)
    refine CJ.ret (?_)
    obtain rfl := Option.some.inj H
    exact EJ.fin rfl (.tmp rfl (.tmp rfl .nil)) ⟨rfl, hS.ext⟩

def impl_Pasture_put.f (a0 : Pasture) (a1 : Hurdle) (a2 : Bool) : Option Pasture := if a1.South = true then ((getI a0.South.l a1.At.Y).bind fun t2 => (chk (0 ≤ a1.At.X)).bind fun u3 => (getI a0.South.l a1.At.Y).bind fun t4 => if a2 = true then ((getI (aset a0.South a1.At.Y.toNat (andNotI .u16 t2 (shlI .u16 1 a1.At.X))).l a1.At.Y).bind fun t5 => (chk (0 ≤ a1.At.X)).bind fun u6 => (getI (aset a0.South a1.At.Y.toNat (andNotI .u16 t2 (shlI .u16 1 a1.At.X))).l a1.At.Y).bind fun t7 => some (⟨a0.Wide, a0.High, a0.Grass, a0.East, (aset (aset a0.South a1.At.Y.toNat (andNotI .u16 t2 (shlI .u16 1 a1.At.X))) a1.At.Y.toNat (orI .u16 t5 (shlI .u16 1 a1.At.X)))⟩ : Pasture)) else (some (⟨a0.Wide, a0.High, a0.Grass, a0.East, (aset a0.South a1.At.Y.toNat (andNotI .u16 t2 (shlI .u16 1 a1.At.X)))⟩ : Pasture))) else ((getI a0.East.l a1.At.Y).bind fun t8 => (chk (0 ≤ a1.At.X)).bind fun u9 => (getI a0.East.l a1.At.Y).bind fun t10 => if a2 = true then ((getI (aset a0.East a1.At.Y.toNat (andNotI .u16 t8 (shlI .u16 1 a1.At.X))).l a1.At.Y).bind fun t11 => (chk (0 ≤ a1.At.X)).bind fun u12 => (getI (aset a0.East a1.At.Y.toNat (andNotI .u16 t8 (shlI .u16 1 a1.At.X))).l a1.At.Y).bind fun t13 => some (⟨a0.Wide, a0.High, a0.Grass, (aset (aset a0.East a1.At.Y.toNat (andNotI .u16 t8 (shlI .u16 1 a1.At.X))) a1.At.Y.toNat (orI .u16 t11 (shlI .u16 1 a1.At.X))), a0.South⟩ : Pasture)) else (some (⟨a0.Wide, a0.High, a0.Grass, (aset a0.East a1.At.Y.toNat (andNotI .u16 t8 (shlI .u16 1 a1.At.X))), a0.South⟩ : Pasture)))
theorem impl_Pasture_put.c (w : World) (ba0 : Nat) (a0 : Pasture) (a1 : Hurdle) (a2 : Bool) (hin : St w (fpU [box ba0 (cPasture.enc a0) 31]) w [box ba0 (cPasture.enc a0) 31] []) (r : Pasture) (H : impl_Pasture_put.f a0 a1 a2 = some r) :
    CV Tryz.prog 67 [.pointer (some ⟨ba0, 0, none⟩), .agg (cHurdle.enc a1).toArray, .bool a2].toArray w fun v w' => v = .tuple #[] ∧ St w (fpU [box ba0 (cPasture.enc a0) 31]) w' [box ba0 (cPasture.enc r) 31] [] := by
  have hS := hin
  unfold impl_Pasture_put.f at H
  refine CV.body Tryz.func67 rfl Tryz.ntmps67 rfl ?_
  refine CJ.seq ?_
  refine CJ.region ?_
  refine OJ.ef rfl rfl rfl (Ef.box hS rfl rfl (cHurdle.enc a1) rfl) ?_
  rintro _ w1 ⟨b1, rfl, hS⟩
  refine OJ.nil (EJ.next ?_)
  refine CJ.seq ?_
  refine CJ.region ?_
  refine OJ.pures tU_ok 2 rfl ?_
  refine OJ.st rfl rfl rfl (SR.fieldAddr tU_ok tI_ok rfl rfl rfl rfl rfl rfl) ?_
  refine OJ.pures tU_ok 1 rfl ?_
  refine OJ.nil (EJ.next ?_)
  refine CJ.seq ?_
  refine CJ.seq ?_
  refine CJ.region ?_
  refine OJ.st rfl rfl rfl (SR.fieldAddr tU_ok tI_ok rfl rfl rfl rfl rfl rfl) ?_
  refine OJ.st rfl rfl rfl (SR.load rfl rfl (fun w' hx => ld1 tU_ok rfl rfl (CA.ext (CA.sub (hS.cells (i := 1) rfl) 2) hx) rfl)) ?_
  refine OJ.nil (EJ.next ?_)
  refine CJ.cond rfl (fun hb => ?_) (fun hb => ?_)
  · replace H := pif_t hb H
    refine CJ.region ?_
    refine OJ.pures tU_ok 2 rfl ?_
    refine OJ.st rfl rfl rfl (SR.fieldAddr tU_ok tI_ok rfl rfl rfl rfl rfl rfl) ?_
    refine OJ.pures tU_ok 1 rfl ?_
    refine OJ.nil (EJ.next ?_)
    refine CJ.seq ?_
    refine CJ.draw [] [0, 1, 2, 3, 4, 5, 6, 7, 8, 9, 10, 11, 12, 13, 14] mixed (by kernel_rfl) hS fun w1 hS => ?_
    refine DJ.pures tU_ok 1 rfl ?_
    refine DJ.st rfl rfl rfl rfl rfl (SR.fieldAddr tU_ok tI_ok rfl rfl rfl rfl rfl rfl) ?_
    refine DJ.st rfl rfl rfl rfl rfl (SR.fieldAddr tU_ok tI_ok rfl rfl rfl rfl rfl rfl) ?_
    refine DJ.st rfl rfl rfl rfl rfl (SR.load rfl rfl (fun w' hx => ld1 tU_ok rfl rfl (CA.ext (CA.sub (CA.sub (hS.cells (i := 1) rfl) 0) 1) hx) rfl)) ?_
    refine DJ.pures tU_ok 1 rfl ?_
    obtain ⟨t2, ht2, H⟩ := pbind H
    refine DJ.st rfl rfl rfl rfl rfl (SR.idxA tU_ok tI_ok rfl rfl rfl rfl rfl (Arr.lt ht2)) ?_
    refine DJ.st rfl rfl rfl rfl rfl (SR.load rfl rfl (fun w' hx => ld1 tU_ok rfl rfl (CA.ext (CA.idx (CA.fld (hS.cells (i := 0) rfl) (mid_part (fe_Pasture_4 _) (fl_Pasture_4 _) ((carr 10 (ci .u16)).len _))) ht2) hx) rfl)) ?_
    refine DJ.st rfl rfl rfl rfl rfl (SR.fieldAddr tU_ok tI_ok rfl rfl rfl rfl rfl rfl) ?_
    refine DJ.st rfl rfl rfl rfl rfl (SR.fieldAddr tU_ok tI_ok rfl rfl rfl rfl rfl rfl) ?_
    refine DJ.st rfl rfl rfl rfl rfl (SR.load rfl rfl (fun w' hx => ld1 tU_ok rfl rfl (CA.ext (CA.sub (CA.sub (hS.cells (i := 1) rfl) 0) 0) hx) rfl)) ?_
    obtain ⟨u3, hu3, H⟩ := pbind H
    refine DJ.st rfl rfl rfl rfl rfl (SR.shl rfl rfl rfl (chk_some hu3)) ?_
    refine DJ.pures tU_ok 2 rfl ?_
    obtain ⟨t4, ht4, H⟩ := pbind H
    refine DJ.st rfl rfl rfl rfl rfl (SR.idxA tU_ok tI_ok rfl rfl rfl rfl rfl (Arr.lt ht4)) ?_
    refine DJ.es rfl rfl rfl rfl (Es.put tI_ok hS (i := 0) rfl rfl rfl rfl rfl (vs := (ci .u16).enc (andNotI .u16 t2 (shlI .u16 1 a1.At.X))) rfl rfl (one1 rfl) (put_Pasture_4 (Put.idx (Put.all (ci .u16) t4 (andNotI .u16 t2 (shlI .u16 1 a1.At.X))) ht4)) (by (try simp only [add_lit, Nat.add_assoc, Nat.zero_add, Nat.add_zero]) <;> rfl)) ?_
    intro w1 hS
    refine DJ.nil (EJ.next ?_)
    refine CJ.seq ?_
    refine CJ.region ?_
    refine OJ.pures tU_ok 1 rfl ?_
    refine OJ.nil (EJ.next ?_)
    refine CJ.cond rfl (fun hb => ?_) (fun hb => ?_)
    · replace H := pif_t hb H
      refine CJ.draw [] [0, 1, 2, 3, 4, 5, 6, 7, 8, 9, 10, 11, 12, 13, 14] mixed (by kernel_rfl) hS fun w1 hS => ?_
      refine DJ.pures tU_ok 1 rfl ?_
      refine DJ.st rfl rfl rfl rfl rfl (SR.fieldAddr tU_ok tI_ok rfl rfl rfl rfl rfl rfl) ?_
      refine DJ.st rfl rfl rfl rfl rfl (SR.fieldAddr tU_ok tI_ok rfl rfl rfl rfl rfl rfl) ?_
      refine DJ.st rfl rfl rfl rfl rfl (SR.load rfl rfl (fun w' hx => ld1 tU_ok rfl rfl (CA.ext (CA.sub (CA.sub (hS.cells (i := 1) rfl) 0) 1) hx) rfl)) ?_
      refine DJ.pures tU_ok 1 rfl ?_
      obtain ⟨t5, ht5, H⟩ := pbind H
      refine DJ.st rfl rfl rfl rfl rfl (SR.idxA tU_ok tI_ok rfl rfl rfl rfl rfl (Arr.lt ht5)) ?_
      refine DJ.st rfl rfl rfl rfl rfl (SR.load rfl rfl (fun w' hx => ld1 tU_ok rfl rfl (CA.ext (CA.idx (CA.fld (hS.cells (i := 0) rfl) (mid_part (fe_Pasture_4 _) (fl_Pasture_4 _) ((carr 10 (ci .u16)).len _))) ht5) hx) rfl)) ?_
      refine DJ.st rfl rfl rfl rfl rfl (SR.fieldAddr tU_ok tI_ok rfl rfl rfl rfl rfl rfl) ?_
      refine DJ.st rfl rfl rfl rfl rfl (SR.fieldAddr tU_ok tI_ok rfl rfl rfl rfl rfl rfl) ?_
      refine DJ.st rfl rfl rfl rfl rfl (SR.load rfl rfl (fun w' hx => ld1 tU_ok rfl rfl (CA.ext (CA.sub (CA.sub (hS.cells (i := 1) rfl) 0) 0) hx) rfl)) ?_
      obtain ⟨u6, hu6, H⟩ := pbind H
      refine DJ.st rfl rfl rfl rfl rfl (SR.shl rfl rfl rfl (chk_some hu6)) ?_
      refine DJ.pures tU_ok 2 rfl ?_
      obtain ⟨t7, ht7, H⟩ := pbind H
      refine DJ.st rfl rfl rfl rfl rfl (SR.idxA tU_ok tI_ok rfl rfl rfl rfl rfl (Arr.lt ht7)) ?_
      refine DJ.es rfl rfl rfl rfl (Es.put tI_ok hS (i := 0) rfl rfl rfl rfl rfl (vs := (ci .u16).enc (orI .u16 t5 (shlI .u16 1 a1.At.X))) rfl rfl (one1 rfl) (put_Pasture_4 (Put.idx (Put.all (ci .u16) t7 (orI .u16 t5 (shlI .u16 1 a1.At.X))) ht7)) (by (try simp only [add_lit, Nat.add_assoc, Nat.zero_add, Nat.add_zero]) <;> rfl)) ?_
      intro w1 hS
      refine DJ.nil ?_
      obtain rfl := Option.some.inj H
      exact EJ.fin' rfl .nil ⟨rfl, hS.pick [0] [] rfl⟩
    · replace H := pifb_f hb H
      refine CJ.skip (?_)
      obtain rfl := Option.some.inj H
      exact EJ.fin' rfl .nil ⟨rfl, hS.pick [0] [] rfl⟩
  · replace H := pifb_f hb H
    refine CJ.skip (EJ.next ?_)
    refine CJ.seq ?_
    refine CJ.draw [] [0, 1, 2, 3, 4, 5, 6, 7, 8, 9, 10, 11, 12, 13, 14] mixed (by kernel_rfl) hS fun w1 hS => ?_
    refine DJ.pures tU_ok 1 rfl ?_
    refine DJ.st rfl rfl rfl rfl rfl (SR.fieldAddr tU_ok tI_ok rfl rfl rfl rfl rfl rfl) ?_
    refine DJ.st rfl rfl rfl rfl rfl (SR.fieldAddr tU_ok tI_ok rfl rfl rfl rfl rfl rfl) ?_
    refine DJ.st rfl rfl rfl rfl rfl (SR.load rfl rfl (fun w' hx => ld1 tU_ok rfl rfl (CA.ext (CA.sub (CA.sub (hS.cells (i := 1) rfl) 0) 1) hx) rfl)) ?_
    refine DJ.pures tU_ok 1 rfl ?_
    obtain ⟨t8, ht8, H⟩ := pbind H
    refine DJ.st rfl rfl rfl rfl rfl (SR.idxA tU_ok tI_ok rfl rfl rfl rfl rfl (Arr.lt ht8)) ?_
    refine DJ.st rfl rfl rfl rfl rfl (SR.load rfl rfl (fun w' hx => ld1 tU_ok rfl rfl (CA.ext (CA.idx (CA.fld (hS.cells (i := 0) rfl) (mid_part (fe_Pasture_3 _) (fl_Pasture_3 _) ((carr 10 (ci .u16)).len _))) ht8) hx) rfl)) ?_
    refine DJ.st rfl rfl rfl rfl rfl (SR.fieldAddr tU_ok tI_ok rfl rfl rfl rfl rfl rfl) ?_
    refine DJ.st rfl rfl rfl rfl rfl (SR.fieldAddr tU_ok tI_ok rfl rfl rfl rfl rfl rfl) ?_
    refine DJ.st rfl rfl rfl rfl rfl (SR.load rfl rfl (fun w' hx => ld1 tU_ok rfl rfl (CA.ext (CA.sub (CA.sub (hS.cells (i := 1) rfl) 0) 0) hx) rfl)) ?_
    obtain ⟨u9, hu9, H⟩ := pbind H
    refine DJ.st rfl rfl rfl rfl rfl (SR.shl rfl rfl rfl (chk_some hu9)) ?_
    refine DJ.pures tU_ok 2 rfl ?_
    obtain ⟨t10, ht10, H⟩ := pbind H
    refine DJ.st rfl rfl rfl rfl rfl (SR.idxA tU_ok tI_ok rfl rfl rfl rfl rfl (Arr.lt ht10)) ?_
    refine DJ.es rfl rfl rfl rfl (Es.put tI_ok hS (i := 0) rfl rfl rfl rfl rfl (vs := (ci .u16).enc (andNotI .u16 t8 (shlI .u16 1 a1.At.X))) rfl rfl (one1 rfl) (put_Pasture_3 (Put.idx (Put.all (ci .u16) t10 (andNotI .u16 t8 (shlI .u16 1 a1.At.X))) ht10)) (by (try simp only [add_lit, Nat.add_assoc, Nat.zero_add, Nat.add_zero]) <;> rfl)) ?_
    intro w1 hS
    refine DJ.nil (EJ.next ?_)
    refine CJ.seq ?_
    refine CJ.region ?_
    refine OJ.pures tU_ok 1 rfl ?_
    refine OJ.nil (EJ.next ?_)
    refine CJ.cond rfl (fun hb => ?_) (fun hb => ?_)
    · replace H := pif_t hb H
      refine CJ.draw [] [0, 1, 2, 3, 4, 5, 6, 7, 8, 9, 10, 11, 12, 13, 14] mixed (by kernel_rfl) hS fun w1 hS => ?_
      refine DJ.pures tU_ok 1 rfl ?_
      refine DJ.st rfl rfl rfl rfl rfl (SR.fieldAddr tU_ok tI_ok rfl rfl rfl rfl rfl rfl) ?_
      refine DJ.st rfl rfl rfl rfl rfl (SR.fieldAddr tU_ok tI_ok rfl rfl rfl rfl rfl rfl) ?_
      refine DJ.st rfl rfl rfl rfl rfl (SR.load rfl rfl (fun w' hx => ld1 tU_ok rfl rfl (CA.ext (CA.sub (CA.sub (hS.cells (i := 1) rfl) 0) 1) hx) rfl)) ?_
      refine DJ.pures tU_ok 1 rfl ?_
      obtain ⟨t11, ht11, H⟩ := pbind H
      refine DJ.st rfl rfl rfl rfl rfl (SR.idxA tU_ok tI_ok rfl rfl rfl rfl rfl (Arr.lt ht11)) ?_
      refine DJ.st rfl rfl rfl rfl rfl (SR.load rfl rfl (fun w' hx => ld1 tU_ok rfl rfl (CA.ext (CA.idx (CA.fld (hS.cells (i := 0) rfl) (mid_part (fe_Pasture_3 _) (fl_Pasture_3 _) ((carr 10 (ci .u16)).len _))) ht11) hx) rfl)) ?_
      refine DJ.st rfl rfl rfl rfl rfl (SR.fieldAddr tU_ok tI_ok rfl rfl rfl rfl rfl rfl) ?_
      refine DJ.st rfl rfl rfl rfl rfl (SR.fieldAddr tU_ok tI_ok rfl rfl rfl rfl rfl rfl) ?_
      refine DJ.st rfl rfl rfl rfl rfl (SR.load rfl rfl (fun w' hx => ld1 tU_ok rfl rfl (CA.ext (CA.sub (CA.sub (hS.cells (i := 1) rfl) 0) 0) hx) rfl)) ?_
      obtain ⟨u12, hu12, H⟩ := pbind H
      refine DJ.st rfl rfl rfl rfl rfl (SR.shl rfl rfl rfl (chk_some hu12)) ?_
      refine DJ.pures tU_ok 2 rfl ?_
      obtain ⟨t13, ht13, H⟩ := pbind H
      refine DJ.st rfl rfl rfl rfl rfl (SR.idxA tU_ok tI_ok rfl rfl rfl rfl rfl (Arr.lt ht13)) ?_
      refine DJ.es rfl rfl rfl rfl (Es.put tI_ok hS (i := 0) rfl rfl rfl rfl rfl (vs := (ci .u16).enc (orI .u16 t11 (shlI .u16 1 a1.At.X))) rfl rfl (one1 rfl) (put_Pasture_3 (Put.idx (Put.all (ci .u16) t13 (orI .u16 t11 (shlI .u16 1 a1.At.X))) ht13)) (by (try simp only [add_lit, Nat.add_assoc, Nat.zero_add, Nat.add_zero]) <;> rfl)) ?_
      intro w1 hS
      refine DJ.nil ?_
      obtain rfl := Option.some.inj H
      exact EJ.fin' rfl .nil ⟨rfl, hS.pick [0] [] rfl⟩
    · replace H := pifb_f hb H
      refine CJ.skip (?_)
      obtain rfl := Option.some.inj H
      exact EJ.fin' rfl .nil ⟨rfl, hS.pick [0] [] rfl⟩

def impl_Pasture_with.l1 (a1 : List Hurdle) (a2 : Bool) : Nat → Pasture → Int → Option Pasture
  | 0, _, _ => none
  | k + 1, y4, y5 => if y5 < (a1.length : Int) then ((getI a1 y5).bind fun t6 => (impl_Pasture_put.f y4 t6 a2).bind fun t8 => impl_Pasture_with.l1 a1 a2 k t8 (IntKind.i64.wrap (y5 + 1))) else (some y4)
def impl_Pasture_with.f (k : Nat) (a0 : Pasture) (a1 : List Hurdle) (a2 : Bool) : Option Pasture := (impl_Pasture_with.l1 a1 a2 k a0 0).bind fun y3 => some y3
theorem impl_Pasture_with.c (k : Nat) (w : World) (a0 : Pasture) (Aa1 : Option Addr) (ca1 : Nat) (a1 : List Hurdle) (hr1 : Rd cHurdle w Aa1 a1) (hc1 : a1.length ≤ ca1) (a2 : Bool) (r : Pasture) (H : impl_Pasture_with.f k a0 a1 a2 = some r) :
    CV Tryz.prog 35 [.agg (cPasture.enc a0).toArray, .slice Aa1 a1.length ca1, .bool a2].toArray w fun v w' => v = .agg (cPasture.enc r).toArray ∧ Ext w w' := by
  have hS := ((St.init w no).param cHurdle Aa1 ca1 a1 hr1 hc1)
  unfold impl_Pasture_with.f at H
  refine CV.body Tryz.func35 rfl Tryz.ntmps35 rfl ?_
  refine CJ.seq ?_
  refine CJ.region ?_
  refine OJ.ef rfl rfl rfl (Ef.box hS rfl rfl (cPasture.enc a0) rfl) ?_
  rintro _ w1 ⟨b1, rfl, hS⟩
  refine OJ.ef rfl rfl rfl (Ef.alloc hS tI_ok rfl rfl (cPasture.enc (⟨0, 0, (Arr.mk' (Arr.mk' 0 : Arr 10 Int) : Arr 10 (Arr 10 Int)), (Arr.mk' 0 : Arr 10 Int), (Arr.mk' 0 : Arr 10 Int)⟩ : Pasture)) (by kernel_rfl)) ?_
  rintro _ w1 ⟨b2, rfl, hS⟩
  refine OJ.nil (EJ.next ?_)
  refine CJ.seq ?_
  refine CJ.seq ?_
  refine CJ.region ?_
  refine OJ.pures tU_ok 3 rfl ?_
  refine OJ.nil (EJ.next ?_)
  obtain ⟨j260, H, K260⟩ := pbind H
  refine CJ.cut1 (fun F w1 => ∃ (y3 : Pasture) , (some y3 : Option Pasture) = some j260 ∧ F = [(3, .pointer (some ⟨b1, 0, none⟩)), (6, .pointer (some ⟨b2, 0, none⟩))] ∧ St w no w1 [box b1 (cPasture.enc y3) 31, box b2 (cPasture.enc (⟨0, 0, (Arr.mk' (Arr.mk' 0 : Arr 10 Int) : Arr 10 (Arr 10 Int)), (Arr.mk' 0 : Arr 10 Int), (Arr.mk' 0 : Arr 10 Int)⟩ : Pasture)) 31] [roC cHurdle Aa1 ca1 a1]) ?_ ?_
  · skip
    refine CJ.block ?_
    refine CJ.loop (fun k F w1 => ∃ (y4 : Pasture) (y5 : Int), F = [(2, .bool a2), (3, .pointer (some ⟨b1, 0, none⟩)), (6, .pointer (some ⟨b2, 0, none⟩)), (9, .slice Aa1 a1.length ca1), (10, .int .i64 (a1.length : Int)), (11, .int .i64 y5)] ∧ St w no w1 [box b1 (cPasture.enc y4) 31, box b2 (cPasture.enc (⟨0, 0, (Arr.mk' (Arr.mk' 0 : Arr 10 Int) : Arr 10 (Arr 10 Int)), (Arr.mk' 0 : Arr 10 Int), (Arr.mk' 0 : Arr 10 Int)⟩ : Pasture)) 31] [roC cHurdle Aa1 ca1 a1] ∧ impl_Pasture_with.l1 a1 a2 k y4 y5 = some j260) k (F' := [(2, .bool a2), (3, .pointer (some ⟨b1, 0, none⟩)), (6, .pointer (some ⟨b2, 0, none⟩)), (9, .slice Aa1 a1.length ca1), (10, .int .i64 (a1.length : Int)), (11, .int .i64 0)]) ⟨rfl, rfl, rfl, rfl, rfl, rfl, trivial⟩ ⟨a0, 0, rfl, hS.pick [0, 1] [0] rfl, H⟩ ?_
    rintro k F w1 ⟨y4, y5, rfl, hS, H⟩
    cases k with
    | zero => rw [impl_Pasture_with.l1] at H; cases H
    | succ k =>
      rw [impl_Pasture_with.l1] at H
      refine CJ.seq ?_
      refine CJ.region ?_
      refine OJ.pures tU_ok 1 rfl ?_
      refine OJ.nil (EJ.next ?_)
      refine CJ.seq ?_
      refine CJ.cond rfl (fun hb => ?_) (fun hb => ?_)
      · replace H := pif_t (of_decide_eq_true hb) H
        refine CJ.skip (EJ.next ?_)
        refine CJ.seq ?_
        refine CJ.block ?_
        refine CJ.seq ?_
        refine CJ.region ?_
        obtain ⟨t6, ht6, H⟩ := pbind H
        obtain ⟨ad6, e6⟩ := (hS.rd' (i := 0) rfl).some' ht6
        refine OJ.st rfl rfl rfl (SR.idxS tU_ok tI_ok rfl rfl rfl rfl e6 rfl (getI_some ht6).1) ?_
        refine OJ.st rfl rfl rfl (SR.load rfl rfl (fun w' hx => ldE tU_ok tI_ok rfl rfl rfl (CA.ext ((hS.rd' (i := 0) rfl).at_ e6 ht6) hx) rfl)) ?_
        refine OJ.ef rfl rfl rfl (Ef.alloc hS tI_ok rfl rfl (cHurdle.enc (⟨(⟨0, 0⟩ : Spot), false⟩ : Hurdle)) rfl) ?_
        rintro _ w1 ⟨b7, rfl, hS⟩
        refine OJ.es rfl rfl (Es.store tI_ok hS (i := 2) rfl rfl rfl rfl rfl rfl (vs := cHurdle.enc t6) rfl (cHurdle.len _) (cHurdle.one _) (Nat.le_of_ble_eq_true rfl) (cHurdle.enc t6) rfl) ?_
        intro w1 hS
        refine OJ.nil (EJ.next ?_)
        refine CJ.region ?_
        refine OJ.st rfl rfl rfl (SR.load rfl rfl (fun w' hx => ldE tU_ok tI_ok rfl rfl rfl (CA.ext (hS.cells (i := 2) rfl) hx) rfl)) ?_
        refine OJ.pures tU_ok 1 rfl ?_
        obtain ⟨t8, ht8, H⟩ := pbind H
        refine OJ.callF rfl rfl rfl rfl rfl hb67 rfl (impl_Pasture_put.c _ b1 y4 t6 a2 ((hS.subs [0] [] [] rfl).pick [0] [] rfl) _ ht8) ?_
        rintro _ w1 ⟨rfl, hs⟩
        replace hS := hS.back [0] rfl rfl [box b1 (cPasture.enc t8) 31] [] hs ⟨fun _ => Iff.rfl, trivial⟩
        refine OJ.nil (EJ.blk (EJ.next ?_))
        refine CJ.region ?_
        refine OJ.pures tU_ok 2 rfl ?_
        refine OJ.nil ?_
        exact EJ.round k (F' := [(2, .bool a2), (3, .pointer (some ⟨b1, 0, none⟩)), (6, .pointer (some ⟨b2, 0, none⟩)), (9, .slice Aa1 a1.length ca1), (10, .int .i64 (a1.length : Int)), (11, .int .i64 (IntKind.i64.wrap (y5 + 1)))]) ⟨rfl, rfl, rfl, rfl, rfl, rfl, trivial⟩ (Nat.lt_succ_self _) ⟨t8, (IntKind.i64.wrap (y5 + 1)), rfl, hS.pick [0, 1] [0] rfl, H⟩
      · replace H := pif_f (of_decide_eq_false hb) H
        refine CJ.exit (EJ.skE (EJ.skE (EJ.hit (?_))))
        exact EJ.meet (F' := [(3, .pointer (some ⟨b1, 0, none⟩)), (6, .pointer (some ⟨b2, 0, none⟩))]) ⟨rfl, rfl, trivial⟩ ⟨y4, H, rfl, hS.pick [0, 1] [0] rfl⟩
  · rintro F w1 ⟨y3, he, rfl, hS⟩
    obtain rfl := Option.some.inj he
    have H := K260
    refine EJ.next ?_
    refine CJ.seq ?_
    refine CJ.region ?_
    refine OJ.st rfl rfl rfl (SR.load rfl rfl (fun w' hx => ldE tU_ok tI_ok rfl rfl rfl (CA.ext (hS.cells (i := 0) rfl) hx) rfl)) ?_
    refine OJ.es rfl rfl (Es.put tI_ok hS (i := 1) rfl rfl rfl rfl rfl (vs := cPasture.enc y3) rfl (cPasture.len _) (cPasture.one _) (Put.all cPasture (⟨0, 0, (Arr.mk' (Arr.mk' 0 : Arr 10 Int) : Arr 10 (Arr 10 Int)), (Arr.mk' 0 : Arr 10 Int), (Arr.mk' 0 : Arr 10 Int)⟩ : Pasture) y3) (by (try simp only [add_lit, Nat.add_assoc, Nat.zero_add, Nat.add_zero]) <;> rfl)) ?_
    intro w1 hS
    refine OJ.nil (EJ.next ?_)
    refine CJ.ret (?_)
    obtain rfl := Option.some.inj H
    exact EJ.fin rfl (.cell rfl (ldE tU_ok tI_ok rfl rfl rfl (hS.cells (i := 1) rfl) rfl) .nil) ⟨rfl, hS.ext⟩

def impl_DropIdle.f (k : Nat) (a0 : Pasture) : Option (Pasture × Int) := (impl_ValidPasture.f k a0).bind fun t3 => if (!t3) = true then (some ((⟨0, 0, (Arr.mk' (Arr.mk' 0 : Arr 10 Int) : Arr 10 (Arr 10 Int)), (Arr.mk' 0 : Arr 10 Int), (Arr.mk' 0 : Arr 10 Int)⟩ : Pasture), 1)) else ((impl_Pasture_idle.f k a0).bind fun t4 => (impl_Pasture_with.f k a0 t4 false).bind fun t7 => some (t7, 0))
theorem impl_DropIdle.c (k : Nat) (w : World) (a0 : Pasture) (r : Pasture × Int) (H : impl_DropIdle.f k a0 = some r) :
    CV Tryz.prog 9 [.agg (cPasture.enc a0).toArray].toArray w fun v w' => v = .tuple #[.agg (cPasture.enc r.1).toArray, .int .i64 r.2] ∧ Ext w w' := by
  have hS := (St.init w no)
  unfold impl_DropIdle.f at H
  refine CV.body Tryz.func9 rfl Tryz.ntmps9 rfl ?_
  refine CJ.seq ?_
  refine CJ.region ?_
  refine OJ.ef rfl rfl rfl (Ef.box hS rfl rfl (cPasture.enc a0) rfl) ?_
  rintro _ w1 ⟨b1, rfl, hS⟩
  refine OJ.ef rfl rfl rfl (Ef.alloc hS tI_ok rfl rfl (cPasture.enc (⟨0, 0, (Arr.mk' (Arr.mk' 0 : Arr 10 Int) : Arr 10 (Arr 10 Int)), (Arr.mk' 0 : Arr 10 Int), (Arr.mk' 0 : Arr 10 Int)⟩ : Pasture)) (by kernel_rfl)) ?_
  rintro _ w1 ⟨b2, rfl, hS⟩
  refine OJ.pures tU_ok 1 rfl ?_
  refine OJ.nil (EJ.next ?_)
  refine CJ.seq ?_
  refine CJ.seq ?_
  refine CJ.region ?_
  refine OJ.st rfl rfl rfl (SR.load rfl rfl (fun w' hx => ldE tU_ok tI_ok rfl rfl rfl (CA.ext (hS.cells (i := 0) rfl) hx) rfl)) ?_
  obtain ⟨t3, ht3, H⟩ := pbind H
  refine OJ.callF rfl rfl rfl rfl rfl hb29 rfl (impl_ValidPasture.c k _ a0 _ ht3) ?_
  rintro _ w1 ⟨rfl, hs⟩
  replace hS := hS.grow hs
  refine OJ.pures tU_ok 1 rfl ?_
  refine OJ.nil (EJ.next ?_)
  refine CJ.cond rfl (fun hb => ?_) (fun hb => ?_)
  · replace H := pif_t hb H
    refine CJ.seq ?_
    refine CJ.region ?_
    refine OJ.st rfl rfl rfl (SR.build (C := cPasture) tU_ok tI_ok rfl rfl rfl (zs := [.int .i8 0, .int .i8 0, .int .i16 0, .int .i16 0, .int .i16 0, .int .i16 0, .int .i16 0, .int .i16 0, .int .i16 0, .int .i16 0, .int .i16 0, .int .i16 0, .int .i16 0, .int .i16 0, .int .i16 0, .int .i16 0, .int .i16 0, .int .i16 0, .int .i16 0, .int .i16 0, .int .i16 0, .int .i16 0, .int .i16 0, .int .i16 0, .int .i16 0, .int .i16 0, .int .i16 0, .int .i16 0, .int .i16 0, .int .i16 0, .int .i16 0, .int .i16 0, .int .i16 0, .int .i16 0, .int .i16 0, .int .i16 0, .int .i16 0, .int .i16 0, .int .i16 0, .int .i16 0, .int .i16 0, .int .i16 0, .int .i16 0, .int .i16 0, .int .i16 0, .int .i16 0, .int .i16 0, .int .i16 0, .int .i16 0, .int .i16 0, .int .i16 0, .int .i16 0, .int .i16 0, .int .i16 0, .int .i16 0, .int .i16 0, .int .i16 0, .int .i16 0, .int .i16 0, .int .i16 0, .int .i16 0, .int .i16 0, .int .i16 0, .int .i16 0, .int .i16 0, .int .i16 0, .int .i16 0, .int .i16 0, .int .i16 0, .int .i16 0, .int .i16 0, .int .i16 0, .int .i16 0, .int .i16 0, .int .i16 0, .int .i16 0, .int .i16 0, .int .i16 0, .int .i16 0, .int .i16 0, .int .i16 0, .int .i16 0, .int .i16 0, .int .i16 0, .int .i16 0, .int .i16 0, .int .i16 0, .int .i16 0, .int .i16 0, .int .i16 0, .int .i16 0, .int .i16 0, .int .i16 0, .int .i16 0, .int .i16 0, .int .i16 0, .int .i16 0, .int .i16 0, .int .i16 0, .int .i16 0, .int .i16 0, .int .i16 0, .int .u16 0, .int .u16 0, .int .u16 0, .int .u16 0, .int .u16 0, .int .u16 0, .int .u16 0, .int .u16 0, .int .u16 0, .int .u16 0, .int .u16 0, .int .u16 0, .int .u16 0, .int .u16 0, .int .u16 0, .int .u16 0, .int .u16 0, .int .u16 0, .int .u16 0, .int .u16 0]) rfl rfl rfl (⟨0, 0, (Arr.mk' (Arr.mk' 0 : Arr 10 Int) : Arr 10 (Arr 10 Int)), (Arr.mk' 0 : Arr 10 Int), (Arr.mk' 0 : Arr 10 Int)⟩ : Pasture) rfl) ?_
    refine OJ.es rfl rfl (Es.put tI_ok hS (i := 1) rfl rfl rfl rfl rfl (vs := cPasture.enc (⟨0, 0, (Arr.mk' (Arr.mk' 0 : Arr 10 Int) : Arr 10 (Arr 10 Int)), (Arr.mk' 0 : Arr 10 Int), (Arr.mk' 0 : Arr 10 Int)⟩ : Pasture)) rfl (cPasture.len _) (cPasture.one _) (Put.all cPasture (⟨0, 0, (Arr.mk' (Arr.mk' 0 : Arr 10 Int) : Arr 10 (Arr 10 Int)), (Arr.mk' 0 : Arr 10 Int), (Arr.mk' 0 : Arr 10 Int)⟩ : Pasture) (⟨0, 0, (Arr.mk' (Arr.mk' 0 : Arr 10 Int) : Arr 10 (Arr 10 Int)), (Arr.mk' 0 : Arr 10 Int), (Arr.mk' 0 : Arr 10 Int)⟩ : Pasture)) (by (try simp only [add_lit, Nat.add_assoc, Nat.zero_add, Nat.add_zero]) <;> rfl)) ?_
    intro w1 hS
    refine OJ.pures tU_ok 1 rfl ?_
    refine OJ.nil (EJ.next ?_)
    refine CJ.ret (EJ.skR (?_))
    obtain rfl := Option.some.inj H
    exact EJ.fin rfl (.cell rfl (ldE tU_ok tI_ok rfl rfl rfl (hS.cells (i := 1) rfl) rfl) (.tmp rfl .nil)) ⟨rfl, hS.ext⟩
  · replace H := pifb_f hb H
    refine CJ.skip (EJ.next ?_)
    refine CJ.seq ?_
    refine CJ.draw [] [0, 1, 2, 3, 4, 5] mixed (by kernel_rfl) hS fun w1 hS => ?_
    refine DJ.st rfl rfl rfl rfl rfl (SR.load rfl rfl (fun w' hx => ldE tU_ok tI_ok rfl rfl rfl (CA.ext (hS.cells (i := 0) rfl) hx) rfl)) ?_
    refine DJ.st rfl rfl rfl rfl rfl (SR.load rfl rfl (fun w' hx => ldE tU_ok tI_ok rfl rfl rfl (CA.ext (hS.cells (i := 0) rfl) hx) rfl)) ?_
    obtain ⟨t4, ht4, H⟩ := pbind H
    refine DJ.callF rfl rfl rfl rfl rfl rfl rfl hb34 rfl (impl_Pasture_idle.c k _ a0 _ ht4) (by rintro v w' ⟨A5, c6, rfl, hs⟩; exact hs.ext) ?_
    rintro _ w1 ⟨A5, c6, rfl, hs⟩
    replace hS := hS.addN hs
    obtain ⟨t7, ht7, H⟩ := pbind H
    refine DJ.callF rfl rfl rfl rfl rfl rfl rfl hb35 rfl (impl_Pasture_with.c k _ a0 A5 c6 t4 (hS.rd (i := 2) rfl) (hS.le (i := 2) rfl) false _ ht7) (by rintro v w' ⟨rfl, hs⟩; exact hs) ?_
    rintro _ w1 ⟨rfl, hs⟩
    replace hS := hS.grow hs
    refine DJ.es rfl rfl rfl rfl (Es.put tI_ok hS (i := 1) rfl rfl rfl rfl rfl (vs := cPasture.enc t7) rfl (cPasture.len _) (cPasture.one _) (Put.all cPasture (⟨0, 0, (Arr.mk' (Arr.mk' 0 : Arr 10 Int) : Arr 10 (Arr 10 Int)), (Arr.mk' 0 : Arr 10 Int), (Arr.mk' 0 : Arr 10 Int)⟩ : Pasture) t7) (by (try simp only [add_lit, Nat.add_assoc, Nat.zero_add, Nat.add_zero]) <;> rfl)) ?_
    intro w1 hS
    refine DJ.pures tU_ok 1 rfl ?_
    refine DJ.nil (EJ.next ?_)
    refine CJ.ret (?_)
    obtain rfl := Option.some.inj H
    exact EJ.fin rfl (.cell rfl (ldE tU_ok tI_ok rfl rfl rfl (hS.cells (i := 1) rfl) rfl) (.tmp rfl .nil)) ⟨rfl, hS.ext⟩

def spec_l01Dropped.l3 (a0 : Pasture) (t2 : Arr 10 (Arr 10 Int) × List (List Spot)) (y10 : Int) (y14 : Int) : Nat → Pasture → Int → Option Pasture
  | 0, _, _ => none
  | k + 1, y17, y18 => if y18 ≤ 2 then ((spec_l01Next.f (⟨y14, y10⟩ : Spot) y18).bind fun t20 => (spec_l01Is.f a0 t20).bind fun t22 => if t22 = true then ((getI t2.1.l y10).bind fun t23 => (getI t23.l y14).bind fun t24 => (getI t2.1.l t20.Y).bind fun t25 => (getI t25.l t20.X).bind fun t26 => if t24 = t26 then ((spec_l01Set.f y17 (⟨y14, y10⟩ : Spot) y18 false).bind fun t27 => spec_l01Dropped.l3 a0 t2 y10 y14 k t27 (IntKind.i64.wrap (y18 + 1))) else (spec_l01Dropped.l3 a0 t2 y10 y14 k y17 (IntKind.i64.wrap (y18 + 1)))) else (spec_l01Dropped.l3 a0 t2 y10 y14 k y17 (IntKind.i64.wrap (y18 + 1)))) else (some y17)
def spec_l01Dropped.l2 (a0 : Pasture) (t2 : Arr 10 (Arr 10 Int) × List (List Spot)) (y10 : Int) : Nat → Pasture → Int → Option Pasture
  | 0, _, _ => none
  | k + 1, y13, y14 => if y14 < a0.Wide then (((spec_l01Dropped.l3 a0 t2 y10 y14 k y13 1).bind fun y16 => some y16).bind fun y15 => spec_l01Dropped.l2 a0 t2 y10 k y15 (IntKind.i8.wrap (y14 + 1))) else (some y13)
def spec_l01Dropped.l1 (a0 : Pasture) (t2 : Arr 10 (Arr 10 Int) × List (List Spot)) : Nat → Pasture → Int → Option Pasture
  | 0, _, _ => none
  | k + 1, y9, y10 => if y10 < a0.High then (((spec_l01Dropped.l2 a0 t2 y10 k y9 0).bind fun y12 => some y12).bind fun y11 => spec_l01Dropped.l1 a0 t2 k y11 (IntKind.i8.wrap (y10 + 1))) else (some y9)
def spec_l01Dropped.f (k : Nat) (a0 : Pasture) : Option Pasture := (spec_l01Numbers.f k a0).bind fun t2 => (spec_l01Dropped.l1 a0 t2 k a0 0).bind fun y8 => some y8
theorem spec_l01Dropped.c (k : Nat) (w : World) (pa0 : Addr) (a0 : Pasture) (hp0 : CA w pa0 (cPasture.enc a0)) (r : Pasture) (H : spec_l01Dropped.f k a0 = some r) :
    CV Tryz.prog 36 [.pointer (some pa0)].toArray w fun v w' => v = .agg (cPasture.enc r).toArray ∧ Ext w w' := by
  have hS := ((St.init w no).paramP pa0 (cPasture.enc a0) hp0)
  unfold spec_l01Dropped.f at H
  refine CV.body Tryz.func36 rfl Tryz.ntmps36 rfl ?_
  refine CJ.seq ?_
  refine CJ.region ?_
  refine OJ.ef rfl rfl rfl (Ef.alloc hS tI_ok rfl rfl (cPasture.enc (⟨0, 0, (Arr.mk' (Arr.mk' 0 : Arr 10 Int) : Arr 10 (Arr 10 Int)), (Arr.mk' 0 : Arr 10 Int), (Arr.mk' 0 : Arr 10 Int)⟩ : Pasture)) (by kernel_rfl)) ?_
  rintro _ w1 ⟨b1, rfl, hS⟩
  refine OJ.nil (EJ.next ?_)
  refine CJ.seq ?_
  refine CJ.region ?_
  refine OJ.pures tU_ok 1 rfl ?_
  obtain ⟨t2, ht2, H⟩ := pbind H
  refine OJ.callF rfl rfl rfl rfl rfl hb32 rfl (spec_l01Numbers.c k _ _ a0 (hS.ca (i := 0) rfl) _ ht2) ?_
  rintro _ w1 ⟨A3, c4, D5, rfl, hs⟩
  replace hS := hS.addN hs
  refine OJ.pures tU_ok 3 rfl ?_
  refine OJ.ef rfl rfl rfl (Ef.alloc hS tI_ok rfl rfl ((carr 10 (carr 10 (ci .i64))).enc (Arr.mk' (Arr.mk' 0 : Arr 10 Int) : Arr 10 (Arr 10 Int))) (by kernel_rfl)) ?_
  rintro _ w1 ⟨b6, rfl, hS⟩
  refine OJ.es rfl rfl (Es.put tI_ok hS (i := 2) rfl rfl rfl rfl rfl (vs := (carr 10 (carr 10 (ci .i64))).enc t2.1) rfl ((carr 10 (carr 10 (ci .i64))).len _) ((carr 10 (carr 10 (ci .i64))).one _) (Put.all (carr 10 (carr 10 (ci .i64))) (Arr.mk' (Arr.mk' 0 : Arr 10 Int) : Arr 10 (Arr 10 Int)) t2.1) (by (try simp only [add_lit, Nat.add_assoc, Nat.zero_add, Nat.add_zero]) <;> rfl)) ?_
  intro w1 hS
  refine OJ.pures tU_ok 1 rfl ?_
  refine OJ.nil (EJ.next ?_)
  refine CJ.seq ?_
  refine CJ.region ?_
  refine OJ.pures tU_ok 2 rfl ?_
  refine OJ.st rfl rfl rfl (SR.load rfl rfl (fun w' hx => ldE tU_ok tI_ok rfl rfl rfl (CA.ext (hS.ca (i := 0) rfl) hx) rfl)) ?_
  refine OJ.ef rfl rfl rfl (Ef.alloc hS tI_ok rfl rfl (cPasture.enc (⟨0, 0, (Arr.mk' (Arr.mk' 0 : Arr 10 Int) : Arr 10 (Arr 10 Int)), (Arr.mk' 0 : Arr 10 Int), (Arr.mk' 0 : Arr 10 Int)⟩ : Pasture)) (by kernel_rfl)) ?_
  rintro _ w1 ⟨b7, rfl, hS⟩
  refine OJ.es rfl rfl (Es.put tI_ok hS (i := 3) rfl rfl rfl rfl rfl (vs := cPasture.enc a0) rfl (cPasture.len _) (cPasture.one _) (Put.all cPasture (⟨0, 0, (Arr.mk' (Arr.mk' 0 : Arr 10 Int) : Arr 10 (Arr 10 Int)), (Arr.mk' 0 : Arr 10 Int), (Arr.mk' 0 : Arr 10 Int)⟩ : Pasture) a0) (by (try simp only [add_lit, Nat.add_assoc, Nat.zero_add, Nat.add_zero]) <;> rfl)) ?_
  intro w1 hS
  refine OJ.nil (EJ.next ?_)
  refine CJ.seq ?_
  refine CJ.seq ?_
  refine CJ.region ?_
  refine OJ.pures tU_ok 1 rfl ?_
  refine OJ.nil (EJ.next ?_)
  obtain ⟨j261, H, K261⟩ := pbind H
  refine CJ.cut1 (fun F w1 => ∃ (y8 : Pasture) , (some y8 : Option Pasture) = some j261 ∧ F = [(2, .pointer (some ⟨b1, 0, none⟩)), (5, .pointer (some ⟨b7, 0, none⟩))] ∧ St w no w1 [box b1 (cPasture.enc (⟨0, 0, (Arr.mk' (Arr.mk' 0 : Arr 10 Int) : Arr 10 (Arr 10 Int)), (Arr.mk' 0 : Arr 10 Int), (Arr.mk' 0 : Arr 10 Int)⟩ : Pasture)) 31, box b7 (cPasture.enc y8) 31] [roP pa0 (cPasture.enc a0)]) ?_ ?_
  · skip
    refine CJ.block ?_
    refine CJ.loop (fun k F w1 => ∃ (y9 : Pasture) (y10 : Int), F = [(0, .pointer (some pa0)), (2, .pointer (some ⟨b1, 0, none⟩)), (3, .pointer (some ⟨b6, 0, none⟩)), (5, .pointer (some ⟨b7, 0, none⟩)), (6, .int .i8 y10)] ∧ St w no w1 [box b1 (cPasture.enc (⟨0, 0, (Arr.mk' (Arr.mk' 0 : Arr 10 Int) : Arr 10 (Arr 10 Int)), (Arr.mk' 0 : Arr 10 Int), (Arr.mk' 0 : Arr 10 Int)⟩ : Pasture)) 31, box b6 ((carr 10 (carr 10 (ci .i64))).enc t2.1) 64, box b7 (cPasture.enc y9) 31] [roP pa0 (cPasture.enc a0)] ∧ spec_l01Dropped.l1 a0 t2 k y9 y10 = some j261) k (F' := [(0, .pointer (some pa0)), (2, .pointer (some ⟨b1, 0, none⟩)), (3, .pointer (some ⟨b6, 0, none⟩)), (5, .pointer (some ⟨b7, 0, none⟩)), (6, .int .i8 0)]) ⟨rfl, rfl, rfl, rfl, rfl, trivial⟩ ⟨a0, 0, rfl, hS.pick [0, 2, 3] [0] rfl, H⟩ ?_
    rintro k F w1 ⟨y9, y10, rfl, hS, H⟩
    cases k with
    | zero => rw [spec_l01Dropped.l1] at H; cases H
    | succ k =>
      rw [spec_l01Dropped.l1] at H
      refine CJ.seq ?_
      refine CJ.seq ?_
      refine CJ.region ?_
      refine OJ.pures tU_ok 3 rfl ?_
      refine OJ.st rfl rfl rfl (SR.fieldAddr tU_ok tI_ok rfl rfl rfl rfl rfl rfl) ?_
      refine OJ.st rfl rfl rfl (SR.load rfl rfl (fun w' hx => ld1 tU_ok rfl rfl (CA.ext (CA.fld (hS.ca (i := 0) rfl) (mid_part (fe_Pasture_1 _) (fl_Pasture_1 _) ((ci .i8).len _))) hx) rfl)) ?_
      refine OJ.pures tU_ok 1 rfl ?_
      refine OJ.nil (EJ.next ?_)
      refine CJ.cond rfl (fun hb => ?_) (fun hb => ?_)
      · replace H := pif_t (of_decide_eq_true hb) H
        refine CJ.skip (EJ.next ?_)
        obtain ⟨j304, H, K304⟩ := pbind H
        refine CJ.cut (fun F w1 => ∃ (y11 : Pasture) , (some y11 : Option Pasture) = some j304 ∧ F = [(0, .pointer (some pa0)), (2, .pointer (some ⟨b1, 0, none⟩)), (3, .pointer (some ⟨b6, 0, none⟩)), (5, .pointer (some ⟨b7, 0, none⟩)), (6, .int .i8 y10)] ∧ St w no w1 [box b1 (cPasture.enc (⟨0, 0, (Arr.mk' (Arr.mk' 0 : Arr 10 Int) : Arr 10 (Arr 10 Int)), (Arr.mk' 0 : Arr 10 Int), (Arr.mk' 0 : Arr 10 Int)⟩ : Pasture)) 31, box b6 ((carr 10 (carr 10 (ci .i64))).enc t2.1) 64, box b7 (cPasture.enc y11) 31] [roP pa0 (cPasture.enc a0)]) ?_ ?_
        · skip
          refine CJ.block ?_
          refine CJ.seq ?_
          refine CJ.region ?_
          refine OJ.pures tU_ok 1 rfl ?_
          refine OJ.nil (EJ.next ?_)
          obtain ⟨j315, H, K315⟩ := pbind H
          refine CJ.cut1 (fun F w1 => ∃ (y12 : Pasture) , (some y12 : Option Pasture) = some j315 ∧ F = [(0, .pointer (some pa0)), (2, .pointer (some ⟨b1, 0, none⟩)), (3, .pointer (some ⟨b6, 0, none⟩)), (5, .pointer (some ⟨b7, 0, none⟩)), (6, .int .i8 y10)] ∧ St w no w1 [box b1 (cPasture.enc (⟨0, 0, (Arr.mk' (Arr.mk' 0 : Arr 10 Int) : Arr 10 (Arr 10 Int)), (Arr.mk' 0 : Arr 10 Int), (Arr.mk' 0 : Arr 10 Int)⟩ : Pasture)) 31, box b6 ((carr 10 (carr 10 (ci .i64))).enc t2.1) 64, box b7 (cPasture.enc y12) 31] [roP pa0 (cPasture.enc a0)]) ?_ ?_
          · skip
            refine CJ.block ?_
            refine CJ.loop (fun k F w1 => ∃ (y13 : Pasture) (y14 : Int), F = [(0, .pointer (some pa0)), (2, .pointer (some ⟨b1, 0, none⟩)), (3, .pointer (some ⟨b6, 0, none⟩)), (5, .pointer (some ⟨b7, 0, none⟩)), (6, .int .i8 y10), (7, .int .i8 y14)] ∧ St w no w1 [box b1 (cPasture.enc (⟨0, 0, (Arr.mk' (Arr.mk' 0 : Arr 10 Int) : Arr 10 (Arr 10 Int)), (Arr.mk' 0 : Arr 10 Int), (Arr.mk' 0 : Arr 10 Int)⟩ : Pasture)) 31, box b6 ((carr 10 (carr 10 (ci .i64))).enc t2.1) 64, box b7 (cPasture.enc y13) 31] [roP pa0 (cPasture.enc a0)] ∧ spec_l01Dropped.l2 a0 t2 y10 k y13 y14 = some j315) k (F' := [(0, .pointer (some pa0)), (2, .pointer (some ⟨b1, 0, none⟩)), (3, .pointer (some ⟨b6, 0, none⟩)), (5, .pointer (some ⟨b7, 0, none⟩)), (6, .int .i8 y10), (7, .int .i8 0)]) ⟨rfl, rfl, rfl, rfl, rfl, rfl, trivial⟩ ⟨y9, 0, rfl, hS.pick [0, 1, 2] [0] rfl, H⟩ ?_
            rintro k F w1 ⟨y13, y14, rfl, hS, H⟩
            cases k with
            | zero => rw [spec_l01Dropped.l2] at H; cases H
            | succ k =>
              rw [spec_l01Dropped.l2] at H
              refine CJ.seq ?_
              refine CJ.seq ?_
              refine CJ.region ?_
              refine OJ.pures tU_ok 3 rfl ?_
              refine OJ.st rfl rfl rfl (SR.fieldAddr tU_ok tI_ok rfl rfl rfl rfl rfl rfl) ?_
              refine OJ.st rfl rfl rfl (SR.load rfl rfl (fun w' hx => ld1 tU_ok rfl rfl (CA.ext (CA.fld (hS.ca (i := 0) rfl) (mid_part (fe_Pasture_0 _) (fl_Pasture_0 _) ((ci .i8).len _))) hx) rfl)) ?_
              refine OJ.pures tU_ok 1 rfl ?_
              refine OJ.nil (EJ.next ?_)
              refine CJ.cond rfl (fun hb => ?_) (fun hb => ?_)
              · replace H := pif_t (of_decide_eq_true hb) H
                refine CJ.skip (EJ.next ?_)
                obtain ⟨j322, H, K322⟩ := pbind H
                refine CJ.cut (fun F w1 => ∃ (y15 : Pasture) , (some y15 : Option Pasture) = some j322 ∧ F = [(0, .pointer (some pa0)), (2, .pointer (some ⟨b1, 0, none⟩)), (3, .pointer (some ⟨b6, 0, none⟩)), (5, .pointer (some ⟨b7, 0, none⟩)), (6, .int .i8 y10), (7, .int .i8 y14)] ∧ St w no w1 [box b1 (cPasture.enc (⟨0, 0, (Arr.mk' (Arr.mk' 0 : Arr 10 Int) : Arr 10 (Arr 10 Int)), (Arr.mk' 0 : Arr 10 Int), (Arr.mk' 0 : Arr 10 Int)⟩ : Pasture)) 31, box b6 ((carr 10 (carr 10 (ci .i64))).enc t2.1) 64, box b7 (cPasture.enc y15) 31] [roP pa0 (cPasture.enc a0)]) ?_ ?_
                · skip
                  refine CJ.block ?_
                  refine CJ.seq ?_
                  refine CJ.region ?_
                  refine OJ.pures tU_ok 1 rfl ?_
                  refine OJ.nil (EJ.next ?_)
                  obtain ⟨j324, H, K324⟩ := pbind H
                  refine CJ.cut1 (fun F w1 => ∃ (y16 : Pasture) , (some y16 : Option Pasture) = some j324 ∧ F = [(0, .pointer (some pa0)), (2, .pointer (some ⟨b1, 0, none⟩)), (3, .pointer (some ⟨b6, 0, none⟩)), (5, .pointer (some ⟨b7, 0, none⟩)), (6, .int .i8 y10), (7, .int .i8 y14)] ∧ St w no w1 [box b1 (cPasture.enc (⟨0, 0, (Arr.mk' (Arr.mk' 0 : Arr 10 Int) : Arr 10 (Arr 10 Int)), (Arr.mk' 0 : Arr 10 Int), (Arr.mk' 0 : Arr 10 Int)⟩ : Pasture)) 31, box b6 ((carr 10 (carr 10 (ci .i64))).enc t2.1) 64, box b7 (cPasture.enc y16) 31] [roP pa0 (cPasture.enc a0)]) ?_ ?_
                  · skip
                    refine CJ.block ?_
                    refine CJ.loop (fun k F w1 => ∃ (y17 : Pasture) (y18 : Int), F = [(0, .pointer (some pa0)), (2, .pointer (some ⟨b1, 0, none⟩)), (3, .pointer (some ⟨b6, 0, none⟩)), (5, .pointer (some ⟨b7, 0, none⟩)), (6, .int .i8 y10), (7, .int .i8 y14), (8, .int .i64 y18)] ∧ St w no w1 [box b1 (cPasture.enc (⟨0, 0, (Arr.mk' (Arr.mk' 0 : Arr 10 Int) : Arr 10 (Arr 10 Int)), (Arr.mk' 0 : Arr 10 Int), (Arr.mk' 0 : Arr 10 Int)⟩ : Pasture)) 31, box b6 ((carr 10 (carr 10 (ci .i64))).enc t2.1) 64, box b7 (cPasture.enc y17) 31] [roP pa0 (cPasture.enc a0)] ∧ spec_l01Dropped.l3 a0 t2 y10 y14 k y17 y18 = some j324) k (F' := [(0, .pointer (some pa0)), (2, .pointer (some ⟨b1, 0, none⟩)), (3, .pointer (some ⟨b6, 0, none⟩)), (5, .pointer (some ⟨b7, 0, none⟩)), (6, .int .i8 y10), (7, .int .i8 y14), (8, .int .i64 1)]) ⟨rfl, rfl, rfl, rfl, rfl, rfl, rfl, trivial⟩ ⟨y13, 1, rfl, hS.pick [0, 1, 2] [0] rfl, H⟩ ?_
                    rintro k F w1 ⟨y17, y18, rfl, hS, H⟩
                    cases k with
                    | zero => rw [spec_l01Dropped.l3] at H; cases H
                    | succ k =>
                      rw [spec_l01Dropped.l3] at H
                      refine CJ.seq ?_
                      refine CJ.seq ?_
                      refine CJ.region ?_
                      refine OJ.pures tU_ok 2 rfl ?_
                      refine OJ.nil (EJ.next ?_)
                      refine CJ.cond rfl (fun hb => ?_) (fun hb => ?_)
                      · replace H := pif_t (of_decide_eq_true hb) H
                        refine CJ.skip (EJ.next ?_)
                        refine CJ.seq ?_
                        refine CJ.block ?_
                        refine CJ.seq ?_
                        refine CJ.region ?_
                        refine OJ.pures tU_ok 2 rfl ?_
                        refine OJ.st rfl rfl rfl (SR.build (C := cSpot) tU_ok tI_ok rfl rfl rfl (zs := [.int .i8 0, .int .i8 0]) rfl rfl rfl (⟨y14, y10⟩ : Spot) rfl) ?_
                        refine OJ.ef rfl rfl rfl (Ef.alloc hS tI_ok rfl rfl (cSpot.enc (⟨0, 0⟩ : Spot)) rfl) ?_
                        rintro _ w1 ⟨b19, rfl, hS⟩
                        refine OJ.es rfl rfl (Es.store tI_ok hS (i := 3) rfl rfl rfl rfl rfl rfl (vs := cSpot.enc (⟨y14, y10⟩ : Spot)) rfl (cSpot.len _) (cSpot.one _) (Nat.le_of_ble_eq_true rfl) (cSpot.enc (⟨y14, y10⟩ : Spot)) rfl) ?_
                        intro w1 hS
                        refine OJ.nil (EJ.next ?_)
                        refine CJ.seq ?_
                        refine CJ.region ?_
                        refine OJ.st rfl rfl rfl (SR.load rfl rfl (fun w' hx => ldE tU_ok tI_ok rfl rfl rfl (CA.ext (hS.cells (i := 3) rfl) hx) rfl)) ?_
                        refine OJ.pures tU_ok 1 rfl ?_
                        obtain ⟨t20, ht20, H⟩ := pbind H
                        refine OJ.callF rfl rfl rfl rfl rfl hb54 rfl (spec_l01Next.c _ (⟨y14, y10⟩ : Spot) y18 _ ht20) ?_
                        rintro _ w1 ⟨rfl, hs⟩
                        replace hS := hS.grow hs
                        refine OJ.ef rfl rfl rfl (Ef.alloc hS tI_ok rfl rfl (cSpot.enc (⟨0, 0⟩ : Spot)) rfl) ?_
                        rintro _ w1 ⟨b21, rfl, hS⟩
                        refine OJ.es rfl rfl (Es.store tI_ok hS (i := 4) rfl rfl rfl rfl rfl rfl (vs := cSpot.enc t20) rfl (cSpot.len _) (cSpot.one _) (Nat.le_of_ble_eq_true rfl) (cSpot.enc t20) rfl) ?_
                        intro w1 hS
                        refine OJ.nil (EJ.next ?_)
                        refine CJ.seq ?_
                        refine CJ.draw [] [0, 1, 2, 3, 4, 5, 6, 7, 8, 9, 10, 11, 12, 13, 14, 15, 16, 17] mixed (by kernel_rfl) hS fun w1 hS => ?_
                        refine DJ.pures tU_ok 1 rfl ?_
                        refine DJ.st rfl rfl rfl rfl rfl (SR.load rfl rfl (fun w' hx => ldE tU_ok tI_ok rfl rfl rfl (CA.ext (hS.cells (i := 4) rfl) hx) rfl)) ?_
                        obtain ⟨t22, ht22, H⟩ := pbind H
                        refine DJ.callF rfl rfl rfl rfl rfl rfl rfl hb50 rfl (spec_l01Is.c _ _ a0 (hS.ca (i := 0) rfl) t20 _ ht22) (by rintro v w' ⟨rfl, hs⟩; exact hs) ?_
                        rintro _ w1 ⟨rfl, hs⟩
                        replace hS := hS.grow hs
                        refine DJ.pures tU_ok 1 rfl ?_
                        refine DJ.split (t := 48) rfl (fun hb => ?_) (fun hb => ?_)
                        · replace H := pif_t hb H
                          refine DJ.pures tU_ok 2 rfl ?_
                          obtain ⟨t23, ht23, H⟩ := pbind H
                          refine DJ.st rfl rfl rfl rfl rfl (SR.idxA tU_ok tI_ok rfl rfl rfl rfl rfl (Arr.lt ht23)) ?_
                          obtain ⟨t24, ht24, H⟩ := pbind H
                          refine DJ.st rfl rfl rfl rfl rfl (SR.idxA tU_ok tI_ok rfl rfl rfl rfl rfl (Arr.lt ht24)) ?_
                          refine DJ.st rfl rfl rfl rfl rfl (SR.load rfl rfl (fun w' hx => ld1 tU_ok rfl rfl (CA.ext (CA.idx (CA.idx (hS.cells (i := 1) rfl) ht23) ht24) hx) rfl)) ?_
                          refine DJ.st rfl rfl rfl rfl rfl (SR.fieldAddr tU_ok tI_ok rfl rfl rfl rfl rfl rfl) ?_
                          refine DJ.st rfl rfl rfl rfl rfl (SR.load rfl rfl (fun w' hx => ld1 tU_ok rfl rfl (CA.ext (CA.sub (hS.cells (i := 4) rfl) 1) hx) rfl)) ?_
                          refine DJ.st rfl rfl rfl rfl rfl (SR.fieldAddr tU_ok tI_ok rfl rfl rfl rfl rfl rfl) ?_
                          refine DJ.st rfl rfl rfl rfl rfl (SR.load rfl rfl (fun w' hx => ld1 tU_ok rfl rfl (CA.ext (CA.sub (hS.cells (i := 4) rfl) 0) hx) rfl)) ?_
                          obtain ⟨t25, ht25, H⟩ := pbind H
                          refine DJ.st rfl rfl rfl rfl rfl (SR.idxA tU_ok tI_ok rfl rfl rfl rfl rfl (Arr.lt ht25)) ?_
                          obtain ⟨t26, ht26, H⟩ := pbind H
                          refine DJ.st rfl rfl rfl rfl rfl (SR.idxA tU_ok tI_ok rfl rfl rfl rfl rfl (Arr.lt ht26)) ?_
                          refine DJ.st rfl rfl rfl rfl rfl (SR.load rfl rfl (fun w' hx => ld1 tU_ok rfl rfl (CA.ext (CA.idx (CA.idx (hS.cells (i := 1) rfl) ht25) ht26) hx) rfl)) ?_
                          refine DJ.pures tU_ok 2 rfl ?_
                          refine DJ.nil (EJ.next ?_)
                          refine CJ.cond rfl (fun hb => ?_) (fun hb => ?_)
                          · replace H := pif_t (of_decide_eq_true hb) H
                            refine CJ.region ?_
                            refine OJ.st rfl rfl rfl (SR.load rfl rfl (fun w' hx => ldE tU_ok tI_ok rfl rfl rfl (CA.ext (hS.cells (i := 3) rfl) hx) rfl)) ?_
                            refine OJ.pures tU_ok 1 rfl ?_
                            obtain ⟨t27, ht27, H⟩ := pbind H
                            refine OJ.callF rfl rfl rfl rfl rfl hb56 rfl (spec_l01Set.c _ b7 y17 (⟨y14, y10⟩ : Spot) y18 false ((hS.subs [2] [] [] rfl).pick [0] [] rfl) _ ht27) ?_
                            rintro _ w1 ⟨rfl, hs⟩
                            replace hS := hS.back [2] rfl rfl [box b7 (cPasture.enc t27) 31] [] hs ⟨fun _ => Iff.rfl, trivial⟩
                            refine OJ.nil (EJ.blk (EJ.next ?_))
                            refine CJ.region ?_
                            refine OJ.pures tU_ok 3 rfl ?_
                            refine OJ.nil ?_
                            exact EJ.round k (F' := [(0, .pointer (some pa0)), (2, .pointer (some ⟨b1, 0, none⟩)), (3, .pointer (some ⟨b6, 0, none⟩)), (5, .pointer (some ⟨b7, 0, none⟩)), (6, .int .i8 y10), (7, .int .i8 y14), (8, .int .i64 (IntKind.i64.wrap (y18 + 1)))]) ⟨rfl, rfl, rfl, rfl, rfl, rfl, rfl, trivial⟩ (Nat.lt_succ_self _) ⟨t27, (IntKind.i64.wrap (y18 + 1)), rfl, hS.pick [0, 1, 2] [0] rfl, H⟩
                          · replace H := pif_f (of_decide_eq_false hb) H
                            refine CJ.skip (EJ.blk (EJ.next ?_))
                            refine CJ.region ?_
                            refine OJ.pures tU_ok 3 rfl ?_
                            refine OJ.nil ?_
                            exact EJ.round k (F' := [(0, .pointer (some pa0)), (2, .pointer (some ⟨b1, 0, none⟩)), (3, .pointer (some ⟨b6, 0, none⟩)), (5, .pointer (some ⟨b7, 0, none⟩)), (6, .int .i8 y10), (7, .int .i8 y14), (8, .int .i64 (IntKind.i64.wrap (y18 + 1)))]) ⟨rfl, rfl, rfl, rfl, rfl, rfl, rfl, trivial⟩ (Nat.lt_succ_self _) ⟨y17, (IntKind.i64.wrap (y18 + 1)), rfl, hS.pick [0, 1, 2] [0] rfl, H⟩
                        · replace H := pifb_f hb H
                          refine DJ.pures tU_ok 14 rfl ?_
                          refine DJ.nil (EJ.next ?_)
                          refine CJ.condF rfl ?_
                          refine CJ.skip (EJ.blk (EJ.next ?_))
                          refine CJ.region ?_
                          refine OJ.pures tU_ok 3 rfl ?_
                          refine OJ.nil ?_
                          exact EJ.round k (F' := [(0, .pointer (some pa0)), (2, .pointer (some ⟨b1, 0, none⟩)), (3, .pointer (some ⟨b6, 0, none⟩)), (5, .pointer (some ⟨b7, 0, none⟩)), (6, .int .i8 y10), (7, .int .i8 y14), (8, .int .i64 (IntKind.i64.wrap (y18 + 1)))]) ⟨rfl, rfl, rfl, rfl, rfl, rfl, rfl, trivial⟩ (Nat.lt_succ_self _) ⟨y17, (IntKind.i64.wrap (y18 + 1)), rfl, hS.pick [0, 1, 2] [0] rfl, H⟩
                      · replace H := pif_f (of_decide_eq_false hb) H
                        refine CJ.exit (EJ.skE (EJ.skE (EJ.hit (?_))))
                        exact EJ.meet (F' := [(0, .pointer (some pa0)), (2, .pointer (some ⟨b1, 0, none⟩)), (3, .pointer (some ⟨b6, 0, none⟩)), (5, .pointer (some ⟨b7, 0, none⟩)), (6, .int .i8 y10), (7, .int .i8 y14)]) ⟨rfl, rfl, rfl, rfl, rfl, rfl, trivial⟩ ⟨y17, H, rfl, hS.pick [0, 1, 2] [0] rfl⟩
                  · rintro F w1 ⟨y16, he, rfl, hS⟩
                    obtain rfl := Option.some.inj he
                    have H := K324
                    refine EJ.blk (?_)
                    exact EJ.meet (F' := [(0, .pointer (some pa0)), (2, .pointer (some ⟨b1, 0, none⟩)), (3, .pointer (some ⟨b6, 0, none⟩)), (5, .pointer (some ⟨b7, 0, none⟩)), (6, .int .i8 y10), (7, .int .i8 y14)]) ⟨rfl, rfl, rfl, rfl, rfl, rfl, trivial⟩ ⟨y16, H, rfl, hS.pick [0, 1, 2] [0] rfl⟩
                · rintro F w1 ⟨y15, he, rfl, hS⟩
                  obtain rfl := Option.some.inj he
                  have H := K322
                  refine CJ.region ?_
                  refine OJ.pures tU_ok 3 rfl ?_
                  refine OJ.nil ?_
                  exact EJ.round k (F' := [(0, .pointer (some pa0)), (2, .pointer (some ⟨b1, 0, none⟩)), (3, .pointer (some ⟨b6, 0, none⟩)), (5, .pointer (some ⟨b7, 0, none⟩)), (6, .int .i8 y10), (7, .int .i8 (IntKind.i8.wrap (y14 + 1)))]) ⟨rfl, rfl, rfl, rfl, rfl, rfl, trivial⟩ (Nat.lt_succ_self _) ⟨y15, (IntKind.i8.wrap (y14 + 1)), rfl, hS.pick [0, 1, 2] [0] rfl, H⟩
              · replace H := pif_f (of_decide_eq_false hb) H
                refine CJ.exit (EJ.skE (EJ.skE (EJ.hit (?_))))
                exact EJ.meet (F' := [(0, .pointer (some pa0)), (2, .pointer (some ⟨b1, 0, none⟩)), (3, .pointer (some ⟨b6, 0, none⟩)), (5, .pointer (some ⟨b7, 0, none⟩)), (6, .int .i8 y10)]) ⟨rfl, rfl, rfl, rfl, rfl, trivial⟩ ⟨y13, H, rfl, hS.pick [0, 1, 2] [0] rfl⟩
          · rintro F w1 ⟨y12, he, rfl, hS⟩
            obtain rfl := Option.some.inj he
            have H := K315
            refine EJ.blk (?_)
            exact EJ.meet (F' := [(0, .pointer (some pa0)), (2, .pointer (some ⟨b1, 0, none⟩)), (3, .pointer (some ⟨b6, 0, none⟩)), (5, .pointer (some ⟨b7, 0, none⟩)), (6, .int .i8 y10)]) ⟨rfl, rfl, rfl, rfl, rfl, trivial⟩ ⟨y12, H, rfl, hS.pick [0, 1, 2] [0] rfl⟩
        · rintro F w1 ⟨y11, he, rfl, hS⟩
          obtain rfl := Option.some.inj he
          have H := K304
          refine CJ.region ?_
          refine OJ.pures tU_ok 3 rfl ?_
          refine OJ.nil ?_
          exact EJ.round k (F' := [(0, .pointer (some pa0)), (2, .pointer (some ⟨b1, 0, none⟩)), (3, .pointer (some ⟨b6, 0, none⟩)), (5, .pointer (some ⟨b7, 0, none⟩)), (6, .int .i8 (IntKind.i8.wrap (y10 + 1)))]) ⟨rfl, rfl, rfl, rfl, rfl, trivial⟩ (Nat.lt_succ_self _) ⟨y11, (IntKind.i8.wrap (y10 + 1)), rfl, hS.pick [0, 1, 2] [0] rfl, H⟩
      · replace H := pif_f (of_decide_eq_false hb) H
        refine CJ.exit (EJ.skE (EJ.skE (EJ.hit (?_))))
        exact EJ.meet (F' := [(2, .pointer (some ⟨b1, 0, none⟩)), (5, .pointer (some ⟨b7, 0, none⟩))]) ⟨rfl, rfl, trivial⟩ ⟨y9, H, rfl, hS.pick [0, 2] [0] rfl⟩
  · rintro F w1 ⟨y8, he, rfl, hS⟩
    obtain rfl := Option.some.inj he
    have H := K261
    refine EJ.next ?_
    refine CJ.seq ?_
    refine CJ.region ?_
    refine OJ.st rfl rfl rfl (SR.load rfl rfl (fun w' hx => ldE tU_ok tI_ok rfl rfl rfl (CA.ext (hS.cells (i := 1) rfl) hx) rfl)) ?_
    refine OJ.es rfl rfl (Es.put tI_ok hS (i := 0) rfl rfl rfl rfl rfl (vs := cPasture.enc y8) rfl (cPasture.len _) (cPasture.one _) (Put.all cPasture (⟨0, 0, (Arr.mk' (Arr.mk' 0 : Arr 10 Int) : Arr 10 (Arr 10 Int)), (Arr.mk' 0 : Arr 10 Int), (Arr.mk' 0 : Arr 10 Int)⟩ : Pasture) y8) (by (try simp only [add_lit, Nat.add_assoc, Nat.zero_add, Nat.add_zero]) <;> rfl)) ?_
    intro w1 hS
    refine OJ.nil (EJ.next ?_)
    refine CJ.ret (?_)
    obtain rfl := Option.some.inj H
    exact EJ.fin rfl (.cell rfl (ldE tU_ok tI_ok rfl rfl rfl (hS.cells (i := 0) rfl) rfl) .nil) ⟨rfl, hS.ext⟩

def spec_DropIdle.f (k : Nat) (a0 : Pasture) : Option (Pasture × Int) := (spec_l01Ok.f k a0).bind fun t3 => if (!t3) = true then (some ((⟨0, 0, (Arr.mk' (Arr.mk' 0 : Arr 10 Int) : Arr 10 (Arr 10 Int)), (Arr.mk' 0 : Arr 10 Int), (Arr.mk' 0 : Arr 10 Int)⟩ : Pasture), 1)) else ((spec_l01Dropped.f k a0).bind fun t4 => some (t4, 0))
theorem spec_DropIdle.c (k : Nat) (w : World) (a0 : Pasture) (r : Pasture × Int) (H : spec_DropIdle.f k a0 = some r) :
    CV Tryz.prog 10 [.agg (cPasture.enc a0).toArray].toArray w fun v w' => v = .tuple #[.agg (cPasture.enc r.1).toArray, .int .i64 r.2] ∧ Ext w w' := by
  have hS := (St.init w no)
  unfold spec_DropIdle.f at H
  refine CV.body Tryz.func10 rfl Tryz.ntmps10 rfl ?_
  refine CJ.seq ?_
  refine CJ.region ?_
  refine OJ.ef rfl rfl rfl (Ef.box hS rfl rfl (cPasture.enc a0) rfl) ?_
  rintro _ w1 ⟨b1, rfl, hS⟩
  refine OJ.ef rfl rfl rfl (Ef.alloc hS tI_ok rfl rfl (cPasture.enc (⟨0, 0, (Arr.mk' (Arr.mk' 0 : Arr 10 Int) : Arr 10 (Arr 10 Int)), (Arr.mk' 0 : Arr 10 Int), (Arr.mk' 0 : Arr 10 Int)⟩ : Pasture)) (by kernel_rfl)) ?_
  rintro _ w1 ⟨b2, rfl, hS⟩
  refine OJ.pures tU_ok 1 rfl ?_
  refine OJ.nil (EJ.next ?_)
  refine CJ.seq ?_
  refine CJ.seq ?_
  refine CJ.region ?_
  obtain ⟨t3, ht3, H⟩ := pbind H
  refine OJ.callF rfl rfl rfl rfl rfl hb31 rfl (spec_l01Ok.c k _ _ a0 (hS.cells (i := 0) rfl) _ ht3) ?_
  rintro _ w1 ⟨rfl, hs⟩
  replace hS := hS.grow hs
  refine OJ.pures tU_ok 1 rfl ?_
  refine OJ.nil (EJ.next ?_)
  refine CJ.cond rfl (fun hb => ?_) (fun hb => ?_)
  · replace H := pif_t hb H
    refine CJ.seq ?_
    refine CJ.region ?_
    refine OJ.st rfl rfl rfl (SR.build (C := cPasture) tU_ok tI_ok rfl rfl rfl (zs := [.int .i8 0, .int .i8 0, .int .i16 0, .int .i16 0, .int .i16 0, .int .i16 0, .int .i16 0, .int .i16 0, .int .i16 0, .int .i16 0, .int .i16 0, .int .i16 0, .int .i16 0, .int .i16 0, .int .i16 0, .int .i16 0, .int .i16 0, .int .i16 0, .int .i16 0, .int .i16 0, .int .i16 0, .int .i16 0, .int .i16 0, .int .i16 0, .int .i16 0, .int .i16 0, .int .i16 0, .int .i16 0, .int .i16 0, .int .i16 0, .int .i16 0, .int .i16 0, .int .i16 0, .int .i16 0, .int .i16 0, .int .i16 0, .int .i16 0, .int .i16 0, .int .i16 0, .int .i16 0, .int .i16 0, .int .i16 0, .int .i16 0, .int .i16 0, .int .i16 0, .int .i16 0, .int .i16 0, .int .i16 0, .int .i16 0, .int .i16 0, .int .i16 0, .int .i16 0, .int .i16 0, .int .i16 0, .int .i16 0, .int .i16 0, .int .i16 0, .int .i16 0, .int .i16 0, .int .i16 0, .int .i16 0, .int .i16 0, .int .i16 0, .int .i16 0, .int .i16 0, .int .i16 0, .int .i16 0, .int .i16 0, .int .i16 0, .int .i16 0, .int .i16 0, .int .i16 0, .int .i16 0, .int .i16 0, .int .i16 0, .int .i16 0, .int .i16 0, .int .i16 0, .int .i16 0, .int .i16 0, .int .i16 0, .int .i16 0, .int .i16 0, .int .i16 0, .int .i16 0, .int .i16 0, .int .i16 0, .int .i16 0, .int .i16 0, .int .i16 0, .int .i16 0, .int .i16 0, .int .i16 0, .int .i16 0, .int .i16 0, .int .i16 0, .int .i16 0, .int .i16 0, .int .i16 0, .int .i16 0, .int .i16 0, .int .i16 0, .int .u16 0, .int .u16 0, .int .u16 0, .int .u16 0, .int .u16 0, .int .u16 0, .int .u16 0, .int .u16 0, .int .u16 0, .int .u16 0, .int .u16 0, .int .u16 0, .int .u16 0, .int .u16 0, .int .u16 0, .int .u16 0, .int .u16 0, .int .u16 0, .int .u16 0, .int .u16 0]) rfl rfl rfl (⟨0, 0, (Arr.mk' (Arr.mk' 0 : Arr 10 Int) : Arr 10 (Arr 10 Int)), (Arr.mk' 0 : Arr 10 Int), (Arr.mk' 0 : Arr 10 Int)⟩ : Pasture) rfl) ?_
    refine OJ.es rfl rfl (Es.put tI_ok hS (i := 1) rfl rfl rfl rfl rfl (vs := cPasture.enc (⟨0, 0, (Arr.mk' (Arr.mk' 0 : Arr 10 Int) : Arr 10 (Arr 10 Int)), (Arr.mk' 0 : Arr 10 Int), (Arr.mk' 0 : Arr 10 Int)⟩ : Pasture)) rfl (cPasture.len _) (cPasture.one _) (Put.all cPasture (⟨0, 0, (Arr.mk' (Arr.mk' 0 : Arr 10 Int) : Arr 10 (Arr 10 Int)), (Arr.mk' 0 : Arr 10 Int), (Arr.mk' 0 : Arr 10 Int)⟩ : Pasture) (⟨0, 0, (Arr.mk' (Arr.mk' 0 : Arr 10 Int) : Arr 10 (Arr 10 Int)), (Arr.mk' 0 : Arr 10 Int), (Arr.mk' 0 : Arr 10 Int)⟩ : Pasture)) (by (try simp only [add_lit, Nat.add_assoc, Nat.zero_add, Nat.add_zero]) <;> rfl)) ?_
    intro w1 hS
    refine OJ.pures tU_ok 1 rfl ?_
    refine OJ.nil (EJ.next ?_)
    refine CJ.ret (EJ.skR (?_))
    obtain rfl := Option.some.inj H
    exact EJ.fin rfl (.cell rfl (ldE tU_ok tI_ok rfl rfl rfl (hS.cells (i := 1) rfl) rfl) (.tmp rfl .nil)) ⟨rfl, hS.ext⟩
  · replace H := pifb_f hb H
    refine CJ.skip (EJ.next ?_)
    refine CJ.seq ?_
    refine CJ.region ?_
    obtain ⟨t4, ht4, H⟩ := pbind H
    refine OJ.callF rfl rfl rfl rfl rfl hb36 rfl (spec_l01Dropped.c k _ _ a0 (hS.cells (i := 0) rfl) _ ht4) ?_
    rintro _ w1 ⟨rfl, hs⟩
    replace hS := hS.grow hs
    refine OJ.es rfl rfl (Es.put tI_ok hS (i := 1) rfl rfl rfl rfl rfl (vs := cPasture.enc t4) rfl (cPasture.len _) (cPasture.one _) (Put.all cPasture (⟨0, 0, (Arr.mk' (Arr.mk' 0 : Arr 10 Int) : Arr 10 (Arr 10 Int)), (Arr.mk' 0 : Arr 10 Int), (Arr.mk' 0 : Arr 10 Int)⟩ : Pasture) t4) (by (try simp only [add_lit, Nat.add_assoc, Nat.zero_add, Nat.add_zero]) <;> rfl)) ?_
    intro w1 hS
    refine OJ.pures tU_ok 1 rfl ?_
    refine OJ.nil (EJ.next ?_)
    refine CJ.ret (?_)
    obtain rfl := Option.some.inj H
    exact EJ.fin rfl (.cell rfl (ldE tU_ok tI_ok rfl rfl rfl (hS.cells (i := 1) rfl) rfl) (.tmp rfl .nil)) ⟨rfl, hS.ext⟩

def spec_l01Bits.l1 : Nat → Int → Int → Option Int
  | 0, _, _ => none
  | k + 1, y2, y3 => if 0 < y2 then (spec_l01Bits.l1 k (shrI .u16 y2 1) (IntKind.i64.wrap (y3 + (IntKind.i64.wrap (andI .u16 y2 1))))) else (some y3)
def spec_l01Bits.f (k : Nat) (a0 : Int) : Option Int := (spec_l01Bits.l1 k a0 0).bind fun y1 => some y1
theorem spec_l01Bits.c (k : Nat) (w : World) (a0 : Int) (r : Int) (H : spec_l01Bits.f k a0 = some r) :
    CV Tryz.prog 68 [.int .u16 a0].toArray w fun v w' => v = .int .i64 r ∧ Ext w w' := by
  have hS := (St.init w no)
  unfold spec_l01Bits.f at H
  refine CV.body Tryz.func68 rfl Tryz.ntmps68 rfl ?_
  refine CJ.seq ?_
  refine CJ.region ?_
  refine OJ.pures tU_ok 1 rfl ?_
  refine OJ.nil (EJ.next ?_)
  refine CJ.seq ?_
  refine CJ.region ?_
  refine OJ.pures tU_ok 1 rfl ?_
  refine OJ.nil (EJ.next ?_)
  obtain ⟨j326, H, K326⟩ := pbind H
  refine CJ.cut (fun F w1 => ∃ (y1 : Int) , (some y1 : Option Int) = some j326 ∧ F = [(3, .int .i64 y1)] ∧ St w no w1 [] []) ?_ ?_
  · skip
    refine CJ.block ?_
    refine CJ.loop (fun k F w1 => ∃ (y2 : Int) (y3 : Int), F = [(0, .int .u16 y2), (3, .int .i64 y3)] ∧ St w no w1 [] [] ∧ spec_l01Bits.l1 k y2 y3 = some j326) k (F' := [(0, .int .u16 a0), (3, .int .i64 0)]) ⟨rfl, rfl, trivial⟩ ⟨a0, 0, rfl, hS.pick [] [] rfl, H⟩ ?_
    rintro k F w1 ⟨y2, y3, rfl, hS, H⟩
    cases k with
    | zero => rw [spec_l01Bits.l1] at H; cases H
    | succ k =>
      rw [spec_l01Bits.l1] at H
      refine CJ.seq ?_
      refine CJ.seq ?_
      refine CJ.region ?_
      refine OJ.pures tU_ok 2 rfl ?_
      refine OJ.nil (EJ.next ?_)
      refine CJ.cond rfl (fun hb => ?_) (fun hb => ?_)
      · replace H := pif_t (of_decide_eq_true hb) H
        refine CJ.skip (EJ.next ?_)
        refine CJ.seq ?_
        refine CJ.block ?_
        refine CJ.region ?_
        refine OJ.pures tU_ok 6 rfl ?_
        refine OJ.nil (EJ.blk (EJ.next ?_))
        refine CJ.region ?_
        refine OJ.pures tU_ok 1 rfl ?_
        refine OJ.st rfl rfl rfl (SR.shr rfl rfl rfl (by decide)) ?_
        refine OJ.pures tU_ok 1 rfl ?_
        refine OJ.nil ?_
        exact EJ.round k (F' := [(0, .int .u16 (shrI .u16 y2 1)), (3, .int .i64 (IntKind.i64.wrap (y3 + (IntKind.i64.wrap (andI .u16 y2 1)))))]) ⟨rfl, rfl, trivial⟩ (Nat.lt_succ_self _) ⟨(shrI .u16 y2 1), (IntKind.i64.wrap (y3 + (IntKind.i64.wrap (andI .u16 y2 1)))), rfl, hS.pick [] [] rfl, H⟩
      · replace H := pif_f (of_decide_eq_false hb) H
        refine CJ.exit (EJ.skE (EJ.skE (EJ.hit (?_))))
        exact EJ.meet (F' := [(3, .int .i64 y3)]) ⟨rfl, trivial⟩ ⟨y3, H, rfl, hS.pick [] [] rfl⟩
  · rintro F w1 ⟨y1, he, rfl, hS⟩
    obtain rfl := Option.some.inj he
    have H := K326
    refine CJ.seq ?_
    refine CJ.region ?_
    refine OJ.pures tU_ok 2 rfl ?_
    refine OJ.nil (EJ.next ?_)
    refine CJ.ret (?_)
    obtain rfl := Option.some.inj H
    exact EJ.fin rfl (.tmp rfl .nil) ⟨rfl, hS.ext⟩

def spec_l01Hurdles.l1 (a0 : Pasture) : Nat → Int → Int → Option Int
  | 0, _, _ => none
  | k + 1, y2, y3 => if y3 < 10 then ((getI a0.East.l y3).bind fun t4 => (getI a0.South.l y3).bind fun t5 => (spec_l01Bits.f k t4).bind fun t6 => (spec_l01Bits.f k t5).bind fun t7 => spec_l01Hurdles.l1 a0 k (IntKind.i64.wrap (y2 + (IntKind.i64.wrap (t6 + t7)))) (IntKind.i64.wrap (y3 + 1))) else (some y2)
def spec_l01Hurdles.f (k : Nat) (a0 : Pasture) : Option Int := (spec_l01Hurdles.l1 a0 k 0 0).bind fun y1 => some y1
theorem spec_l01Hurdles.c (k : Nat) (w : World) (pa0 : Addr) (a0 : Pasture) (hp0 : CA w pa0 (cPasture.enc a0)) (r : Int) (H : spec_l01Hurdles.f k a0 = some r) :
    CV Tryz.prog 37 [.pointer (some pa0)].toArray w fun v w' => v = .int .i64 r ∧ Ext w w' := by
  have hS := ((St.init w no).paramP pa0 (cPasture.enc a0) hp0)
  unfold spec_l01Hurdles.f at H
  refine CV.body Tryz.func37 rfl Tryz.ntmps37 rfl ?_
  refine CJ.seq ?_
  refine CJ.region ?_
  refine OJ.pures tU_ok 1 rfl ?_
  refine OJ.nil (EJ.next ?_)
  refine CJ.seq ?_
  refine CJ.region ?_
  refine OJ.pures tU_ok 1 rfl ?_
  refine OJ.nil (EJ.next ?_)
  refine CJ.seq ?_
  refine CJ.seq ?_
  refine CJ.region ?_
  refine OJ.pures tU_ok 1 rfl ?_
  refine OJ.nil (EJ.next ?_)
  obtain ⟨j325, H, K325⟩ := pbind H
  refine CJ.cut1 (fun F w1 => ∃ (y1 : Int) , (some y1 : Option Int) = some j325 ∧ F = [(3, .int .i64 y1)] ∧ St w no w1 [] [roP pa0 (cPasture.enc a0)]) ?_ ?_
  · skip
    refine CJ.block ?_
    refine CJ.loop (fun k F w1 => ∃ (y2 : Int) (y3 : Int), F = [(0, .pointer (some pa0)), (3, .int .i64 y2), (4, .int .i64 y3)] ∧ St w no w1 [] [roP pa0 (cPasture.enc a0)] ∧ spec_l01Hurdles.l1 a0 k y2 y3 = some j325) k (F' := [(0, .pointer (some pa0)), (3, .int .i64 0), (4, .int .i64 0)]) ⟨rfl, rfl, rfl, trivial⟩ ⟨0, 0, rfl, hS.pick [] [0] rfl, H⟩ ?_
    rintro k F w1 ⟨y2, y3, rfl, hS, H⟩
    cases k with
    | zero => rw [spec_l01Hurdles.l1] at H; cases H
    | succ k =>
      rw [spec_l01Hurdles.l1] at H
      refine CJ.seq ?_
      refine CJ.seq ?_
      refine CJ.region ?_
      refine OJ.pures tU_ok 2 rfl ?_
      refine OJ.nil (EJ.next ?_)
      refine CJ.cond rfl (fun hb => ?_) (fun hb => ?_)
      · replace H := pif_t (of_decide_eq_true hb) H
        refine CJ.skip (EJ.next ?_)
        refine CJ.seq ?_
        refine CJ.block ?_
        refine CJ.draw [] [0, 1, 2, 3, 4, 5, 6, 8, 9, 10, 11, 12, 13, 7, 14, 15, 16, 17] mixed (by kernel_rfl) hS fun w1 hS => ?_
        refine DJ.pures tU_ok 4 rfl ?_
        refine DJ.st rfl rfl rfl rfl rfl (SR.fieldAddr tU_ok tI_ok rfl rfl rfl rfl rfl rfl) ?_
        obtain ⟨t4, ht4, H⟩ := pbind H
        refine DJ.st rfl rfl rfl rfl rfl (SR.idxA tU_ok tI_ok rfl rfl rfl rfl rfl (Arr.lt ht4)) ?_
        refine DJ.st rfl rfl rfl rfl rfl (SR.load rfl rfl (fun w' hx => ld1 tU_ok rfl rfl (CA.ext (CA.idx (CA.fld (hS.ca (i := 0) rfl) (mid_part (fe_Pasture_3 _) (fl_Pasture_3 _) ((carr 10 (ci .u16)).len _))) ht4) hx) rfl)) ?_
        refine DJ.pures tU_ok 3 rfl ?_
        refine DJ.st rfl rfl rfl rfl rfl (SR.fieldAddr tU_ok tI_ok rfl rfl rfl rfl rfl rfl) ?_
        obtain ⟨t5, ht5, H⟩ := pbind H
        refine DJ.st rfl rfl rfl rfl rfl (SR.idxA tU_ok tI_ok rfl rfl rfl rfl rfl (Arr.lt ht5)) ?_
        refine DJ.st rfl rfl rfl rfl rfl (SR.load rfl rfl (fun w' hx => ld1 tU_ok rfl rfl (CA.ext (CA.idx (CA.fld (hS.ca (i := 0) rfl) (mid_part (fe_Pasture_4 _) (fl_Pasture_4 _) ((carr 10 (ci .u16)).len _))) ht5) hx) rfl)) ?_
        obtain ⟨t6, ht6, H⟩ := pbind H
        refine DJ.callF rfl rfl rfl rfl rfl rfl rfl hb68 rfl (spec_l01Bits.c k _ t4 _ ht6) (by rintro v w' ⟨rfl, hs⟩; exact hs) ?_
        rintro _ w1 ⟨rfl, hs⟩
        replace hS := hS.grow hs
        obtain ⟨t7, ht7, H⟩ := pbind H
        refine DJ.callF rfl rfl rfl rfl rfl rfl rfl hb68 rfl (spec_l01Bits.c k _ t5 _ ht7) (by rintro v w' ⟨rfl, hs⟩; exact hs) ?_
        rintro _ w1 ⟨rfl, hs⟩
        replace hS := hS.grow hs
        refine DJ.pures tU_ok 3 rfl ?_
        refine DJ.nil (EJ.blk (EJ.next ?_))
        refine CJ.region ?_
        refine OJ.pures tU_ok 3 rfl ?_
        refine OJ.nil ?_
        exact EJ.round k (F' := [(0, .pointer (some pa0)), (3, .int .i64 (IntKind.i64.wrap (y2 + (IntKind.i64.wrap (t6 + t7))))), (4, .int .i64 (IntKind.i64.wrap (y3 + 1)))]) ⟨rfl, rfl, rfl, trivial⟩ (Nat.lt_succ_self _) ⟨(IntKind.i64.wrap (y2 + (IntKind.i64.wrap (t6 + t7)))), (IntKind.i64.wrap (y3 + 1)), rfl, hS.pick [] [0] rfl, H⟩
      · replace H := pif_f (of_decide_eq_false hb) H
        refine CJ.exit (EJ.skE (EJ.skE (EJ.hit (?_))))
        exact EJ.meet (F' := [(3, .int .i64 y2)]) ⟨rfl, trivial⟩ ⟨y2, H, rfl, hS.pick [] [0] rfl⟩
  · rintro F w1 ⟨y1, he, rfl, hS⟩
    obtain rfl := Option.some.inj he
    have H := K325
    refine EJ.next ?_
    refine CJ.seq ?_
    refine CJ.region ?_
    refine OJ.pures tU_ok 2 rfl ?_
    refine OJ.nil (EJ.next ?_)
    refine CJ.ret (?_)
    obtain rfl := Option.some.inj H
    exact EJ.fin rfl (.tmp rfl .nil) ⟨rfl, hS.ext⟩

def spec_CountHurdles.f (k : Nat) (a0 : Pasture) : Option (Int × Int) := (spec_l01Ok.f k a0).bind fun t2 => if (!t2) = true then (some (0, 1)) else ((spec_l01Hurdles.f k a0).bind fun t3 => some (t3, 0))
theorem spec_CountHurdles.c (k : Nat) (w : World) (a0 : Pasture) (r : Int × Int) (H : spec_CountHurdles.f k a0 = some r) :
    CV Tryz.prog 11 [.agg (cPasture.enc a0).toArray].toArray w fun v w' => v = .tuple #[.int .i64 r.1, .int .i64 r.2] ∧ Ext w w' := by
  have hS := (St.init w no)
  unfold spec_CountHurdles.f at H
  refine CV.body Tryz.func11 rfl Tryz.ntmps11 rfl ?_
  refine CJ.seq ?_
  refine CJ.region ?_
  refine OJ.ef rfl rfl rfl (Ef.box hS rfl rfl (cPasture.enc a0) rfl) ?_
  rintro _ w1 ⟨b1, rfl, hS⟩
  refine OJ.pures tU_ok 2 rfl ?_
  refine OJ.nil (EJ.next ?_)
  refine CJ.seq ?_
  refine CJ.seq ?_
  refine CJ.region ?_
  obtain ⟨t2, ht2, H⟩ := pbind H
  refine OJ.callF rfl rfl rfl rfl rfl hb31 rfl (spec_l01Ok.c k _ _ a0 (hS.cells (i := 0) rfl) _ ht2) ?_
  rintro _ w1 ⟨rfl, hs⟩
  replace hS := hS.grow hs
  refine OJ.pures tU_ok 1 rfl ?_
  refine OJ.nil (EJ.next ?_)
  refine CJ.cond rfl (fun hb => ?_) (fun hb => ?_)
  · replace H := pif_t hb H
    refine CJ.seq ?_
    refine CJ.region ?_
    refine OJ.pures tU_ok 2 rfl ?_
    refine OJ.nil (EJ.next ?_)
    refine CJ.ret (EJ.skR (?_))
    obtain rfl := Option.some.inj H
    exact EJ.fin rfl (.tmp rfl (.tmp rfl .nil)) ⟨rfl, hS.ext⟩
  · replace H := pifb_f hb H
    refine CJ.skip (EJ.next ?_)
    refine CJ.seq ?_
    refine CJ.region ?_
    obtain ⟨t3, ht3, H⟩ := pbind H
    refine OJ.callF rfl rfl rfl rfl rfl hb37 rfl (spec_l01Hurdles.c k _ _ a0 (hS.cells (i := 0) rfl) _ ht3) ?_
    rintro _ w1 ⟨rfl, hs⟩
    replace hS := hS.grow hs
    refine OJ.pures tU_ok 2 rfl ?_
    refine OJ.nil (EJ.next ?_)
    refine CJ.ret (?_)
    obtain rfl := Option.some.inj H
    exact EJ.fin rfl (.tmp rfl (.tmp rfl .nil)) ⟨rfl, hS.ext⟩

def spec_SameSpots.l1 (a0 : List Spot) (a1 : List Spot) : Nat → Int → Option (Bool ⊕ Unit)
  | 0, _ => none
  | k + 1, y1 => if y1 < (a0.length : Int) then ((getI a0 y1).bind fun t2 => (getI a1 y1).bind fun t3 => if t2 ≠ t3 then (some (Sum.inl false)) else (spec_SameSpots.l1 a0 a1 k (IntKind.i64.wrap (y1 + 1)))) else (some (Sum.inr ()))
def spec_SameSpots.f (k : Nat) (a0 : List Spot) (a1 : List Spot) : Option Bool := if (a0.length : Int) ≠ (a1.length : Int) then (some false) else ((spec_SameSpots.l1 a0 a1 k 0).bind fun s329 => match s329 with | .inl r => some r | .inr _ => some true)
theorem spec_SameSpots.c (k : Nat) (w : World) (Aa0 : Option Addr) (ca0 : Nat) (a0 : List Spot) (hr0 : Rd cSpot w Aa0 a0) (hc0 : a0.length ≤ ca0) (Aa1 : Option Addr) (ca1 : Nat) (a1 : List Spot) (hr1 : Rd cSpot w Aa1 a1) (hc1 : a1.length ≤ ca1) (r : Bool) (H : spec_SameSpots.f k a0 a1 = some r) :
    CV Tryz.prog 16 [.slice Aa0 a0.length ca0, .slice Aa1 a1.length ca1].toArray w fun v w' => v = .bool r ∧ Ext w w' := by
  have hS := (((St.init w no).param cSpot Aa0 ca0 a0 hr0 hc0).param cSpot Aa1 ca1 a1 hr1 hc1)
  unfold spec_SameSpots.f at H
  refine CV.body Tryz.func16 rfl Tryz.ntmps16 rfl ?_
  refine CJ.seq ?_
  refine CJ.region ?_
  refine OJ.pures tU_ok 1 rfl ?_
  refine OJ.nil (EJ.next ?_)
  refine CJ.seq ?_
  refine CJ.seq ?_
  refine CJ.region ?_
  refine OJ.pures tU_ok 5 rfl ?_
  refine OJ.nil (EJ.next ?_)
  refine CJ.cond rfl (fun hb => ?_) (fun hb => ?_)
  · replace H := pif_t (of_decide_eq_true hb) H
    refine CJ.seq ?_
    refine CJ.region ?_
    refine OJ.pures tU_ok 1 rfl ?_
    refine OJ.nil (EJ.next ?_)
    refine CJ.ret (EJ.skR (?_))
    obtain rfl := Option.some.inj H
    exact EJ.fin rfl (.tmp rfl .nil) ⟨rfl, hS.ext⟩
  · replace H := pif_f (of_decide_eq_false hb) H
    refine CJ.skip (EJ.next ?_)
    refine CJ.seq ?_
    refine CJ.seq ?_
    refine CJ.region ?_
    refine OJ.pures tU_ok 1 rfl ?_
    refine OJ.nil (EJ.next ?_)
    obtain ⟨j329, H, K329⟩ := pbind H
    refine CJ.cut1 (fun F w1 => (some (Sum.inr ()) : Option (Bool ⊕ Unit)) = some j329 ∧ F = [] ∧ St w no w1 [] [roC cSpot Aa0 ca0 a0, roC cSpot Aa1 ca1 a1]) ?_ ?_
    · skip
      refine CJ.block ?_
      refine CJ.loop (fun k F w1 => ∃ (y1 : Int), F = [(0, .slice Aa0 a0.length ca0), (1, .slice Aa1 a1.length ca1), (5, .int .i64 y1)] ∧ St w no w1 [] [roC cSpot Aa0 ca0 a0, roC cSpot Aa1 ca1 a1] ∧ spec_SameSpots.l1 a0 a1 k y1 = some j329) k (F' := [(0, .slice Aa0 a0.length ca0), (1, .slice Aa1 a1.length ca1), (5, .int .i64 0)]) ⟨rfl, rfl, rfl, trivial⟩ ⟨0, rfl, hS.pick [] [0, 1] rfl, H⟩ ?_
      rintro k F w1 ⟨y1, rfl, hS, H⟩
      cases k with
      | zero => rw [spec_SameSpots.l1] at H; cases H
      | succ k =>
        rw [spec_SameSpots.l1] at H
        refine CJ.seq ?_
        refine CJ.seq ?_
        refine CJ.region ?_
        refine OJ.pures tU_ok 4 rfl ?_
        refine OJ.nil (EJ.next ?_)
        refine CJ.cond rfl (fun hb => ?_) (fun hb => ?_)
        · replace H := pif_t (of_decide_eq_true hb) H
          refine CJ.skip (EJ.next ?_)
          refine CJ.seq ?_
          refine CJ.block ?_
          refine CJ.seq ?_
          refine CJ.draw [] [0, 1, 2, 3, 4, 5, 6, 7, 8] mixed (by kernel_rfl) hS fun w1 hS => ?_
          refine DJ.pures tU_ok 2 rfl ?_
          obtain ⟨t2, ht2, H⟩ := pbind H
          obtain ⟨ad2, e2⟩ := (hS.rd' (i := 0) rfl).some' ht2
          refine DJ.st rfl rfl rfl rfl rfl (SR.idxS tU_ok tI_ok rfl rfl rfl rfl e2 rfl (getI_some ht2).1) ?_
          refine DJ.st rfl rfl rfl rfl rfl (SR.load rfl rfl (fun w' hx => ldE tU_ok tI_ok rfl rfl rfl (CA.ext ((hS.rd' (i := 0) rfl).at_ e2 ht2) hx) rfl)) ?_
          refine DJ.pures tU_ok 2 rfl ?_
          obtain ⟨t3, ht3, H⟩ := pbind H
          obtain ⟨ad3, e3⟩ := (hS.rd' (i := 1) rfl).some' ht3
          refine DJ.st rfl rfl rfl rfl rfl (SR.idxS tU_ok tI_ok rfl rfl rfl rfl e3 rfl (getI_some ht3).1) ?_
          refine DJ.st rfl rfl rfl rfl rfl (SR.load rfl rfl (fun w' hx => ldE tU_ok tI_ok rfl rfl rfl (CA.ext ((hS.rd' (i := 1) rfl).at_ e3 ht3) hx) rfl)) ?_
          refine DJ.st rfl rfl rfl rfl rfl (SR.neS eqT46 eqG46 rfl rfl rfl (rfl : _ = (cSpot.enc t2).toArray) (rfl : _ = (cSpot.enc t3).toArray)) ?_
          refine DJ.nil (EJ.next ?_)
          refine CJ.cond rfl (fun hb => ?_) (fun hb => ?_)
          · replace H := pif_t (of_decide_eq_true hb) H
            refine CJ.seq ?_
            refine CJ.region ?_
            refine OJ.pures tU_ok 1 rfl ?_
            refine OJ.nil (EJ.next ?_)
            refine CJ.ret (EJ.bkR (EJ.skR (EJ.skR (EJ.bkR (EJ.skR (EJ.skR (?_)))))))
            first | (obtain rfl := Option.some.inj H; have H := K329) | (obtain ⟨q329, H2, e329⟩ := pbind H; obtain rfl := Option.some.inj e329; obtain rfl := Option.some.inj K329; have H := H2)
            obtain rfl := Option.some.inj H
            exact EJ.fin rfl (.tmp rfl .nil) ⟨rfl, hS.ext⟩
          · replace H := pif_f (of_decide_eq_false hb) H
            refine CJ.skip (EJ.blk (EJ.next ?_))
            refine CJ.region ?_
            refine OJ.pures tU_ok 3 rfl ?_
            refine OJ.nil ?_
            exact EJ.round k (F' := [(0, .slice Aa0 a0.length ca0), (1, .slice Aa1 a1.length ca1), (5, .int .i64 (IntKind.i64.wrap (y1 + 1)))]) ⟨rfl, rfl, rfl, trivial⟩ (Nat.lt_succ_self _) ⟨(IntKind.i64.wrap (y1 + 1)), rfl, hS.pick [] [0, 1] rfl, H⟩
        · replace H := pif_f (of_decide_eq_false hb) H
          refine CJ.exit (EJ.skE (EJ.skE (EJ.hit (?_))))
          exact EJ.meet (F' := []) trivial ⟨H, rfl, hS.pick [] [0, 1] rfl⟩
    · rintro F w1 ⟨he, rfl, hS⟩
      obtain rfl := Option.some.inj he
      have H := K329
      refine EJ.next ?_
      refine CJ.seq ?_
      refine CJ.region ?_
      refine OJ.pures tU_ok 1 rfl ?_
      refine OJ.nil (EJ.next ?_)
      refine CJ.ret (?_)
      obtain rfl := Option.some.inj H
      exact EJ.fin rfl (.tmp rfl .nil) ⟨rfl, hS.ext⟩

def spec_SameWays.l1 (a0 : List (List Spot)) (a1 : List (List Spot)) : Nat → Int → Option (Bool ⊕ Unit)
  | 0, _ => none
  | k + 1, y1 => if y1 < (a0.length : Int) then ((getI a0 y1).bind fun t2 => (getI a1 y1).bind fun t3 => (spec_SameSpots.f k t2 t3).bind fun t4 => if (!t4) = true then (some (Sum.inl false)) else (spec_SameWays.l1 a0 a1 k (IntKind.i64.wrap (y1 + 1)))) else (some (Sum.inr ()))
def spec_SameWays.f (k : Nat) (a0 : List (List Spot)) (a1 : List (List Spot)) : Option Bool := if (a0.length : Int) ≠ (a1.length : Int) then (some false) else ((spec_SameWays.l1 a0 a1 k 0).bind fun s328 => match s328 with | .inl r => some r | .inr _ => some true)
theorem spec_SameWays.c (k : Nat) (w : World) (Aa0 : Option Addr) (ca0 : Nat) (Da0 : List SH) (a0 : List (List Spot)) (hr0 : (rosC cSpot Aa0 ca0 Da0 a0).holds w) (Aa1 : Option Addr) (ca1 : Nat) (Da1 : List SH) (a1 : List (List Spot)) (hr1 : (rosC cSpot Aa1 ca1 Da1 a1).holds w) (r : Bool) (H : spec_SameWays.f k a0 a1 = some r) :
    CV Tryz.prog 38 [.slice Aa0 a0.length ca0, .slice Aa1 a1.length ca1].toArray w fun v w' => v = .bool r ∧ Ext w w' := by
  have hS := (((St.init w no).paramC (rosC cSpot Aa0 ca0 Da0 a0) hr0).paramC (rosC cSpot Aa1 ca1 Da1 a1) hr1)
  unfold spec_SameWays.f at H
  refine CV.body Tryz.func38 rfl Tryz.ntmps38 rfl ?_
  refine CJ.seq ?_
  refine CJ.region ?_
  refine OJ.pures tU_ok 1 rfl ?_
  refine OJ.nil (EJ.next ?_)
  refine CJ.seq ?_
  refine CJ.seq ?_
  refine CJ.region ?_
  refine OJ.pures tU_ok 5 rfl ?_
  refine OJ.nil (EJ.next ?_)
  refine CJ.cond rfl (fun hb => ?_) (fun hb => ?_)
  · replace H := pif_t (of_decide_eq_true hb) H
    refine CJ.seq ?_
    refine CJ.region ?_
    refine OJ.pures tU_ok 1 rfl ?_
    refine OJ.nil (EJ.next ?_)
    refine CJ.ret (EJ.skR (?_))
    obtain rfl := Option.some.inj H
    exact EJ.fin rfl (.tmp rfl .nil) ⟨rfl, hS.ext⟩
  · replace H := pif_f (of_decide_eq_false hb) H
    refine CJ.skip (EJ.next ?_)
    refine CJ.seq ?_
    refine CJ.seq ?_
    refine CJ.region ?_
    refine OJ.pures tU_ok 1 rfl ?_
    refine OJ.nil (EJ.next ?_)
    obtain ⟨j328, H, K328⟩ := pbind H
    refine CJ.cut1 (fun F w1 => (some (Sum.inr ()) : Option (Bool ⊕ Unit)) = some j328 ∧ F = [] ∧ St w no w1 [] [rosC cSpot Aa0 ca0 Da0 a0, rosC cSpot Aa1 ca1 Da1 a1]) ?_ ?_
    · skip
      refine CJ.block ?_
      refine CJ.loop (fun k F w1 => ∃ (y1 : Int), F = [(0, .slice Aa0 a0.length ca0), (1, .slice Aa1 a1.length ca1), (5, .int .i64 y1)] ∧ St w no w1 [] [rosC cSpot Aa0 ca0 Da0 a0, rosC cSpot Aa1 ca1 Da1 a1] ∧ spec_SameWays.l1 a0 a1 k y1 = some j328) k (F' := [(0, .slice Aa0 a0.length ca0), (1, .slice Aa1 a1.length ca1), (5, .int .i64 0)]) ⟨rfl, rfl, rfl, trivial⟩ ⟨0, rfl, hS.pick [] [0, 1] rfl, H⟩ ?_
      rintro k F w1 ⟨y1, rfl, hS, H⟩
      cases k with
      | zero => rw [spec_SameWays.l1] at H; cases H
      | succ k =>
        rw [spec_SameWays.l1] at H
        refine CJ.seq ?_
        refine CJ.seq ?_
        refine CJ.region ?_
        refine OJ.pures tU_ok 4 rfl ?_
        refine OJ.nil (EJ.next ?_)
        refine CJ.cond rfl (fun hb => ?_) (fun hb => ?_)
        · replace H := pif_t (of_decide_eq_true hb) H
          refine CJ.skip (EJ.next ?_)
          refine CJ.seq ?_
          refine CJ.block ?_
          refine CJ.seq ?_
          refine CJ.draw [] [0, 1, 2, 3, 4, 5, 6, 7, 8, 9] mixed (by kernel_rfl) hS fun w1 hS => ?_
          refine DJ.pures tU_ok 2 rfl ?_
          obtain ⟨t2, ht2, H⟩ := pbind H
          obtain ⟨Ae2, ce2, g2, d2, hx2⟩ := ros_el (hS.rosH (i := 0) rfl) ht2
          obtain ⟨ad2, e2⟩ := (ros_rd (hS.rosH (i := 0) rfl)).some' g2
          refine DJ.st rfl rfl rfl rfl rfl (SR.idxS tU_ok tI_ok rfl rfl rfl rfl e2 rfl (getI_some ht2).1) ?_
          refine DJ.st rfl rfl rfl rfl rfl (SR.load rfl rfl (fun w' hx => ld1 tU_ok rfl rfl (CA.ext ((ros_rd (hS.rosH (i := 0) rfl)).at_ e2 g2) hx) rfl)) ?_
          refine DJ.pures tU_ok 2 rfl ?_
          obtain ⟨t3, ht3, H⟩ := pbind H
          obtain ⟨Ae3, ce3, g3, d3, hx3⟩ := ros_el (hS.rosH (i := 1) rfl) ht3
          obtain ⟨ad3, e3⟩ := (ros_rd (hS.rosH (i := 1) rfl)).some' g3
          refine DJ.st rfl rfl rfl rfl rfl (SR.idxS tU_ok tI_ok rfl rfl rfl rfl e3 rfl (getI_some ht3).1) ?_
          refine DJ.st rfl rfl rfl rfl rfl (SR.load rfl rfl (fun w' hx => ld1 tU_ok rfl rfl (CA.ext ((ros_rd (hS.rosH (i := 1) rfl)).at_ e3 g3) hx) rfl)) ?_
          obtain ⟨t4, ht4, H⟩ := pbind H
          refine DJ.callF rfl rfl rfl rfl rfl rfl rfl hb16 rfl (spec_SameSpots.c k _ Ae2 ce2 t2 (ros_sub (hS.rosH (i := 0) rfl) d2 hx2) (ros_subLe (hS.rosH (i := 0) rfl) d2 hx2) Ae3 ce3 t3 (ros_sub (hS.rosH (i := 1) rfl) d3 hx3) (ros_subLe (hS.rosH (i := 1) rfl) d3 hx3) _ ht4) (by rintro v w' ⟨rfl, hs⟩; exact hs) ?_
          rintro _ w1 ⟨rfl, hs⟩
          replace hS := hS.grow hs
          refine DJ.pures tU_ok 1 rfl ?_
          refine DJ.nil (EJ.next ?_)
          refine CJ.cond rfl (fun hb => ?_) (fun hb => ?_)
          · replace H := pif_t hb H
            refine CJ.seq ?_
            refine CJ.region ?_
            refine OJ.pures tU_ok 1 rfl ?_
            refine OJ.nil (EJ.next ?_)
            refine CJ.ret (EJ.bkR (EJ.skR (EJ.skR (EJ.bkR (EJ.skR (EJ.skR (?_)))))))
            first | (obtain rfl := Option.some.inj H; have H := K328) | (obtain ⟨q328, H2, e328⟩ := pbind H; obtain rfl := Option.some.inj e328; obtain rfl := Option.some.inj K328; have H := H2)
            obtain rfl := Option.some.inj H
            exact EJ.fin rfl (.tmp rfl .nil) ⟨rfl, hS.ext⟩
          · replace H := pifb_f hb H
            refine CJ.skip (EJ.blk (EJ.next ?_))
            refine CJ.region ?_
            refine OJ.pures tU_ok 3 rfl ?_
            refine OJ.nil ?_
            exact EJ.round k (F' := [(0, .slice Aa0 a0.length ca0), (1, .slice Aa1 a1.length ca1), (5, .int .i64 (IntKind.i64.wrap (y1 + 1)))]) ⟨rfl, rfl, rfl, trivial⟩ (Nat.lt_succ_self _) ⟨(IntKind.i64.wrap (y1 + 1)), rfl, hS.pick [] [0, 1] rfl, H⟩
        · replace H := pif_f (of_decide_eq_false hb) H
          refine CJ.exit (EJ.skE (EJ.skE (EJ.hit (?_))))
          exact EJ.meet (F' := []) trivial ⟨H, rfl, hS.pick [] [0, 1] rfl⟩
    · rintro F w1 ⟨he, rfl, hS⟩
      obtain rfl := Option.some.inj he
      have H := K328
      refine EJ.next ?_
      refine CJ.seq ?_
      refine CJ.region ?_
      refine OJ.pures tU_ok 1 rfl ?_
      refine OJ.nil (EJ.next ?_)
      refine CJ.ret (?_)
      obtain rfl := Option.some.inj H
      exact EJ.fin rfl (.tmp rfl .nil) ⟨rfl, hS.ext⟩

def spec_SameYards.f (k : Nat) (a0 : List (List Spot)) (a1 : List (List Spot)) : Option Bool := (spec_SameWays.f k a0 a1).bind fun t1 => some t1
theorem spec_SameYards.c (k : Nat) (w : World) (Aa0 : Option Addr) (ca0 : Nat) (Da0 : List SH) (a0 : List (List Spot)) (hr0 : (rosC cSpot Aa0 ca0 Da0 a0).holds w) (Aa1 : Option Addr) (ca1 : Nat) (Da1 : List SH) (a1 : List (List Spot)) (hr1 : (rosC cSpot Aa1 ca1 Da1 a1).holds w) (r : Bool) (H : spec_SameYards.f k a0 a1 = some r) :
    CV Tryz.prog 12 [.slice Aa0 a0.length ca0, .slice Aa1 a1.length ca1].toArray w fun v w' => v = .bool r ∧ Ext w w' := by
  have hS := (((St.init w no).paramC (rosC cSpot Aa0 ca0 Da0 a0) hr0).paramC (rosC cSpot Aa1 ca1 Da1 a1) hr1)
  unfold spec_SameYards.f at H
  refine CV.body Tryz.func12 rfl Tryz.ntmps12 rfl ?_
  refine CJ.seq ?_
  refine CJ.region ?_
  refine OJ.pures tU_ok 1 rfl ?_
  refine OJ.nil (EJ.next ?_)
  refine CJ.seq ?_
  refine CJ.region ?_
  refine OJ.pures tU_ok 2 rfl ?_
  obtain ⟨t1, ht1, H⟩ := pbind H
  refine OJ.callF rfl rfl rfl rfl rfl hb38 rfl (spec_SameWays.c k _ Aa0 ca0 Da0 a0 (hS.rosH (i := 0) rfl) Aa1 ca1 Da1 a1 (hS.rosH (i := 1) rfl) _ ht1) ?_
  rintro _ w1 ⟨rfl, hs⟩
  replace hS := hS.grow hs
  refine OJ.pures tU_ok 1 rfl ?_
  refine OJ.nil (EJ.next ?_)
  refine CJ.ret (?_)
  obtain rfl := Option.some.inj H
  exact EJ.fin rfl (.tmp rfl .nil) ⟨rfl, hS.ext⟩

def slices_IndexFunc_impl_Spot_impl_Spot.l1 (a0 : List Spot) (a1 : Spot → Option Bool) : Nat → Int → Option (Int ⊕ Unit)
  | 0, _ => none
  | k + 1, y1 => if y1 < (a0.length : Int) then ((getI a0 y1).bind fun t2 => (a1 t2).bind fun t3 => if t3 = true then (some (Sum.inl y1)) else (slices_IndexFunc_impl_Spot_impl_Spot.l1 a0 a1 k (IntKind.i64.wrap (y1 + 1)))) else (some (Sum.inr ()))
def slices_IndexFunc_impl_Spot_impl_Spot.f (k : Nat) (a0 : List Spot) (a1 : Spot → Option Bool) : Option Int := (slices_IndexFunc_impl_Spot_impl_Spot.l1 a0 a1 k 0).bind fun s332 => match s332 with | .inl r => some r | .inr _ => some (-1)
theorem slices_IndexFunc_impl_Spot_impl_Spot.c (k : Nat) (w : World) (Aa0 : Option Addr) (ca0 : Nat) (a0 : List Spot) (hr0 : Rd cSpot w Aa0 a0) (hc0 : a0.length ≤ ca0) (na1 : Nat) (fsa1 capa1 : Array Value) (hb1 : hasBody Tryz.prog na1) (a1 : Spot → Option Bool) (hf1 : ∀ (z0 : Spot) (r : Bool), a1 z0 = some r → ∀ w', Chg no w w' → CV Tryz.prog na1 (fsa1 ++ [.agg (cSpot.enc z0).toArray].toArray ++ capa1) w' fun v w'' => v = .bool r ∧ Ext w' w'') (r : Int) (H : slices_IndexFunc_impl_Spot_impl_Spot.f k a0 a1 = some r) :
    CV Tryz.prog 91 [.slice Aa0 a0.length ca0, .func (.func na1) fsa1 capa1].toArray w fun v w' => v = .int .i64 r ∧ Ext w w' := by
  have hS := ((St.init w no).param cSpot Aa0 ca0 a0 hr0 hc0)
  unfold slices_IndexFunc_impl_Spot_impl_Spot.f at H
  refine CV.body Tryz.func91 rfl Tryz.ntmps91 rfl ?_
  refine CJ.seq ?_
  refine CJ.region ?_
  refine OJ.pures tU_ok 1 rfl ?_
  refine OJ.nil (EJ.next ?_)
  refine CJ.seq ?_
  refine CJ.seq ?_
  refine CJ.region ?_
  refine OJ.pures tU_ok 3 rfl ?_
  refine OJ.nil (EJ.next ?_)
  obtain ⟨j332, H, K332⟩ := pbind H
  refine CJ.cut1 (fun F w1 => (some (Sum.inr ()) : Option (Int ⊕ Unit)) = some j332 ∧ F = [] ∧ St w no w1 [] [roC cSpot Aa0 ca0 a0]) ?_ ?_
  · skip
    refine CJ.block ?_
    refine CJ.loop (fun k F w1 => ∃ (y1 : Int), F = [(0, .slice Aa0 a0.length ca0), (1, .func (.func na1) fsa1 capa1), (7, .int .i64 (a0.length : Int)), (8, .int .i64 y1)] ∧ St w no w1 [] [roC cSpot Aa0 ca0 a0] ∧ slices_IndexFunc_impl_Spot_impl_Spot.l1 a0 a1 k y1 = some j332) k (F' := [(0, .slice Aa0 a0.length ca0), (1, .func (.func na1) fsa1 capa1), (7, .int .i64 (a0.length : Int)), (8, .int .i64 0)]) ⟨rfl, rfl, rfl, rfl, trivial⟩ ⟨0, rfl, hS.pick [] [0] rfl, H⟩ ?_
    rintro k F w1 ⟨y1, rfl, hS, H⟩
    cases k with
    | zero => rw [slices_IndexFunc_impl_Spot_impl_Spot.l1] at H; cases H
    | succ k =>
      rw [slices_IndexFunc_impl_Spot_impl_Spot.l1] at H
      refine CJ.seq ?_
      refine CJ.region ?_
      refine OJ.pures tU_ok 1 rfl ?_
      refine OJ.nil (EJ.next ?_)
      refine CJ.seq ?_
      refine CJ.cond rfl (fun hb => ?_) (fun hb => ?_)
      · replace H := pif_t (of_decide_eq_true hb) H
        refine CJ.skip (EJ.next ?_)
        refine CJ.seq ?_
        refine CJ.block ?_
        refine CJ.seq ?_
        refine CJ.region ?_
        refine OJ.pures tU_ok 2 rfl ?_
        refine OJ.nil (EJ.next ?_)
        refine CJ.seq ?_
        refine CJ.region ?_
        refine OJ.pures tU_ok 3 rfl ?_
        obtain ⟨t2, ht2, H⟩ := pbind H
        obtain ⟨ad2, e2⟩ := (hS.rd' (i := 0) rfl).some' ht2
        refine OJ.st rfl rfl rfl (SR.idxS tU_ok tI_ok rfl rfl rfl rfl e2 rfl (getI_some ht2).1) ?_
        refine OJ.st rfl rfl rfl (SR.load rfl rfl (fun w' hx => ldE tU_ok tI_ok rfl rfl rfl (CA.ext ((hS.rd' (i := 0) rfl).at_ e2 ht2) hx) rfl)) ?_
        obtain ⟨t3, ht3, H⟩ := pbind H
        refine OJ.call rfl rfl (Nat.le_of_ble_eq_true rfl) rfl rfl rfl hb1 rfl (hf1 t2 _ ht3 _ hS.chg) ?_
        rintro _ w1 ⟨rfl, hs⟩
        replace hS := hS.grow hs
        refine OJ.nil (EJ.next ?_)
        refine CJ.cond rfl (fun hb => ?_) (fun hb => ?_)
        · replace H := pif_t hb H
          refine CJ.seq ?_
          refine CJ.region ?_
          refine OJ.pures tU_ok 2 rfl ?_
          refine OJ.nil (EJ.next ?_)
          refine CJ.ret (EJ.bkR (EJ.skR (EJ.skR (EJ.bkR (EJ.skR (EJ.skR (?_)))))))
          first | (obtain rfl := Option.some.inj H; have H := K332) | (obtain ⟨q332, H2, e332⟩ := pbind H; obtain rfl := Option.some.inj e332; obtain rfl := Option.some.inj K332; have H := H2)
          obtain rfl := Option.some.inj H
          exact EJ.fin rfl (.tmp rfl .nil) ⟨rfl, hS.ext⟩
        · replace H := pifb_f hb H
          refine CJ.skip (EJ.blk (EJ.next ?_))
          refine CJ.region ?_
          refine OJ.pures tU_ok 2 rfl ?_
          refine OJ.nil ?_
          exact EJ.round k (F' := [(0, .slice Aa0 a0.length ca0), (1, .func (.func na1) fsa1 capa1), (7, .int .i64 (a0.length : Int)), (8, .int .i64 (IntKind.i64.wrap (y1 + 1)))]) ⟨rfl, rfl, rfl, rfl, trivial⟩ (Nat.lt_succ_self _) ⟨(IntKind.i64.wrap (y1 + 1)), rfl, hS.pick [] [0] rfl, H⟩
      · replace H := pif_f (of_decide_eq_false hb) H
        refine CJ.exit (EJ.skE (EJ.skE (EJ.hit (?_))))
        exact EJ.meet (F' := []) trivial ⟨H, rfl, hS.pick [] [0] rfl⟩
  · rintro F w1 ⟨he, rfl, hS⟩
    obtain rfl := Option.some.inj he
    have H := K332
    refine EJ.next ?_
    refine CJ.seq ?_
    refine CJ.region ?_
    refine OJ.pures tU_ok 1 rfl ?_
    refine OJ.nil (EJ.next ?_)
    refine CJ.ret (?_)
    obtain rfl := Option.some.inj H
    exact EJ.fin rfl (.tmp rfl .nil) ⟨rfl, hS.ext⟩

def slices_ContainsFunc_impl_Spot_impl_Spot.f (k : Nat) (a0 : List Spot) (a1 : Spot → Option Bool) : Option Bool := (slices_IndexFunc_impl_Spot_impl_Spot.f k a0 a1).bind fun t1 => some (decide (0 ≤ t1))
theorem slices_ContainsFunc_impl_Spot_impl_Spot.c (k : Nat) (w : World) (Aa0 : Option Addr) (ca0 : Nat) (a0 : List Spot) (hr0 : Rd cSpot w Aa0 a0) (hc0 : a0.length ≤ ca0) (na1 : Nat) (fsa1 capa1 : Array Value) (hb1 : hasBody Tryz.prog na1) (a1 : Spot → Option Bool) (hf1 : ∀ (z0 : Spot) (r : Bool), a1 z0 = some r → ∀ w', Chg no w w' → CV Tryz.prog na1 (fsa1 ++ [.agg (cSpot.enc z0).toArray].toArray ++ capa1) w' fun v w'' => v = .bool r ∧ Ext w' w'') (r : Bool) (H : slices_ContainsFunc_impl_Spot_impl_Spot.f k a0 a1 = some r) :
    CV Tryz.prog 70 [.slice Aa0 a0.length ca0, .func (.func na1) fsa1 capa1].toArray w fun v w' => v = .bool r ∧ Ext w w' := by
  have hS := ((St.init w no).param cSpot Aa0 ca0 a0 hr0 hc0)
  unfold slices_ContainsFunc_impl_Spot_impl_Spot.f at H
  refine CV.body Tryz.func70 rfl Tryz.ntmps70 rfl ?_
  refine CJ.seq ?_
  refine CJ.region ?_
  refine OJ.pures tU_ok 1 rfl ?_
  refine OJ.nil (EJ.next ?_)
  refine CJ.seq ?_
  refine CJ.region ?_
  refine OJ.pures tU_ok 2 rfl ?_
  obtain ⟨t1, ht1, H⟩ := pbind H
  refine OJ.callF rfl rfl rfl rfl rfl hb91 rfl (slices_IndexFunc_impl_Spot_impl_Spot.c k _ Aa0 ca0 a0 (hS.rd' (i := 0) rfl) (hS.le' (i := 0) rfl) na1 fsa1 capa1 hb1 a1 (fun z0 r h w' hx => hf1 z0 r h w' (hS.chg.then hx (fun _ _ e => e.elim))) _ ht1) ?_
  rintro _ w1 ⟨rfl, hs⟩
  replace hS := hS.grow hs
  refine OJ.pures tU_ok 2 rfl ?_
  refine OJ.nil (EJ.next ?_)
  refine CJ.ret (?_)
  obtain rfl := Option.some.inj H
  exact EJ.fin rfl (.tmp rfl .nil) ⟨rfl, hS.ext⟩

def impl_cellCode_1.f (a1 : Pasture) (a0 : Spot) : Option Bool := (impl_Pasture_isCell.f a1 a0).bind fun t2 => some (!t2)
theorem impl_cellCode_1.c (w : World) (pa1 : Addr) (a1 : Pasture) (hp1 : CA w pa1 (cPasture.enc a1)) (a0 : Spot) (r : Bool) (H : impl_cellCode_1.f a1 a0 = some r) :
    CV Tryz.prog 71 [.agg (cSpot.enc a0).toArray, .pointer (some pa1)].toArray w fun v w' => v = .bool r ∧ Ext w w' := by
  have hS := ((St.init w no).paramP pa1 (cPasture.enc a1) hp1)
  unfold impl_cellCode_1.f at H
  refine CV.body Tryz.func71 rfl Tryz.ntmps71 rfl ?_
  refine CJ.seq ?_
  refine CJ.region ?_
  refine OJ.ef rfl rfl rfl (Ef.box hS rfl rfl (cSpot.enc a0) rfl) ?_
  rintro _ w1 ⟨b1, rfl, hS⟩
  refine OJ.pures tU_ok 1 rfl ?_
  refine OJ.nil (EJ.next ?_)
  refine CJ.seq ?_
  refine CJ.region ?_
  refine OJ.st rfl rfl rfl (SR.load rfl rfl (fun w' hx => ldE tU_ok tI_ok rfl rfl rfl (CA.ext (hS.ca (i := 0) rfl) hx) rfl)) ?_
  refine OJ.st rfl rfl rfl (SR.load rfl rfl (fun w' hx => ldE tU_ok tI_ok rfl rfl rfl (CA.ext (hS.cells (i := 0) rfl) hx) rfl)) ?_
  obtain ⟨t2, ht2, H⟩ := pbind H
  refine OJ.callF rfl rfl rfl rfl rfl hb58 rfl (impl_Pasture_isCell.c _ a1 a0 _ ht2) ?_
  rintro _ w1 ⟨rfl, hs⟩
  replace hS := hS.grow hs
  refine OJ.pures tU_ok 2 rfl ?_
  refine OJ.nil (EJ.next ?_)
  refine CJ.ret (?_)
  obtain rfl := Option.some.inj H
  exact EJ.fin rfl (.tmp rfl .nil) ⟨rfl, hS.ext⟩

def impl_unless.f (a0 : Bool) (a1 : Int) : Option Int := if a0 = true then (some 0) else (some a1)
theorem impl_unless.c (w : World) (a0 : Bool) (a1 : Int) (r : Int) (H : impl_unless.f a0 a1 = some r) :
    CV Tryz.prog 69 [.bool a0, .int .i64 a1].toArray w fun v w' => v = .int .i64 r ∧ Ext w w' := by
  have hS := (St.init w no)
  unfold impl_unless.f at H
  refine CV.body Tryz.func69 rfl Tryz.ntmps69 rfl ?_
  refine CJ.seq ?_
  refine CJ.region ?_
  refine OJ.pures tU_ok 1 rfl ?_
  refine OJ.nil (EJ.next ?_)
  refine CJ.seq ?_
  refine CJ.seq ?_
  refine CJ.region ?_
  refine OJ.pures tU_ok 1 rfl ?_
  refine OJ.nil (EJ.next ?_)
  refine CJ.cond rfl (fun hb => ?_) (fun hb => ?_)
  · replace H := pif_t hb H
    refine CJ.seq ?_
    refine CJ.region ?_
    refine OJ.pures tU_ok 1 rfl ?_
    refine OJ.nil (EJ.next ?_)
    refine CJ.ret (EJ.skR (?_))
    obtain rfl := Option.some.inj H
    exact EJ.fin rfl (.tmp rfl .nil) ⟨rfl, hS.ext⟩
  · replace H := pifb_f hb H
    refine CJ.skip (EJ.next ?_)
    refine CJ.seq ?_
    refine CJ.region ?_
    refine OJ.pures tU_ok 2 rfl ?_
    refine OJ.nil (EJ.next ?_)
    refine CJ.ret (?_)
    obtain rfl := Option.some.inj H
    exact EJ.fin rfl (.tmp rfl .nil) ⟨rfl, hS.ext⟩

def impl_cellCode.f (k : Nat) (a0 : Pasture) (a1 : List Spot) : Option Int := (impl_ValidPasture.f k a0).bind fun t2 => if (!t2) = true then (some 1) else ((slices_ContainsFunc_impl_Spot_impl_Spot.f k a1 (impl_cellCode_1.f a0)).bind fun t3 => (impl_unless.f (!t3) 2).bind fun t4 => some t4)
theorem impl_cellCode.c (k : Nat) (w : World) (a0 : Pasture) (Aa1 : Option Addr) (ca1 : Nat) (a1 : List Spot) (hr1 : Rd cSpot w Aa1 a1) (hc1 : a1.length ≤ ca1) (r : Int) (H : impl_cellCode.f k a0 a1 = some r) :
    CV Tryz.prog 39 [.agg (cPasture.enc a0).toArray, .slice Aa1 a1.length ca1].toArray w fun v w' => v = .int .i64 r ∧ Ext w w' := by
  have hS := ((St.init w no).param cSpot Aa1 ca1 a1 hr1 hc1)
  unfold impl_cellCode.f at H
  refine CV.body Tryz.func39 rfl Tryz.ntmps39 rfl ?_
  refine CJ.seq ?_
  refine CJ.region ?_
  refine OJ.ef rfl rfl rfl (Ef.box hS rfl rfl (cPasture.enc a0) rfl) ?_
  rintro _ w1 ⟨b1, rfl, hS⟩
  refine OJ.pures tU_ok 1 rfl ?_
  refine OJ.nil (EJ.next ?_)
  refine CJ.seq ?_
  refine CJ.seq ?_
  refine CJ.region ?_
  refine OJ.st rfl rfl rfl (SR.load rfl rfl (fun w' hx => ldE tU_ok tI_ok rfl rfl rfl (CA.ext (hS.cells (i := 0) rfl) hx) rfl)) ?_
  obtain ⟨t2, ht2, H⟩ := pbind H
  refine OJ.callF rfl rfl rfl rfl rfl hb29 rfl (impl_ValidPasture.c k _ a0 _ ht2) ?_
  rintro _ w1 ⟨rfl, hs⟩
  replace hS := hS.grow hs
  refine OJ.pures tU_ok 1 rfl ?_
  refine OJ.nil (EJ.next ?_)
  refine CJ.cond rfl (fun hb => ?_) (fun hb => ?_)
  · replace H := pif_t hb H
    refine CJ.seq ?_
    refine CJ.region ?_
    refine OJ.pures tU_ok 1 rfl ?_
    refine OJ.nil (EJ.next ?_)
    refine CJ.ret (EJ.skR (?_))
    obtain rfl := Option.some.inj H
    exact EJ.fin rfl (.tmp rfl .nil) ⟨rfl, hS.ext⟩
  · replace H := pifb_f hb H
    refine CJ.skip (EJ.next ?_)
    refine CJ.seq ?_
    refine CJ.region ?_
    refine OJ.pures tU_ok 2 rfl ?_
    obtain ⟨t3, ht3, H⟩ := pbind H
    refine OJ.callF rfl rfl rfl rfl rfl hb70 rfl (slices_ContainsFunc_impl_Spot_impl_Spot.c k _ Aa1 ca1 a1 (hS.rd' (i := 0) rfl) (hS.le' (i := 0) rfl) 71 #[] #[.pointer (some ⟨b1, 0, none⟩)] hb71 (impl_cellCode_1.f a0) (fun z0 r h w' hx => CV.cast (impl_cellCode_1.c w' ⟨b1, 0, none⟩ a0 (CA.ext (hS.cells (i := 0) rfl) hx)  z0 r h) (by simp)) _ ht3) ?_
    rintro _ w1 ⟨rfl, hs⟩
    replace hS := hS.grow hs
    refine OJ.pures tU_ok 1 rfl ?_
    obtain ⟨t4, ht4, H⟩ := pbind H
    refine OJ.callF rfl rfl rfl rfl rfl hb69 rfl (impl_unless.c _ (!t3) 2 _ ht4) ?_
    rintro _ w1 ⟨rfl, hs⟩
    replace hS := hS.grow hs
    refine OJ.pures tU_ok 1 rfl ?_
    refine OJ.nil (EJ.next ?_)
    refine CJ.ret (?_)
    obtain rfl := Option.some.inj H
    exact EJ.fin rfl (.tmp rfl .nil) ⟨rfl, hS.ext⟩

def impl_Pasture_grass.f (a0 : Pasture) (a1 : Spot) : Option Int := (getI a0.Grass.l a1.Y).bind fun t3 => (getI t3.l a1.X).bind fun t4 => some (IntKind.i64.wrap t4)
theorem impl_Pasture_grass.c (w : World) (a0 : Pasture) (a1 : Spot) (r : Int) (H : impl_Pasture_grass.f a0 a1 = some r) :
    CV Tryz.prog 72 [.agg (cPasture.enc a0).toArray, .agg (cSpot.enc a1).toArray].toArray w fun v w' => v = .int .i64 r ∧ Ext w w' := by
  have hS := (St.init w no)
  unfold impl_Pasture_grass.f at H
  refine CV.body Tryz.func72 rfl Tryz.ntmps72 rfl ?_
  refine CJ.seq ?_
  refine CJ.region ?_
  refine OJ.ef rfl rfl rfl (Ef.box hS rfl rfl (cPasture.enc a0) rfl) ?_
  rintro _ w1 ⟨b1, rfl, hS⟩
  refine OJ.ef rfl rfl rfl (Ef.box hS rfl rfl (cSpot.enc a1) rfl) ?_
  rintro _ w1 ⟨b2, rfl, hS⟩
  refine OJ.pures tU_ok 1 rfl ?_
  refine OJ.nil (EJ.next ?_)
  refine CJ.seq ?_
  refine CJ.draw [] [0, 1, 2, 3, 4, 5, 6, 7, 8, 9] mixed (by kernel_rfl) hS fun w1 hS => ?_
  refine DJ.st rfl rfl rfl rfl rfl (SR.fieldAddr tU_ok tI_ok rfl rfl rfl rfl rfl rfl) ?_
  refine DJ.st rfl rfl rfl rfl rfl (SR.load rfl rfl (fun w' hx => ld1 tU_ok rfl rfl (CA.ext (CA.sub (hS.cells (i := 1) rfl) 1) hx) rfl)) ?_
  refine DJ.st rfl rfl rfl rfl rfl (SR.fieldAddr tU_ok tI_ok rfl rfl rfl rfl rfl rfl) ?_
  refine DJ.st rfl rfl rfl rfl rfl (SR.load rfl rfl (fun w' hx => ld1 tU_ok rfl rfl (CA.ext (CA.sub (hS.cells (i := 1) rfl) 0) hx) rfl)) ?_
  refine DJ.st rfl rfl rfl rfl rfl (SR.fieldAddr tU_ok tI_ok rfl rfl rfl rfl rfl rfl) ?_
  obtain ⟨t3, ht3, H⟩ := pbind H
  refine DJ.st rfl rfl rfl rfl rfl (SR.idxA tU_ok tI_ok rfl rfl rfl rfl rfl (Arr.lt ht3)) ?_
  obtain ⟨t4, ht4, H⟩ := pbind H
  refine DJ.st rfl rfl rfl rfl rfl (SR.idxA tU_ok tI_ok rfl rfl rfl rfl rfl (Arr.lt ht4)) ?_
  refine DJ.st rfl rfl rfl rfl rfl (SR.load rfl rfl (fun w' hx => ld1 tU_ok rfl rfl (CA.ext (CA.idx (CA.idx (CA.fld (hS.cells (i := 0) rfl) (mid_part (fe_Pasture_2 _) (fl_Pasture_2 _) ((carr 10 (carr 10 (ci .i16))).len _))) ht3) ht4) hx) rfl)) ?_
  refine DJ.pures tU_ok 2 rfl ?_
  refine DJ.nil (EJ.next ?_)
  refine CJ.ret (?_)
  obtain rfl := Option.some.inj H
  exact EJ.fin rfl (.tmp rfl .nil) ⟨rfl, hS.ext⟩

def impl_Pasture_sumOf.l1 (a0 : Pasture) (a1 : List Spot) : Nat → Int → Int → Option Int
  | 0, _, _ => none
  | k + 1, y3, y4 => if y4 < (a1.length : Int) then ((getI a1 y4).bind fun t5 => (impl_Pasture_grass.f a0 t5).bind fun t7 => impl_Pasture_sumOf.l1 a0 a1 k (IntKind.i64.wrap (y3 + t7)) (IntKind.i64.wrap (y4 + 1))) else (some y3)
def impl_Pasture_sumOf.f (k : Nat) (a0 : Pasture) (a1 : List Spot) : Option Int := (impl_Pasture_sumOf.l1 a0 a1 k 0 0).bind fun y2 => some y2
theorem impl_Pasture_sumOf.c (k : Nat) (w : World) (a0 : Pasture) (Aa1 : Option Addr) (ca1 : Nat) (a1 : List Spot) (hr1 : Rd cSpot w Aa1 a1) (hc1 : a1.length ≤ ca1) (r : Int) (H : impl_Pasture_sumOf.f k a0 a1 = some r) :
    CV Tryz.prog 40 [.agg (cPasture.enc a0).toArray, .slice Aa1 a1.length ca1].toArray w fun v w' => v = .int .i64 r ∧ Ext w w' := by
  have hS := ((St.init w no).param cSpot Aa1 ca1 a1 hr1 hc1)
  unfold impl_Pasture_sumOf.f at H
  refine CV.body Tryz.func40 rfl Tryz.ntmps40 rfl ?_
  refine CJ.seq ?_
  refine CJ.region ?_
  refine OJ.ef rfl rfl rfl (Ef.box hS rfl rfl (cPasture.enc a0) rfl) ?_
  rintro _ w1 ⟨b1, rfl, hS⟩
  refine OJ.pures tU_ok 1 rfl ?_
  refine OJ.nil (EJ.next ?_)
  refine CJ.seq ?_
  refine CJ.region ?_
  refine OJ.pures tU_ok 1 rfl ?_
  refine OJ.nil (EJ.next ?_)
  refine CJ.seq ?_
  refine CJ.seq ?_
  refine CJ.region ?_
  refine OJ.pures tU_ok 3 rfl ?_
  refine OJ.nil (EJ.next ?_)
  obtain ⟨j333, H, K333⟩ := pbind H
  refine CJ.cut1 (fun F w1 => ∃ (y2 : Int) , (some y2 : Option Int) = some j333 ∧ F = [(5, .int .i64 y2)] ∧ St w no w1 [] [roC cSpot Aa1 ca1 a1]) ?_ ?_
  · skip
    refine CJ.block ?_
    refine CJ.loop (fun k F w1 => ∃ (y3 : Int) (y4 : Int), F = [(2, .pointer (some ⟨b1, 0, none⟩)), (5, .int .i64 y3), (8, .slice Aa1 a1.length ca1), (9, .int .i64 (a1.length : Int)), (10, .int .i64 y4)] ∧ St w no w1 [box b1 (cPasture.enc a0) 31] [roC cSpot Aa1 ca1 a1] ∧ impl_Pasture_sumOf.l1 a0 a1 k y3 y4 = some j333) k (F' := [(2, .pointer (some ⟨b1, 0, none⟩)), (5, .int .i64 0), (8, .slice Aa1 a1.length ca1), (9, .int .i64 (a1.length : Int)), (10, .int .i64 0)]) ⟨rfl, rfl, rfl, rfl, rfl, trivial⟩ ⟨0, 0, rfl, hS.pick [0] [0] rfl, H⟩ ?_
    rintro k F w1 ⟨y3, y4, rfl, hS, H⟩
    cases k with
    | zero => rw [impl_Pasture_sumOf.l1] at H; cases H
    | succ k =>
      rw [impl_Pasture_sumOf.l1] at H
      refine CJ.seq ?_
      refine CJ.region ?_
      refine OJ.pures tU_ok 1 rfl ?_
      refine OJ.nil (EJ.next ?_)
      refine CJ.seq ?_
      refine CJ.cond rfl (fun hb => ?_) (fun hb => ?_)
      · replace H := pif_t (of_decide_eq_true hb) H
        refine CJ.skip (EJ.next ?_)
        refine CJ.seq ?_
        refine CJ.block ?_
        refine CJ.seq ?_
        refine CJ.region ?_
        obtain ⟨t5, ht5, H⟩ := pbind H
        obtain ⟨ad5, e5⟩ := (hS.rd' (i := 0) rfl).some' ht5
        refine OJ.st rfl rfl rfl (SR.idxS tU_ok tI_ok rfl rfl rfl rfl e5 rfl (getI_some ht5).1) ?_
        refine OJ.st rfl rfl rfl (SR.load rfl rfl (fun w' hx => ldE tU_ok tI_ok rfl rfl rfl (CA.ext ((hS.rd' (i := 0) rfl).at_ e5 ht5) hx) rfl)) ?_
        refine OJ.ef rfl rfl rfl (Ef.alloc hS tI_ok rfl rfl (cSpot.enc (⟨0, 0⟩ : Spot)) rfl) ?_
        rintro _ w1 ⟨b6, rfl, hS⟩
        refine OJ.es rfl rfl (Es.store tI_ok hS (i := 1) rfl rfl rfl rfl rfl rfl (vs := cSpot.enc t5) rfl (cSpot.len _) (cSpot.one _) (Nat.le_of_ble_eq_true rfl) (cSpot.enc t5) rfl) ?_
        intro w1 hS
        refine OJ.nil (EJ.next ?_)
        refine CJ.region ?_
        refine OJ.pures tU_ok 1 rfl ?_
        refine OJ.st rfl rfl rfl (SR.load rfl rfl (fun w' hx => ldE tU_ok tI_ok rfl rfl rfl (CA.ext (hS.cells (i := 0) rfl) hx) rfl)) ?_
        refine OJ.st rfl rfl rfl (SR.load rfl rfl (fun w' hx => ldE tU_ok tI_ok rfl rfl rfl (CA.ext (hS.cells (i := 1) rfl) hx) rfl)) ?_
        obtain ⟨t7, ht7, H⟩ := pbind H
        refine OJ.callF rfl rfl rfl rfl rfl hb72 rfl (impl_Pasture_grass.c _ a0 t5 _ ht7) ?_
        rintro _ w1 ⟨rfl, hs⟩
        replace hS := hS.grow hs
        refine OJ.pures tU_ok 2 rfl ?_
        refine OJ.nil (EJ.blk (EJ.next ?_))
        refine CJ.region ?_
        refine OJ.pures tU_ok 2 rfl ?_
        refine OJ.nil ?_
        exact EJ.round k (F' := [(2, .pointer (some ⟨b1, 0, none⟩)), (5, .int .i64 (IntKind.i64.wrap (y3 + t7))), (8, .slice Aa1 a1.length ca1), (9, .int .i64 (a1.length : Int)), (10, .int .i64 (IntKind.i64.wrap (y4 + 1)))]) ⟨rfl, rfl, rfl, rfl, rfl, trivial⟩ (Nat.lt_succ_self _) ⟨(IntKind.i64.wrap (y3 + t7)), (IntKind.i64.wrap (y4 + 1)), rfl, hS.pick [0] [0] rfl, H⟩
      · replace H := pif_f (of_decide_eq_false hb) H
        refine CJ.exit (EJ.skE (EJ.skE (EJ.hit (?_))))
        exact EJ.meet (F' := [(5, .int .i64 y3)]) ⟨rfl, trivial⟩ ⟨y3, H, rfl, hS.pick [] [0] rfl⟩
  · rintro F w1 ⟨y2, he, rfl, hS⟩
    obtain rfl := Option.some.inj he
    have H := K333
    refine EJ.next ?_
    refine CJ.seq ?_
    refine CJ.region ?_
    refine OJ.pures tU_ok 2 rfl ?_
    refine OJ.nil (EJ.next ?_)
    refine CJ.ret (?_)
    obtain rfl := Option.some.inj H
    exact EJ.fin rfl (.tmp rfl .nil) ⟨rfl, hS.ext⟩

def impl_GrassOf.f (k : Nat) (a0 : Pasture) (a1 : List Spot) : Option (Int × Int) := (impl_cellCode.f k a0 a1).bind fun t2 => if t2 ≠ 0 then (some (0, t2)) else ((impl_Pasture_sumOf.f k a0 a1).bind fun t3 => some (t3, 0))
theorem impl_GrassOf.c (k : Nat) (w : World) (a0 : Pasture) (Aa1 : Option Addr) (ca1 : Nat) (a1 : List Spot) (hr1 : Rd cSpot w Aa1 a1) (hc1 : a1.length ≤ ca1) (r : Int × Int) (H : impl_GrassOf.f k a0 a1 = some r) :
    CV Tryz.prog 13 [.agg (cPasture.enc a0).toArray, .slice Aa1 a1.length ca1].toArray w fun v w' => v = .tuple #[.int .i64 r.1, .int .i64 r.2] ∧ Ext w w' := by
  have hS := ((St.init w no).param cSpot Aa1 ca1 a1 hr1 hc1)
  unfold impl_GrassOf.f at H
  refine CV.body Tryz.func13 rfl Tryz.ntmps13 rfl ?_
  refine CJ.seq ?_
  refine CJ.region ?_
  refine OJ.ef rfl rfl rfl (Ef.box hS rfl rfl (cPasture.enc a0) rfl) ?_
  rintro _ w1 ⟨b1, rfl, hS⟩
  refine OJ.pures tU_ok 2 rfl ?_
  refine OJ.nil (EJ.next ?_)
  refine CJ.seq ?_
  refine CJ.seq ?_
  refine CJ.region ?_
  refine OJ.st rfl rfl rfl (SR.load rfl rfl (fun w' hx => ldE tU_ok tI_ok rfl rfl rfl (CA.ext (hS.cells (i := 0) rfl) hx) rfl)) ?_
  refine OJ.pures tU_ok 1 rfl ?_
  obtain ⟨t2, ht2, H⟩ := pbind H
  refine OJ.callF rfl rfl rfl rfl rfl hb39 rfl (impl_cellCode.c k _ a0 Aa1 ca1 a1 (hS.rd' (i := 0) rfl) (hS.le' (i := 0) rfl) _ ht2) ?_
  rintro _ w1 ⟨rfl, hs⟩
  replace hS := hS.grow hs
  refine OJ.pures tU_ok 1 rfl ?_
  refine OJ.nil (EJ.next ?_)
  refine CJ.seq ?_
  refine CJ.region ?_
  refine OJ.pures tU_ok 2 rfl ?_
  refine OJ.nil (EJ.next ?_)
  refine CJ.cond rfl (fun hb => ?_) (fun hb => ?_)
  · replace H := pif_t (of_decide_eq_true hb) H
    refine CJ.seq ?_
    refine CJ.region ?_
    refine OJ.pures tU_ok 3 rfl ?_
    refine OJ.nil (EJ.next ?_)
    refine CJ.ret (EJ.skR (?_))
    obtain rfl := Option.some.inj H
    exact EJ.fin rfl (.tmp rfl (.tmp rfl .nil)) ⟨rfl, hS.ext⟩
  · replace H := pif_f (of_decide_eq_false hb) H
    refine CJ.skip (EJ.next ?_)
    refine CJ.seq ?_
    refine CJ.region ?_
    refine OJ.st rfl rfl rfl (SR.load rfl rfl (fun w' hx => ldE tU_ok tI_ok rfl rfl rfl (CA.ext (hS.cells (i := 0) rfl) hx) rfl)) ?_
    refine OJ.pures tU_ok 1 rfl ?_
    obtain ⟨t3, ht3, H⟩ := pbind H
    refine OJ.callF rfl rfl rfl rfl rfl hb40 rfl (impl_Pasture_sumOf.c k _ a0 Aa1 ca1 a1 (hS.rd' (i := 0) rfl) (hS.le' (i := 0) rfl) _ ht3) ?_
    rintro _ w1 ⟨rfl, hs⟩
    replace hS := hS.grow hs
    refine OJ.pures tU_ok 2 rfl ?_
    refine OJ.nil (EJ.next ?_)
    refine CJ.ret (?_)
    obtain rfl := Option.some.inj H
    exact EJ.fin rfl (.tmp rfl (.tmp rfl .nil)) ⟨rfl, hS.ext⟩

def slices_SortFunc_impl_Spot_impl_Spot.f (a0 : List Spot) (a1 : Spot → Spot → Option Int) : Option (List Spot) := (chk (a0.length ≤ 4294967296 ∧ a0.all okSpot = true)).bind fun _ => some (a0.mergeSort leSpot)
theorem slices_SortFunc_impl_Spot_impl_Spot.c (w : World) (Aa0 : Option Addr) (ca0 : Nat) (a0 : List Spot) (na1 : Nat) (fsa1 capa1 : Array Value) (hb1 : hasBody Tryz.prog na1) (a1 : Spot → Spot → Option Int) (hf1 : ∀ (z0 : Spot) (z1 : Spot) (r : Int), a1 z0 z1 = some r → ∀ w', Chg (fpU [rowC cSpot Aa0 ca0 46 a0]) w w' → CV Tryz.prog na1 (fsa1 ++ [.agg (cSpot.enc z0).toArray, .agg (cSpot.enc z1).toArray].toArray ++ capa1) w' fun v w'' => v = .int .i64 r ∧ Ext w' w'') (hin : St w (fpU [rowC cSpot Aa0 ca0 46 a0]) w [rowC cSpot Aa0 ca0 46 a0] []) (r : List Spot) (H : slices_SortFunc_impl_Spot_impl_Spot.f a0 a1 = some r) (hq : na1 = 86 ∧ fsa1 = #[] ∧ capa1 = #[] := by exact ⟨rfl, rfl, rfl⟩) :
    CV Tryz.prog 92 [.slice Aa0 a0.length ca0, .func (.func na1) fsa1 capa1].toArray w fun v w' => v = .tuple #[] ∧ St w (fpU [rowC cSpot Aa0 ca0 46 a0]) w' [rowC cSpot Aa0 ca0 46 r] [] ∧ r.length = a0.length := by
  unfold slices_SortFunc_impl_Spot_impl_Spot.f at H
  obtain ⟨u, hu, H⟩ := pbind H
  obtain rfl := Option.some.inj H
  obtain ⟨rfl, rfl, rfl⟩ := hq
  obtain ⟨h1, h2⟩ := chk_some hu
  exact sortf_cv (V := fun x => okSpot x = true) leSpot (fun x hx => List.all_eq_true.1 h2 x hx) hin sortSpot_calls (fun p cap w => AnyF.slices_SortFunc_none laySortSpot p cap _ w) h1

def impl_compareSpots.f (a0 : Spot) (a1 : Spot) : Option Int := if a0.Y ≠ a1.Y then (some (IntKind.i64.wrap ((IntKind.i64.wrap a0.Y) - (IntKind.i64.wrap a1.Y)))) else (some (IntKind.i64.wrap ((IntKind.i64.wrap a0.X) - (IntKind.i64.wrap a1.X))))
theorem impl_compareSpots.c (w : World) (a0 : Spot) (a1 : Spot) (r : Int) (H : impl_compareSpots.f a0 a1 = some r) :
    CV Tryz.prog 86 [.agg (cSpot.enc a0).toArray, .agg (cSpot.enc a1).toArray].toArray w fun v w' => v = .int .i64 r ∧ Ext w w' := by
  have hS := (St.init w no)
  unfold impl_compareSpots.f at H
  refine CV.body Tryz.func86 rfl Tryz.ntmps86 rfl ?_
  refine CJ.seq ?_
  refine CJ.region ?_
  refine OJ.ef rfl rfl rfl (Ef.box hS rfl rfl (cSpot.enc a0) rfl) ?_
  rintro _ w1 ⟨b1, rfl, hS⟩
  refine OJ.ef rfl rfl rfl (Ef.box hS rfl rfl (cSpot.enc a1) rfl) ?_
  rintro _ w1 ⟨b2, rfl, hS⟩
  refine OJ.pures tU_ok 1 rfl ?_
  refine OJ.nil (EJ.next ?_)
  refine CJ.seq ?_
  refine CJ.seq ?_
  refine CJ.region ?_
  refine OJ.st rfl rfl rfl (SR.fieldAddr tU_ok tI_ok rfl rfl rfl rfl rfl rfl) ?_
  refine OJ.st rfl rfl rfl (SR.load rfl rfl (fun w' hx => ld1 tU_ok rfl rfl (CA.ext (CA.sub (hS.cells (i := 0) rfl) 1) hx) rfl)) ?_
  refine OJ.st rfl rfl rfl (SR.fieldAddr tU_ok tI_ok rfl rfl rfl rfl rfl rfl) ?_
  refine OJ.st rfl rfl rfl (SR.load rfl rfl (fun w' hx => ld1 tU_ok rfl rfl (CA.ext (CA.sub (hS.cells (i := 1) rfl) 1) hx) rfl)) ?_
  refine OJ.pures tU_ok 1 rfl ?_
  refine OJ.nil (EJ.next ?_)
  refine CJ.cond rfl (fun hb => ?_) (fun hb => ?_)
  · replace H := pif_t (of_decide_eq_true hb) H
    refine CJ.seq ?_
    refine CJ.region ?_
    refine OJ.st rfl rfl rfl (SR.fieldAddr tU_ok tI_ok rfl rfl rfl rfl rfl rfl) ?_
    refine OJ.st rfl rfl rfl (SR.load rfl rfl (fun w' hx => ld1 tU_ok rfl rfl (CA.ext (CA.sub (hS.cells (i := 0) rfl) 1) hx) rfl)) ?_
    refine OJ.pures tU_ok 1 rfl ?_
    refine OJ.st rfl rfl rfl (SR.fieldAddr tU_ok tI_ok rfl rfl rfl rfl rfl rfl) ?_
    refine OJ.st rfl rfl rfl (SR.load rfl rfl (fun w' hx => ld1 tU_ok rfl rfl (CA.ext (CA.sub (hS.cells (i := 1) rfl) 1) hx) rfl)) ?_
    refine OJ.pures tU_ok 3 rfl ?_
    refine OJ.nil (EJ.next ?_)
    refine CJ.ret (EJ.skR (?_))
    obtain rfl := Option.some.inj H
    exact EJ.fin rfl (.tmp rfl .nil) ⟨rfl, hS.ext⟩
  · replace H := pif_f (of_decide_eq_false hb) H
    refine CJ.skip (EJ.next ?_)
    refine CJ.seq ?_
    refine CJ.region ?_
    refine OJ.st rfl rfl rfl (SR.fieldAddr tU_ok tI_ok rfl rfl rfl rfl rfl rfl) ?_
    refine OJ.st rfl rfl rfl (SR.load rfl rfl (fun w' hx => ld1 tU_ok rfl rfl (CA.ext (CA.sub (hS.cells (i := 0) rfl) 0) hx) rfl)) ?_
    refine OJ.pures tU_ok 1 rfl ?_
    refine OJ.st rfl rfl rfl (SR.fieldAddr tU_ok tI_ok rfl rfl rfl rfl rfl rfl) ?_
    refine OJ.st rfl rfl rfl (SR.load rfl rfl (fun w' hx => ld1 tU_ok rfl rfl (CA.ext (CA.sub (hS.cells (i := 1) rfl) 0) hx) rfl)) ?_
    refine OJ.pures tU_ok 3 rfl ?_
    refine OJ.nil (EJ.next ?_)
    refine CJ.ret (?_)
    obtain rfl := Option.some.inj H
    exact EJ.fin rfl (.tmp rfl .nil) ⟨rfl, hS.ext⟩

def slices_Compact_impl_Spot_impl_Spot.l1 (a0 : List Spot) : Nat → Int → Option Unit
  | 0, _ => none
  | k + 1, y1 => if y1 < (a0.length : Int) then (((getI a0 y1).bind fun t2 => (getI a0 (IntKind.i64.wrap (y1 - 1))).bind fun t3 => if t2 = t3 then none else (some ())).bind fun _ => slices_Compact_impl_Spot_impl_Spot.l1 a0 k (IntKind.i64.wrap (y1 + 1))) else (some ())
def slices_Compact_impl_Spot_impl_Spot.f (k : Nat) (a0 : List Spot) : Option (List Spot) := if (a0.length : Int) < 2 then (some a0) else ((slices_Compact_impl_Spot_impl_Spot.l1 a0 k 1).bind fun _ => some a0)
theorem slices_Compact_impl_Spot_impl_Spot.c (k : Nat) (w : World) (Aa0 : Option Addr) (ca0 : Nat) (a0 : List Spot) (hin : St w (fpU [rowC cSpot Aa0 ca0 46 a0]) w [rowC cSpot Aa0 ca0 46 a0] []) (r : List Spot) (H : slices_Compact_impl_Spot_impl_Spot.f k a0 = some r) :
    CV Tryz.prog 93 [.slice Aa0 a0.length ca0].toArray w fun v w' => ∃ (A0 : Option Addr) (c0 : Nat), v = .slice A0 r.length c0 ∧ St w (fpU [rowC cSpot Aa0 ca0 46 a0]) w' [rowC cSpot A0 c0 46 r] [] := by
  have hS := hin
  unfold slices_Compact_impl_Spot_impl_Spot.f at H
  refine CV.body Tryz.func93 rfl Tryz.ntmps93 rfl ?_
  refine CJ.seq ?_
  refine CJ.region ?_
  refine OJ.pures tU_ok 1 rfl ?_
  refine OJ.nil (EJ.next ?_)
  refine CJ.seq ?_
  refine CJ.seq ?_
  refine CJ.region ?_
  refine OJ.pures tU_ok 3 rfl ?_
  refine OJ.nil (EJ.next ?_)
  refine CJ.cond rfl (fun hb => ?_) (fun hb => ?_)
  · replace H := pif_t (of_decide_eq_true hb) H
    refine CJ.seq ?_
    refine CJ.region ?_
    refine OJ.pures tU_ok 2 rfl ?_
    refine OJ.nil (EJ.next ?_)
    refine CJ.ret (EJ.skR (?_))
    obtain rfl := Option.some.inj H
    exact EJ.fin rfl (.tmp rfl .nil) ⟨Aa0, ca0, rfl, hS.pick [0] [] rfl⟩
  · replace H := pif_f (of_decide_eq_false hb) H
    refine CJ.skip (EJ.next ?_)
    refine CJ.seq ?_
    refine CJ.seq ?_
    refine CJ.region ?_
    refine OJ.pures tU_ok 1 rfl ?_
    refine OJ.nil (EJ.next ?_)
    obtain ⟨j334, H, K334⟩ := pbind H
    refine CJ.cut1 (fun F w1 => (some () : Option Unit) = some j334 ∧ F = [(0, .slice Aa0 a0.length ca0)] ∧ St w (fpU [rowC cSpot Aa0 ca0 46 a0]) w1 [rowC cSpot Aa0 ca0 46 a0] []) ?_ ?_
    · skip
      refine CJ.block ?_
      refine CJ.loop (fun k F w1 => ∃ (y1 : Int), F = [(0, .slice Aa0 a0.length ca0), (3, .int .i64 y1)] ∧ St w (fpU [rowC cSpot Aa0 ca0 46 a0]) w1 [rowC cSpot Aa0 ca0 46 a0] [] ∧ slices_Compact_impl_Spot_impl_Spot.l1 a0 k y1 = some j334) k (F' := [(0, .slice Aa0 a0.length ca0), (3, .int .i64 1)]) ⟨rfl, rfl, trivial⟩ ⟨1, rfl, hS.pick [0] [] rfl, H⟩ ?_
      rintro k F w1 ⟨y1, rfl, hS, H⟩
      cases k with
      | zero => rw [slices_Compact_impl_Spot_impl_Spot.l1] at H; cases H
      | succ k =>
        rw [slices_Compact_impl_Spot_impl_Spot.l1] at H
        refine CJ.seq ?_
        refine CJ.seq ?_
        refine CJ.region ?_
        refine OJ.pures tU_ok 4 rfl ?_
        refine OJ.nil (EJ.next ?_)
        refine CJ.cond rfl (fun hb => ?_) (fun hb => ?_)
        · replace H := pif_t (of_decide_eq_true hb) H
          refine CJ.skip (EJ.next ?_)
          obtain ⟨j341, H, K341⟩ := pbind H
          refine CJ.cut (fun F w1 => (some () : Option Unit) = some j341 ∧ F = [(0, .slice Aa0 a0.length ca0), (3, .int .i64 y1)] ∧ St w (fpU [rowC cSpot Aa0 ca0 46 a0]) w1 [rowC cSpot Aa0 ca0 46 a0] []) ?_ ?_
          · skip
            refine CJ.block ?_
            refine CJ.seq ?_
            refine CJ.draw [] [0, 1, 2, 3, 4, 5, 6, 7, 8, 9] mixed (by kernel_rfl) hS fun w1 hS => ?_
            refine DJ.pures tU_ok 2 rfl ?_
            obtain ⟨t2, ht2, H⟩ := pbind H
            obtain ⟨ad2, e2⟩ := (hS.rd (i := 0) rfl).some' ht2
            refine DJ.st rfl rfl rfl rfl rfl (SR.idxS tU_ok tI_ok rfl rfl rfl rfl e2 rfl (getI_some ht2).1) ?_
            refine DJ.st rfl rfl rfl rfl rfl (SR.load rfl rfl (fun w' hx => ldE tU_ok tI_ok rfl rfl rfl (CA.ext ((hS.rd (i := 0) rfl).at_ e2 ht2) hx) rfl)) ?_
            refine DJ.pures tU_ok 3 rfl ?_
            obtain ⟨t3, ht3, H⟩ := pbind H
            obtain ⟨ad3, e3⟩ := (hS.rd (i := 0) rfl).some' ht3
            refine DJ.st rfl rfl rfl rfl rfl (SR.idxS tU_ok tI_ok rfl rfl rfl rfl e3 rfl (getI_some ht3).1) ?_
            refine DJ.st rfl rfl rfl rfl rfl (SR.load rfl rfl (fun w' hx => ldE tU_ok tI_ok rfl rfl rfl (CA.ext ((hS.rd (i := 0) rfl).at_ e3 ht3) hx) rfl)) ?_
            refine DJ.st rfl rfl rfl rfl rfl (SR.eqS eqT46 eqG46 rfl rfl rfl (rfl : _ = (cSpot.enc t2).toArray) (rfl : _ = (cSpot.enc t3).toArray)) ?_
            refine DJ.nil (EJ.next ?_)
            refine CJ.cond rfl (fun hb => ?_) (fun hb => ?_)
            · replace H := pif_t (of_decide_eq_true hb) H
              cases H
            · replace H := pif_f (of_decide_eq_false hb) H
              refine CJ.skip (EJ.blk (?_))
              exact EJ.meet (F' := [(0, .slice Aa0 a0.length ca0), (3, .int .i64 y1)]) ⟨rfl, rfl, trivial⟩ ⟨H, rfl, hS.pick [0] [] rfl⟩
          · rintro F w1 ⟨he, rfl, hS⟩
            obtain rfl := Option.some.inj he
            have H := K341
            refine CJ.region ?_
            refine OJ.pures tU_ok 3 rfl ?_
            refine OJ.nil ?_
            exact EJ.round k (F' := [(0, .slice Aa0 a0.length ca0), (3, .int .i64 (IntKind.i64.wrap (y1 + 1)))]) ⟨rfl, rfl, trivial⟩ (Nat.lt_succ_self _) ⟨(IntKind.i64.wrap (y1 + 1)), rfl, hS.pick [0] [] rfl, H⟩
        · replace H := pif_f (of_decide_eq_false hb) H
          refine CJ.exit (EJ.skE (EJ.skE (EJ.hit (?_))))
          exact EJ.meet (F' := [(0, .slice Aa0 a0.length ca0)]) ⟨rfl, trivial⟩ ⟨H, rfl, hS.pick [0] [] rfl⟩
    · rintro F w1 ⟨he, rfl, hS⟩
      obtain rfl := Option.some.inj he
      have H := K334
      refine EJ.next ?_
      refine CJ.seq ?_
      refine CJ.region ?_
      refine OJ.pures tU_ok 2 rfl ?_
      refine OJ.nil (EJ.next ?_)
      refine CJ.ret (?_)
      obtain rfl := Option.some.inj H
      exact EJ.fin rfl (.tmp rfl .nil) ⟨Aa0, ca0, rfl, hS.pick [0] [] rfl⟩

def impl_ordered.f (k : Nat) (a0 : List Spot) : Option (List Spot) := (slices_Clone_impl_Spot_impl_Spot.f a0).bind fun t1 => (slices_SortFunc_impl_Spot_impl_Spot.f t1 impl_compareSpots.f).bind fun t4 => (slices_Compact_impl_Spot_impl_Spot.f k t4).bind fun t5 => some t5
theorem impl_ordered.c (k : Nat) (w : World) (Aa0 : Option Addr) (ca0 : Nat) (a0 : List Spot) (hr0 : Rd cSpot w Aa0 a0) (hc0 : a0.length ≤ ca0) (r : List Spot) (H : impl_ordered.f k a0 = some r) :
    CV Tryz.prog 73 [.slice Aa0 a0.length ca0].toArray w fun v w' => ∃ (A0 : Option Addr) (c0 : Nat), v = .slice A0 r.length c0 ∧ St w no w' [rowC cSpot A0 c0 46 r] [] := by
  have hS := ((St.init w no).param cSpot Aa0 ca0 a0 hr0 hc0)
  unfold impl_ordered.f at H
  refine CV.body Tryz.func73 rfl Tryz.ntmps73 rfl ?_
  refine CJ.seq ?_
  refine CJ.region ?_
  refine OJ.pures tU_ok 1 rfl ?_
  refine OJ.nil (EJ.next ?_)
  refine CJ.seq ?_
  refine CJ.region ?_
  refine OJ.pures tU_ok 1 rfl ?_
  obtain ⟨t1, ht1, H⟩ := pbind H
  refine OJ.callF rfl rfl rfl rfl rfl hb81 rfl (slices_Clone_impl_Spot_impl_Spot.c _ Aa0 ca0 a0 (hS.rd' (i := 0) rfl) (hS.le' (i := 0) rfl) _ ht1) ?_
  rintro _ w1 ⟨A2, c3, rfl, hs⟩
  replace hS := hS.addN hs
  refine OJ.pures tU_ok 1 rfl ?_
  refine OJ.nil (EJ.next ?_)
  refine CJ.seq ?_
  refine CJ.region ?_
  refine OJ.pures tU_ok 1 rfl ?_
  obtain ⟨t4, ht4, H⟩ := pbind H
  refine OJ.callF rfl rfl rfl rfl rfl hb92 rfl (slices_SortFunc_impl_Spot_impl_Spot.c _ A2 c3 t1 86 #[] #[] hb86 impl_compareSpots.f (fun z0 z1 r h w' hx => CV.cast (impl_compareSpots.c w'   z0 z1 r h) (by simp)) ((hS.subs [0] [] [] rfl).pick [0] [] rfl) _ ht4) ?_
  rintro _ w1 ⟨rfl, hs, hlc0⟩
  replace hS := hS.back [0] rfl rfl [rowC cSpot A2 c3 46 t4] [] hs ⟨fun _ => Iff.rfl, trivial⟩
  refine OJ.as (t := 5) rfl (show _ = (.slice A2 t4.length c3 : Value) by simp only [hlc0]) ?_
  refine OJ.as (t := 3) rfl (show _ = (.slice A2 t4.length c3 : Value) by simp only [hlc0]) ?_
  refine OJ.as (t := 6) rfl (show _ = (.slice A2 t4.length c3 : Value) by simp only [hlc0]) ?_
  refine OJ.nil (EJ.next ?_)
  refine CJ.seq ?_
  refine CJ.region ?_
  refine OJ.pures tU_ok 1 rfl ?_
  obtain ⟨t5, ht5, H⟩ := pbind H
  refine OJ.callF rfl rfl rfl rfl rfl hb93 rfl (slices_Compact_impl_Spot_impl_Spot.c k _ A2 c3 t4 ((hS.subs [0] [] [] rfl).pick [0] [] rfl) _ ht5) ?_
  rintro _ w1 ⟨A6, c7, rfl, hs⟩
  replace hS := hS.back' [] [0] rfl rfl [] [rowC cSpot A6 c7 46 t5] [] hs trivial (fun _ h => by cases h) (.inr rfl)
  refine OJ.pures tU_ok 1 rfl ?_
  refine OJ.nil (EJ.next ?_)
  refine CJ.ret (?_)
  obtain rfl := Option.some.inj H
  exact EJ.fin rfl (.tmp rfl .nil) ⟨A6, c7, rfl, hS.pick [1] [] rfl⟩

def slices_Index_impl_Spot_impl_Spot.l1 (a0 : List Spot) (a1 : Spot) : Nat → Int → Option (Int ⊕ Unit)
  | 0, _ => none
  | k + 1, y2 => if y2 < (a0.length : Int) then ((getI a0 y2).bind fun t3 => if a1 = t3 then (some (Sum.inl y2)) else (slices_Index_impl_Spot_impl_Spot.l1 a0 a1 k (IntKind.i64.wrap (y2 + 1)))) else (some (Sum.inr ()))
def slices_Index_impl_Spot_impl_Spot.f (k : Nat) (a0 : List Spot) (a1 : Spot) : Option Int := (slices_Index_impl_Spot_impl_Spot.l1 a0 a1 k 0).bind fun s348 => match s348 with | .inl r => some r | .inr _ => some (-1)
theorem slices_Index_impl_Spot_impl_Spot.c (k : Nat) (w : World) (Aa0 : Option Addr) (ca0 : Nat) (a0 : List Spot) (hr0 : Rd cSpot w Aa0 a0) (hc0 : a0.length ≤ ca0) (a1 : Spot) (r : Int) (H : slices_Index_impl_Spot_impl_Spot.f k a0 a1 = some r) :
    CV Tryz.prog 94 [.slice Aa0 a0.length ca0, .agg (cSpot.enc a1).toArray].toArray w fun v w' => v = .int .i64 r ∧ Ext w w' := by
  have hS := ((St.init w no).param cSpot Aa0 ca0 a0 hr0 hc0)
  unfold slices_Index_impl_Spot_impl_Spot.f at H
  refine CV.body Tryz.func94 rfl Tryz.ntmps94 rfl ?_
  refine CJ.seq ?_
  refine CJ.region ?_
  refine OJ.ef rfl rfl rfl (Ef.box hS rfl rfl (cSpot.enc a1) rfl) ?_
  rintro _ w1 ⟨b1, rfl, hS⟩
  refine OJ.pures tU_ok 1 rfl ?_
  refine OJ.nil (EJ.next ?_)
  refine CJ.seq ?_
  refine CJ.seq ?_
  refine CJ.region ?_
  refine OJ.pures tU_ok 3 rfl ?_
  refine OJ.nil (EJ.next ?_)
  obtain ⟨j348, H, K348⟩ := pbind H
  refine CJ.cut1 (fun F w1 => (some (Sum.inr ()) : Option (Int ⊕ Unit)) = some j348 ∧ F = [] ∧ St w no w1 [] [roC cSpot Aa0 ca0 a0]) ?_ ?_
  · skip
    refine CJ.block ?_
    refine CJ.loop (fun k F w1 => ∃ (y2 : Int), F = [(0, .slice Aa0 a0.length ca0), (3, .pointer (some ⟨b1, 0, none⟩)), (7, .int .i64 (a0.length : Int)), (8, .int .i64 y2)] ∧ St w no w1 [box b1 (cSpot.enc a1) 46] [roC cSpot Aa0 ca0 a0] ∧ slices_Index_impl_Spot_impl_Spot.l1 a0 a1 k y2 = some j348) k (F' := [(0, .slice Aa0 a0.length ca0), (3, .pointer (some ⟨b1, 0, none⟩)), (7, .int .i64 (a0.length : Int)), (8, .int .i64 0)]) ⟨rfl, rfl, rfl, rfl, trivial⟩ ⟨0, rfl, hS.pick [0] [0] rfl, H⟩ ?_
    rintro k F w1 ⟨y2, rfl, hS, H⟩
    cases k with
    | zero => rw [slices_Index_impl_Spot_impl_Spot.l1] at H; cases H
    | succ k =>
      rw [slices_Index_impl_Spot_impl_Spot.l1] at H
      refine CJ.seq ?_
      refine CJ.region ?_
      refine OJ.pures tU_ok 1 rfl ?_
      refine OJ.nil (EJ.next ?_)
      refine CJ.seq ?_
      refine CJ.cond rfl (fun hb => ?_) (fun hb => ?_)
      · replace H := pif_t (of_decide_eq_true hb) H
        refine CJ.skip (EJ.next ?_)
        refine CJ.seq ?_
        refine CJ.block ?_
        refine CJ.seq ?_
        refine CJ.region ?_
        refine OJ.pures tU_ok 2 rfl ?_
        refine OJ.nil (EJ.next ?_)
        refine CJ.seq ?_
        refine CJ.draw [] [0, 1, 2, 3, 4, 5] mixed (by kernel_rfl) hS fun w1 hS => ?_
        refine DJ.st rfl rfl rfl rfl rfl (SR.load rfl rfl (fun w' hx => ldE tU_ok tI_ok rfl rfl rfl (CA.ext (hS.cells (i := 0) rfl) hx) rfl)) ?_
        refine DJ.pures tU_ok 2 rfl ?_
        obtain ⟨t3, ht3, H⟩ := pbind H
        obtain ⟨ad3, e3⟩ := (hS.rd' (i := 0) rfl).some' ht3
        refine DJ.st rfl rfl rfl rfl rfl (SR.idxS tU_ok tI_ok rfl rfl rfl rfl e3 rfl (getI_some ht3).1) ?_
        refine DJ.st rfl rfl rfl rfl rfl (SR.load rfl rfl (fun w' hx => ldE tU_ok tI_ok rfl rfl rfl (CA.ext ((hS.rd' (i := 0) rfl).at_ e3 ht3) hx) rfl)) ?_
        refine DJ.st rfl rfl rfl rfl rfl (SR.eqS eqT46 eqG46 rfl rfl rfl (rfl : _ = (cSpot.enc a1).toArray) (rfl : _ = (cSpot.enc t3).toArray)) ?_
        refine DJ.nil (EJ.next ?_)
        refine CJ.cond rfl (fun hb => ?_) (fun hb => ?_)
        · replace H := pif_t (of_decide_eq_true hb) H
          refine CJ.seq ?_
          refine CJ.region ?_
          refine OJ.pures tU_ok 2 rfl ?_
          refine OJ.nil (EJ.next ?_)
          refine CJ.ret (EJ.bkR (EJ.skR (EJ.skR (EJ.bkR (EJ.skR (EJ.skR (?_)))))))
          first | (obtain rfl := Option.some.inj H; have H := K348) | (obtain ⟨q348, H2, e348⟩ := pbind H; obtain rfl := Option.some.inj e348; obtain rfl := Option.some.inj K348; have H := H2)
          obtain rfl := Option.some.inj H
          exact EJ.fin rfl (.tmp rfl .nil) ⟨rfl, hS.ext⟩
        · replace H := pif_f (of_decide_eq_false hb) H
          refine CJ.skip (EJ.blk (EJ.next ?_))
          refine CJ.region ?_
          refine OJ.pures tU_ok 2 rfl ?_
          refine OJ.nil ?_
          exact EJ.round k (F' := [(0, .slice Aa0 a0.length ca0), (3, .pointer (some ⟨b1, 0, none⟩)), (7, .int .i64 (a0.length : Int)), (8, .int .i64 (IntKind.i64.wrap (y2 + 1)))]) ⟨rfl, rfl, rfl, rfl, trivial⟩ (Nat.lt_succ_self _) ⟨(IntKind.i64.wrap (y2 + 1)), rfl, hS.pick [0] [0] rfl, H⟩
      · replace H := pif_f (of_decide_eq_false hb) H
        refine CJ.exit (EJ.skE (EJ.skE (EJ.hit (?_))))
        exact EJ.meet (F' := []) trivial ⟨H, rfl, hS.pick [] [0] rfl⟩
  · rintro F w1 ⟨he, rfl, hS⟩
    obtain rfl := Option.some.inj he
    have H := K348
    refine EJ.next ?_
    refine CJ.seq ?_
    refine CJ.region ?_
    refine OJ.pures tU_ok 1 rfl ?_
    refine OJ.nil (EJ.next ?_)
    refine CJ.ret (?_)
    obtain rfl := Option.some.inj H
    exact EJ.fin rfl (.tmp rfl .nil) ⟨rfl, hS.ext⟩

def slices_Contains_impl_Spot_impl_Spot.f (k : Nat) (a0 : List Spot) (a1 : Spot) : Option Bool := (slices_Index_impl_Spot_impl_Spot.f k a0 a1).bind fun t2 => some (decide (0 ≤ t2))
theorem slices_Contains_impl_Spot_impl_Spot.c (k : Nat) (w : World) (Aa0 : Option Addr) (ca0 : Nat) (a0 : List Spot) (hr0 : Rd cSpot w Aa0 a0) (hc0 : a0.length ≤ ca0) (a1 : Spot) (r : Bool) (H : slices_Contains_impl_Spot_impl_Spot.f k a0 a1 = some r) :
    CV Tryz.prog 75 [.slice Aa0 a0.length ca0, .agg (cSpot.enc a1).toArray].toArray w fun v w' => v = .bool r ∧ Ext w w' := by
  have hS := ((St.init w no).param cSpot Aa0 ca0 a0 hr0 hc0)
  unfold slices_Contains_impl_Spot_impl_Spot.f at H
  refine CV.body Tryz.func75 rfl Tryz.ntmps75 rfl ?_
  refine CJ.seq ?_
  refine CJ.region ?_
  refine OJ.ef rfl rfl rfl (Ef.box hS rfl rfl (cSpot.enc a1) rfl) ?_
  rintro _ w1 ⟨b1, rfl, hS⟩
  refine OJ.pures tU_ok 1 rfl ?_
  refine OJ.nil (EJ.next ?_)
  refine CJ.seq ?_
  refine CJ.region ?_
  refine OJ.pures tU_ok 1 rfl ?_
  refine OJ.st rfl rfl rfl (SR.load rfl rfl (fun w' hx => ldE tU_ok tI_ok rfl rfl rfl (CA.ext (hS.cells (i := 0) rfl) hx) rfl)) ?_
  obtain ⟨t2, ht2, H⟩ := pbind H
  refine OJ.callF rfl rfl rfl rfl rfl hb94 rfl (slices_Index_impl_Spot_impl_Spot.c k _ Aa0 ca0 a0 (hS.rd' (i := 0) rfl) (hS.le' (i := 0) rfl) a1 _ ht2) ?_
  rintro _ w1 ⟨rfl, hs⟩
  replace hS := hS.grow hs
  refine OJ.pures tU_ok 2 rfl ?_
  refine OJ.nil (EJ.next ?_)
  refine CJ.ret (?_)
  obtain rfl := Option.some.inj H
  exact EJ.fin rfl (.tmp rfl .nil) ⟨rfl, hS.ext⟩

def impl_Pasture_sidesOf.l2 (a0 : Pasture) (a1 : List Spot) (t16 : Spot) : Nat → (List Hurdle) → Int → Option (List Hurdle)
  | 0, _, _ => none
  | k + 1, y21, y24 => if y24 < 4 then ((impl_Spot_ahead.f t16 y24).bind fun t25 => ((impl_Pasture_isCell.f a0 t25).bind fun t28 => if t28 = true then ((slices_Contains_impl_Spot_impl_Spot.f k a1 t25).bind fun t29 => some (!t29)) else (some false)).bind fun y27 => if y27 = true then ((impl_hurdleAt.f t16 y24).bind fun t30 => (chk (y21.length + ([t30] : List Hurdle).length ≤ 4294967296)).bind fun u32 => impl_Pasture_sidesOf.l2 a0 a1 t16 k (y21 ++ ([t30] : List Hurdle)) (IntKind.i64.wrap (y24 + 1))) else (impl_Pasture_sidesOf.l2 a0 a1 t16 k y21 (IntKind.i64.wrap (y24 + 1)))) else (some y21)
def impl_Pasture_sidesOf.l1 (a0 : Pasture) (a1 : List Spot) (t3 : List Spot) : Nat → (List Hurdle) → Int → Option (List Hurdle)
  | 0, _, _ => none
  | k + 1, y9, y12 => if y12 < (t3.length : Int) then (((getI t3 y12).bind fun t16 => (impl_Pasture_sidesOf.l2 a0 a1 t16 k y9 0).bind fun y18 => some y18).bind fun y13 => impl_Pasture_sidesOf.l1 a0 a1 t3 k y13 (IntKind.i64.wrap (y12 + 1))) else (some y9)
def impl_Pasture_sidesOf.f (k : Nat) (a0 : Pasture) (a1 : List Spot) : Option (List Hurdle) := (impl_ordered.f k a1).bind fun t3 => (impl_Pasture_sidesOf.l1 a0 a1 t3 k ([] : List Hurdle) 0).bind fun y6 => some y6
theorem impl_Pasture_sidesOf.c (k : Nat) (w : World) (a0 : Pasture) (Aa1 : Option Addr) (ca1 : Nat) (a1 : List Spot) (hr1 : Rd cSpot w Aa1 a1) (hc1 : a1.length ≤ ca1) (r : List Hurdle) (H : impl_Pasture_sidesOf.f k a0 a1 = some r) :
    CV Tryz.prog 41 [.agg (cPasture.enc a0).toArray, .slice Aa1 a1.length ca1].toArray w fun v w' => ∃ (A0 : Option Addr) (c0 : Nat), v = .slice A0 r.length c0 ∧ St w no w' [rowC cHurdle A0 c0 69 r] [] := by
  have hS := ((St.init w no).param cSpot Aa1 ca1 a1 hr1 hc1)
  unfold impl_Pasture_sidesOf.f at H
  refine CV.body Tryz.func41 rfl Tryz.ntmps41 rfl ?_
  refine CJ.seq ?_
  refine CJ.region ?_
  refine OJ.ef rfl rfl rfl (Ef.box hS rfl rfl (cPasture.enc a0) rfl) ?_
  rintro _ w1 ⟨b1, rfl, hS⟩
  refine OJ.pures tU_ok 1 rfl ?_
  refine OJ.nil (EJ.next ?_)
  refine CJ.seq ?_
  refine CJ.region ?_
  refine OJ.ef rfl rfl rfl (Ef.lit tU_ok tI_ok hS (C := cHurdle) rfl rfl rfl rfl rfl rfl ([] : List Hurdle) rfl rfl rfl rfl) ?_
  rintro _ w1 ⟨A2, rfl, hS⟩
  refine OJ.pures tU_ok 1 rfl ?_
  refine OJ.nil (EJ.next ?_)
  refine CJ.seq ?_
  refine CJ.seq ?_
  refine CJ.region ?_
  refine OJ.pures tU_ok 1 rfl ?_
  obtain ⟨t3, ht3, H⟩ := pbind H
  refine OJ.callF rfl rfl rfl rfl rfl hb73 rfl (impl_ordered.c k _ Aa1 ca1 a1 (hS.rd' (i := 0) rfl) (hS.le' (i := 0) rfl) _ ht3) ?_
  rintro _ w1 ⟨A4, c5, rfl, hs⟩
  replace hS := hS.addN hs
  refine OJ.pures tU_ok 2 rfl ?_
  refine OJ.nil (EJ.next ?_)
  obtain ⟨j344, H, K344⟩ := pbind H
  refine CJ.cut1 (fun F w1 => ∃ (y6 : List Hurdle) (A7 : Option Addr) (c8 : Nat), (some y6 : Option (List Hurdle)) = some j344 ∧ F = [(5, .slice A7 y6.length c8)] ∧ St w no w1 [rowC cHurdle A7 c8 69 y6] [roC cSpot Aa1 ca1 a1]) ?_ ?_
  · skip
    refine CJ.block ?_
    refine CJ.loop (fun k F w1 => ∃ (y9 : List Hurdle) (y12 : Int) (A10 : Option Addr) (c11 : Nat), F = [(1, .slice Aa1 a1.length ca1), (2, .pointer (some ⟨b1, 0, none⟩)), (5, .slice A10 y9.length c11), (12, .slice A4 t3.length c5), (13, .int .i64 (t3.length : Int)), (14, .int .i64 y12)] ∧ St w no w1 [box b1 (cPasture.enc a0) 31, rowC cHurdle A10 c11 69 y9, rowC cSpot A4 c5 46 t3] [roC cSpot Aa1 ca1 a1] ∧ impl_Pasture_sidesOf.l1 a0 a1 t3 k y9 y12 = some j344) k (F' := [(1, .slice Aa1 a1.length ca1), (2, .pointer (some ⟨b1, 0, none⟩)), (5, .slice A2 ([] : List Hurdle).length (([] : List Hurdle).length)), (12, .slice A4 t3.length c5), (13, .int .i64 (t3.length : Int)), (14, .int .i64 0)]) ⟨rfl, rfl, rfl, rfl, rfl, rfl, trivial⟩ ⟨([] : List Hurdle), 0, A2, (([] : List Hurdle).length), rfl, hS.pick [0, 1, 2] [0] rfl, H⟩ ?_
    rintro k F w1 ⟨y9, y12, A10, c11, rfl, hS, H⟩
    cases k with
    | zero => rw [impl_Pasture_sidesOf.l1] at H; cases H
    | succ k =>
      rw [impl_Pasture_sidesOf.l1] at H
      refine CJ.seq ?_
      refine CJ.region ?_
      refine OJ.pures tU_ok 1 rfl ?_
      refine OJ.nil (EJ.next ?_)
      refine CJ.seq ?_
      refine CJ.cond rfl (fun hb => ?_) (fun hb => ?_)
      · replace H := pif_t (of_decide_eq_true hb) H
        refine CJ.skip (EJ.next ?_)
        obtain ⟨j364, H, K364⟩ := pbind H
        refine CJ.cut (fun F w1 => ∃ (y13 : List Hurdle) (A14 : Option Addr) (c15 : Nat), (some y13 : Option (List Hurdle)) = some j364 ∧ F = [(1, .slice Aa1 a1.length ca1), (2, .pointer (some ⟨b1, 0, none⟩)), (5, .slice A14 y13.length c15), (12, .slice A4 t3.length c5), (13, .int .i64 (t3.length : Int)), (14, .int .i64 y12)] ∧ St w no w1 [box b1 (cPasture.enc a0) 31, rowC cHurdle A14 c15 69 y13, rowC cSpot A4 c5 46 t3] [roC cSpot Aa1 ca1 a1]) ?_ ?_
        · skip
          refine CJ.block ?_
          refine CJ.seq ?_
          refine CJ.region ?_
          obtain ⟨t16, ht16, H⟩ := pbind H
          obtain ⟨ad16, e16⟩ := (hS.rd (i := 2) rfl).some' ht16
          refine OJ.st rfl rfl rfl (SR.idxS tU_ok tI_ok rfl rfl rfl rfl e16 rfl (getI_some ht16).1) ?_
          refine OJ.st rfl rfl rfl (SR.load rfl rfl (fun w' hx => ldE tU_ok tI_ok rfl rfl rfl (CA.ext ((hS.rd (i := 2) rfl).at_ e16 ht16) hx) rfl)) ?_
          refine OJ.ef rfl rfl rfl (Ef.alloc hS tI_ok rfl rfl (cSpot.enc (⟨0, 0⟩ : Spot)) rfl) ?_
          rintro _ w1 ⟨b17, rfl, hS⟩
          refine OJ.es rfl rfl (Es.store tI_ok hS (i := 3) rfl rfl rfl rfl rfl rfl (vs := cSpot.enc t16) rfl (cSpot.len _) (cSpot.one _) (Nat.le_of_ble_eq_true rfl) (cSpot.enc t16) rfl) ?_
          intro w1 hS
          refine OJ.nil (EJ.next ?_)
          refine CJ.seq ?_
          refine CJ.region ?_
          refine OJ.pures tU_ok 1 rfl ?_
          refine OJ.nil (EJ.next ?_)
          obtain ⟨j369, H, K369⟩ := pbind H
          refine CJ.cut1 (fun F w1 => ∃ (y18 : List Hurdle) (A19 : Option Addr) (c20 : Nat), (some y18 : Option (List Hurdle)) = some j369 ∧ F = [(1, .slice Aa1 a1.length ca1), (2, .pointer (some ⟨b1, 0, none⟩)), (5, .slice A19 y18.length c20), (12, .slice A4 t3.length c5), (13, .int .i64 (t3.length : Int)), (14, .int .i64 y12)] ∧ St w no w1 [box b1 (cPasture.enc a0) 31, rowC cHurdle A19 c20 69 y18, rowC cSpot A4 c5 46 t3] [roC cSpot Aa1 ca1 a1]) ?_ ?_
          · skip
            refine CJ.block ?_
            refine CJ.loop (fun k F w1 => ∃ (y21 : List Hurdle) (y24 : Int) (A22 : Option Addr) (c23 : Nat), F = [(1, .slice Aa1 a1.length ca1), (2, .pointer (some ⟨b1, 0, none⟩)), (5, .slice A22 y21.length c23), (7, .pointer (some ⟨b17, 0, none⟩)), (12, .slice A4 t3.length c5), (13, .int .i64 (t3.length : Int)), (14, .int .i64 y12), (18, .int .i64 y24)] ∧ St w no w1 [box b1 (cPasture.enc a0) 31, rowC cHurdle A22 c23 69 y21, rowC cSpot A4 c5 46 t3, box b17 (cSpot.enc t16) 46] [roC cSpot Aa1 ca1 a1] ∧ impl_Pasture_sidesOf.l2 a0 a1 t16 k y21 y24 = some j369) k (F' := [(1, .slice Aa1 a1.length ca1), (2, .pointer (some ⟨b1, 0, none⟩)), (5, .slice A10 y9.length c11), (7, .pointer (some ⟨b17, 0, none⟩)), (12, .slice A4 t3.length c5), (13, .int .i64 (t3.length : Int)), (14, .int .i64 y12), (18, .int .i64 0)]) ⟨rfl, rfl, rfl, rfl, rfl, rfl, rfl, rfl, trivial⟩ ⟨y9, 0, A10, c11, rfl, hS.pick [0, 1, 2, 3] [0] rfl, H⟩ ?_
            rintro k F w1 ⟨y21, y24, A22, c23, rfl, hS, H⟩
            cases k with
            | zero => rw [impl_Pasture_sidesOf.l2] at H; cases H
            | succ k =>
              rw [impl_Pasture_sidesOf.l2] at H
              refine CJ.seq ?_
              refine CJ.region ?_
              refine OJ.pures tU_ok 1 rfl ?_
              refine OJ.nil (EJ.next ?_)
              refine CJ.seq ?_
              refine CJ.cond rfl (fun hb => ?_) (fun hb => ?_)
              · replace H := pif_t (of_decide_eq_true hb) H
                refine CJ.skip (EJ.next ?_)
                refine CJ.seq ?_
                refine CJ.block ?_
                refine CJ.seq ?_
                refine CJ.region ?_
                refine OJ.pures tU_ok 2 rfl ?_
                refine OJ.nil (EJ.next ?_)
                refine CJ.seq ?_
                refine CJ.region ?_
                refine OJ.st rfl rfl rfl (SR.load rfl rfl (fun w' hx => ldE tU_ok tI_ok rfl rfl rfl (CA.ext (hS.cells (i := 3) rfl) hx) rfl)) ?_
                refine OJ.pures tU_ok 1 rfl ?_
                obtain ⟨t25, ht25, H⟩ := pbind H
                refine OJ.callF rfl rfl rfl rfl rfl hb74 rfl (impl_Spot_ahead.c _ t16 y24 _ ht25) ?_
                rintro _ w1 ⟨rfl, hs⟩
                replace hS := hS.grow hs
                refine OJ.ef rfl rfl rfl (Ef.alloc hS tI_ok rfl rfl (cSpot.enc (⟨0, 0⟩ : Spot)) rfl) ?_
                rintro _ w1 ⟨b26, rfl, hS⟩
                refine OJ.es rfl rfl (Es.store tI_ok hS (i := 4) rfl rfl rfl rfl rfl rfl (vs := cSpot.enc t25) rfl (cSpot.len _) (cSpot.one _) (Nat.le_of_ble_eq_true rfl) (cSpot.enc t25) rfl) ?_
                intro w1 hS
                refine OJ.nil (EJ.next ?_)
                obtain ⟨j372, H, K372⟩ := pbind H
                refine CJ.cut (fun F w1 => ∃ (y27 : Bool) , (some y27 : Option Bool) = some j372 ∧ F = [(1, .slice Aa1 a1.length ca1), (2, .pointer (some ⟨b1, 0, none⟩)), (5, .slice A22 y21.length c23), (7, .pointer (some ⟨b17, 0, none⟩)), (8, .int .i64 y24), (12, .slice A4 t3.length c5), (13, .int .i64 (t3.length : Int)), (14, .int .i64 y12), (18, .int .i64 y24), (32, .bool y27)] ∧ St w no w1 [box b1 (cPasture.enc a0) 31, rowC cHurdle A22 c23 69 y21, rowC cSpot A4 c5 46 t3, box b17 (cSpot.enc t16) 46] [roC cSpot Aa1 ca1 a1]) ?_ ?_
                · skip
                  refine CJ.region ?_
                  refine OJ.st rfl rfl rfl (SR.load rfl rfl (fun w' hx => ldE tU_ok tI_ok rfl rfl rfl (CA.ext (hS.cells (i := 0) rfl) hx) rfl)) ?_
                  refine OJ.st rfl rfl rfl (SR.load rfl rfl (fun w' hx => ldE tU_ok tI_ok rfl rfl rfl (CA.ext (hS.cells (i := 4) rfl) hx) rfl)) ?_
                  obtain ⟨t28, ht28, H⟩ := pbind H
                  refine OJ.callF rfl rfl rfl rfl rfl hb58 rfl (impl_Pasture_isCell.c _ a0 t25 _ ht28) ?_
                  rintro _ w1 ⟨rfl, hs⟩
                  replace hS := hS.grow hs
                  refine OJ.pures tU_ok 1 rfl ?_
                  refine OJ.split (t := 27) rfl (fun hb => ?_) (fun hb => ?_)
                  · replace H := pif_t hb H
                    refine OJ.pures tU_ok 1 rfl ?_
                    refine OJ.st rfl rfl rfl (SR.load rfl rfl (fun w' hx => ldE tU_ok tI_ok rfl rfl rfl (CA.ext (hS.cells (i := 4) rfl) hx) rfl)) ?_
                    obtain ⟨t29, ht29, H⟩ := pbind H
                    refine OJ.callF rfl rfl rfl rfl rfl hb75 rfl (slices_Contains_impl_Spot_impl_Spot.c k _ Aa1 ca1 a1 (hS.rd' (i := 0) rfl) (hS.le' (i := 0) rfl) t25 _ ht29) ?_
                    rintro _ w1 ⟨rfl, hs⟩
                    replace hS := hS.grow hs
                    refine OJ.pures tU_ok 2 rfl ?_
                    refine OJ.nil ?_
                    exact EJ.meet (F' := [(1, .slice Aa1 a1.length ca1), (2, .pointer (some ⟨b1, 0, none⟩)), (5, .slice A22 y21.length c23), (7, .pointer (some ⟨b17, 0, none⟩)), (8, .int .i64 y24), (12, .slice A4 t3.length c5), (13, .int .i64 (t3.length : Int)), (14, .int .i64 y12), (18, .int .i64 y24), (32, .bool (!t29))]) ⟨rfl, rfl, rfl, rfl, rfl, rfl, rfl, rfl, rfl, rfl, trivial⟩ ⟨(!t29), H, rfl, hS.pick [0, 1, 2, 3] [0] rfl⟩
                  · replace H := pifb_f hb H
                    refine OJ.pures tU_ok 5 rfl ?_
                    refine OJ.nil ?_
                    exact EJ.meet (F' := [(1, .slice Aa1 a1.length ca1), (2, .pointer (some ⟨b1, 0, none⟩)), (5, .slice A22 y21.length c23), (7, .pointer (some ⟨b17, 0, none⟩)), (8, .int .i64 y24), (12, .slice A4 t3.length c5), (13, .int .i64 (t3.length : Int)), (14, .int .i64 y12), (18, .int .i64 y24), (32, .bool false)]) ⟨rfl, rfl, rfl, rfl, rfl, rfl, rfl, rfl, rfl, rfl, trivial⟩ ⟨false, H, rfl, hS.pick [0, 1, 2, 3] [0] rfl⟩
                · rintro F w1 ⟨y27, he, rfl, hS⟩
                  obtain rfl := Option.some.inj he
                  have H := K372
                  refine CJ.cond rfl (fun hb => ?_) (fun hb => ?_)
                  · replace H := pif_t hb H
                    refine CJ.region ?_
                    refine OJ.pures tU_ok 1 rfl ?_
                    refine OJ.st rfl rfl rfl (SR.load rfl rfl (fun w' hx => ldE tU_ok tI_ok rfl rfl rfl (CA.ext (hS.cells (i := 3) rfl) hx) rfl)) ?_
                    refine OJ.pures tU_ok 1 rfl ?_
                    obtain ⟨t30, ht30, H⟩ := pbind H
                    refine OJ.callF rfl rfl rfl rfl rfl hb76 rfl (impl_hurdleAt.c _ t16 y24 _ ht30) ?_
                    rintro _ w1 ⟨rfl, hs⟩
                    replace hS := hS.grow hs
                    refine OJ.ef rfl rfl rfl (Ef.lit tU_ok tI_ok hS (C := cHurdle) rfl rfl rfl rfl rfl rfl ([t30] : List Hurdle) rfl rfl rfl rfl) ?_
                    rintro _ w1 ⟨A31, rfl, hS⟩
                    obtain ⟨u32, hu32, H⟩ := pbind H
                    refine OJ.ew rfl rfl rfl (Ew.append tU_ok tI_ok (C := cHurdle) (xs := y21) (ys := ([t30] : List Hurdle)) hS (i := 1) rfl rfl rfl rfl rfl rfl rfl rfl rfl rfl rfl rfl rfl (hS.rd (i := 4) rfl) (chk_some hu32)) ?_
                    rintro _ w1 ⟨A33, c34, rfl, hS⟩
                    refine OJ.pures tU_ok 1 rfl ?_
                    refine OJ.nil (EJ.blk (EJ.next ?_))
                    refine CJ.region ?_
                    refine OJ.pures tU_ok 2 rfl ?_
                    refine OJ.nil ?_
                    exact EJ.round k (F' := [(1, .slice Aa1 a1.length ca1), (2, .pointer (some ⟨b1, 0, none⟩)), (5, .slice A33 (y21 ++ ([t30] : List Hurdle)).length c34), (7, .pointer (some ⟨b17, 0, none⟩)), (12, .slice A4 t3.length c5), (13, .int .i64 (t3.length : Int)), (14, .int .i64 y12), (18, .int .i64 (IntKind.i64.wrap (y24 + 1)))]) ⟨rfl, rfl, rfl, rfl, rfl, rfl, rfl, rfl, trivial⟩ (Nat.lt_succ_self _) ⟨(y21 ++ ([t30] : List Hurdle)), (IntKind.i64.wrap (y24 + 1)), A33, c34, rfl, hS.pick [0, 1, 2, 3] [0] rfl, H⟩
                  · replace H := pifb_f hb H
                    refine CJ.skip (EJ.blk (EJ.next ?_))
                    refine CJ.region ?_
                    refine OJ.pures tU_ok 2 rfl ?_
                    refine OJ.nil ?_
                    exact EJ.round k (F' := [(1, .slice Aa1 a1.length ca1), (2, .pointer (some ⟨b1, 0, none⟩)), (5, .slice A22 y21.length c23), (7, .pointer (some ⟨b17, 0, none⟩)), (12, .slice A4 t3.length c5), (13, .int .i64 (t3.length : Int)), (14, .int .i64 y12), (18, .int .i64 (IntKind.i64.wrap (y24 + 1)))]) ⟨rfl, rfl, rfl, rfl, rfl, rfl, rfl, rfl, trivial⟩ (Nat.lt_succ_self _) ⟨y21, (IntKind.i64.wrap (y24 + 1)), A22, c23, rfl, hS.pick [0, 1, 2, 3] [0] rfl, H⟩
              · replace H := pif_f (of_decide_eq_false hb) H
                refine CJ.exit (EJ.skE (EJ.skE (EJ.hit (?_))))
                exact EJ.meet (F' := [(1, .slice Aa1 a1.length ca1), (2, .pointer (some ⟨b1, 0, none⟩)), (5, .slice A22 y21.length c23), (12, .slice A4 t3.length c5), (13, .int .i64 (t3.length : Int)), (14, .int .i64 y12)]) ⟨rfl, rfl, rfl, rfl, rfl, rfl, trivial⟩ ⟨y21, A22, c23, H, rfl, hS.pick [0, 1, 2] [0] rfl⟩
          · rintro F w1 ⟨y18, A19, c20, he, rfl, hS⟩
            obtain rfl := Option.some.inj he
            have H := K369
            refine EJ.blk (?_)
            exact EJ.meet (F' := [(1, .slice Aa1 a1.length ca1), (2, .pointer (some ⟨b1, 0, none⟩)), (5, .slice A19 y18.length c20), (12, .slice A4 t3.length c5), (13, .int .i64 (t3.length : Int)), (14, .int .i64 y12)]) ⟨rfl, rfl, rfl, rfl, rfl, rfl, trivial⟩ ⟨y18, A19, c20, H, rfl, hS.pick [0, 1, 2] [0] rfl⟩
        · rintro F w1 ⟨y13, A14, c15, he, rfl, hS⟩
          obtain rfl := Option.some.inj he
          have H := K364
          refine CJ.region ?_
          refine OJ.pures tU_ok 2 rfl ?_
          refine OJ.nil ?_
          exact EJ.round k (F' := [(1, .slice Aa1 a1.length ca1), (2, .pointer (some ⟨b1, 0, none⟩)), (5, .slice A14 y13.length c15), (12, .slice A4 t3.length c5), (13, .int .i64 (t3.length : Int)), (14, .int .i64 (IntKind.i64.wrap (y12 + 1)))]) ⟨rfl, rfl, rfl, rfl, rfl, rfl, trivial⟩ (Nat.lt_succ_self _) ⟨y13, (IntKind.i64.wrap (y12 + 1)), A14, c15, rfl, hS.pick [0, 1, 2] [0] rfl, H⟩
      · replace H := pif_f (of_decide_eq_false hb) H
        refine CJ.exit (EJ.skE (EJ.skE (EJ.hit (?_))))
        exact EJ.meet (F' := [(5, .slice A10 y9.length c11)]) ⟨rfl, trivial⟩ ⟨y9, A10, c11, H, rfl, hS.pick [1] [0] rfl⟩
  · rintro F w1 ⟨y6, A7, c8, he, rfl, hS⟩
    obtain rfl := Option.some.inj he
    have H := K344
    refine EJ.next ?_
    refine CJ.seq ?_
    refine CJ.region ?_
    refine OJ.pures tU_ok 2 rfl ?_
    refine OJ.nil (EJ.next ?_)
    refine CJ.ret (?_)
    obtain rfl := Option.some.inj H
    exact EJ.fin rfl (.tmp rfl .nil) ⟨A7, c8, rfl, hS.pick [0] [] rfl⟩

def impl_SidesOf.f (k : Nat) (a0 : Pasture) (a1 : List Spot) : Option (Int × Int) := (impl_cellCode.f k a0 a1).bind fun t2 => if t2 ≠ 0 then (some (0, t2)) else ((impl_Pasture_sidesOf.f k a0 a1).bind fun t3 => (impl_size_impl_Hurdle.f t3).bind fun t6 => some (t6, 0))
theorem impl_SidesOf.c (k : Nat) (w : World) (a0 : Pasture) (Aa1 : Option Addr) (ca1 : Nat) (a1 : List Spot) (hr1 : Rd cSpot w Aa1 a1) (hc1 : a1.length ≤ ca1) (r : Int × Int) (H : impl_SidesOf.f k a0 a1 = some r) :
    CV Tryz.prog 14 [.agg (cPasture.enc a0).toArray, .slice Aa1 a1.length ca1].toArray w fun v w' => v = .tuple #[.int .i64 r.1, .int .i64 r.2] ∧ Ext w w' := by
  have hS := ((St.init w no).param cSpot Aa1 ca1 a1 hr1 hc1)
  unfold impl_SidesOf.f at H
  refine CV.body Tryz.func14 rfl Tryz.ntmps14 rfl ?_
  refine CJ.seq ?_
  refine CJ.region ?_
  refine OJ.ef rfl rfl rfl (Ef.box hS rfl rfl (cPasture.enc a0) rfl) ?_
  rintro _ w1 ⟨b1, rfl, hS⟩
  refine OJ.pures tU_ok 2 rfl ?_
  refine OJ.nil (EJ.next ?_)
  refine CJ.seq ?_
  refine CJ.seq ?_
  refine CJ.region ?_
  refine OJ.st rfl rfl rfl (SR.load rfl rfl (fun w' hx => ldE tU_ok tI_ok rfl rfl rfl (CA.ext (hS.cells (i := 0) rfl) hx) rfl)) ?_
  refine OJ.pures tU_ok 1 rfl ?_
  obtain ⟨t2, ht2, H⟩ := pbind H
  refine OJ.callF rfl rfl rfl rfl rfl hb39 rfl (impl_cellCode.c k _ a0 Aa1 ca1 a1 (hS.rd' (i := 0) rfl) (hS.le' (i := 0) rfl) _ ht2) ?_
  rintro _ w1 ⟨rfl, hs⟩
  replace hS := hS.grow hs
  refine OJ.pures tU_ok 1 rfl ?_
  refine OJ.nil (EJ.next ?_)
  refine CJ.seq ?_
  refine CJ.region ?_
  refine OJ.pures tU_ok 2 rfl ?_
  refine OJ.nil (EJ.next ?_)
  refine CJ.cond rfl (fun hb => ?_) (fun hb => ?_)
  · replace H := pif_t (of_decide_eq_true hb) H
    refine CJ.seq ?_
    refine CJ.region ?_
    refine OJ.pures tU_ok 3 rfl ?_
    refine OJ.nil (EJ.next ?_)
    refine CJ.ret (EJ.skR (?_))
    obtain rfl := Option.some.inj H
    exact EJ.fin rfl (.tmp rfl (.tmp rfl .nil)) ⟨rfl, hS.ext⟩
  · replace H := pif_f (of_decide_eq_false hb) H
    refine CJ.skip (EJ.next ?_)
    refine CJ.seq ?_
    refine CJ.region ?_
    refine OJ.st rfl rfl rfl (SR.load rfl rfl (fun w' hx => ldE tU_ok tI_ok rfl rfl rfl (CA.ext (hS.cells (i := 0) rfl) hx) rfl)) ?_
    refine OJ.pures tU_ok 1 rfl ?_
    obtain ⟨t3, ht3, H⟩ := pbind H
    refine OJ.callF rfl rfl rfl rfl rfl hb41 rfl (impl_Pasture_sidesOf.c k _ a0 Aa1 ca1 a1 (hS.rd' (i := 0) rfl) (hS.le' (i := 0) rfl) _ ht3) ?_
    rintro _ w1 ⟨A4, c5, rfl, hs⟩
    replace hS := hS.addN hs
    obtain ⟨t6, ht6, H⟩ := pbind H
    refine OJ.callF rfl rfl rfl rfl rfl hb33 rfl (impl_size_impl_Hurdle.c _ A4 c5 t3 (hS.rd (i := 1) rfl) (hS.le (i := 1) rfl) _ ht6) ?_
    rintro _ w1 ⟨rfl, hs⟩
    replace hS := hS.grow hs
    refine OJ.pures tU_ok 2 rfl ?_
    refine OJ.nil (EJ.next ?_)
    refine CJ.ret (?_)
    obtain rfl := Option.some.inj H
    exact EJ.fin rfl (.tmp rfl (.tmp rfl .nil)) ⟨rfl, hS.ext⟩

def impl_YardOf.f (k : Nat) (a0 : Pasture) (a1 : Spot) : Option (List Spot × Int) := (impl_cellCode.f k a0 ([a1] : List Spot)).bind fun t4 => if t4 ≠ 0 then (some ([], t4)) else ((impl_Pasture_yard.f k a0 a1).bind fun t5 => some (t5, 0))
theorem impl_YardOf.c (k : Nat) (w : World) (a0 : Pasture) (a1 : Spot) (r : List Spot × Int) (H : impl_YardOf.f k a0 a1 = some r) :
    CV Tryz.prog 15 [.agg (cPasture.enc a0).toArray, .agg (cSpot.enc a1).toArray].toArray w fun v w' => ∃ (A0 : Option Addr) (c0 : Nat), v = .tuple #[.slice A0 r.1.length c0, .int .i64 r.2] ∧ St w no w' [rowC cSpot A0 c0 46 r.1] [] := by
  have hS := (St.init w no)
  unfold impl_YardOf.f at H
  refine CV.body Tryz.func15 rfl Tryz.ntmps15 rfl ?_
  refine CJ.seq ?_
  refine CJ.region ?_
  refine OJ.ef rfl rfl rfl (Ef.box hS rfl rfl (cPasture.enc a0) rfl) ?_
  rintro _ w1 ⟨b1, rfl, hS⟩
  refine OJ.ef rfl rfl rfl (Ef.box hS rfl rfl (cSpot.enc a1) rfl) ?_
  rintro _ w1 ⟨b2, rfl, hS⟩
  refine OJ.pures tU_ok 2 rfl ?_
  refine OJ.nil (EJ.next ?_)
  refine CJ.seq ?_
  refine CJ.seq ?_
  refine CJ.region ?_
  refine OJ.st rfl rfl rfl (SR.load rfl rfl (fun w' hx => ldE tU_ok tI_ok rfl rfl rfl (CA.ext (hS.cells (i := 0) rfl) hx) rfl)) ?_
  refine OJ.st rfl rfl rfl (SR.load rfl rfl (fun w' hx => ldE tU_ok tI_ok rfl rfl rfl (CA.ext (hS.cells (i := 1) rfl) hx) rfl)) ?_
  refine OJ.ef rfl rfl rfl (Ef.lit tU_ok tI_ok hS (C := cSpot) rfl rfl rfl rfl rfl rfl ([a1] : List Spot) rfl rfl rfl rfl) ?_
  rintro _ w1 ⟨A3, rfl, hS⟩
  obtain ⟨t4, ht4, H⟩ := pbind H
  refine OJ.callF rfl rfl rfl rfl rfl hb39 rfl (impl_cellCode.c k _ a0 A3 (([a1] : List Spot).length) ([a1] : List Spot) (hS.rd (i := 2) rfl) (hS.le (i := 2) rfl) _ ht4) ?_
  rintro _ w1 ⟨rfl, hs⟩
  replace hS := hS.grow hs
  refine OJ.pures tU_ok 1 rfl ?_
  refine OJ.nil (EJ.next ?_)
  refine CJ.seq ?_
  refine CJ.region ?_
  refine OJ.pures tU_ok 2 rfl ?_
  refine OJ.nil (EJ.next ?_)
  refine CJ.cond rfl (fun hb => ?_) (fun hb => ?_)
  · replace H := pif_t (of_decide_eq_true hb) H
    refine CJ.seq ?_
    refine CJ.region ?_
    refine OJ.pures tU_ok 3 rfl ?_
    refine OJ.nil (EJ.next ?_)
    refine CJ.ret (EJ.skR (?_))
    replace hS := hS.addNil cSpot 46 none
    obtain rfl := Option.some.inj H
    exact EJ.fin rfl (.tmp rfl (.tmp rfl .nil)) ⟨none, 0, rfl, hS.pick [3] [] rfl⟩
  · replace H := pif_f (of_decide_eq_false hb) H
    refine CJ.skip (EJ.next ?_)
    refine CJ.seq ?_
    refine CJ.region ?_
    refine OJ.st rfl rfl rfl (SR.load rfl rfl (fun w' hx => ldE tU_ok tI_ok rfl rfl rfl (CA.ext (hS.cells (i := 0) rfl) hx) rfl)) ?_
    refine OJ.st rfl rfl rfl (SR.load rfl rfl (fun w' hx => ldE tU_ok tI_ok rfl rfl rfl (CA.ext (hS.cells (i := 1) rfl) hx) rfl)) ?_
    obtain ⟨t5, ht5, H⟩ := pbind H
    refine OJ.callF rfl rfl rfl rfl rfl hb42 rfl (impl_Pasture_yard.c k _ a0 a1 _ ht5) ?_
    rintro _ w1 ⟨A6, c7, rfl, hs⟩
    replace hS := hS.addN hs
    refine OJ.pures tU_ok 2 rfl ?_
    refine OJ.nil (EJ.next ?_)
    refine CJ.ret (?_)
    obtain rfl := Option.some.inj H
    exact EJ.fin rfl (.tmp rfl (.tmp rfl .nil)) ⟨A6, c7, rfl, hS.pick [3] [] rfl⟩

def spec_l01Before.f (a0 : Spot) (a1 : Spot) : Option Bool := if a0.Y < a1.Y then (some true) else (if a0.Y = a1.Y then (some (decide (a0.X < a1.X))) else (some false))
theorem spec_l01Before.c (w : World) (a0 : Spot) (a1 : Spot) (r : Bool) (H : spec_l01Before.f a0 a1 = some r) :
    CV Tryz.prog 43 [.agg (cSpot.enc a0).toArray, .agg (cSpot.enc a1).toArray].toArray w fun v w' => v = .bool r ∧ Ext w w' := by
  have hS := (St.init w no)
  unfold spec_l01Before.f at H
  refine CV.body Tryz.func43 rfl Tryz.ntmps43 rfl ?_
  refine CJ.seq ?_
  refine CJ.region ?_
  refine OJ.ef rfl rfl rfl (Ef.box hS rfl rfl (cSpot.enc a0) rfl) ?_
  rintro _ w1 ⟨b1, rfl, hS⟩
  refine OJ.ef rfl rfl rfl (Ef.box hS rfl rfl (cSpot.enc a1) rfl) ?_
  rintro _ w1 ⟨b2, rfl, hS⟩
  refine OJ.pures tU_ok 1 rfl ?_
  refine OJ.nil (EJ.next ?_)
  refine CJ.seq ?_
  refine CJ.region ?_
  refine OJ.st rfl rfl rfl (SR.fieldAddr tU_ok tI_ok rfl rfl rfl rfl rfl rfl) ?_
  refine OJ.st rfl rfl rfl (SR.load rfl rfl (fun w' hx => ld1 tU_ok rfl rfl (CA.ext (CA.sub (hS.cells (i := 0) rfl) 1) hx) rfl)) ?_
  refine OJ.st rfl rfl rfl (SR.fieldAddr tU_ok tI_ok rfl rfl rfl rfl rfl rfl) ?_
  refine OJ.st rfl rfl rfl (SR.load rfl rfl (fun w' hx => ld1 tU_ok rfl rfl (CA.ext (CA.sub (hS.cells (i := 1) rfl) 1) hx) rfl)) ?_
  refine OJ.pures tU_ok 2 rfl ?_
  refine OJ.split (t := 10) rfl (fun hb => ?_) (fun hb => ?_)
  · replace H := pif_t (of_decide_eq_true hb) H
    refine OJ.pures tU_ok 14 rfl ?_
    refine OJ.nil (EJ.next ?_)
    refine CJ.ret (?_)
    obtain rfl := Option.some.inj H
    exact EJ.fin rfl (.tmp rfl .nil) ⟨rfl, hS.ext⟩
  · replace H := pif_f (of_decide_eq_false hb) H
    refine OJ.st rfl rfl rfl (SR.fieldAddr tU_ok tI_ok rfl rfl rfl rfl rfl rfl) ?_
    refine OJ.st rfl rfl rfl (SR.load rfl rfl (fun w' hx => ld1 tU_ok rfl rfl (CA.ext (CA.sub (hS.cells (i := 0) rfl) 1) hx) rfl)) ?_
    refine OJ.st rfl rfl rfl (SR.fieldAddr tU_ok tI_ok rfl rfl rfl rfl rfl rfl) ?_
    refine OJ.st rfl rfl rfl (SR.load rfl rfl (fun w' hx => ld1 tU_ok rfl rfl (CA.ext (CA.sub (hS.cells (i := 1) rfl) 1) hx) rfl)) ?_
    refine OJ.pures tU_ok 2 rfl ?_
    refine OJ.split (t := 16) rfl (fun hb => ?_) (fun hb => ?_)
    · replace H := pif_t (of_decide_eq_true hb) H
      refine OJ.st rfl rfl rfl (SR.fieldAddr tU_ok tI_ok rfl rfl rfl rfl rfl rfl) ?_
      refine OJ.st rfl rfl rfl (SR.load rfl rfl (fun w' hx => ld1 tU_ok rfl rfl (CA.ext (CA.sub (hS.cells (i := 0) rfl) 0) hx) rfl)) ?_
      refine OJ.st rfl rfl rfl (SR.fieldAddr tU_ok tI_ok rfl rfl rfl rfl rfl rfl) ?_
      refine OJ.st rfl rfl rfl (SR.load rfl rfl (fun w' hx => ld1 tU_ok rfl rfl (CA.ext (CA.sub (hS.cells (i := 1) rfl) 0) hx) rfl)) ?_
      refine OJ.pures tU_ok 4 rfl ?_
      refine OJ.nil (EJ.next ?_)
      refine CJ.ret (?_)
      obtain rfl := Option.some.inj H
      exact EJ.fin rfl (.tmp rfl .nil) ⟨rfl, hS.ext⟩
    · replace H := pif_f (of_decide_eq_false hb) H
      refine OJ.pures tU_ok 8 rfl ?_
      refine OJ.nil (EJ.next ?_)
      refine CJ.ret (?_)
      obtain rfl := Option.some.inj H
      exact EJ.fin rfl (.tmp rfl .nil) ⟨rfl, hS.ext⟩

def spec_Behind.f (a0 : Spot) (a1 : Spot) : Option Bool := (spec_l01Before.f a1 a0).bind fun t3 => some t3
theorem spec_Behind.c (w : World) (a0 : Spot) (a1 : Spot) (r : Bool) (H : spec_Behind.f a0 a1 = some r) :
    CV Tryz.prog 17 [.agg (cSpot.enc a0).toArray, .agg (cSpot.enc a1).toArray].toArray w fun v w' => v = .bool r ∧ Ext w w' := by
  have hS := (St.init w no)
  unfold spec_Behind.f at H
  refine CV.body Tryz.func17 rfl Tryz.ntmps17 rfl ?_
  refine CJ.seq ?_
  refine CJ.region ?_
  refine OJ.ef rfl rfl rfl (Ef.box hS rfl rfl (cSpot.enc a0) rfl) ?_
  rintro _ w1 ⟨b1, rfl, hS⟩
  refine OJ.ef rfl rfl rfl (Ef.box hS rfl rfl (cSpot.enc a1) rfl) ?_
  rintro _ w1 ⟨b2, rfl, hS⟩
  refine OJ.pures tU_ok 1 rfl ?_
  refine OJ.nil (EJ.next ?_)
  refine CJ.seq ?_
  refine CJ.region ?_
  refine OJ.st rfl rfl rfl (SR.load rfl rfl (fun w' hx => ldE tU_ok tI_ok rfl rfl rfl (CA.ext (hS.cells (i := 1) rfl) hx) rfl)) ?_
  refine OJ.st rfl rfl rfl (SR.load rfl rfl (fun w' hx => ldE tU_ok tI_ok rfl rfl rfl (CA.ext (hS.cells (i := 0) rfl) hx) rfl)) ?_
  obtain ⟨t3, ht3, H⟩ := pbind H
  refine OJ.callF rfl rfl rfl rfl rfl hb43 rfl (spec_l01Before.c _ a1 a0 _ ht3) ?_
  rintro _ w1 ⟨rfl, hs⟩
  replace hS := hS.grow hs
  refine OJ.pures tU_ok 1 rfl ?_
  refine OJ.nil (EJ.next ?_)
  refine CJ.ret (?_)
  obtain rfl := Option.some.inj H
  exact EJ.fin rfl (.tmp rfl .nil) ⟨rfl, hS.ext⟩

def impl_GrassIn.f (k : Nat) (a0 : Pasture) : Option (Int × Int) := (impl_ValidPasture.f k a0).bind fun t2 => if (!t2) = true then (some (0, 1)) else ((impl_Pasture_all.f k a0).bind fun t3 => (impl_Pasture_sumOf.f k a0 t3).bind fun t6 => some (t6, 0))
theorem impl_GrassIn.c (k : Nat) (w : World) (a0 : Pasture) (r : Int × Int) (H : impl_GrassIn.f k a0 = some r) :
    CV Tryz.prog 18 [.agg (cPasture.enc a0).toArray].toArray w fun v w' => v = .tuple #[.int .i64 r.1, .int .i64 r.2] ∧ Ext w w' := by
  have hS := (St.init w no)
  unfold impl_GrassIn.f at H
  refine CV.body Tryz.func18 rfl Tryz.ntmps18 rfl ?_
  refine CJ.seq ?_
  refine CJ.region ?_
  refine OJ.ef rfl rfl rfl (Ef.box hS rfl rfl (cPasture.enc a0) rfl) ?_
  rintro _ w1 ⟨b1, rfl, hS⟩
  refine OJ.pures tU_ok 2 rfl ?_
  refine OJ.nil (EJ.next ?_)
  refine CJ.seq ?_
  refine CJ.seq ?_
  refine CJ.region ?_
  refine OJ.st rfl rfl rfl (SR.load rfl rfl (fun w' hx => ldE tU_ok tI_ok rfl rfl rfl (CA.ext (hS.cells (i := 0) rfl) hx) rfl)) ?_
  obtain ⟨t2, ht2, H⟩ := pbind H
  refine OJ.callF rfl rfl rfl rfl rfl hb29 rfl (impl_ValidPasture.c k _ a0 _ ht2) ?_
  rintro _ w1 ⟨rfl, hs⟩
  replace hS := hS.grow hs
  refine OJ.pures tU_ok 1 rfl ?_
  refine OJ.nil (EJ.next ?_)
  refine CJ.cond rfl (fun hb => ?_) (fun hb => ?_)
  · replace H := pif_t hb H
    refine CJ.seq ?_
    refine CJ.region ?_
    refine OJ.pures tU_ok 2 rfl ?_
    refine OJ.nil (EJ.next ?_)
    refine CJ.ret (EJ.skR (?_))
    obtain rfl := Option.some.inj H
    exact EJ.fin rfl (.tmp rfl (.tmp rfl .nil)) ⟨rfl, hS.ext⟩
  · replace H := pifb_f hb H
    refine CJ.skip (EJ.next ?_)
    refine CJ.seq ?_
    refine CJ.draw [] [0, 1, 2, 3, 4, 5] mixed (by kernel_rfl) hS fun w1 hS => ?_
    refine DJ.st rfl rfl rfl rfl rfl (SR.load rfl rfl (fun w' hx => ldE tU_ok tI_ok rfl rfl rfl (CA.ext (hS.cells (i := 0) rfl) hx) rfl)) ?_
    refine DJ.st rfl rfl rfl rfl rfl (SR.load rfl rfl (fun w' hx => ldE tU_ok tI_ok rfl rfl rfl (CA.ext (hS.cells (i := 0) rfl) hx) rfl)) ?_
    obtain ⟨t3, ht3, H⟩ := pbind H
    refine DJ.callF rfl rfl rfl rfl rfl rfl rfl hb44 rfl (impl_Pasture_all.c k _ a0 _ ht3) (by rintro v w' ⟨A4, c5, rfl, hs⟩; exact hs.ext) ?_
    rintro _ w1 ⟨A4, c5, rfl, hs⟩
    replace hS := hS.addN hs
    obtain ⟨t6, ht6, H⟩ := pbind H
    refine DJ.callF rfl rfl rfl rfl rfl rfl rfl hb40 rfl (impl_Pasture_sumOf.c k _ a0 A4 c5 t3 (hS.rd (i := 1) rfl) (hS.le (i := 1) rfl) _ ht6) (by rintro v w' ⟨rfl, hs⟩; exact hs) ?_
    rintro _ w1 ⟨rfl, hs⟩
    replace hS := hS.grow hs
    refine DJ.pures tU_ok 2 rfl ?_
    refine DJ.nil (EJ.next ?_)
    refine CJ.ret (?_)
    obtain rfl := Option.some.inj H
    exact EJ.fin rfl (.tmp rfl (.tmp rfl .nil)) ⟨rfl, hS.ext⟩
end Go.Proofs.YtggfhnipkecpmaaGreat
