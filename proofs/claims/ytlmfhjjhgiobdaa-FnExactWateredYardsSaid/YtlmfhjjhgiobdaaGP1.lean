/-
  What the functions come to.
-/
import Derived.Test.YtlmfhjjhgiobdaaGP0
namespace Go.Proofs.Ytlmfhjjhgiobdaa
open G
set_option linter.unusedVariables false
set_option linter.unusedSimpArgs false
set_option maxRecDepth 100000
set_option maxHeartbeats 4000000
def impl_Pasture_far.l2 (y6 : Int) : Nat → (Arr 10 (Arr 10 Int)) → Int → Option (Arr 10 (Arr 10 Int))
  | 0, _, _ => none
  | k + 1, y9, y10 => if y10 < 10 then ((getI y9.l y6).bind fun t11 => (getI t11.l y10).bind fun t12 => impl_Pasture_far.l2 y6 k (aset y9 y6.toNat (aset t11 y10.toNat (-1))) (IntKind.i64.wrap (y10 + 1))) else (some y9)
def impl_Pasture_far.l1 : Nat → (Arr 10 (Arr 10 Int)) → Int → Option (Arr 10 (Arr 10 Int))
  | 0, _, _ => none
  | k + 1, y5, y6 => if y6 < 10 then (((impl_Pasture_far.l2 y6 k y5 0).bind fun y8 => some y8).bind fun y7 => impl_Pasture_far.l1 k y7 (IntKind.i64.wrap (y6 + 1))) else (some y5)
def impl_Pasture_far.l3 (a1 : List Spot) : Nat → (Arr 10 (Arr 10 Int)) → Int → Option (Arr 10 (Arr 10 Int))
  | 0, _, _ => none
  | k + 1, y14, y15 => if y15 < (a1.length : Int) then ((getI a1 y15).bind fun t16 => (getI y14.l t16.Y).bind fun t18 => (getI t18.l t16.X).bind fun t19 => impl_Pasture_far.l3 a1 k (aset y14 t16.Y.toNat (aset t18 t16.X.toNat 0)) (IntKind.i64.wrap (y15 + 1))) else (some y14)
def impl_Pasture_far.l5 (a0 : Pasture) (t33 : Spot) : Nat → (Arr 10 (Arr 10 Int)) → (List Spot) → Int → Option ((Arr 10 (Arr 10 Int)) × (List Spot))
  | 0, _, _, _ => none
  | k + 1, y39, y40, y43 => if y43 < 4 then ((impl_Spot_ahead.f t33 y43).bind fun t44 => ((impl_Pasture_canGo.f a0 t33 y43).bind fun t47 => if t47 = true then ((getI y39.l t44.Y).bind fun t48 => (getI t48.l t44.X).bind fun t49 => some (decide (t49 < 0))) else (some false)).bind fun y46 => if y46 = true then ((getI y39.l t33.Y).bind fun t50 => (getI t50.l t33.X).bind fun t51 => (getI y39.l t44.Y).bind fun t52 => (getI t52.l t44.X).bind fun t53 => (chk (y40.length + ([t44] : List Spot).length ≤ 4294967296)).bind fun u55 => impl_Pasture_far.l5 a0 t33 k (aset y39 t44.Y.toNat (aset t52 t44.X.toNat (IntKind.i16.wrap (t51 + 1)))) (y40 ++ ([t44] : List Spot)) (IntKind.i64.wrap (y43 + 1))) else (impl_Pasture_far.l5 a0 t33 k y39 y40 (IntKind.i64.wrap (y43 + 1)))) else (some (y39, y40))
def impl_Pasture_far.l4 (a0 : Pasture) : Nat → (Arr 10 (Arr 10 Int)) → (List Spot) → Int → Option (Arr 10 (Arr 10 Int))
  | 0, _, _, _ => none
  | k + 1, y24, y25, y28 => if y28 < (y25.length : Int) then (((getI y25 y28).bind fun t33 => (impl_Pasture_far.l5 a0 t33 k y24 y25 0).bind fun (y35, y36) => some (y35, y36)).bind fun (y29, y30) => impl_Pasture_far.l4 a0 k y29 y30 (IntKind.i64.wrap (y28 + 1))) else (some y24)
def impl_Pasture_far.f (k : Nat) (a0 : Pasture) (a1 : List Spot) : Option (Arr 10 (Arr 10 Int)) := (impl_Pasture_far.l1 k (Arr.mk' (Arr.mk' 0 : Arr 10 Int) : Arr 10 (Arr 10 Int)) 0).bind fun y4 => (impl_Pasture_far.l3 a1 k y4 0).bind fun y13 => (slices_Clone_impl_Spot_impl_Spot.f a1).bind fun t20 => (impl_Pasture_far.l4 a0 k y13 t20 0).bind fun y23 => some y23
theorem impl_Pasture_far.c (k : Nat) (w : World) (a0 : Pasture) (Aa1 : Option Addr) (ca1 : Nat) (a1 : List Spot) (hr1 : Rd cSpot w Aa1 a1) (hc1 : a1.length ≤ ca1) (r : Arr 10 (Arr 10 Int)) (H : impl_Pasture_far.f k a0 a1 = some r) :
    CV Try.prog 60 [.agg (cPasture.enc a0).toArray, .slice Aa1 a1.length ca1].toArray w fun v w' => v = .agg ((carr 10 (carr 10 (ci .i16))).enc r).toArray ∧ Ext w w' := by
  have hS := ((St.init w no).param cSpot Aa1 ca1 a1 hr1 hc1)
  unfold impl_Pasture_far.f at H
  refine CV.body Try.func60 rfl Try.ntmps60 rfl ?_
  refine CJ.seq ?_
  refine CJ.region ?_
  refine OJ.ef rfl rfl rfl (Ef.box hS rfl rfl (cPasture.enc a0) rfl) ?_
  rintro _ w1 ⟨b1, rfl, hS⟩
  refine OJ.ef rfl rfl rfl (Ef.alloc hS tI_ok rfl rfl ((carr 10 (carr 10 (ci .i16))).enc (Arr.mk' (Arr.mk' 0 : Arr 10 Int) : Arr 10 (Arr 10 Int))) (by kernel_rfl)) ?_
  rintro _ w1 ⟨b2, rfl, hS⟩
  refine OJ.nil (EJ.next ?_)
  refine CJ.seq ?_
  refine CJ.region ?_
  refine OJ.st rfl rfl rfl (SR.buildA tU_ok tI_ok rfl rfl rfl rfl (zs := [.int .i16 0, .int .i16 0, .int .i16 0, .int .i16 0, .int .i16 0, .int .i16 0, .int .i16 0, .int .i16 0, .int .i16 0, .int .i16 0, .int .i16 0, .int .i16 0, .int .i16 0, .int .i16 0, .int .i16 0, .int .i16 0, .int .i16 0, .int .i16 0, .int .i16 0, .int .i16 0, .int .i16 0, .int .i16 0, .int .i16 0, .int .i16 0, .int .i16 0, .int .i16 0, .int .i16 0, .int .i16 0, .int .i16 0, .int .i16 0, .int .i16 0, .int .i16 0, .int .i16 0, .int .i16 0, .int .i16 0, .int .i16 0, .int .i16 0, .int .i16 0, .int .i16 0, .int .i16 0, .int .i16 0, .int .i16 0, .int .i16 0, .int .i16 0, .int .i16 0, .int .i16 0, .int .i16 0, .int .i16 0, .int .i16 0, .int .i16 0, .int .i16 0, .int .i16 0, .int .i16 0, .int .i16 0, .int .i16 0, .int .i16 0, .int .i16 0, .int .i16 0, .int .i16 0, .int .i16 0, .int .i16 0, .int .i16 0, .int .i16 0, .int .i16 0, .int .i16 0, .int .i16 0, .int .i16 0, .int .i16 0, .int .i16 0, .int .i16 0, .int .i16 0, .int .i16 0, .int .i16 0, .int .i16 0, .int .i16 0, .int .i16 0, .int .i16 0, .int .i16 0, .int .i16 0, .int .i16 0, .int .i16 0, .int .i16 0, .int .i16 0, .int .i16 0, .int .i16 0, .int .i16 0, .int .i16 0, .int .i16 0, .int .i16 0, .int .i16 0, .int .i16 0, .int .i16 0, .int .i16 0, .int .i16 0, .int .i16 0, .int .i16 0, .int .i16 0, .int .i16 0, .int .i16 0, .int .i16 0]) rfl rfl ((carr 10 (carr 10 (ci .i16))).enc (Arr.mk' (Arr.mk' 0 : Arr 10 Int) : Arr 10 (Arr 10 Int))) (by kernel_rfl)) ?_
  refine OJ.ef rfl rfl rfl (Ef.alloc hS tI_ok rfl rfl ((carr 10 (carr 10 (ci .i16))).enc (Arr.mk' (Arr.mk' 0 : Arr 10 Int) : Arr 10 (Arr 10 Int))) (by kernel_rfl)) ?_
  rintro _ w1 ⟨b3, rfl, hS⟩
  refine OJ.es rfl rfl (Es.put tI_ok hS (i := 2) rfl rfl rfl rfl rfl (vs := (carr 10 (carr 10 (ci .i16))).enc (Arr.mk' (Arr.mk' 0 : Arr 10 Int) : Arr 10 (Arr 10 Int))) rfl ((carr 10 (carr 10 (ci .i16))).len _) ((carr 10 (carr 10 (ci .i16))).one _) (Put.all (carr 10 (carr 10 (ci .i16))) (Arr.mk' (Arr.mk' 0 : Arr 10 Int) : Arr 10 (Arr 10 Int)) (Arr.mk' (Arr.mk' 0 : Arr 10 Int) : Arr 10 (Arr 10 Int))) (by (try simp only [add_lit, Nat.add_assoc, Nat.zero_add, Nat.add_zero]) <;> rfl)) ?_
  intro w1 hS
  refine OJ.nil (EJ.next ?_)
  refine CJ.seq ?_
  refine CJ.seq ?_
  refine CJ.region ?_
  refine OJ.pures tU_ok 1 rfl ?_
  refine OJ.nil (EJ.next ?_)
  obtain ⟨j128, H, K128⟩ := pbind H
  refine CJ.cut1 (fun F w1 => ∃ (y4 : Arr 10 (Arr 10 Int)) , (some y4 : Option (Arr 10 (Arr 10 Int))) = some j128 ∧ F = [(1, .slice Aa1 a1.length ca1), (2, .pointer (some ⟨b1, 0, none⟩)), (4, .pointer (some ⟨b2, 0, none⟩)), (5, .pointer (some ⟨b3, 0, none⟩))] ∧ St w no w1 [box b1 (cPasture.enc a0) 33, box b2 ((carr 10 (carr 10 (ci .i16))).enc (Arr.mk' (Arr.mk' 0 : Arr 10 Int) : Arr 10 (Arr 10 Int))) 98, box b3 ((carr 10 (carr 10 (ci .i16))).enc y4) 98] [roC cSpot Aa1 ca1 a1]) ?_ ?_
  · skip
    refine CJ.block ?_
    refine CJ.loop (fun k F w1 => ∃ (y5 : Arr 10 (Arr 10 Int)) (y6 : Int), F = [(1, .slice Aa1 a1.length ca1), (2, .pointer (some ⟨b1, 0, none⟩)), (4, .pointer (some ⟨b2, 0, none⟩)), (5, .pointer (some ⟨b3, 0, none⟩)), (15, .int .i64 y6)] ∧ St w no w1 [box b1 (cPasture.enc a0) 33, box b2 ((carr 10 (carr 10 (ci .i16))).enc (Arr.mk' (Arr.mk' 0 : Arr 10 Int) : Arr 10 (Arr 10 Int))) 98, box b3 ((carr 10 (carr 10 (ci .i16))).enc y5) 98] [roC cSpot Aa1 ca1 a1] ∧ impl_Pasture_far.l1 k y5 y6 = some j128) k (F' := [(1, .slice Aa1 a1.length ca1), (2, .pointer (some ⟨b1, 0, none⟩)), (4, .pointer (some ⟨b2, 0, none⟩)), (5, .pointer (some ⟨b3, 0, none⟩)), (15, .int .i64 0)]) ⟨rfl, rfl, rfl, rfl, rfl, trivial⟩ ⟨(Arr.mk' (Arr.mk' 0 : Arr 10 Int) : Arr 10 (Arr 10 Int)), 0, rfl, hS.pick [0, 1, 2] [0] rfl, H⟩ ?_
    rintro k F w1 ⟨y5, y6, rfl, hS, H⟩
    cases k with
    | zero => rw [impl_Pasture_far.l1] at H; cases H
    | succ k =>
      rw [impl_Pasture_far.l1] at H
      refine CJ.seq ?_
      refine CJ.region ?_
      refine OJ.pures tU_ok 1 rfl ?_
      refine OJ.nil (EJ.next ?_)
      refine CJ.seq ?_
      refine CJ.cond rfl (fun hb => ?_) (fun hb => ?_)
      · replace H := pif_t (of_decide_eq_true hb) H
        refine CJ.skip (EJ.next ?_)
        obtain ⟨j135, H, K135⟩ := pbind H
        refine CJ.cut (fun F w1 => ∃ (y7 : Arr 10 (Arr 10 Int)) , (some y7 : Option (Arr 10 (Arr 10 Int))) = some j135 ∧ F = [(1, .slice Aa1 a1.length ca1), (2, .pointer (some ⟨b1, 0, none⟩)), (4, .pointer (some ⟨b2, 0, none⟩)), (5, .pointer (some ⟨b3, 0, none⟩)), (15, .int .i64 y6)] ∧ St w no w1 [box b1 (cPasture.enc a0) 33, box b2 ((carr 10 (carr 10 (ci .i16))).enc (Arr.mk' (Arr.mk' 0 : Arr 10 Int) : Arr 10 (Arr 10 Int))) 98, box b3 ((carr 10 (carr 10 (ci .i16))).enc y7) 98] [roC cSpot Aa1 ca1 a1]) ?_ ?_
        · skip
          refine CJ.block ?_
          refine CJ.seq ?_
          refine CJ.region ?_
          refine OJ.pures tU_ok 2 rfl ?_
          refine OJ.nil (EJ.next ?_)
          refine CJ.seq ?_
          refine CJ.region ?_
          refine OJ.pures tU_ok 1 rfl ?_
          refine OJ.nil (EJ.next ?_)
          obtain ⟨j137, H, K137⟩ := pbind H
          refine CJ.cut1 (fun F w1 => ∃ (y8 : Arr 10 (Arr 10 Int)) , (some y8 : Option (Arr 10 (Arr 10 Int))) = some j137 ∧ F = [(1, .slice Aa1 a1.length ca1), (2, .pointer (some ⟨b1, 0, none⟩)), (4, .pointer (some ⟨b2, 0, none⟩)), (5, .pointer (some ⟨b3, 0, none⟩)), (15, .int .i64 y6)] ∧ St w no w1 [box b1 (cPasture.enc a0) 33, box b2 ((carr 10 (carr 10 (ci .i16))).enc (Arr.mk' (Arr.mk' 0 : Arr 10 Int) : Arr 10 (Arr 10 Int))) 98, box b3 ((carr 10 (carr 10 (ci .i16))).enc y8) 98] [roC cSpot Aa1 ca1 a1]) ?_ ?_
          · skip
            refine CJ.block ?_
            refine CJ.loop (fun k F w1 => ∃ (y9 : Arr 10 (Arr 10 Int)) (y10 : Int), F = [(1, .slice Aa1 a1.length ca1), (2, .pointer (some ⟨b1, 0, none⟩)), (4, .pointer (some ⟨b2, 0, none⟩)), (5, .pointer (some ⟨b3, 0, none⟩)), (6, .int .i64 y6), (15, .int .i64 y6), (18, .int .i64 y10)] ∧ St w no w1 [box b1 (cPasture.enc a0) 33, box b2 ((carr 10 (carr 10 (ci .i16))).enc (Arr.mk' (Arr.mk' 0 : Arr 10 Int) : Arr 10 (Arr 10 Int))) 98, box b3 ((carr 10 (carr 10 (ci .i16))).enc y9) 98] [roC cSpot Aa1 ca1 a1] ∧ impl_Pasture_far.l2 y6 k y9 y10 = some j137) k (F' := [(1, .slice Aa1 a1.length ca1), (2, .pointer (some ⟨b1, 0, none⟩)), (4, .pointer (some ⟨b2, 0, none⟩)), (5, .pointer (some ⟨b3, 0, none⟩)), (6, .int .i64 y6), (15, .int .i64 y6), (18, .int .i64 0)]) ⟨rfl, rfl, rfl, rfl, rfl, rfl, rfl, trivial⟩ ⟨y5, 0, rfl, hS.pick [0, 1, 2] [0] rfl, H⟩ ?_
            rintro k F w1 ⟨y9, y10, rfl, hS, H⟩
            cases k with
            | zero => rw [impl_Pasture_far.l2] at H; cases H
            | succ k =>
              rw [impl_Pasture_far.l2] at H
              refine CJ.seq ?_
              refine CJ.region ?_
              refine OJ.pures tU_ok 1 rfl ?_
              refine OJ.nil (EJ.next ?_)
              refine CJ.seq ?_
              refine CJ.cond rfl (fun hb => ?_) (fun hb => ?_)
              · replace H := pif_t (of_decide_eq_true hb) H
                refine CJ.skip (EJ.next ?_)
                refine CJ.seq ?_
                refine CJ.block ?_
                refine CJ.seq ?_
                refine CJ.region ?_
                refine OJ.pures tU_ok 2 rfl ?_
                refine OJ.nil (EJ.next ?_)
                refine CJ.region ?_
                refine OJ.pures tU_ok 2 rfl ?_
                obtain ⟨t11, ht11, H⟩ := pbind H
                refine OJ.st rfl rfl rfl (SR.idxA tU_ok tI_ok rfl rfl rfl rfl rfl (Arr.lt ht11)) ?_
                obtain ⟨t12, ht12, H⟩ := pbind H
                refine OJ.st rfl rfl rfl (SR.idxA tU_ok tI_ok rfl rfl rfl rfl rfl (Arr.lt ht12)) ?_
                refine OJ.es rfl rfl (Es.put tI_ok hS (i := 2) rfl rfl rfl rfl rfl (vs := (ci .i16).enc (-1)) rfl rfl (one1 rfl) (Put.idx (Put.idx (Put.all (ci .i16) t12 (-1)) ht12) ht11) (by (try simp only [add_lit, Nat.add_assoc, Nat.zero_add, Nat.add_zero]) <;> rfl)) ?_
                intro w1 hS
                refine OJ.nil (EJ.blk (EJ.next ?_))
                refine CJ.region ?_
                refine OJ.pures tU_ok 2 rfl ?_
                refine OJ.nil ?_
                exact EJ.round k (F' := [(1, .slice Aa1 a1.length ca1), (2, .pointer (some ⟨b1, 0, none⟩)), (4, .pointer (some ⟨b2, 0, none⟩)), (5, .pointer (some ⟨b3, 0, none⟩)), (6, .int .i64 y6), (15, .int .i64 y6), (18, .int .i64 (IntKind.i64.wrap (y10 + 1)))]) ⟨rfl, rfl, rfl, rfl, rfl, rfl, rfl, trivial⟩ (Nat.lt_succ_self _) ⟨(aset y9 y6.toNat (aset t11 y10.toNat (-1))), (IntKind.i64.wrap (y10 + 1)), rfl, hS.pick [0, 1, 2] [0] rfl, H⟩
              · replace H := pif_f (of_decide_eq_false hb) H
                refine CJ.exit (EJ.skE (EJ.skE (EJ.hit (?_))))
                exact EJ.meet (F' := [(1, .slice Aa1 a1.length ca1), (2, .pointer (some ⟨b1, 0, none⟩)), (4, .pointer (some ⟨b2, 0, none⟩)), (5, .pointer (some ⟨b3, 0, none⟩)), (15, .int .i64 y6)]) ⟨rfl, rfl, rfl, rfl, rfl, trivial⟩ ⟨y9, H, rfl, hS.pick [0, 1, 2] [0] rfl⟩
          · rintro F w1 ⟨y8, he, rfl, hS⟩
            obtain rfl := Option.some.inj he
            have H := K137
            refine EJ.blk (?_)
            exact EJ.meet (F' := [(1, .slice Aa1 a1.length ca1), (2, .pointer (some ⟨b1, 0, none⟩)), (4, .pointer (some ⟨b2, 0, none⟩)), (5, .pointer (some ⟨b3, 0, none⟩)), (15, .int .i64 y6)]) ⟨rfl, rfl, rfl, rfl, rfl, trivial⟩ ⟨y8, H, rfl, hS.pick [0, 1, 2] [0] rfl⟩
        · rintro F w1 ⟨y7, he, rfl, hS⟩
          obtain rfl := Option.some.inj he
          have H := K135
          refine CJ.region ?_
          refine OJ.pures tU_ok 2 rfl ?_
          refine OJ.nil ?_
          exact EJ.round k (F' := [(1, .slice Aa1 a1.length ca1), (2, .pointer (some ⟨b1, 0, none⟩)), (4, .pointer (some ⟨b2, 0, none⟩)), (5, .pointer (some ⟨b3, 0, none⟩)), (15, .int .i64 (IntKind.i64.wrap (y6 + 1)))]) ⟨rfl, rfl, rfl, rfl, rfl, trivial⟩ (Nat.lt_succ_self _) ⟨y7, (IntKind.i64.wrap (y6 + 1)), rfl, hS.pick [0, 1, 2] [0] rfl, H⟩
      · replace H := pif_f (of_decide_eq_false hb) H
        refine CJ.exit (EJ.skE (EJ.skE (EJ.hit (?_))))
        exact EJ.meet (F' := [(1, .slice Aa1 a1.length ca1), (2, .pointer (some ⟨b1, 0, none⟩)), (4, .pointer (some ⟨b2, 0, none⟩)), (5, .pointer (some ⟨b3, 0, none⟩))]) ⟨rfl, rfl, rfl, rfl, trivial⟩ ⟨y5, H, rfl, hS.pick [0, 1, 2] [0] rfl⟩
  · rintro F w1 ⟨y4, he, rfl, hS⟩
    obtain rfl := Option.some.inj he
    have H := K128
    refine EJ.next ?_
    refine CJ.seq ?_
    refine CJ.seq ?_
    refine CJ.region ?_
    refine OJ.pures tU_ok 3 rfl ?_
    refine OJ.nil (EJ.next ?_)
    obtain ⟨j138, H, K138⟩ := pbind H
    refine CJ.cut1 (fun F w1 => ∃ (y13 : Arr 10 (Arr 10 Int)) , (some y13 : Option (Arr 10 (Arr 10 Int))) = some j138 ∧ F = [(1, .slice Aa1 a1.length ca1), (2, .pointer (some ⟨b1, 0, none⟩)), (4, .pointer (some ⟨b2, 0, none⟩)), (5, .pointer (some ⟨b3, 0, none⟩))] ∧ St w no w1 [box b1 (cPasture.enc a0) 33, box b2 ((carr 10 (carr 10 (ci .i16))).enc (Arr.mk' (Arr.mk' 0 : Arr 10 Int) : Arr 10 (Arr 10 Int))) 98, box b3 ((carr 10 (carr 10 (ci .i16))).enc y13) 98] [roC cSpot Aa1 ca1 a1]) ?_ ?_
    · skip
      refine CJ.block ?_
      refine CJ.loop (fun k F w1 => ∃ (y14 : Arr 10 (Arr 10 Int)) (y15 : Int), F = [(1, .slice Aa1 a1.length ca1), (2, .pointer (some ⟨b1, 0, none⟩)), (4, .pointer (some ⟨b2, 0, none⟩)), (5, .pointer (some ⟨b3, 0, none⟩)), (27, .slice Aa1 a1.length ca1), (28, .int .i64 (a1.length : Int)), (29, .int .i64 y15)] ∧ St w no w1 [box b1 (cPasture.enc a0) 33, box b2 ((carr 10 (carr 10 (ci .i16))).enc (Arr.mk' (Arr.mk' 0 : Arr 10 Int) : Arr 10 (Arr 10 Int))) 98, box b3 ((carr 10 (carr 10 (ci .i16))).enc y14) 98] [roC cSpot Aa1 ca1 a1] ∧ impl_Pasture_far.l3 a1 k y14 y15 = some j138) k (F' := [(1, .slice Aa1 a1.length ca1), (2, .pointer (some ⟨b1, 0, none⟩)), (4, .pointer (some ⟨b2, 0, none⟩)), (5, .pointer (some ⟨b3, 0, none⟩)), (27, .slice Aa1 a1.length ca1), (28, .int .i64 (a1.length : Int)), (29, .int .i64 0)]) ⟨rfl, rfl, rfl, rfl, rfl, rfl, rfl, trivial⟩ ⟨y4, 0, rfl, hS.pick [0, 1, 2] [0] rfl, H⟩ ?_
      rintro k F w1 ⟨y14, y15, rfl, hS, H⟩
      cases k with
      | zero => rw [impl_Pasture_far.l3] at H; cases H
      | succ k =>
        rw [impl_Pasture_far.l3] at H
        refine CJ.seq ?_
        refine CJ.region ?_
        refine OJ.pures tU_ok 1 rfl ?_
        refine OJ.nil (EJ.next ?_)
        refine CJ.seq ?_
        refine CJ.cond rfl (fun hb => ?_) (fun hb => ?_)
        · replace H := pif_t (of_decide_eq_true hb) H
          refine CJ.skip (EJ.next ?_)
          refine CJ.seq ?_
          refine CJ.block ?_
          refine CJ.seq ?_
          refine CJ.region ?_
          obtain ⟨t16, ht16, H⟩ := pbind H
          obtain ⟨ad16, e16⟩ := (hS.rd' (i := 0) rfl).some' ht16
          refine OJ.st rfl rfl rfl (SR.idxS tU_ok tI_ok rfl rfl rfl rfl e16 rfl (getI_some ht16).1) ?_
          refine OJ.st rfl rfl rfl (SR.load rfl rfl (fun w' hx => ldE tU_ok tI_ok rfl rfl rfl (CA.ext ((hS.rd' (i := 0) rfl).at_ e16 ht16) hx) rfl)) ?_
          refine OJ.ef rfl rfl rfl (Ef.alloc hS tI_ok rfl rfl (cSpot.enc (⟨0, 0⟩ : Spot)) rfl) ?_
          rintro _ w1 ⟨b17, rfl, hS⟩
          refine OJ.es rfl rfl (Es.store tI_ok hS (i := 3) rfl rfl rfl rfl rfl rfl (vs := cSpot.enc t16) rfl (cSpot.len _) (cSpot.one _) (Nat.le_of_ble_eq_true rfl) (cSpot.enc t16) rfl) ?_
          intro w1 hS
          refine OJ.nil (EJ.next ?_)
          refine CJ.draw [] [0, 1, 2, 3, 4, 5, 6] mixed (by kernel_rfl) hS fun w1 hS => ?_
          refine DJ.st rfl rfl rfl rfl rfl (SR.fieldAddr tU_ok tI_ok rfl rfl rfl rfl rfl rfl) ?_
          refine DJ.st rfl rfl rfl rfl rfl (SR.load rfl rfl (fun w' hx => ld1 tU_ok rfl rfl (CA.ext (CA.sub (hS.cells (i := 3) rfl) 1) hx) rfl)) ?_
          refine DJ.st rfl rfl rfl rfl rfl (SR.fieldAddr tU_ok tI_ok rfl rfl rfl rfl rfl rfl) ?_
          refine DJ.st rfl rfl rfl rfl rfl (SR.load rfl rfl (fun w' hx => ld1 tU_ok rfl rfl (CA.ext (CA.sub (hS.cells (i := 3) rfl) 0) hx) rfl)) ?_
          obtain ⟨t18, ht18, H⟩ := pbind H
          refine DJ.st rfl rfl rfl rfl rfl (SR.idxA tU_ok tI_ok rfl rfl rfl rfl rfl (Arr.lt ht18)) ?_
          obtain ⟨t19, ht19, H⟩ := pbind H
          refine DJ.st rfl rfl rfl rfl rfl (SR.idxA tU_ok tI_ok rfl rfl rfl rfl rfl (Arr.lt ht19)) ?_
          refine DJ.es rfl rfl rfl rfl (Es.put tI_ok hS (i := 2) rfl rfl rfl rfl rfl (vs := (ci .i16).enc 0) rfl rfl (one1 rfl) (Put.idx (Put.idx (Put.all (ci .i16) t19 0) ht19) ht18) (by (try simp only [add_lit, Nat.add_assoc, Nat.zero_add, Nat.add_zero]) <;> rfl)) ?_
          intro w1 hS
          refine DJ.nil (EJ.blk (EJ.next ?_))
          refine CJ.region ?_
          refine OJ.pures tU_ok 2 rfl ?_
          refine OJ.nil ?_
          exact EJ.round k (F' := [(1, .slice Aa1 a1.length ca1), (2, .pointer (some ⟨b1, 0, none⟩)), (4, .pointer (some ⟨b2, 0, none⟩)), (5, .pointer (some ⟨b3, 0, none⟩)), (27, .slice Aa1 a1.length ca1), (28, .int .i64 (a1.length : Int)), (29, .int .i64 (IntKind.i64.wrap (y15 + 1)))]) ⟨rfl, rfl, rfl, rfl, rfl, rfl, rfl, trivial⟩ (Nat.lt_succ_self _) ⟨(aset y14 t16.Y.toNat (aset t18 t16.X.toNat 0)), (IntKind.i64.wrap (y15 + 1)), rfl, hS.pick [0, 1, 2] [0] rfl, H⟩
        · replace H := pif_f (of_decide_eq_false hb) H
          refine CJ.exit (EJ.skE (EJ.skE (EJ.hit (?_))))
          exact EJ.meet (F' := [(1, .slice Aa1 a1.length ca1), (2, .pointer (some ⟨b1, 0, none⟩)), (4, .pointer (some ⟨b2, 0, none⟩)), (5, .pointer (some ⟨b3, 0, none⟩))]) ⟨rfl, rfl, rfl, rfl, trivial⟩ ⟨y14, H, rfl, hS.pick [0, 1, 2] [0] rfl⟩
    · rintro F w1 ⟨y13, he, rfl, hS⟩
      obtain rfl := Option.some.inj he
      have H := K138
      refine EJ.next ?_
      refine CJ.seq ?_
      refine CJ.region ?_
      refine OJ.pures tU_ok 1 rfl ?_
      obtain ⟨t20, ht20, H⟩ := pbind H
      refine OJ.callF rfl rfl rfl rfl rfl hb52 rfl (slices_Clone_impl_Spot_impl_Spot.c _ Aa1 ca1 a1 (hS.rd' (i := 0) rfl) (hS.le' (i := 0) rfl) _ ht20) ?_
      rintro _ w1 ⟨A21, c22, rfl, hs⟩
      replace hS := hS.addN hs
      refine OJ.pures tU_ok 1 rfl ?_
      refine OJ.nil (EJ.next ?_)
      refine CJ.seq ?_
      refine CJ.seq ?_
      refine CJ.region ?_
      refine OJ.pures tU_ok 1 rfl ?_
      refine OJ.nil (EJ.next ?_)
      obtain ⟨j139, H, K139⟩ := pbind H
      refine CJ.cut1 (fun F w1 => ∃ (y23 : Arr 10 (Arr 10 Int)) , (some y23 : Option (Arr 10 (Arr 10 Int))) = some j139 ∧ F = [(4, .pointer (some ⟨b2, 0, none⟩)), (5, .pointer (some ⟨b3, 0, none⟩))] ∧ St w no w1 [box b2 ((carr 10 (carr 10 (ci .i16))).enc (Arr.mk' (Arr.mk' 0 : Arr 10 Int) : Arr 10 (Arr 10 Int))) 98, box b3 ((carr 10 (carr 10 (ci .i16))).enc y23) 98] [roC cSpot Aa1 ca1 a1]) ?_ ?_
      · skip
        refine CJ.block ?_
        refine CJ.loop (fun k F w1 => ∃ (y24 : Arr 10 (Arr 10 Int)) (y25 : List Spot) (y28 : Int) (A26 : Option Addr) (c27 : Nat), F = [(1, .slice A26 y25.length c27), (2, .pointer (some ⟨b1, 0, none⟩)), (4, .pointer (some ⟨b2, 0, none⟩)), (5, .pointer (some ⟨b3, 0, none⟩)), (10, .int .i64 y28)] ∧ St w no w1 [box b1 (cPasture.enc a0) 33, box b2 ((carr 10 (carr 10 (ci .i16))).enc (Arr.mk' (Arr.mk' 0 : Arr 10 Int) : Arr 10 (Arr 10 Int))) 98, box b3 ((carr 10 (carr 10 (ci .i16))).enc y24) 98, rowC cSpot A26 c27 72 y25] [roC cSpot Aa1 ca1 a1] ∧ impl_Pasture_far.l4 a0 k y24 y25 y28 = some j139) k (F' := [(1, .slice A21 t20.length c22), (2, .pointer (some ⟨b1, 0, none⟩)), (4, .pointer (some ⟨b2, 0, none⟩)), (5, .pointer (some ⟨b3, 0, none⟩)), (10, .int .i64 0)]) ⟨rfl, rfl, rfl, rfl, rfl, trivial⟩ ⟨y13, t20, 0, A21, c22, rfl, hS.pick [0, 1, 2, 3] [0] rfl, H⟩ ?_
        rintro k F w1 ⟨y24, y25, y28, A26, c27, rfl, hS, H⟩
        cases k with
        | zero => rw [impl_Pasture_far.l4] at H; cases H
        | succ k =>
          rw [impl_Pasture_far.l4] at H
          refine CJ.seq ?_
          refine CJ.seq ?_
          refine CJ.region ?_
          refine OJ.pures tU_ok 4 rfl ?_
          refine OJ.nil (EJ.next ?_)
          refine CJ.cond rfl (fun hb => ?_) (fun hb => ?_)
          · replace H := pif_t (of_decide_eq_true hb) H
            refine CJ.skip (EJ.next ?_)
            obtain ⟨j159, H, K159⟩ := pbind H
            refine CJ.cut (fun F w1 => ∃ (y29 : Arr 10 (Arr 10 Int)) (y30 : List Spot) (A31 : Option Addr) (c32 : Nat), (some (y29, y30) : Option ((Arr 10 (Arr 10 Int)) × (List Spot))) = some j159 ∧ F = [(1, .slice A31 y30.length c32), (2, .pointer (some ⟨b1, 0, none⟩)), (4, .pointer (some ⟨b2, 0, none⟩)), (5, .pointer (some ⟨b3, 0, none⟩)), (10, .int .i64 y28)] ∧ St w no w1 [box b1 (cPasture.enc a0) 33, box b2 ((carr 10 (carr 10 (ci .i16))).enc (Arr.mk' (Arr.mk' 0 : Arr 10 Int) : Arr 10 (Arr 10 Int))) 98, box b3 ((carr 10 (carr 10 (ci .i16))).enc y29) 98, rowC cSpot A31 c32 72 y30] [roC cSpot Aa1 ca1 a1]) ?_ ?_
            · skip
              refine CJ.block ?_
              refine CJ.seq ?_
              refine CJ.region ?_
              refine OJ.pures tU_ok 2 rfl ?_
              obtain ⟨t33, ht33, H⟩ := pbind H
              obtain ⟨ad33, e33⟩ := (hS.rd (i := 3) rfl).some' ht33
              refine OJ.st rfl rfl rfl (SR.idxS tU_ok tI_ok rfl rfl rfl rfl e33 rfl (getI_some ht33).1) ?_
              refine OJ.st rfl rfl rfl (SR.load rfl rfl (fun w' hx => ldE tU_ok tI_ok rfl rfl rfl (CA.ext ((hS.rd (i := 3) rfl).at_ e33 ht33) hx) rfl)) ?_
              refine OJ.ef rfl rfl rfl (Ef.alloc hS tI_ok rfl rfl (cSpot.enc (⟨0, 0⟩ : Spot)) rfl) ?_
              rintro _ w1 ⟨b34, rfl, hS⟩
              refine OJ.es rfl rfl (Es.store tI_ok hS (i := 4) rfl rfl rfl rfl rfl rfl (vs := cSpot.enc t33) rfl (cSpot.len _) (cSpot.one _) (Nat.le_of_ble_eq_true rfl) (cSpot.enc t33) rfl) ?_
              intro w1 hS
              refine OJ.nil (EJ.next ?_)
              refine CJ.seq ?_
              refine CJ.region ?_
              refine OJ.pures tU_ok 1 rfl ?_
              refine OJ.nil (EJ.next ?_)
              obtain ⟨j164, H, K164⟩ := pbind H
              refine CJ.cut1 (fun F w1 => ∃ (y35 : Arr 10 (Arr 10 Int)) (y36 : List Spot) (A37 : Option Addr) (c38 : Nat), (some (y35, y36) : Option ((Arr 10 (Arr 10 Int)) × (List Spot))) = some j164 ∧ F = [(1, .slice A37 y36.length c38), (2, .pointer (some ⟨b1, 0, none⟩)), (4, .pointer (some ⟨b2, 0, none⟩)), (5, .pointer (some ⟨b3, 0, none⟩)), (10, .int .i64 y28)] ∧ St w no w1 [box b1 (cPasture.enc a0) 33, box b2 ((carr 10 (carr 10 (ci .i16))).enc (Arr.mk' (Arr.mk' 0 : Arr 10 Int) : Arr 10 (Arr 10 Int))) 98, box b3 ((carr 10 (carr 10 (ci .i16))).enc y35) 98, rowC cSpot A37 c38 72 y36] [roC cSpot Aa1 ca1 a1]) ?_ ?_
              · skip
                refine CJ.block ?_
                refine CJ.loop (fun k F w1 => ∃ (y39 : Arr 10 (Arr 10 Int)) (y40 : List Spot) (y43 : Int) (A41 : Option Addr) (c42 : Nat), F = [(1, .slice A41 y40.length c42), (2, .pointer (some ⟨b1, 0, none⟩)), (4, .pointer (some ⟨b2, 0, none⟩)), (5, .pointer (some ⟨b3, 0, none⟩)), (10, .int .i64 y28), (11, .pointer (some ⟨b34, 0, none⟩)), (52, .int .i64 y43)] ∧ St w no w1 [box b1 (cPasture.enc a0) 33, box b2 ((carr 10 (carr 10 (ci .i16))).enc (Arr.mk' (Arr.mk' 0 : Arr 10 Int) : Arr 10 (Arr 10 Int))) 98, box b3 ((carr 10 (carr 10 (ci .i16))).enc y39) 98, rowC cSpot A41 c42 72 y40, box b34 (cSpot.enc t33) 72] [roC cSpot Aa1 ca1 a1] ∧ impl_Pasture_far.l5 a0 t33 k y39 y40 y43 = some j164) k (F' := [(1, .slice A26 y25.length c27), (2, .pointer (some ⟨b1, 0, none⟩)), (4, .pointer (some ⟨b2, 0, none⟩)), (5, .pointer (some ⟨b3, 0, none⟩)), (10, .int .i64 y28), (11, .pointer (some ⟨b34, 0, none⟩)), (52, .int .i64 0)]) ⟨rfl, rfl, rfl, rfl, rfl, rfl, rfl, trivial⟩ ⟨y24, y25, 0, A26, c27, rfl, hS.pick [0, 1, 2, 3, 4] [0] rfl, H⟩ ?_
                rintro k F w1 ⟨y39, y40, y43, A41, c42, rfl, hS, H⟩
                cases k with
                | zero => rw [impl_Pasture_far.l5] at H; cases H
                | succ k =>
                  rw [impl_Pasture_far.l5] at H
                  refine CJ.seq ?_
                  refine CJ.region ?_
                  refine OJ.pures tU_ok 1 rfl ?_
                  refine OJ.nil (EJ.next ?_)
                  refine CJ.seq ?_
                  refine CJ.cond rfl (fun hb => ?_) (fun hb => ?_)
                  · replace H := pif_t (of_decide_eq_true hb) H
                    refine CJ.skip (EJ.next ?_)
                    refine CJ.seq ?_
                    refine CJ.block ?_
                    refine CJ.seq ?_
                    refine CJ.region ?_
                    refine OJ.pures tU_ok 2 rfl ?_
                    refine OJ.nil (EJ.next ?_)
                    refine CJ.seq ?_
                    refine CJ.region ?_
                    refine OJ.st rfl rfl rfl (SR.load rfl rfl (fun w' hx => ldE tU_ok tI_ok rfl rfl rfl (CA.ext (hS.cells (i := 4) rfl) hx) rfl)) ?_
                    refine OJ.pures tU_ok 1 rfl ?_
                    obtain ⟨t44, ht44, H⟩ := pbind H
                    refine OJ.callF rfl rfl rfl rfl rfl hb65 rfl (impl_Spot_ahead.c _ t33 y43 _ ht44) ?_
                    rintro _ w1 ⟨rfl, hs⟩
                    replace hS := hS.grow hs
                    refine OJ.ef rfl rfl rfl (Ef.alloc hS tI_ok rfl rfl (cSpot.enc (⟨0, 0⟩ : Spot)) rfl) ?_
                    rintro _ w1 ⟨b45, rfl, hS⟩
                    refine OJ.es rfl rfl (Es.store tI_ok hS (i := 5) rfl rfl rfl rfl rfl rfl (vs := cSpot.enc t44) rfl (cSpot.len _) (cSpot.one _) (Nat.le_of_ble_eq_true rfl) (cSpot.enc t44) rfl) ?_
                    intro w1 hS
                    refine OJ.nil (EJ.next ?_)
                    obtain ⟨j167, H, K167⟩ := pbind H
                    refine CJ.cut (fun F w1 => ∃ (y46 : Bool) , (some y46 : Option Bool) = some j167 ∧ F = [(1, .slice A41 y40.length c42), (2, .pointer (some ⟨b1, 0, none⟩)), (4, .pointer (some ⟨b2, 0, none⟩)), (5, .pointer (some ⟨b3, 0, none⟩)), (10, .int .i64 y28), (11, .pointer (some ⟨b34, 0, none⟩)), (13, .pointer (some ⟨b45, 0, none⟩)), (52, .int .i64 y43), (71, .bool y46)] ∧ St w no w1 [box b1 (cPasture.enc a0) 33, box b2 ((carr 10 (carr 10 (ci .i16))).enc (Arr.mk' (Arr.mk' 0 : Arr 10 Int) : Arr 10 (Arr 10 Int))) 98, box b3 ((carr 10 (carr 10 (ci .i16))).enc y39) 98, rowC cSpot A41 c42 72 y40, box b34 (cSpot.enc t33) 72, box b45 (cSpot.enc t44) 72] [roC cSpot Aa1 ca1 a1]) ?_ ?_
                    · skip
                      refine CJ.draw [] [0, 1, 2, 3, 4, 5, 6, 7, 8, 9, 10, 11, 12, 13] mixed (by kernel_rfl) hS fun w1 hS => ?_
                      refine DJ.st rfl rfl rfl rfl rfl (SR.load rfl rfl (fun w' hx => ldE tU_ok tI_ok rfl rfl rfl (CA.ext (hS.cells (i := 0) rfl) hx) rfl)) ?_
                      refine DJ.st rfl rfl rfl rfl rfl (SR.load rfl rfl (fun w' hx => ldE tU_ok tI_ok rfl rfl rfl (CA.ext (hS.cells (i := 4) rfl) hx) rfl)) ?_
                      refine DJ.pures tU_ok 1 rfl ?_
                      obtain ⟨t47, ht47, H⟩ := pbind H
                      refine DJ.callF rfl rfl rfl rfl rfl rfl rfl hb66 rfl (impl_Pasture_canGo.c _ a0 t33 y43 _ ht47) (by rintro v w' ⟨rfl, hs⟩; exact hs) ?_
                      rintro _ w1 ⟨rfl, hs⟩
                      replace hS := hS.grow hs
                      refine DJ.pures tU_ok 1 rfl ?_
                      refine DJ.split (t := 62) rfl (fun hb => ?_) (fun hb => ?_)
                      · replace H := pif_t hb H
                        refine DJ.st rfl rfl rfl rfl rfl (SR.fieldAddr tU_ok tI_ok rfl rfl rfl rfl rfl rfl) ?_
                        refine DJ.st rfl rfl rfl rfl rfl (SR.load rfl rfl (fun w' hx => ld1 tU_ok rfl rfl (CA.ext (CA.sub (hS.cells (i := 5) rfl) 1) hx) rfl)) ?_
                        refine DJ.st rfl rfl rfl rfl rfl (SR.fieldAddr tU_ok tI_ok rfl rfl rfl rfl rfl rfl) ?_
                        refine DJ.st rfl rfl rfl rfl rfl (SR.load rfl rfl (fun w' hx => ld1 tU_ok rfl rfl (CA.ext (CA.sub (hS.cells (i := 5) rfl) 0) hx) rfl)) ?_
                        obtain ⟨t48, ht48, H⟩ := pbind H
                        refine DJ.st rfl rfl rfl rfl rfl (SR.idxA tU_ok tI_ok rfl rfl rfl rfl rfl (Arr.lt ht48)) ?_
                        obtain ⟨t49, ht49, H⟩ := pbind H
                        refine DJ.st rfl rfl rfl rfl rfl (SR.idxA tU_ok tI_ok rfl rfl rfl rfl rfl (Arr.lt ht49)) ?_
                        refine DJ.st rfl rfl rfl rfl rfl (SR.load rfl rfl (fun w' hx => ld1 tU_ok rfl rfl (CA.ext (CA.idx (CA.idx (hS.cells (i := 2) rfl) ht48) ht49) hx) rfl)) ?_
                        refine DJ.pures tU_ok 2 rfl ?_
                        refine DJ.nil ?_
                        exact EJ.meet (F' := [(1, .slice A41 y40.length c42), (2, .pointer (some ⟨b1, 0, none⟩)), (4, .pointer (some ⟨b2, 0, none⟩)), (5, .pointer (some ⟨b3, 0, none⟩)), (10, .int .i64 y28), (11, .pointer (some ⟨b34, 0, none⟩)), (13, .pointer (some ⟨b45, 0, none⟩)), (52, .int .i64 y43), (71, .bool (decide (t49 < 0)))]) ⟨rfl, rfl, rfl, rfl, rfl, rfl, rfl, rfl, rfl, trivial⟩ ⟨(decide (t49 < 0)), H, rfl, hS.pick [0, 1, 2, 3, 4, 5] [0] rfl⟩
                      · replace H := pifb_f hb H
                        refine DJ.pures tU_ok 9 rfl ?_
                        refine DJ.nil ?_
                        exact EJ.meet (F' := [(1, .slice A41 y40.length c42), (2, .pointer (some ⟨b1, 0, none⟩)), (4, .pointer (some ⟨b2, 0, none⟩)), (5, .pointer (some ⟨b3, 0, none⟩)), (10, .int .i64 y28), (11, .pointer (some ⟨b34, 0, none⟩)), (13, .pointer (some ⟨b45, 0, none⟩)), (52, .int .i64 y43), (71, .bool false)]) ⟨rfl, rfl, rfl, rfl, rfl, rfl, rfl, rfl, rfl, trivial⟩ ⟨false, H, rfl, hS.pick [0, 1, 2, 3, 4, 5] [0] rfl⟩
                    · rintro F w1 ⟨y46, he, rfl, hS⟩
                      obtain rfl := Option.some.inj he
                      have H := K167
                      refine CJ.cond rfl (fun hb => ?_) (fun hb => ?_)
                      · replace H := pif_t hb H
                        refine CJ.seq ?_
                        refine CJ.draw [] [0, 1, 2, 3, 4, 5, 6, 7, 8, 9, 10, 11, 12, 13, 14] mixed (by kernel_rfl) hS fun w1 hS => ?_
                        refine DJ.st rfl rfl rfl rfl rfl (SR.fieldAddr tU_ok tI_ok rfl rfl rfl rfl rfl rfl) ?_
                        refine DJ.st rfl rfl rfl rfl rfl (SR.load rfl rfl (fun w' hx => ld1 tU_ok rfl rfl (CA.ext (CA.sub (hS.cells (i := 5) rfl) 1) hx) rfl)) ?_
                        refine DJ.st rfl rfl rfl rfl rfl (SR.fieldAddr tU_ok tI_ok rfl rfl rfl rfl rfl rfl) ?_
                        refine DJ.st rfl rfl rfl rfl rfl (SR.load rfl rfl (fun w' hx => ld1 tU_ok rfl rfl (CA.ext (CA.sub (hS.cells (i := 5) rfl) 0) hx) rfl)) ?_
                        refine DJ.st rfl rfl rfl rfl rfl (SR.fieldAddr tU_ok tI_ok rfl rfl rfl rfl rfl rfl) ?_
                        refine DJ.st rfl rfl rfl rfl rfl (SR.load rfl rfl (fun w' hx => ld1 tU_ok rfl rfl (CA.ext (CA.sub (hS.cells (i := 4) rfl) 1) hx) rfl)) ?_
                        refine DJ.st rfl rfl rfl rfl rfl (SR.fieldAddr tU_ok tI_ok rfl rfl rfl rfl rfl rfl) ?_
                        refine DJ.st rfl rfl rfl rfl rfl (SR.load rfl rfl (fun w' hx => ld1 tU_ok rfl rfl (CA.ext (CA.sub (hS.cells (i := 4) rfl) 0) hx) rfl)) ?_
                        obtain ⟨t50, ht50, H⟩ := pbind H
                        refine DJ.st rfl rfl rfl rfl rfl (SR.idxA tU_ok tI_ok rfl rfl rfl rfl rfl (Arr.lt ht50)) ?_
                        obtain ⟨t51, ht51, H⟩ := pbind H
                        refine DJ.st rfl rfl rfl rfl rfl (SR.idxA tU_ok tI_ok rfl rfl rfl rfl rfl (Arr.lt ht51)) ?_
                        refine DJ.st rfl rfl rfl rfl rfl (SR.load rfl rfl (fun w' hx => ld1 tU_ok rfl rfl (CA.ext (CA.idx (CA.idx (hS.cells (i := 2) rfl) ht50) ht51) hx) rfl)) ?_
                        refine DJ.pures tU_ok 1 rfl ?_
                        obtain ⟨t52, ht52, H⟩ := pbind H
                        refine DJ.st rfl rfl rfl rfl rfl (SR.idxA tU_ok tI_ok rfl rfl rfl rfl rfl (Arr.lt ht52)) ?_
                        obtain ⟨t53, ht53, H⟩ := pbind H
                        refine DJ.st rfl rfl rfl rfl rfl (SR.idxA tU_ok tI_ok rfl rfl rfl rfl rfl (Arr.lt ht53)) ?_
                        refine DJ.es rfl rfl rfl rfl (Es.put tI_ok hS (i := 2) rfl rfl rfl rfl rfl (vs := (ci .i16).enc (IntKind.i16.wrap (t51 + 1))) rfl rfl (one1 rfl) (Put.idx (Put.idx (Put.all (ci .i16) t53 (IntKind.i16.wrap (t51 + 1))) ht53) ht52) (by (try simp only [add_lit, Nat.add_assoc, Nat.zero_add, Nat.add_zero]) <;> rfl)) ?_
                        intro w1 hS
                        refine DJ.nil (EJ.next ?_)
                        refine CJ.region ?_
                        refine OJ.pures tU_ok 1 rfl ?_
                        refine OJ.st rfl rfl rfl (SR.load rfl rfl (fun w' hx => ldE tU_ok tI_ok rfl rfl rfl (CA.ext (hS.cells (i := 5) rfl) hx) rfl)) ?_
                        refine OJ.ef rfl rfl rfl (Ef.lit tU_ok tI_ok hS (C := cSpot) rfl rfl rfl rfl rfl rfl ([t44] : List Spot) rfl rfl rfl rfl) ?_
                        rintro _ w1 ⟨A54, rfl, hS⟩
                        obtain ⟨u55, hu55, H⟩ := pbind H
                        refine OJ.ew rfl rfl rfl (Ew.append tU_ok tI_ok (C := cSpot) (xs := y40) (ys := ([t44] : List Spot)) hS (i := 3) rfl rfl rfl rfl rfl rfl rfl rfl rfl rfl rfl rfl rfl (hS.rd (i := 6) rfl) (chk_some hu55)) ?_
                        rintro _ w1 ⟨A56, c57, rfl, hS⟩
                        refine OJ.pures tU_ok 1 rfl ?_
                        refine OJ.nil (EJ.blk (EJ.next ?_))
                        refine CJ.region ?_
                        refine OJ.pures tU_ok 2 rfl ?_
                        refine OJ.nil ?_
                        exact EJ.round k (F' := [(1, .slice A56 (y40 ++ ([t44] : List Spot)).length c57), (2, .pointer (some ⟨b1, 0, none⟩)), (4, .pointer (some ⟨b2, 0, none⟩)), (5, .pointer (some ⟨b3, 0, none⟩)), (10, .int .i64 y28), (11, .pointer (some ⟨b34, 0, none⟩)), (52, .int .i64 (IntKind.i64.wrap (y43 + 1)))]) ⟨rfl, rfl, rfl, rfl, rfl, rfl, rfl, trivial⟩ (Nat.lt_succ_self _) ⟨(aset y39 t44.Y.toNat (aset t52 t44.X.toNat (IntKind.i16.wrap (t51 + 1)))), (y40 ++ ([t44] : List Spot)), (IntKind.i64.wrap (y43 + 1)), A56, c57, rfl, hS.pick [0, 1, 2, 3, 4] [0] rfl, H⟩
                      · replace H := pifb_f hb H
                        refine CJ.skip (EJ.blk (EJ.next ?_))
                        refine CJ.region ?_
                        refine OJ.pures tU_ok 2 rfl ?_
                        refine OJ.nil ?_
                        exact EJ.round k (F' := [(1, .slice A41 y40.length c42), (2, .pointer (some ⟨b1, 0, none⟩)), (4, .pointer (some ⟨b2, 0, none⟩)), (5, .pointer (some ⟨b3, 0, none⟩)), (10, .int .i64 y28), (11, .pointer (some ⟨b34, 0, none⟩)), (52, .int .i64 (IntKind.i64.wrap (y43 + 1)))]) ⟨rfl, rfl, rfl, rfl, rfl, rfl, rfl, trivial⟩ (Nat.lt_succ_self _) ⟨y39, y40, (IntKind.i64.wrap (y43 + 1)), A41, c42, rfl, hS.pick [0, 1, 2, 3, 4] [0] rfl, H⟩
                  · replace H := pif_f (of_decide_eq_false hb) H
                    refine CJ.exit (EJ.skE (EJ.skE (EJ.hit (?_))))
                    exact EJ.meet (F' := [(1, .slice A41 y40.length c42), (2, .pointer (some ⟨b1, 0, none⟩)), (4, .pointer (some ⟨b2, 0, none⟩)), (5, .pointer (some ⟨b3, 0, none⟩)), (10, .int .i64 y28)]) ⟨rfl, rfl, rfl, rfl, rfl, trivial⟩ ⟨y39, y40, A41, c42, H, rfl, hS.pick [0, 1, 2, 3] [0] rfl⟩
              · rintro F w1 ⟨y35, y36, A37, c38, he, rfl, hS⟩
                obtain rfl := Option.some.inj he
                have H := K164
                refine EJ.blk (?_)
                exact EJ.meet (F' := [(1, .slice A37 y36.length c38), (2, .pointer (some ⟨b1, 0, none⟩)), (4, .pointer (some ⟨b2, 0, none⟩)), (5, .pointer (some ⟨b3, 0, none⟩)), (10, .int .i64 y28)]) ⟨rfl, rfl, rfl, rfl, rfl, trivial⟩ ⟨y35, y36, A37, c38, H, rfl, hS.pick [0, 1, 2, 3] [0] rfl⟩
            · rintro F w1 ⟨y29, y30, A31, c32, he, rfl, hS⟩
              obtain rfl := Option.some.inj he
              have H := K159
              refine CJ.region ?_
              refine OJ.pures tU_ok 3 rfl ?_
              refine OJ.nil ?_
              exact EJ.round k (F' := [(1, .slice A31 y30.length c32), (2, .pointer (some ⟨b1, 0, none⟩)), (4, .pointer (some ⟨b2, 0, none⟩)), (5, .pointer (some ⟨b3, 0, none⟩)), (10, .int .i64 (IntKind.i64.wrap (y28 + 1)))]) ⟨rfl, rfl, rfl, rfl, rfl, trivial⟩ (Nat.lt_succ_self _) ⟨y29, y30, (IntKind.i64.wrap (y28 + 1)), A31, c32, rfl, hS.pick [0, 1, 2, 3] [0] rfl, H⟩
          · replace H := pif_f (of_decide_eq_false hb) H
            refine CJ.exit (EJ.skE (EJ.skE (EJ.hit (?_))))
            exact EJ.meet (F' := [(4, .pointer (some ⟨b2, 0, none⟩)), (5, .pointer (some ⟨b3, 0, none⟩))]) ⟨rfl, rfl, trivial⟩ ⟨y24, H, rfl, hS.pick [1, 2] [0] rfl⟩
      · rintro F w1 ⟨y23, he, rfl, hS⟩
        obtain rfl := Option.some.inj he
        have H := K139
        refine EJ.next ?_
        refine CJ.seq ?_
        refine CJ.region ?_
        refine OJ.st rfl rfl rfl (SR.load rfl rfl (fun w' hx => ldE tU_ok tI_ok rfl rfl rfl (CA.ext (hS.cells (i := 1) rfl) hx) rfl)) ?_
        refine OJ.es rfl rfl (Es.put tI_ok hS (i := 0) rfl rfl rfl rfl rfl (vs := (carr 10 (carr 10 (ci .i16))).enc y23) rfl ((carr 10 (carr 10 (ci .i16))).len _) ((carr 10 (carr 10 (ci .i16))).one _) (Put.all (carr 10 (carr 10 (ci .i16))) (Arr.mk' (Arr.mk' 0 : Arr 10 Int) : Arr 10 (Arr 10 Int)) y23) (by (try simp only [add_lit, Nat.add_assoc, Nat.zero_add, Nat.add_zero]) <;> rfl)) ?_
        intro w1 hS
        refine OJ.nil (EJ.next ?_)
        refine CJ.ret (?_)
        obtain rfl := Option.some.inj H
        exact EJ.fin rfl (.cell rfl (ldE tU_ok tI_ok rfl rfl rfl (hS.cells (i := 0) rfl) rfl) .nil) ⟨rfl, hS.ext⟩

def impl_steps_at.f (a0 : Arr 10 (Arr 10 Int)) (a1 : Spot) : Option Int := (getI a0.l a1.Y).bind fun t2 => (getI t2.l a1.X).bind fun t3 => some (IntKind.i64.wrap t3)
theorem impl_steps_at.c (w : World) (pa0 : Addr) (a0 : Arr 10 (Arr 10 Int)) (hp0 : CA w pa0 ((carr 10 (carr 10 (ci .i16))).enc a0)) (a1 : Spot) (r : Int) (H : impl_steps_at.f a0 a1 = some r) :
    CV Try.prog 62 [.pointer (some pa0), .agg (cSpot.enc a1).toArray].toArray w fun v w' => v = .int .i64 r ∧ Ext w w' := by
  have hS := ((St.init w no).paramP pa0 ((carr 10 (carr 10 (ci .i16))).enc a0) hp0)
  unfold impl_steps_at.f at H
  refine CV.body Try.func62 rfl Try.ntmps62 rfl ?_
  refine CJ.seq ?_
  refine CJ.region ?_
  refine OJ.ef rfl rfl rfl (Ef.box hS rfl rfl (cSpot.enc a1) rfl) ?_
  rintro _ w1 ⟨b1, rfl, hS⟩
  refine OJ.pures tU_ok 1 rfl ?_
  refine OJ.nil (EJ.next ?_)
  refine CJ.seq ?_
  refine CJ.draw [] [0, 1, 2, 3, 4, 5, 6, 7, 8, 9, 10] mixed (by kernel_rfl) hS fun w1 hS => ?_
  refine DJ.pures tU_ok 1 rfl ?_
  refine DJ.st rfl rfl rfl rfl rfl (SR.fieldAddr tU_ok tI_ok rfl rfl rfl rfl rfl rfl) ?_
  refine DJ.st rfl rfl rfl rfl rfl (SR.load rfl rfl (fun w' hx => ld1 tU_ok rfl rfl (CA.ext (CA.sub (hS.cells (i := 0) rfl) 1) hx) rfl)) ?_
  refine DJ.st rfl rfl rfl rfl rfl (SR.fieldAddr tU_ok tI_ok rfl rfl rfl rfl rfl rfl) ?_
  refine DJ.st rfl rfl rfl rfl rfl (SR.load rfl rfl (fun w' hx => ld1 tU_ok rfl rfl (CA.ext (CA.sub (hS.cells (i := 0) rfl) 0) hx) rfl)) ?_
  refine DJ.pures tU_ok 1 rfl ?_
  obtain ⟨t2, ht2, H⟩ := pbind H
  refine DJ.st rfl rfl rfl rfl rfl (SR.idxA tU_ok tI_ok rfl rfl rfl rfl rfl (Arr.lt ht2)) ?_
  obtain ⟨t3, ht3, H⟩ := pbind H
  refine DJ.st rfl rfl rfl rfl rfl (SR.idxA tU_ok tI_ok rfl rfl rfl rfl rfl (Arr.lt ht3)) ?_
  refine DJ.st rfl rfl rfl rfl rfl (SR.load rfl rfl (fun w' hx => ld1 tU_ok rfl rfl (CA.ext (CA.idx (CA.idx (hS.ca (i := 0) rfl) ht2) ht3) hx) rfl)) ?_
  refine DJ.pures tU_ok 2 rfl ?_
  refine DJ.nil (EJ.next ?_)
  refine CJ.ret (?_)
  obtain rfl := Option.some.inj H
  exact EJ.fin rfl (.tmp rfl .nil) ⟨rfl, hS.ext⟩

def impl_Pasture_yard_1.f (a1 : Arr 10 (Arr 10 Int)) (a0 : Spot) : Option Bool := (impl_steps_at.f a1 a0).bind fun t2 => some (decide (0 ≤ t2))
theorem impl_Pasture_yard_1.c (w : World) (pa1 : Addr) (a1 : Arr 10 (Arr 10 Int)) (hp1 : CA w pa1 ((carr 10 (carr 10 (ci .i16))).enc a1)) (a0 : Spot) (r : Bool) (H : impl_Pasture_yard_1.f a1 a0 = some r) :
    CV Try.prog 61 [.agg (cSpot.enc a0).toArray, .pointer (some pa1)].toArray w fun v w' => v = .bool r ∧ Ext w w' := by
  have hS := ((St.init w no).paramP pa1 ((carr 10 (carr 10 (ci .i16))).enc a1) hp1)
  unfold impl_Pasture_yard_1.f at H
  refine CV.body Try.func61 rfl Try.ntmps61 rfl ?_
  refine CJ.seq ?_
  refine CJ.region ?_
  refine OJ.ef rfl rfl rfl (Ef.box hS rfl rfl (cSpot.enc a0) rfl) ?_
  rintro _ w1 ⟨b1, rfl, hS⟩
  refine OJ.pures tU_ok 1 rfl ?_
  refine OJ.nil (EJ.next ?_)
  refine CJ.seq ?_
  refine CJ.region ?_
  refine OJ.st rfl rfl rfl (SR.load rfl rfl (fun w' hx => ldE tU_ok tI_ok rfl rfl rfl (CA.ext (hS.cells (i := 0) rfl) hx) rfl)) ?_
  obtain ⟨t2, ht2, H⟩ := pbind H
  refine OJ.callF rfl rfl rfl rfl rfl hb62 rfl (impl_steps_at.c _ _ a1 (hS.ca (i := 0) rfl) a0 _ ht2) ?_
  rintro _ w1 ⟨rfl, hs⟩
  replace hS := hS.grow hs
  refine OJ.pures tU_ok 2 rfl ?_
  refine OJ.nil (EJ.next ?_)
  refine CJ.ret (?_)
  obtain rfl := Option.some.inj H
  exact EJ.fin rfl (.tmp rfl .nil) ⟨rfl, hS.ext⟩

def impl_Pasture_yard.f (k : Nat) (a0 : Pasture) (a1 : Spot) : Option (List Spot) := (impl_Pasture_far.f k a0 ([a1] : List Spot)).bind fun t4 => (impl_Pasture_cells.f k a0 (impl_Pasture_yard_1.f t4)).bind fun t6 => some t6
theorem impl_Pasture_yard.c (k : Nat) (w : World) (a0 : Pasture) (a1 : Spot) (r : List Spot) (H : impl_Pasture_yard.f k a0 a1 = some r) :
    CV Try.prog 49 [.agg (cPasture.enc a0).toArray, .agg (cSpot.enc a1).toArray].toArray w fun v w' => ∃ (A0 : Option Addr) (c0 : Nat), v = .slice A0 r.length c0 ∧ St w no w' [rowC cSpot A0 c0 72 r] [] := by
  have hS := (St.init w no)
  unfold impl_Pasture_yard.f at H
  refine CV.body Try.func49 rfl Try.ntmps49 rfl ?_
  refine CJ.seq ?_
  refine CJ.region ?_
  refine OJ.ef rfl rfl rfl (Ef.box hS rfl rfl (cPasture.enc a0) rfl) ?_
  rintro _ w1 ⟨b1, rfl, hS⟩
  refine OJ.ef rfl rfl rfl (Ef.box hS rfl rfl (cSpot.enc a1) rfl) ?_
  rintro _ w1 ⟨b2, rfl, hS⟩
  refine OJ.pures tU_ok 1 rfl ?_
  refine OJ.nil (EJ.next ?_)
  refine CJ.seq ?_
  refine CJ.region ?_
  refine OJ.st rfl rfl rfl (SR.load rfl rfl (fun w' hx => ldE tU_ok tI_ok rfl rfl rfl (CA.ext (hS.cells (i := 0) rfl) hx) rfl)) ?_
  refine OJ.st rfl rfl rfl (SR.load rfl rfl (fun w' hx => ldE tU_ok tI_ok rfl rfl rfl (CA.ext (hS.cells (i := 1) rfl) hx) rfl)) ?_
  refine OJ.ef rfl rfl rfl (Ef.lit tU_ok tI_ok hS (C := cSpot) rfl rfl rfl rfl rfl rfl ([a1] : List Spot) rfl rfl rfl rfl) ?_
  rintro _ w1 ⟨A3, rfl, hS⟩
  obtain ⟨t4, ht4, H⟩ := pbind H
  refine OJ.callF rfl rfl rfl rfl rfl hb60 rfl (impl_Pasture_far.c k _ a0 A3 (([a1] : List Spot).length) ([a1] : List Spot) (hS.rd (i := 2) rfl) (hS.le (i := 2) rfl) _ ht4) ?_
  rintro _ w1 ⟨rfl, hs⟩
  replace hS := hS.grow hs
  refine OJ.ef rfl rfl rfl (Ef.alloc hS tI_ok rfl rfl ((carr 10 (carr 10 (ci .i16))).enc (Arr.mk' (Arr.mk' 0 : Arr 10 Int) : Arr 10 (Arr 10 Int))) (by kernel_rfl)) ?_
  rintro _ w1 ⟨b5, rfl, hS⟩
  refine OJ.es rfl rfl (Es.put tI_ok hS (i := 3) rfl rfl rfl rfl rfl (vs := (carr 10 (carr 10 (ci .i16))).enc t4) rfl ((carr 10 (carr 10 (ci .i16))).len _) ((carr 10 (carr 10 (ci .i16))).one _) (Put.all (carr 10 (carr 10 (ci .i16))) (Arr.mk' (Arr.mk' 0 : Arr 10 Int) : Arr 10 (Arr 10 Int)) t4) (by (try simp only [add_lit, Nat.add_assoc, Nat.zero_add, Nat.add_zero]) <;> rfl)) ?_
  intro w1 hS
  refine OJ.nil (EJ.next ?_)
  refine CJ.seq ?_
  refine CJ.region ?_
  refine OJ.st rfl rfl rfl (SR.load rfl rfl (fun w' hx => ldE tU_ok tI_ok rfl rfl rfl (CA.ext (hS.cells (i := 0) rfl) hx) rfl)) ?_
  refine OJ.pures tU_ok 1 rfl ?_
  obtain ⟨t6, ht6, H⟩ := pbind H
  refine OJ.callF rfl rfl rfl rfl rfl hb58 rfl (impl_Pasture_cells.c k _ a0 61 #[] #[.pointer (some ⟨b5, 0, none⟩)] hb61 (impl_Pasture_yard_1.f t4) (fun z0 r h w' hx => CV.cast (impl_Pasture_yard_1.c w' ⟨b5, 0, none⟩ t4 (CA.ext (hS.cells (i := 3) rfl) hx)  z0 r h) (by simp)) _ ht6) ?_
  rintro _ w1 ⟨A7, c8, rfl, hs⟩
  replace hS := hS.addN hs
  refine OJ.pures tU_ok 1 rfl ?_
  refine OJ.nil (EJ.next ?_)
  refine CJ.ret (?_)
  obtain rfl := Option.some.inj H
  exact EJ.fin rfl (.tmp rfl .nil) ⟨A7, c8, rfl, hS.pick [4] [] rfl⟩

def impl_Pasture_yards.l2 (t24 : List Spot) : Nat → (List Spot) → Int → Option (List Spot)
  | 0, _, _ => none
  | k + 1, y28, y29 => if y29 < (t24.length : Int) then ((getI t24 y29).bind fun t30 => impl_Pasture_yards.l2 t24 k (addS y28 t30) (IntKind.i64.wrap (y29 + 1))) else (some y28)
def impl_Pasture_yards.l1 (a0 : Pasture) (t4 : List Spot) : Nat → (List (List Spot)) → (List Spot) → Int → Option (List (List Spot))
  | 0, _, _, _ => none
  | k + 1, y11, y15, y16 => if y16 < (t4.length : Int) then (((getI t4 y16).bind fun t22 => if t22 ∈ y15 then (some (y11, y15)) else ((impl_Pasture_yard.f k a0 t22).bind fun t24 => (impl_Pasture_yards.l2 t24 k y15 0).bind fun y27 => (chk (y11.length + [t24].length ≤ 4294967296)).bind fun u33 => some (y11 ++ [t24], y27))).bind fun (y17, y21) => impl_Pasture_yards.l1 a0 t4 k y17 y21 (IntKind.i64.wrap (y16 + 1))) else (some y11)
def impl_Pasture_yards.f (k : Nat) (a0 : Pasture) : Option (List (List Spot)) := (impl_Pasture_all.f k a0).bind fun t4 => (impl_Pasture_yards.l1 a0 t4 k ([] : List (List Spot)) ([] : List Spot) 0).bind fun y7 => some y7
theorem impl_Pasture_yards.c (k : Nat) (w : World) (a0 : Pasture) (r : List (List Spot)) (H : impl_Pasture_yards.f k a0 = some r) :
    CV Try.prog 31 [.agg (cPasture.enc a0).toArray].toArray w fun v w' => ∃ (A0 : Option Addr) (c0 : Nat) (D0 : List SH), v = .slice A0 r.length c0 ∧ St w no w' [rowsC cSpot A0 c0 43 72 D0 r] [] := by
  have hS := (St.init w no)
  unfold impl_Pasture_yards.f at H
  refine CV.body Try.func31 rfl Try.ntmps31 rfl ?_
  refine CJ.seq ?_
  refine CJ.region ?_
  refine OJ.ef rfl rfl rfl (Ef.box hS rfl rfl (cPasture.enc a0) rfl) ?_
  rintro _ w1 ⟨b1, rfl, hS⟩
  refine OJ.pures tU_ok 1 rfl ?_
  refine OJ.nil (EJ.next ?_)
  refine CJ.seq ?_
  refine CJ.region ?_
  refine OJ.ef rfl rfl rfl (Ef.litS0 (e := 72) tU_ok tI_ok hS rfl rfl rfl rfl cSpot) ?_
  rintro _ w1 ⟨A2, rfl, hS⟩
  refine OJ.ef rfl rfl rfl (Ef.makeMap hS rfl cSpot) ?_
  rintro _ w1 ⟨b3, rfl, hS⟩
  refine OJ.pures tU_ok 2 rfl ?_
  refine OJ.nil (EJ.next ?_)
  refine CJ.seq ?_
  refine CJ.seq ?_
  refine CJ.region ?_
  refine OJ.st rfl rfl rfl (SR.load rfl rfl (fun w' hx => ldE tU_ok tI_ok rfl rfl rfl (CA.ext (hS.cells (i := 0) rfl) hx) rfl)) ?_
  obtain ⟨t4, ht4, H⟩ := pbind H
  refine OJ.callF rfl rfl rfl rfl rfl hb48 rfl (impl_Pasture_all.c k _ a0 _ ht4) ?_
  rintro _ w1 ⟨A5, c6, rfl, hs⟩
  replace hS := hS.addN hs
  refine OJ.pures tU_ok 2 rfl ?_
  refine OJ.nil (EJ.next ?_)
  obtain ⟨j126, H, K126⟩ := pbind H
  refine CJ.cut1 (fun F w1 => ∃ (y7 : List (List Spot)) (A8 : Option Addr) (c9 : Nat) (D10 : List SH), (some y7 : Option (List (List Spot))) = some j126 ∧ F = [(3, .slice A8 y7.length c9)] ∧ St w no w1 [rowsC cSpot A8 c9 43 72 D10 y7] []) ?_ ?_
  · skip
    refine CJ.block ?_
    refine CJ.loop (fun k F w1 => ∃ (y11 : List (List Spot)) (y15 : List Spot) (y16 : Int) (A12 : Option Addr) (c13 : Nat) (D14 : List SH), F = [(1, .pointer (some ⟨b1, 0, none⟩)), (3, .slice A12 y11.length c13), (4, .map (some b3)), (13, .slice A5 t4.length c6), (14, .int .i64 (t4.length : Int)), (15, .int .i64 y16)] ∧ St w no w1 [box b1 (cPasture.enc a0) 33, rowsC cSpot A12 c13 43 72 D14 y11, mapC cSpot b3 y15, rowC cSpot A5 c6 72 t4] [] ∧ impl_Pasture_yards.l1 a0 t4 k y11 y15 y16 = some j126) k (F' := [(1, .pointer (some ⟨b1, 0, none⟩)), (3, .slice A2 ([] : List (List Spot)).length (([] : List (List Spot)).length)), (4, .map (some b3)), (13, .slice A5 t4.length c6), (14, .int .i64 (t4.length : Int)), (15, .int .i64 0)]) ⟨rfl, rfl, rfl, rfl, rfl, rfl, trivial⟩ ⟨([] : List (List Spot)), ([] : List Spot), 0, A2, (([] : List (List Spot)).length), [], rfl, hS.pick [0, 1, 2, 3] [] rfl, H⟩ ?_
    rintro k F w1 ⟨y11, y15, y16, A12, c13, D14, rfl, hS, H⟩
    cases k with
    | zero => rw [impl_Pasture_yards.l1] at H; cases H
    | succ k =>
      rw [impl_Pasture_yards.l1] at H
      refine CJ.seq ?_
      refine CJ.region ?_
      refine OJ.pures tU_ok 1 rfl ?_
      refine OJ.nil (EJ.next ?_)
      refine CJ.seq ?_
      refine CJ.cond rfl (fun hb => ?_) (fun hb => ?_)
      · replace H := pif_t (of_decide_eq_true hb) H
        refine CJ.skip (EJ.next ?_)
        obtain ⟨j173, H, K173⟩ := pbind H
        refine CJ.cut (fun F w1 => ∃ (y17 : List (List Spot)) (y21 : List Spot) (A18 : Option Addr) (c19 : Nat) (D20 : List SH), (some (y17, y21) : Option ((List (List Spot)) × (List Spot))) = some j173 ∧ F = [(1, .pointer (some ⟨b1, 0, none⟩)), (3, .slice A18 y17.length c19), (4, .map (some b3)), (13, .slice A5 t4.length c6), (14, .int .i64 (t4.length : Int)), (15, .int .i64 y16)] ∧ St w no w1 [box b1 (cPasture.enc a0) 33, rowsC cSpot A18 c19 43 72 D20 y17, mapC cSpot b3 y21, rowC cSpot A5 c6 72 t4] []) ?_ ?_
        · skip
          refine CJ.block ?_
          refine CJ.seq ?_
          refine CJ.region ?_
          obtain ⟨t22, ht22, H⟩ := pbind H
          obtain ⟨ad22, e22⟩ := (hS.rd (i := 3) rfl).some' ht22
          refine OJ.st rfl rfl rfl (SR.idxS tU_ok tI_ok rfl rfl rfl rfl e22 rfl (getI_some ht22).1) ?_
          refine OJ.st rfl rfl rfl (SR.load rfl rfl (fun w' hx => ldE tU_ok tI_ok rfl rfl rfl (CA.ext ((hS.rd (i := 3) rfl).at_ e22 ht22) hx) rfl)) ?_
          refine OJ.ef rfl rfl rfl (Ef.alloc hS tI_ok rfl rfl (cSpot.enc (⟨0, 0⟩ : Spot)) rfl) ?_
          rintro _ w1 ⟨b23, rfl, hS⟩
          refine OJ.es rfl rfl (Es.store tI_ok hS (i := 4) rfl rfl rfl rfl rfl rfl (vs := cSpot.enc t22) rfl (cSpot.len _) (cSpot.one _) (Nat.le_of_ble_eq_true rfl) (cSpot.enc t22) rfl) ?_
          intro w1 hS
          refine OJ.nil (EJ.next ?_)
          refine CJ.seq ?_
          refine CJ.seq ?_
          refine CJ.region ?_
          refine OJ.pures tU_ok 1 rfl ?_
          refine OJ.st rfl rfl rfl (SR.load rfl rfl (fun w' hx => ldE tU_ok tI_ok rfl rfl rfl (CA.ext (hS.cells (i := 4) rfl) hx) rfl)) ?_
          refine OJ.st rfl rfl rfl (SR.lookup key72 (E := 4) (by kernel_rfl) (by kernel_rfl) (zero_of (E := 4) tI_ok rfl rfl) hS (i := 2) rfl rfl rfl rfl) ?_
          refine OJ.nil (EJ.next ?_)
          refine CJ.cond rfl (fun hb => ?_) (fun hb => ?_)
          · replace H := pif_t (of_decide_eq_true hb) H
            refine CJ.exit (EJ.skE (EJ.hit (?_)))
            exact EJ.meet (F' := [(1, .pointer (some ⟨b1, 0, none⟩)), (3, .slice A12 y11.length c13), (4, .map (some b3)), (13, .slice A5 t4.length c6), (14, .int .i64 (t4.length : Int)), (15, .int .i64 y16)]) ⟨rfl, rfl, rfl, rfl, rfl, rfl, trivial⟩ ⟨y11, y15, A12, c13, D14, H, rfl, hS.pick [0, 1, 2, 3] [] rfl⟩
          · replace H := pif_f (of_decide_eq_false hb) H
            refine CJ.skip (EJ.next ?_)
            refine CJ.seq ?_
            refine CJ.region ?_
            refine OJ.st rfl rfl rfl (SR.load rfl rfl (fun w' hx => ldE tU_ok tI_ok rfl rfl rfl (CA.ext (hS.cells (i := 0) rfl) hx) rfl)) ?_
            refine OJ.st rfl rfl rfl (SR.load rfl rfl (fun w' hx => ldE tU_ok tI_ok rfl rfl rfl (CA.ext (hS.cells (i := 4) rfl) hx) rfl)) ?_
            obtain ⟨t24, ht24, H⟩ := pbind H
            refine OJ.callF rfl rfl rfl rfl rfl hb49 rfl (impl_Pasture_yard.c k _ a0 t22 _ ht24) ?_
            rintro _ w1 ⟨A25, c26, rfl, hs⟩
            replace hS := hS.addN hs
            have hS : St w no w1 [box b1 (cPasture.enc a0) 33, rowsC cSpot A12 c13 43 72 D14 y11, mapC cSpot b3 y15, rowC cSpot A5 c6 72 t4, box b23 (cSpot.enc t22) 72, rowC cSpot A25 c26 72 t24] [] := hS
            refine OJ.pures tU_ok 1 rfl ?_
            refine OJ.nil (EJ.next ?_)
            refine CJ.seq ?_
            refine CJ.seq ?_
            refine CJ.region ?_
            refine OJ.pures tU_ok 3 rfl ?_
            refine OJ.nil (EJ.next ?_)
            obtain ⟨j175, H, K175⟩ := pbind H
            refine CJ.cut1 (fun F w1 => ∃ (y27 : List Spot) , (some y27 : Option (List Spot)) = some j175 ∧ F = [(1, .pointer (some ⟨b1, 0, none⟩)), (3, .slice A12 y11.length c13), (4, .map (some b3)), (7, .slice A25 t24.length c26), (13, .slice A5 t4.length c6), (14, .int .i64 (t4.length : Int)), (15, .int .i64 y16)] ∧ St w no w1 [box b1 (cPasture.enc a0) 33, rowsC cSpot A12 c13 43 72 D14 y11, mapC cSpot b3 y27, rowC cSpot A5 c6 72 t4, rowC cSpot A25 c26 72 t24] []) ?_ ?_
            · skip
              refine CJ.block ?_
              refine CJ.loop (fun k F w1 => ∃ (y28 : List Spot) (y29 : Int), F = [(1, .pointer (some ⟨b1, 0, none⟩)), (3, .slice A12 y11.length c13), (4, .map (some b3)), (7, .slice A25 t24.length c26), (13, .slice A5 t4.length c6), (14, .int .i64 (t4.length : Int)), (15, .int .i64 y16), (25, .slice A25 t24.length c26), (26, .int .i64 (t24.length : Int)), (27, .int .i64 y29)] ∧ St w no w1 [box b1 (cPasture.enc a0) 33, rowsC cSpot A12 c13 43 72 D14 y11, mapC cSpot b3 y28, rowC cSpot A5 c6 72 t4, rowC cSpot A25 c26 72 t24] [] ∧ impl_Pasture_yards.l2 t24 k y28 y29 = some j175) k (F' := [(1, .pointer (some ⟨b1, 0, none⟩)), (3, .slice A12 y11.length c13), (4, .map (some b3)), (7, .slice A25 t24.length c26), (13, .slice A5 t4.length c6), (14, .int .i64 (t4.length : Int)), (15, .int .i64 y16), (25, .slice A25 t24.length c26), (26, .int .i64 (t24.length : Int)), (27, .int .i64 0)]) ⟨rfl, rfl, rfl, rfl, rfl, rfl, rfl, rfl, rfl, rfl, trivial⟩ ⟨y15, 0, rfl, hS.pick [0, 1, 2, 3, 5] [] rfl, H⟩ ?_
              rintro k F w1 ⟨y28, y29, rfl, hS, H⟩
              cases k with
              | zero => rw [impl_Pasture_yards.l2] at H; cases H
              | succ k =>
                rw [impl_Pasture_yards.l2] at H
                refine CJ.seq ?_
                refine CJ.region ?_
                refine OJ.pures tU_ok 1 rfl ?_
                refine OJ.nil (EJ.next ?_)
                refine CJ.seq ?_
                refine CJ.cond rfl (fun hb => ?_) (fun hb => ?_)
                · replace H := pif_t (of_decide_eq_true hb) H
                  refine CJ.skip (EJ.next ?_)
                  refine CJ.seq ?_
                  refine CJ.block ?_
                  refine CJ.seq ?_
                  refine CJ.region ?_
                  obtain ⟨t30, ht30, H⟩ := pbind H
                  obtain ⟨ad30, e30⟩ := (hS.rd (i := 4) rfl).some' ht30
                  refine OJ.st rfl rfl rfl (SR.idxS tU_ok tI_ok rfl rfl rfl rfl e30 rfl (getI_some ht30).1) ?_
                  refine OJ.st rfl rfl rfl (SR.load rfl rfl (fun w' hx => ldE tU_ok tI_ok rfl rfl rfl (CA.ext ((hS.rd (i := 4) rfl).at_ e30 ht30) hx) rfl)) ?_
                  refine OJ.ef rfl rfl rfl (Ef.alloc hS tI_ok rfl rfl (cSpot.enc (⟨0, 0⟩ : Spot)) rfl) ?_
                  rintro _ w1 ⟨b31, rfl, hS⟩
                  refine OJ.es rfl rfl (Es.store tI_ok hS (i := 5) rfl rfl rfl rfl rfl rfl (vs := cSpot.enc t30) rfl (cSpot.len _) (cSpot.one _) (Nat.le_of_ble_eq_true rfl) (cSpot.enc t30) rfl) ?_
                  intro w1 hS
                  refine OJ.nil (EJ.next ?_)
                  refine CJ.region ?_
                  refine OJ.pures tU_ok 1 rfl ?_
                  refine OJ.st rfl rfl rfl (SR.load rfl rfl (fun w' hx => ldE tU_ok tI_ok rfl rfl rfl (CA.ext (hS.cells (i := 5) rfl) hx) rfl)) ?_
                  refine OJ.es rfl rfl (Es.mapUpdate key72 (E := 4) (by kernel_rfl) hS (i := 2) rfl rfl rfl rfl rfl) ?_
                  intro w1 hS
                  refine OJ.nil (EJ.blk (EJ.next ?_))
                  refine CJ.region ?_
                  refine OJ.pures tU_ok 2 rfl ?_
                  refine OJ.nil ?_
                  exact EJ.round k (F' := [(1, .pointer (some ⟨b1, 0, none⟩)), (3, .slice A12 y11.length c13), (4, .map (some b3)), (7, .slice A25 t24.length c26), (13, .slice A5 t4.length c6), (14, .int .i64 (t4.length : Int)), (15, .int .i64 y16), (25, .slice A25 t24.length c26), (26, .int .i64 (t24.length : Int)), (27, .int .i64 (IntKind.i64.wrap (y29 + 1)))]) ⟨rfl, rfl, rfl, rfl, rfl, rfl, rfl, rfl, rfl, rfl, trivial⟩ (Nat.lt_succ_self _) ⟨(addS y28 t30), (IntKind.i64.wrap (y29 + 1)), rfl, hS.pick [0, 1, 2, 3, 4] [] rfl, H⟩
                · replace H := pif_f (of_decide_eq_false hb) H
                  refine CJ.exit (EJ.skE (EJ.skE (EJ.hit (?_))))
                  exact EJ.meet (F' := [(1, .pointer (some ⟨b1, 0, none⟩)), (3, .slice A12 y11.length c13), (4, .map (some b3)), (7, .slice A25 t24.length c26), (13, .slice A5 t4.length c6), (14, .int .i64 (t4.length : Int)), (15, .int .i64 y16)]) ⟨rfl, rfl, rfl, rfl, rfl, rfl, rfl, trivial⟩ ⟨y28, H, rfl, hS.pick [0, 1, 2, 3, 4] [] rfl⟩
            · rintro F w1 ⟨y27, he, rfl, hS⟩
              obtain rfl := Option.some.inj he
              have H := K175
              refine EJ.next ?_
              refine CJ.region ?_
              refine OJ.pures tU_ok 2 rfl ?_
              refine OJ.ef rfl rfl rfl (Ef.litS1 (C := cSpot) tU_ok tI_ok hS (k := 4) rfl rfl rfl rfl rfl rfl) ?_
              rintro _ w1 ⟨A32, rfl, hS⟩
              obtain ⟨u33, hu33, H⟩ := pbind H
              have hdl := (hS.rowsRo (i := 1) rfl).1
              have dd36 := subD (D := D14) hdl (show ([(A25, c26)] : List SH)[0]? = _ from rfl)
              have xd36 := subD (D := y11) rfl (show ([t24] : List (List Spot))[0]? = _ from rfl)
              refine OJ.ew rfl rfl rfl (Ew.appendS tU_ok tI_ok hS (i := 1) (j := 5) rfl rfl rfl rfl rfl rfl rfl rfl rfl rfl rfl rfl rfl rfl (chk_some hu33)) ?_
              rintro _ w1 ⟨A34, c35, rfl, hS⟩
              refine OJ.pures tU_ok 1 rfl ?_
              refine OJ.nil (EJ.blk (?_))
              exact EJ.meet (F' := [(1, .pointer (some ⟨b1, 0, none⟩)), (3, .slice A34 (y11 ++ [t24]).length c35), (4, .map (some b3)), (13, .slice A5 t4.length c6), (14, .int .i64 (t4.length : Int)), (15, .int .i64 y16)]) ⟨rfl, rfl, rfl, rfl, rfl, rfl, trivial⟩ ⟨(y11 ++ [t24]), y27, A34, c35, (D14 ++ [(A25, c26)]), H, rfl, hS.pick [0, 1, 2, 3] [] rfl⟩
        · rintro F w1 ⟨y17, y21, A18, c19, D20, he, rfl, hS⟩
          obtain rfl := Option.some.inj he
          have H := K173
          refine CJ.region ?_
          refine OJ.pures tU_ok 2 rfl ?_
          refine OJ.nil ?_
          exact EJ.round k (F' := [(1, .pointer (some ⟨b1, 0, none⟩)), (3, .slice A18 y17.length c19), (4, .map (some b3)), (13, .slice A5 t4.length c6), (14, .int .i64 (t4.length : Int)), (15, .int .i64 (IntKind.i64.wrap (y16 + 1)))]) ⟨rfl, rfl, rfl, rfl, rfl, rfl, trivial⟩ (Nat.lt_succ_self _) ⟨y17, y21, (IntKind.i64.wrap (y16 + 1)), A18, c19, D20, rfl, hS.pick [0, 1, 2, 3] [] rfl, H⟩
      · replace H := pif_f (of_decide_eq_false hb) H
        refine CJ.exit (EJ.skE (EJ.skE (EJ.hit (?_))))
        exact EJ.meet (F' := [(3, .slice A12 y11.length c13)]) ⟨rfl, trivial⟩ ⟨y11, A12, c13, D14, H, rfl, hS.pick [1] [] rfl⟩
  · rintro F w1 ⟨y7, A8, c9, D10, he, rfl, hS⟩
    obtain rfl := Option.some.inj he
    have H := K126
    refine EJ.next ?_
    refine CJ.seq ?_
    refine CJ.region ?_
    refine OJ.pures tU_ok 2 rfl ?_
    refine OJ.nil (EJ.next ?_)
    refine CJ.ret (?_)
    obtain rfl := Option.some.inj H
    exact EJ.fin rfl (.tmp rfl .nil) ⟨A8, c9, D10, rfl, hS.pick [0] [] rfl⟩

def impl_Pasture_grass.f (a0 : Pasture) (a1 : Spot) : Option Int := (getI a0.Grass.l a1.Y).bind fun t3 => (getI t3.l a1.X).bind fun t4 => some (IntKind.i64.wrap t4)
theorem impl_Pasture_grass.c (w : World) (a0 : Pasture) (a1 : Spot) (r : Int) (H : impl_Pasture_grass.f a0 a1 = some r) :
    CV Try.prog 50 [.agg (cPasture.enc a0).toArray, .agg (cSpot.enc a1).toArray].toArray w fun v w' => v = .int .i64 r ∧ Ext w w' := by
  have hS := (St.init w no)
  unfold impl_Pasture_grass.f at H
  refine CV.body Try.func50 rfl Try.ntmps50 rfl ?_
  refine CJ.seq ?_
  refine CJ.region ?_
  refine OJ.ef rfl rfl rfl (Ef.box hS rfl rfl (cPasture.enc a0) rfl) ?_
  rintro _ w1 ⟨b1, rfl, hS⟩
  refine OJ.ef rfl rfl rfl (Ef.box hS rfl rfl (cSpot.enc a1) rfl) ?_
  rintro _ w1 ⟨b2, rfl, hS⟩
  refine OJ.pures tU_ok 1 rfl ?_
  refine OJ.nil (EJ.next ?_)
  refine CJ.seq ?_
  refine CJ.draw [] [0, 1, 2, 3, 4, 5, 6, 7, 8, 9] mixed (by kernel_rfl) hS fun w1 hS => ?_
  refine DJ.st rfl rfl rfl rfl rfl (SR.fieldAddr tU_ok tI_ok rfl rfl rfl rfl rfl rfl) ?_
  refine DJ.st rfl rfl rfl rfl rfl (SR.load rfl rfl (fun w' hx => ld1 tU_ok rfl rfl (CA.ext (CA.sub (hS.cells (i := 1) rfl) 1) hx) rfl)) ?_
  refine DJ.st rfl rfl rfl rfl rfl (SR.fieldAddr tU_ok tI_ok rfl rfl rfl rfl rfl rfl) ?_
  refine DJ.st rfl rfl rfl rfl rfl (SR.load rfl rfl (fun w' hx => ld1 tU_ok rfl rfl (CA.ext (CA.sub (hS.cells (i := 1) rfl) 0) hx) rfl)) ?_
  refine DJ.st rfl rfl rfl rfl rfl (SR.fieldAddr tU_ok tI_ok rfl rfl rfl rfl rfl rfl) ?_
  obtain ⟨t3, ht3, H⟩ := pbind H
  refine DJ.st rfl rfl rfl rfl rfl (SR.idxA tU_ok tI_ok rfl rfl rfl rfl rfl (Arr.lt ht3)) ?_
  obtain ⟨t4, ht4, H⟩ := pbind H
  refine DJ.st rfl rfl rfl rfl rfl (SR.idxA tU_ok tI_ok rfl rfl rfl rfl rfl (Arr.lt ht4)) ?_
  refine DJ.st rfl rfl rfl rfl rfl (SR.load rfl rfl (fun w' hx => ld1 tU_ok rfl rfl (CA.ext (CA.idx (CA.idx (CA.fld (hS.cells (i := 0) rfl) (mid_part (fe_Pasture_2 _) (fl_Pasture_2 _) ((carr 10 (carr 10 (ci .i16))).len _))) ht3) ht4) hx) rfl)) ?_
  refine DJ.pures tU_ok 2 rfl ?_
  refine DJ.nil (EJ.next ?_)
  refine CJ.ret (?_)
  obtain rfl := Option.some.inj H
  exact EJ.fin rfl (.tmp rfl .nil) ⟨rfl, hS.ext⟩

def impl_Pasture_sumOf.l1 (a0 : Pasture) (a1 : List Spot) : Nat → Int → Int → Option Int
  | 0, _, _ => none
  | k + 1, y3, y4 => if y4 < (a1.length : Int) then ((getI a1 y4).bind fun t5 => (impl_Pasture_grass.f a0 t5).bind fun t7 => impl_Pasture_sumOf.l1 a0 a1 k (IntKind.i64.wrap (y3 + t7)) (IntKind.i64.wrap (y4 + 1))) else (some y3)
def impl_Pasture_sumOf.f (k : Nat) (a0 : Pasture) (a1 : List Spot) : Option Int := (impl_Pasture_sumOf.l1 a0 a1 k 0 0).bind fun y2 => some y2
theorem impl_Pasture_sumOf.c (k : Nat) (w : World) (a0 : Pasture) (Aa1 : Option Addr) (ca1 : Nat) (a1 : List Spot) (hr1 : Rd cSpot w Aa1 a1) (hc1 : a1.length ≤ ca1) (r : Int) (H : impl_Pasture_sumOf.f k a0 a1 = some r) :
    CV Try.prog 32 [.agg (cPasture.enc a0).toArray, .slice Aa1 a1.length ca1].toArray w fun v w' => v = .int .i64 r ∧ Ext w w' := by
  have hS := ((St.init w no).param cSpot Aa1 ca1 a1 hr1 hc1)
  unfold impl_Pasture_sumOf.f at H
  refine CV.body Try.func32 rfl Try.ntmps32 rfl ?_
  refine CJ.seq ?_
  refine CJ.region ?_
  refine OJ.ef rfl rfl rfl (Ef.box hS rfl rfl (cPasture.enc a0) rfl) ?_
  rintro _ w1 ⟨b1, rfl, hS⟩
  refine OJ.pures tU_ok 1 rfl ?_
  refine OJ.nil (EJ.next ?_)
  refine CJ.seq ?_
  refine CJ.region ?_
  refine OJ.pures tU_ok 1 rfl ?_
  refine OJ.nil (EJ.next ?_)
  refine CJ.seq ?_
  refine CJ.seq ?_
  refine CJ.region ?_
  refine OJ.pures tU_ok 3 rfl ?_
  refine OJ.nil (EJ.next ?_)
  obtain ⟨j177, H, K177⟩ := pbind H
  refine CJ.cut1 (fun F w1 => ∃ (y2 : Int) , (some y2 : Option Int) = some j177 ∧ F = [(5, .int .i64 y2)] ∧ St w no w1 [] [roC cSpot Aa1 ca1 a1]) ?_ ?_
  · skip
    refine CJ.block ?_
    refine CJ.loop (fun k F w1 => ∃ (y3 : Int) (y4 : Int), F = [(2, .pointer (some ⟨b1, 0, none⟩)), (5, .int .i64 y3), (8, .slice Aa1 a1.length ca1), (9, .int .i64 (a1.length : Int)), (10, .int .i64 y4)] ∧ St w no w1 [box b1 (cPasture.enc a0) 33] [roC cSpot Aa1 ca1 a1] ∧ impl_Pasture_sumOf.l1 a0 a1 k y3 y4 = some j177) k (F' := [(2, .pointer (some ⟨b1, 0, none⟩)), (5, .int .i64 0), (8, .slice Aa1 a1.length ca1), (9, .int .i64 (a1.length : Int)), (10, .int .i64 0)]) ⟨rfl, rfl, rfl, rfl, rfl, trivial⟩ ⟨0, 0, rfl, hS.pick [0] [0] rfl, H⟩ ?_
    rintro k F w1 ⟨y3, y4, rfl, hS, H⟩
    cases k with
    | zero => rw [impl_Pasture_sumOf.l1] at H; cases H
    | succ k =>
      rw [impl_Pasture_sumOf.l1] at H
      refine CJ.seq ?_
      refine CJ.region ?_
      refine OJ.pures tU_ok 1 rfl ?_
      refine OJ.nil (EJ.next ?_)
      refine CJ.seq ?_
      refine CJ.cond rfl (fun hb => ?_) (fun hb => ?_)
      · replace H := pif_t (of_decide_eq_true hb) H
        refine CJ.skip (EJ.next ?_)
        refine CJ.seq ?_
        refine CJ.block ?_
        refine CJ.seq ?_
        refine CJ.region ?_
        obtain ⟨t5, ht5, H⟩ := pbind H
        obtain ⟨ad5, e5⟩ := (hS.rd' (i := 0) rfl).some' ht5
        refine OJ.st rfl rfl rfl (SR.idxS tU_ok tI_ok rfl rfl rfl rfl e5 rfl (getI_some ht5).1) ?_
        refine OJ.st rfl rfl rfl (SR.load rfl rfl (fun w' hx => ldE tU_ok tI_ok rfl rfl rfl (CA.ext ((hS.rd' (i := 0) rfl).at_ e5 ht5) hx) rfl)) ?_
        refine OJ.ef rfl rfl rfl (Ef.alloc hS tI_ok rfl rfl (cSpot.enc (⟨0, 0⟩ : Spot)) rfl) ?_
        rintro _ w1 ⟨b6, rfl, hS⟩
        refine OJ.es rfl rfl (Es.store tI_ok hS (i := 1) rfl rfl rfl rfl rfl rfl (vs := cSpot.enc t5) rfl (cSpot.len _) (cSpot.one _) (Nat.le_of_ble_eq_true rfl) (cSpot.enc t5) rfl) ?_
        intro w1 hS
        refine OJ.nil (EJ.next ?_)
        refine CJ.region ?_
        refine OJ.pures tU_ok 1 rfl ?_
        refine OJ.st rfl rfl rfl (SR.load rfl rfl (fun w' hx => ldE tU_ok tI_ok rfl rfl rfl (CA.ext (hS.cells (i := 0) rfl) hx) rfl)) ?_
        refine OJ.st rfl rfl rfl (SR.load rfl rfl (fun w' hx => ldE tU_ok tI_ok rfl rfl rfl (CA.ext (hS.cells (i := 1) rfl) hx) rfl)) ?_
        obtain ⟨t7, ht7, H⟩ := pbind H
        refine OJ.callF rfl rfl rfl rfl rfl hb50 rfl (impl_Pasture_grass.c _ a0 t5 _ ht7) ?_
        rintro _ w1 ⟨rfl, hs⟩
        replace hS := hS.grow hs
        refine OJ.pures tU_ok 2 rfl ?_
        refine OJ.nil (EJ.blk (EJ.next ?_))
        refine CJ.region ?_
        refine OJ.pures tU_ok 2 rfl ?_
        refine OJ.nil ?_
        exact EJ.round k (F' := [(2, .pointer (some ⟨b1, 0, none⟩)), (5, .int .i64 (IntKind.i64.wrap (y3 + t7))), (8, .slice Aa1 a1.length ca1), (9, .int .i64 (a1.length : Int)), (10, .int .i64 (IntKind.i64.wrap (y4 + 1)))]) ⟨rfl, rfl, rfl, rfl, rfl, trivial⟩ (Nat.lt_succ_self _) ⟨(IntKind.i64.wrap (y3 + t7)), (IntKind.i64.wrap (y4 + 1)), rfl, hS.pick [0] [0] rfl, H⟩
      · replace H := pif_f (of_decide_eq_false hb) H
        refine CJ.exit (EJ.skE (EJ.skE (EJ.hit (?_))))
        exact EJ.meet (F' := [(5, .int .i64 y3)]) ⟨rfl, trivial⟩ ⟨y3, H, rfl, hS.pick [] [0] rfl⟩
  · rintro F w1 ⟨y2, he, rfl, hS⟩
    obtain rfl := Option.some.inj he
    have H := K177
    refine EJ.next ?_
    refine CJ.seq ?_
    refine CJ.region ?_
    refine OJ.pures tU_ok 2 rfl ?_
    refine OJ.nil (EJ.next ?_)
    refine CJ.ret (?_)
    obtain rfl := Option.some.inj H
    exact EJ.fin rfl (.tmp rfl .nil) ⟨rfl, hS.ext⟩

def impl_size_impl_Spot.f (a0 : List Spot) : Option Int := some (a0.length : Int)
theorem impl_size_impl_Spot.c (w : World) (Aa0 : Option Addr) (ca0 : Nat) (a0 : List Spot) (hr0 : Rd cSpot w Aa0 a0) (hc0 : a0.length ≤ ca0) (r : Int) (H : impl_size_impl_Spot.f a0 = some r) :
    CV Try.prog 33 [.slice Aa0 a0.length ca0].toArray w fun v w' => v = .int .i64 r ∧ Ext w w' := by
  have hS := ((St.init w no).param cSpot Aa0 ca0 a0 hr0 hc0)
  unfold impl_size_impl_Spot.f at H
  refine CV.body Try.func33 rfl Try.ntmps33 rfl ?_
  refine CJ.seq ?_
  refine CJ.region ?_
  refine OJ.pures tU_ok 1 rfl ?_
  refine OJ.nil (EJ.next ?_)
  refine CJ.seq ?_
  refine CJ.region ?_
  refine OJ.pures tU_ok 3 rfl ?_
  refine OJ.nil (EJ.next ?_)
  refine CJ.ret (?_)
  obtain rfl := Option.some.inj H
  exact EJ.fin rfl (.tmp rfl .nil) ⟨rfl, hS.ext⟩

def impl_MeadowsOf.l1 (a0 : Pasture) (a1 : Int) (t8 : List (List Spot)) : Nat → (List Meadow) → Int → Option (List Meadow)
  | 0, _, _ => none
  | k + 1, y15, y18 => if y18 < (t8.length : Int) then ((getI t8 y18).bind fun t19 => (impl_Pasture_sumOf.f k a0 t19).bind fun t20 => (impl_size_impl_Spot.f t19).bind fun t21 => (chk (y15.length + ([(⟨IntKind.i16.wrap (if 1000 < t20 then 1000 else t20), IntKind.i16.wrap (if 1000 < (IntKind.i64.wrap (a1 * t21)) then 1000 else (IntKind.i64.wrap (a1 * t21))), 1000⟩ : Meadow)] : List Meadow).length ≤ 4294967296)).bind fun u23 => impl_MeadowsOf.l1 a0 a1 t8 k (y15 ++ ([(⟨IntKind.i16.wrap (if 1000 < t20 then 1000 else t20), IntKind.i16.wrap (if 1000 < (IntKind.i64.wrap (a1 * t21)) then 1000 else (IntKind.i64.wrap (a1 * t21))), 1000⟩ : Meadow)] : List Meadow)) (IntKind.i64.wrap (y18 + 1))) else (some y15)
def impl_MeadowsOf.f (k : Nat) (a0 : Pasture) (a1 : Int) : Option (List Meadow × Int) := (impl_cellCode.f k a0 []).bind fun t2 => (impl_within.f a1 0 1000).bind fun t3 => (impl_unless.f t3 2).bind fun t4 => (impl_firstOf.f k ([t2, t4] : List Int)).bind fun t6 => if t6 ≠ 0 then (some ([], t6)) else ((impl_Pasture_yards.f k a0).bind fun t8 => (impl_MeadowsOf.l1 a0 a1 t8 k ([] : List Meadow) 0).bind fun y12 => if 6 < (y12.length : Int) then (some ([], 3)) else (some (y12, 0)))
theorem impl_MeadowsOf.c (k : Nat) (w : World) (a0 : Pasture) (a1 : Int) (r : List Meadow × Int) (H : impl_MeadowsOf.f k a0 a1 = some r) :
    CV Try.prog 7 [.agg (cPasture.enc a0).toArray, .int .i64 a1].toArray w fun v w' => ∃ (A0 : Option Addr) (c0 : Nat), v = .tuple #[.slice A0 r.1.length c0, .int .i64 r.2] ∧ St w no w' [rowC cMeadow A0 c0 62 r.1] [] := by
  have hS := (St.init w no)
  unfold impl_MeadowsOf.f at H
  refine CV.body Try.func7 rfl Try.ntmps7 rfl ?_
  refine CJ.seq ?_
  refine CJ.region ?_
  refine OJ.ef rfl rfl rfl (Ef.box hS rfl rfl (cPasture.enc a0) rfl) ?_
  rintro _ w1 ⟨b1, rfl, hS⟩
  refine OJ.pures tU_ok 2 rfl ?_
  refine OJ.nil (EJ.next ?_)
  refine CJ.seq ?_
  refine CJ.seq ?_
  refine CJ.region ?_
  refine OJ.st rfl rfl rfl (SR.load rfl rfl (fun w' hx => ldE tU_ok tI_ok rfl rfl rfl (CA.ext (hS.cells (i := 0) rfl) hx) rfl)) ?_
  obtain ⟨t2, ht2, H⟩ := pbind H
  refine OJ.callF rfl rfl rfl rfl rfl hb28 rfl (impl_cellCode.c k _ a0 none 0 [] (Rd.nil cSpot _ _) (Nat.le_refl _) _ ht2) ?_
  rintro _ w1 ⟨rfl, hs⟩
  replace hS := hS.grow hs
  refine OJ.pures tU_ok 1 rfl ?_
  obtain ⟨t3, ht3, H⟩ := pbind H
  refine OJ.callF rfl rfl rfl rfl rfl hb30 rfl (impl_within.c _ a1 0 1000 _ ht3) ?_
  rintro _ w1 ⟨rfl, hs⟩
  replace hS := hS.grow hs
  obtain ⟨t4, ht4, H⟩ := pbind H
  refine OJ.callF rfl rfl rfl rfl rfl hb29 rfl (impl_unless.c _ t3 2 _ ht4) ?_
  rintro _ w1 ⟨rfl, hs⟩
  replace hS := hS.grow hs
  refine OJ.ef rfl rfl rfl (Ef.lit tU_ok tI_ok hS (C := (ci .i64)) rfl rfl rfl rfl rfl rfl ([t2, t4] : List Int) rfl rfl rfl rfl) ?_
  rintro _ w1 ⟨A5, rfl, hS⟩
  obtain ⟨t6, ht6, H⟩ := pbind H
  refine OJ.callF rfl rfl rfl rfl rfl hb27 rfl (impl_firstOf.c k _ A5 (([t2, t4] : List Int).length) ([t2, t4] : List Int) (hS.rd (i := 1) rfl) (hS.le (i := 1) rfl) _ ht6) ?_
  rintro _ w1 ⟨rfl, hs⟩
  replace hS := hS.grow hs
  refine OJ.pures tU_ok 1 rfl ?_
  refine OJ.nil (EJ.next ?_)
  refine CJ.seq ?_
  refine CJ.region ?_
  refine OJ.pures tU_ok 2 rfl ?_
  refine OJ.nil (EJ.next ?_)
  refine CJ.cond rfl (fun hb => ?_) (fun hb => ?_)
  · replace H := pif_t (of_decide_eq_true hb) H
    refine CJ.seq ?_
    refine CJ.region ?_
    refine OJ.pures tU_ok 3 rfl ?_
    refine OJ.nil (EJ.next ?_)
    refine CJ.ret (EJ.skR (?_))
    replace hS := hS.addNil cMeadow 62 none
    obtain rfl := Option.some.inj H
    exact EJ.fin rfl (.tmp rfl (.tmp rfl .nil)) ⟨none, 0, rfl, hS.pick [2] [] rfl⟩
  · replace H := pif_f (of_decide_eq_false hb) H
    refine CJ.skip (EJ.next ?_)
    refine CJ.seq ?_
    refine CJ.region ?_
    refine OJ.ef rfl rfl rfl (Ef.lit tU_ok tI_ok hS (C := cMeadow) rfl rfl rfl rfl rfl rfl ([] : List Meadow) rfl rfl rfl rfl) ?_
    rintro _ w1 ⟨A7, rfl, hS⟩
    refine OJ.pures tU_ok 1 rfl ?_
    refine OJ.nil (EJ.next ?_)
    refine CJ.seq ?_
    refine CJ.seq ?_
    refine CJ.region ?_
    refine OJ.st rfl rfl rfl (SR.load rfl rfl (fun w' hx => ldE tU_ok tI_ok rfl rfl rfl (CA.ext (hS.cells (i := 0) rfl) hx) rfl)) ?_
    obtain ⟨t8, ht8, H⟩ := pbind H
    refine OJ.callF rfl rfl rfl rfl rfl hb31 rfl (impl_Pasture_yards.c k _ a0 _ ht8) ?_
    rintro _ w1 ⟨A9, c10, D11, rfl, hs⟩
    replace hS := hS.addN hs
    refine OJ.pures tU_ok 2 rfl ?_
    refine OJ.nil (EJ.next ?_)
    obtain ⟨j176, H, K176⟩ := pbind H
    refine CJ.cut1 (fun F w1 => ∃ (y12 : List Meadow) (A13 : Option Addr) (c14 : Nat), (some y12 : Option (List Meadow)) = some j176 ∧ F = [(7, .slice A13 y12.length c14)] ∧ St w no w1 [rowC cMeadow A13 c14 62 y12] []) ?_ ?_
    · skip
      refine CJ.block ?_
      refine CJ.loop (fun k F w1 => ∃ (y15 : List Meadow) (y18 : Int) (A16 : Option Addr) (c17 : Nat), F = [(1, .int .i64 a1), (2, .pointer (some ⟨b1, 0, none⟩)), (7, .slice A16 y15.length c17), (22, .slice A9 t8.length c10), (23, .int .i64 (t8.length : Int)), (24, .int .i64 y18)] ∧ St w no w1 [box b1 (cPasture.enc a0) 33, rowC cMeadow A16 c17 62 y15, rowsC cSpot A9 c10 43 72 D11 t8] [] ∧ impl_MeadowsOf.l1 a0 a1 t8 k y15 y18 = some j176) k (F' := [(1, .int .i64 a1), (2, .pointer (some ⟨b1, 0, none⟩)), (7, .slice A7 ([] : List Meadow).length (([] : List Meadow).length)), (22, .slice A9 t8.length c10), (23, .int .i64 (t8.length : Int)), (24, .int .i64 0)]) ⟨rfl, rfl, rfl, rfl, rfl, rfl, trivial⟩ ⟨([] : List Meadow), 0, A7, (([] : List Meadow).length), rfl, hS.pick [0, 2, 3] [] rfl, H⟩ ?_
      rintro k F w1 ⟨y15, y18, A16, c17, rfl, hS, H⟩
      cases k with
      | zero => rw [impl_MeadowsOf.l1] at H; cases H
      | succ k =>
        rw [impl_MeadowsOf.l1] at H
        refine CJ.seq ?_
        refine CJ.region ?_
        refine OJ.pures tU_ok 1 rfl ?_
        refine OJ.nil (EJ.next ?_)
        refine CJ.seq ?_
        refine CJ.cond rfl (fun hb => ?_) (fun hb => ?_)
        · replace H := pif_t (of_decide_eq_true hb) H
          refine CJ.skip (EJ.next ?_)
          refine CJ.seq ?_
          refine CJ.block ?_
          refine CJ.seq ?_
          refine CJ.region ?_
          obtain ⟨t19, ht19, H⟩ := pbind H
          obtain ⟨Ae19, ce19, g19, d19, hx19⟩ := ros_el (hS.rowsRo (i := 2) rfl) ht19
          obtain ⟨ad19, e19⟩ := (ros_rd (hS.rowsRo (i := 2) rfl)).some' g19
          refine OJ.st rfl rfl rfl (SR.idxS tU_ok tI_ok rfl rfl rfl rfl e19 rfl (getI_some ht19).1) ?_
          refine OJ.st rfl rfl rfl (SR.load rfl rfl (fun w' hx => ld1 tU_ok rfl rfl (CA.ext ((ros_rd (hS.rowsRo (i := 2) rfl)).at_ e19 g19) hx) rfl)) ?_
          refine OJ.pures tU_ok 1 rfl ?_
          refine OJ.nil (EJ.next ?_)
          refine CJ.region ?_
          refine OJ.pures tU_ok 1 rfl ?_
          refine OJ.st rfl rfl rfl (SR.load rfl rfl (fun w' hx => ldE tU_ok tI_ok rfl rfl rfl (CA.ext (hS.cells (i := 0) rfl) hx) rfl)) ?_
          refine OJ.pures tU_ok 1 rfl ?_
          obtain ⟨t20, ht20, H⟩ := pbind H
          refine OJ.callF rfl rfl rfl rfl rfl hb32 rfl (impl_Pasture_sumOf.c k _ a0 Ae19 ce19 t19 (ros_sub (hS.rowsRo (i := 2) rfl) d19 hx19) (ros_subLe (hS.rowsRo (i := 2) rfl) d19 hx19) _ ht20) ?_
          rintro _ w1 ⟨rfl, hs⟩
          replace hS := hS.grow hs
          refine OJ.pures tU_ok 4 rfl ?_
          obtain ⟨t21, ht21, H⟩ := pbind H
          refine OJ.callF rfl rfl rfl rfl rfl hb33 rfl (impl_size_impl_Spot.c _ Ae19 ce19 t19 (ros_sub (hS.rowsRo (i := 2) rfl) d19 hx19) (ros_subLe (hS.rowsRo (i := 2) rfl) d19 hx19) _ ht21) ?_
          rintro _ w1 ⟨rfl, hs⟩
          replace hS := hS.grow hs
          refine OJ.pures tU_ok 3 rfl ?_
          refine OJ.st rfl rfl rfl (SR.build (C := cMeadow) tU_ok tI_ok rfl rfl rfl (zs := [.int .i16 0, .int .i16 0, .int .i16 0]) rfl rfl rfl (⟨IntKind.i16.wrap (if 1000 < t20 then 1000 else t20), IntKind.i16.wrap (if 1000 < (IntKind.i64.wrap (a1 * t21)) then 1000 else (IntKind.i64.wrap (a1 * t21))), 1000⟩ : Meadow) rfl) ?_
          refine OJ.ef rfl rfl rfl (Ef.lit tU_ok tI_ok hS (C := cMeadow) rfl rfl rfl rfl rfl rfl ([(⟨IntKind.i16.wrap (if 1000 < t20 then 1000 else t20), IntKind.i16.wrap (if 1000 < (IntKind.i64.wrap (a1 * t21)) then 1000 else (IntKind.i64.wrap (a1 * t21))), 1000⟩ : Meadow)] : List Meadow) rfl rfl rfl rfl) ?_
          rintro _ w1 ⟨A22, rfl, hS⟩
          obtain ⟨u23, hu23, H⟩ := pbind H
          refine OJ.ew rfl rfl rfl (Ew.append tU_ok tI_ok (C := cMeadow) (xs := y15) (ys := ([(⟨IntKind.i16.wrap (if 1000 < t20 then 1000 else t20), IntKind.i16.wrap (if 1000 < (IntKind.i64.wrap (a1 * t21)) then 1000 else (IntKind.i64.wrap (a1 * t21))), 1000⟩ : Meadow)] : List Meadow)) hS (i := 1) rfl rfl rfl rfl rfl rfl rfl rfl rfl rfl rfl rfl rfl (hS.rd (i := 3) rfl) (chk_some hu23)) ?_
          rintro _ w1 ⟨A24, c25, rfl, hS⟩
          refine OJ.pures tU_ok 1 rfl ?_
          refine OJ.nil (EJ.blk (EJ.next ?_))
          refine CJ.region ?_
          refine OJ.pures tU_ok 2 rfl ?_
          refine OJ.nil ?_
          exact EJ.round k (F' := [(1, .int .i64 a1), (2, .pointer (some ⟨b1, 0, none⟩)), (7, .slice A24 (y15 ++ ([(⟨IntKind.i16.wrap (if 1000 < t20 then 1000 else t20), IntKind.i16.wrap (if 1000 < (IntKind.i64.wrap (a1 * t21)) then 1000 else (IntKind.i64.wrap (a1 * t21))), 1000⟩ : Meadow)] : List Meadow)).length c25), (22, .slice A9 t8.length c10), (23, .int .i64 (t8.length : Int)), (24, .int .i64 (IntKind.i64.wrap (y18 + 1)))]) ⟨rfl, rfl, rfl, rfl, rfl, rfl, trivial⟩ (Nat.lt_succ_self _) ⟨(y15 ++ ([(⟨IntKind.i16.wrap (if 1000 < t20 then 1000 else t20), IntKind.i16.wrap (if 1000 < (IntKind.i64.wrap (a1 * t21)) then 1000 else (IntKind.i64.wrap (a1 * t21))), 1000⟩ : Meadow)] : List Meadow)), (IntKind.i64.wrap (y18 + 1)), A24, c25, rfl, hS.pick [0, 1, 2] [] rfl, H⟩
        · replace H := pif_f (of_decide_eq_false hb) H
          refine CJ.exit (EJ.skE (EJ.skE (EJ.hit (?_))))
          exact EJ.meet (F' := [(7, .slice A16 y15.length c17)]) ⟨rfl, trivial⟩ ⟨y15, A16, c17, H, rfl, hS.pick [1] [] rfl⟩
    · rintro F w1 ⟨y12, A13, c14, he, rfl, hS⟩
      obtain rfl := Option.some.inj he
      have H := K176
      refine EJ.next ?_
      refine CJ.seq ?_
      refine CJ.seq ?_
      refine CJ.region ?_
      refine OJ.pures tU_ok 3 rfl ?_
      refine OJ.nil (EJ.next ?_)
      refine CJ.cond rfl (fun hb => ?_) (fun hb => ?_)
      · replace H := pif_t (of_decide_eq_true hb) H
        refine CJ.seq ?_
        refine CJ.region ?_
        refine OJ.pures tU_ok 2 rfl ?_
        refine OJ.nil (EJ.next ?_)
        refine CJ.ret (EJ.skR (?_))
        replace hS := hS.addNil cMeadow 62 none
        obtain rfl := Option.some.inj H
        exact EJ.fin rfl (.tmp rfl (.tmp rfl .nil)) ⟨none, 0, rfl, hS.pick [1] [] rfl⟩
      · replace H := pif_f (of_decide_eq_false hb) H
        refine CJ.skip (EJ.next ?_)
        refine CJ.seq ?_
        refine CJ.region ?_
        refine OJ.pures tU_ok 3 rfl ?_
        refine OJ.nil (EJ.next ?_)
        refine CJ.ret (?_)
        obtain rfl := Option.some.inj H
        exact EJ.fin rfl (.tmp rfl (.tmp rfl .nil)) ⟨A13, c14, rfl, hS.pick [0] [] rfl⟩

def laws_eqMeadow.f (a0 : Meadow) (a1 : Meadow) : Option Bool := if a0.Grass ≠ a1.Grass then (some false) else (if a0.Grows ≠ a1.Grows then (some false) else (if a0.Most ≠ a1.Most then (some false) else (some true)))
theorem laws_eqMeadow.c (w : World) (a0 : Meadow) (a1 : Meadow) (r : Bool) (H : laws_eqMeadow.f a0 a1 = some r) :
    CV Try.prog 34 [.agg (cMeadow.enc a0).toArray, .agg (cMeadow.enc a1).toArray].toArray w fun v w' => v = .bool r ∧ Ext w w' := by
  have hS := (St.init w no)
  unfold laws_eqMeadow.f at H
  refine CV.body Try.func34 rfl Try.ntmps34 rfl ?_
  refine CJ.seq ?_
  refine CJ.region ?_
  refine OJ.ef rfl rfl rfl (Ef.box hS rfl rfl (cMeadow.enc a0) rfl) ?_
  rintro _ w1 ⟨b1, rfl, hS⟩
  refine OJ.ef rfl rfl rfl (Ef.box hS rfl rfl (cMeadow.enc a1) rfl) ?_
  rintro _ w1 ⟨b2, rfl, hS⟩
  refine OJ.pures tU_ok 1 rfl ?_
  refine OJ.nil (EJ.next ?_)
  refine CJ.seq ?_
  refine CJ.seq ?_
  refine CJ.region ?_
  refine OJ.st rfl rfl rfl (SR.fieldAddr tU_ok tI_ok rfl rfl rfl rfl rfl rfl) ?_
  refine OJ.st rfl rfl rfl (SR.load rfl rfl (fun w' hx => ld1 tU_ok rfl rfl (CA.ext (CA.sub (hS.cells (i := 0) rfl) 0) hx) rfl)) ?_
  refine OJ.st rfl rfl rfl (SR.fieldAddr tU_ok tI_ok rfl rfl rfl rfl rfl rfl) ?_
  refine OJ.st rfl rfl rfl (SR.load rfl rfl (fun w' hx => ld1 tU_ok rfl rfl (CA.ext (CA.sub (hS.cells (i := 1) rfl) 0) hx) rfl)) ?_
  refine OJ.pures tU_ok 1 rfl ?_
  refine OJ.nil (EJ.next ?_)
  refine CJ.cond rfl (fun hb => ?_) (fun hb => ?_)
  · replace H := pif_t (of_decide_eq_true hb) H
    refine CJ.seq ?_
    refine CJ.region ?_
    refine OJ.pures tU_ok 1 rfl ?_
    refine OJ.nil (EJ.next ?_)
    refine CJ.ret (EJ.skR (?_))
    obtain rfl := Option.some.inj H
    exact EJ.fin rfl (.tmp rfl .nil) ⟨rfl, hS.ext⟩
  · replace H := pif_f (of_decide_eq_false hb) H
    refine CJ.skip (EJ.next ?_)
    refine CJ.seq ?_
    refine CJ.seq ?_
    refine CJ.region ?_
    refine OJ.st rfl rfl rfl (SR.fieldAddr tU_ok tI_ok rfl rfl rfl rfl rfl rfl) ?_
    refine OJ.st rfl rfl rfl (SR.load rfl rfl (fun w' hx => ld1 tU_ok rfl rfl (CA.ext (CA.sub (hS.cells (i := 0) rfl) 1) hx) rfl)) ?_
    refine OJ.st rfl rfl rfl (SR.fieldAddr tU_ok tI_ok rfl rfl rfl rfl rfl rfl) ?_
    refine OJ.st rfl rfl rfl (SR.load rfl rfl (fun w' hx => ld1 tU_ok rfl rfl (CA.ext (CA.sub (hS.cells (i := 1) rfl) 1) hx) rfl)) ?_
    refine OJ.pures tU_ok 1 rfl ?_
    refine OJ.nil (EJ.next ?_)
    refine CJ.cond rfl (fun hb => ?_) (fun hb => ?_)
    · replace H := pif_t (of_decide_eq_true hb) H
      refine CJ.seq ?_
      refine CJ.region ?_
      refine OJ.pures tU_ok 1 rfl ?_
      refine OJ.nil (EJ.next ?_)
      refine CJ.ret (EJ.skR (?_))
      obtain rfl := Option.some.inj H
      exact EJ.fin rfl (.tmp rfl .nil) ⟨rfl, hS.ext⟩
    · replace H := pif_f (of_decide_eq_false hb) H
      refine CJ.skip (EJ.next ?_)
      refine CJ.seq ?_
      refine CJ.seq ?_
      refine CJ.region ?_
      refine OJ.st rfl rfl rfl (SR.fieldAddr tU_ok tI_ok rfl rfl rfl rfl rfl rfl) ?_
      refine OJ.st rfl rfl rfl (SR.load rfl rfl (fun w' hx => ld1 tU_ok rfl rfl (CA.ext (CA.sub (hS.cells (i := 0) rfl) 2) hx) rfl)) ?_
      refine OJ.st rfl rfl rfl (SR.fieldAddr tU_ok tI_ok rfl rfl rfl rfl rfl rfl) ?_
      refine OJ.st rfl rfl rfl (SR.load rfl rfl (fun w' hx => ld1 tU_ok rfl rfl (CA.ext (CA.sub (hS.cells (i := 1) rfl) 2) hx) rfl)) ?_
      refine OJ.pures tU_ok 1 rfl ?_
      refine OJ.nil (EJ.next ?_)
      refine CJ.cond rfl (fun hb => ?_) (fun hb => ?_)
      · replace H := pif_t (of_decide_eq_true hb) H
        refine CJ.seq ?_
        refine CJ.region ?_
        refine OJ.pures tU_ok 1 rfl ?_
        refine OJ.nil (EJ.next ?_)
        refine CJ.ret (EJ.skR (?_))
        obtain rfl := Option.some.inj H
        exact EJ.fin rfl (.tmp rfl .nil) ⟨rfl, hS.ext⟩
      · replace H := pif_f (of_decide_eq_false hb) H
        refine CJ.skip (EJ.next ?_)
        refine CJ.seq ?_
        refine CJ.region ?_
        refine OJ.pures tU_ok 1 rfl ?_
        refine OJ.nil (EJ.next ?_)
        refine CJ.ret (?_)
        obtain rfl := Option.some.inj H
        exact EJ.fin rfl (.tmp rfl .nil) ⟨rfl, hS.ext⟩

def laws_eqMeadowS.l1 (a0 : List Meadow) (a1 : List Meadow) : Nat → Int → Option (Bool ⊕ Unit)
  | 0, _ => none
  | k + 1, y1 => if y1 < (a0.length : Int) then ((getI a0 y1).bind fun t2 => (getI a1 y1).bind fun t3 => (laws_eqMeadow.f t2 t3).bind fun t4 => if (!t4) = true then (some (Sum.inl false)) else (laws_eqMeadowS.l1 a0 a1 k (IntKind.i64.wrap (y1 + 1)))) else (some (Sum.inr ()))
def laws_eqMeadowS.f (k : Nat) (a0 : List Meadow) (a1 : List Meadow) : Option Bool := if (a0.length : Int) ≠ (a1.length : Int) then (some false) else ((laws_eqMeadowS.l1 a0 a1 k 0).bind fun s179 => match s179 with | .inl r => some r | .inr _ => some true)
theorem laws_eqMeadowS.c (k : Nat) (w : World) (Aa0 : Option Addr) (ca0 : Nat) (a0 : List Meadow) (hr0 : Rd cMeadow w Aa0 a0) (hc0 : a0.length ≤ ca0) (Aa1 : Option Addr) (ca1 : Nat) (a1 : List Meadow) (hr1 : Rd cMeadow w Aa1 a1) (hc1 : a1.length ≤ ca1) (r : Bool) (H : laws_eqMeadowS.f k a0 a1 = some r) :
    CV Try.prog 8 [.slice Aa0 a0.length ca0, .slice Aa1 a1.length ca1].toArray w fun v w' => v = .bool r ∧ Ext w w' := by
  have hS := (((St.init w no).param cMeadow Aa0 ca0 a0 hr0 hc0).param cMeadow Aa1 ca1 a1 hr1 hc1)
  unfold laws_eqMeadowS.f at H
  refine CV.body Try.func8 rfl Try.ntmps8 rfl ?_
  refine CJ.seq ?_
  refine CJ.region ?_
  refine OJ.pures tU_ok 1 rfl ?_
  refine OJ.nil (EJ.next ?_)
  refine CJ.seq ?_
  refine CJ.seq ?_
  refine CJ.region ?_
  refine OJ.pures tU_ok 5 rfl ?_
  refine OJ.nil (EJ.next ?_)
  refine CJ.cond rfl (fun hb => ?_) (fun hb => ?_)
  · replace H := pif_t (of_decide_eq_true hb) H
    refine CJ.seq ?_
    refine CJ.region ?_
    refine OJ.pures tU_ok 1 rfl ?_
    refine OJ.nil (EJ.next ?_)
    refine CJ.ret (EJ.skR (?_))
    obtain rfl := Option.some.inj H
    exact EJ.fin rfl (.tmp rfl .nil) ⟨rfl, hS.ext⟩
  · replace H := pif_f (of_decide_eq_false hb) H
    refine CJ.skip (EJ.next ?_)
    refine CJ.seq ?_
    refine CJ.seq ?_
    refine CJ.region ?_
    refine OJ.pures tU_ok 1 rfl ?_
    refine OJ.nil (EJ.next ?_)
    obtain ⟨j179, H, K179⟩ := pbind H
    refine CJ.cut1 (fun F w1 => (some (Sum.inr ()) : Option (Bool ⊕ Unit)) = some j179 ∧ F = [] ∧ St w no w1 [] [roC cMeadow Aa0 ca0 a0, roC cMeadow Aa1 ca1 a1]) ?_ ?_
    · skip
      refine CJ.block ?_
      refine CJ.loop (fun k F w1 => ∃ (y1 : Int), F = [(0, .slice Aa0 a0.length ca0), (1, .slice Aa1 a1.length ca1), (5, .int .i64 y1)] ∧ St w no w1 [] [roC cMeadow Aa0 ca0 a0, roC cMeadow Aa1 ca1 a1] ∧ laws_eqMeadowS.l1 a0 a1 k y1 = some j179) k (F' := [(0, .slice Aa0 a0.length ca0), (1, .slice Aa1 a1.length ca1), (5, .int .i64 0)]) ⟨rfl, rfl, rfl, trivial⟩ ⟨0, rfl, hS.pick [] [0, 1] rfl, H⟩ ?_
      rintro k F w1 ⟨y1, rfl, hS, H⟩
      cases k with
      | zero => rw [laws_eqMeadowS.l1] at H; cases H
      | succ k =>
        rw [laws_eqMeadowS.l1] at H
        refine CJ.seq ?_
        refine CJ.seq ?_
        refine CJ.region ?_
        refine OJ.pures tU_ok 4 rfl ?_
        refine OJ.nil (EJ.next ?_)
        refine CJ.cond rfl (fun hb => ?_) (fun hb => ?_)
        · replace H := pif_t (of_decide_eq_true hb) H
          refine CJ.skip (EJ.next ?_)
          refine CJ.seq ?_
          refine CJ.block ?_
          refine CJ.seq ?_
          refine CJ.draw [] [0, 1, 2, 3, 4, 5, 6, 7, 8, 9] mixed (by kernel_rfl) hS fun w1 hS => ?_
          refine DJ.pures tU_ok 2 rfl ?_
          obtain ⟨t2, ht2, H⟩ := pbind H
          obtain ⟨ad2, e2⟩ := (hS.rd' (i := 0) rfl).some' ht2
          refine DJ.st rfl rfl rfl rfl rfl (SR.idxS tU_ok tI_ok rfl rfl rfl rfl e2 rfl (getI_some ht2).1) ?_
          refine DJ.st rfl rfl rfl rfl rfl (SR.load rfl rfl (fun w' hx => ldE tU_ok tI_ok rfl rfl rfl (CA.ext ((hS.rd' (i := 0) rfl).at_ e2 ht2) hx) rfl)) ?_
          refine DJ.pures tU_ok 2 rfl ?_
          obtain ⟨t3, ht3, H⟩ := pbind H
          obtain ⟨ad3, e3⟩ := (hS.rd' (i := 1) rfl).some' ht3
          refine DJ.st rfl rfl rfl rfl rfl (SR.idxS tU_ok tI_ok rfl rfl rfl rfl e3 rfl (getI_some ht3).1) ?_
          refine DJ.st rfl rfl rfl rfl rfl (SR.load rfl rfl (fun w' hx => ldE tU_ok tI_ok rfl rfl rfl (CA.ext ((hS.rd' (i := 1) rfl).at_ e3 ht3) hx) rfl)) ?_
          obtain ⟨t4, ht4, H⟩ := pbind H
          refine DJ.callF rfl rfl rfl rfl rfl rfl rfl hb34 rfl (laws_eqMeadow.c _ t2 t3 _ ht4) (by rintro v w' ⟨rfl, hs⟩; exact hs) ?_
          rintro _ w1 ⟨rfl, hs⟩
          replace hS := hS.grow hs
          refine DJ.pures tU_ok 1 rfl ?_
          refine DJ.nil (EJ.next ?_)
          refine CJ.cond rfl (fun hb => ?_) (fun hb => ?_)
          · replace H := pif_t hb H
            refine CJ.seq ?_
            refine CJ.region ?_
            refine OJ.pures tU_ok 1 rfl ?_
            refine OJ.nil (EJ.next ?_)
            refine CJ.ret (EJ.bkR (EJ.skR (EJ.skR (EJ.bkR (EJ.skR (EJ.skR (?_)))))))
            first | (obtain rfl := Option.some.inj H; have H := K179) | (obtain ⟨q179, H2, e179⟩ := pbind H; obtain rfl := Option.some.inj e179; obtain rfl := Option.some.inj K179; have H := H2)
            obtain rfl := Option.some.inj H
            exact EJ.fin rfl (.tmp rfl .nil) ⟨rfl, hS.ext⟩
          · replace H := pifb_f hb H
            refine CJ.skip (EJ.blk (EJ.next ?_))
            refine CJ.region ?_
            refine OJ.pures tU_ok 3 rfl ?_
            refine OJ.nil ?_
            exact EJ.round k (F' := [(0, .slice Aa0 a0.length ca0), (1, .slice Aa1 a1.length ca1), (5, .int .i64 (IntKind.i64.wrap (y1 + 1)))]) ⟨rfl, rfl, rfl, trivial⟩ (Nat.lt_succ_self _) ⟨(IntKind.i64.wrap (y1 + 1)), rfl, hS.pick [] [0, 1] rfl, H⟩
        · replace H := pif_f (of_decide_eq_false hb) H
          refine CJ.exit (EJ.skE (EJ.skE (EJ.hit (?_))))
          exact EJ.meet (F' := []) trivial ⟨H, rfl, hS.pick [] [0, 1] rfl⟩
    · rintro F w1 ⟨he, rfl, hS⟩
      obtain rfl := Option.some.inj he
      have H := K179
      refine EJ.next ?_
      refine CJ.seq ?_
      refine CJ.region ?_
      refine OJ.pures tU_ok 1 rfl ?_
      refine OJ.nil (EJ.next ?_)
      refine CJ.ret (?_)
      obtain rfl := Option.some.inj H
      exact EJ.fin rfl (.tmp rfl .nil) ⟨rfl, hS.ext⟩

def laws_markMeadowS.l1 (a0 : List Meadow) : Nat → (List Meadow) → Int → Int → Option ((List Meadow) × Int)
  | 0, _, _, _ => none
  | k + 1, y3, y4, y5 => if y5 < (a0.length : Int) then ((getI y3 y5).bind fun t6 => (getI (y3.set y5.toNat (⟨IntKind.i16.wrap y4, t6.Grows, t6.Most⟩ : Meadow)) y5).bind fun t7 => (getI ((y3.set y5.toNat (⟨IntKind.i16.wrap y4, t6.Grows, t6.Most⟩ : Meadow)).set y5.toNat (⟨t7.Grass, IntKind.i16.wrap (IntKind.i64.wrap (y4 + 1)), t7.Most⟩ : Meadow)) y5).bind fun t8 => laws_markMeadowS.l1 a0 k (((y3.set y5.toNat (⟨IntKind.i16.wrap y4, t6.Grows, t6.Most⟩ : Meadow)).set y5.toNat (⟨t7.Grass, IntKind.i16.wrap (IntKind.i64.wrap (y4 + 1)), t7.Most⟩ : Meadow)).set y5.toNat (⟨t8.Grass, t8.Grows, IntKind.i16.wrap (IntKind.i64.wrap ((IntKind.i64.wrap (y4 + 1)) + 1))⟩ : Meadow)) (IntKind.i64.wrap ((IntKind.i64.wrap ((IntKind.i64.wrap (y4 + 1)) + 1)) + 1)) (IntKind.i64.wrap (y5 + 1))) else (some (y3, y4))
def laws_markMeadowS.f (k : Nat) (a0 : List Meadow) (a1 : Int) : Option (Int × List Meadow) := (laws_markMeadowS.l1 a0 k a0 a1 0).bind fun (y1, y2) => some (y2, y1)
theorem laws_markMeadowS.c (k : Nat) (w : World) (Aa0 : Option Addr) (ca0 : Nat) (a0 : List Meadow) (a1 : Int) (hin : St w (fpU [rowC cMeadow Aa0 ca0 62 a0]) w [rowC cMeadow Aa0 ca0 62 a0] []) (r : Int × List Meadow) (H : laws_markMeadowS.f k a0 a1 = some r) :
    CV Try.prog 9 [.slice Aa0 a0.length ca0, .int .i64 a1].toArray w fun v w' => v = .int .i64 r.1 ∧ St w (fpU [rowC cMeadow Aa0 ca0 62 a0]) w' [rowC cMeadow Aa0 ca0 62 r.2] [] ∧ r.2.length = a0.length := by
  have hS := hin
  unfold laws_markMeadowS.f at H
  refine CV.body Try.func9 rfl Try.ntmps9 rfl ?_
  have hl0 : a0.length = a0.length := rfl
  refine CJ.seq ?_
  refine CJ.region ?_
  refine OJ.pures tU_ok 1 rfl ?_
  refine OJ.nil (EJ.next ?_)
  refine CJ.seq ?_
  refine CJ.seq ?_
  refine CJ.region ?_
  refine OJ.pures tU_ok 1 rfl ?_
  refine OJ.nil (EJ.next ?_)
  obtain ⟨j181, H, K181⟩ := pbind H
  refine CJ.cut1 (fun F w1 => ∃ (y1 : List Meadow) (y2 : Int) , (some (y1, y2) : Option ((List Meadow) × Int)) = some j181 ∧ F = [(1, .int .i64 y2)] ∧ St w (fpU [rowC cMeadow Aa0 ca0 62 a0]) w1 [rowC cMeadow Aa0 ca0 62 y1] [] ∧ y1.length = a0.length) ?_ ?_
  · skip
    refine CJ.block ?_
    refine CJ.loop (fun k F w1 => ∃ (y3 : List Meadow) (y4 : Int) (y5 : Int), F = [(0, .slice Aa0 a0.length ca0), (1, .int .i64 y4), (5, .int .i64 y5)] ∧ St w (fpU [rowC cMeadow Aa0 ca0 62 a0]) w1 [rowC cMeadow Aa0 ca0 62 y3] [] ∧ y3.length = a0.length ∧ laws_markMeadowS.l1 a0 k y3 y4 y5 = some j181) k (F' := [(0, .slice Aa0 a0.length ca0), (1, .int .i64 a1), (5, .int .i64 0)]) ⟨rfl, rfl, rfl, trivial⟩ ⟨a0, a1, 0, rfl, hS.pick [0] [] rfl, (by first | exact hl0 | (simp only [List.length_set]; exact hl0) | (simp only [List.length_set]; done)), H⟩ ?_
    rintro k F w1 ⟨y3, y4, y5, rfl, hS, hl0, H⟩
    cases k with
    | zero => rw [laws_markMeadowS.l1] at H; cases H
    | succ k =>
      rw [laws_markMeadowS.l1] at H
      refine CJ.seq ?_
      refine CJ.seq ?_
      refine CJ.region ?_
      refine OJ.pures tU_ok 4 rfl ?_
      refine OJ.nil (EJ.next ?_)
      refine CJ.cond rfl (fun hb => ?_) (fun hb => ?_)
      · replace H := pif_t (of_decide_eq_true hb) H
        refine CJ.skip (EJ.next ?_)
        refine CJ.seq ?_
        refine CJ.block ?_
        refine CJ.seq ?_
        refine CJ.region ?_
        refine OJ.pures tU_ok 4 rfl ?_
        obtain ⟨t6, ht6, H⟩ := pbind H
        obtain ⟨ad6, e6⟩ := (hS.rd (i := 0) rfl).some' ht6
        refine OJ.st rfl rfl rfl (SR.idxS tU_ok tI_ok rfl rfl rfl rfl e6 rfl (by have hg := (getI_some ht6).1; (first | rw [hl0] at hg | (simp only [List.length_set] at hg; rw [hl0] at hg)); exact hg)) ?_
        refine OJ.st rfl rfl rfl (SR.fieldAddr tU_ok tI_ok rfl rfl rfl rfl rfl rfl) ?_
        refine OJ.es rfl rfl (Es.storeR tI_ok hS (i := 0) (off := 0) rfl rfl ht6 e6 rfl (add_add _ _ _) rfl rfl (vs := (ci .i16).enc (IntKind.i16.wrap y4)) rfl rfl (one1 rfl) (Nat.le_of_ble_eq_true rfl) (⟨IntKind.i16.wrap y4, t6.Grows, t6.Most⟩ : Meadow) rfl) ?_
        intro w1 hS
        refine OJ.nil (EJ.next ?_)
        refine CJ.seq ?_
        refine CJ.region ?_
        refine OJ.pures tU_ok 3 rfl ?_
        refine OJ.nil (EJ.next ?_)
        refine CJ.seq ?_
        refine CJ.region ?_
        refine OJ.pures tU_ok 4 rfl ?_
        obtain ⟨t7, ht7, H⟩ := pbind H
        obtain ⟨ad7, e7⟩ := (hS.rd (i := 0) rfl).some' ht7
        refine OJ.st rfl rfl rfl (SR.idxS tU_ok tI_ok rfl rfl rfl rfl e7 rfl (by have hg := (getI_some ht7).1; (first | rw [hl0] at hg | (simp only [List.length_set] at hg; rw [hl0] at hg)); exact hg)) ?_
        refine OJ.st rfl rfl rfl (SR.fieldAddr tU_ok tI_ok rfl rfl rfl rfl rfl rfl) ?_
        refine OJ.es rfl rfl (Es.storeR tI_ok hS (i := 0) (off := 1) rfl rfl ht7 e7 rfl (add_add _ _ _) rfl rfl (vs := (ci .i16).enc (IntKind.i16.wrap (IntKind.i64.wrap (y4 + 1)))) rfl rfl (one1 rfl) (Nat.le_of_ble_eq_true rfl) (⟨t7.Grass, IntKind.i16.wrap (IntKind.i64.wrap (y4 + 1)), t7.Most⟩ : Meadow) rfl) ?_
        intro w1 hS
        refine OJ.nil (EJ.next ?_)
        refine CJ.seq ?_
        refine CJ.region ?_
        refine OJ.pures tU_ok 3 rfl ?_
        refine OJ.nil (EJ.next ?_)
        refine CJ.seq ?_
        refine CJ.region ?_
        refine OJ.pures tU_ok 4 rfl ?_
        obtain ⟨t8, ht8, H⟩ := pbind H
        obtain ⟨ad8, e8⟩ := (hS.rd (i := 0) rfl).some' ht8
        refine OJ.st rfl rfl rfl (SR.idxS tU_ok tI_ok rfl rfl rfl rfl e8 rfl (by have hg := (getI_some ht8).1; (first | rw [hl0] at hg | (simp only [List.length_set] at hg; rw [hl0] at hg)); exact hg)) ?_
        refine OJ.st rfl rfl rfl (SR.fieldAddr tU_ok tI_ok rfl rfl rfl rfl rfl rfl) ?_
        refine OJ.es rfl rfl (Es.storeR tI_ok hS (i := 0) (off := 2) rfl rfl ht8 e8 rfl (add_add _ _ _) rfl rfl (vs := (ci .i16).enc (IntKind.i16.wrap (IntKind.i64.wrap ((IntKind.i64.wrap (y4 + 1)) + 1)))) rfl rfl (one1 rfl) (Nat.le_of_ble_eq_true rfl) (⟨t8.Grass, t8.Grows, IntKind.i16.wrap (IntKind.i64.wrap ((IntKind.i64.wrap (y4 + 1)) + 1))⟩ : Meadow) rfl) ?_
        intro w1 hS
        refine OJ.nil (EJ.next ?_)
        refine CJ.region ?_
        refine OJ.pures tU_ok 3 rfl ?_
        refine OJ.nil (EJ.blk (EJ.next ?_))
        refine CJ.region ?_
        refine OJ.pures tU_ok 3 rfl ?_
        refine OJ.nil ?_
        exact EJ.round k (F' := [(0, .slice Aa0 a0.length ca0), (1, .int .i64 (IntKind.i64.wrap ((IntKind.i64.wrap ((IntKind.i64.wrap (y4 + 1)) + 1)) + 1))), (5, .int .i64 (IntKind.i64.wrap (y5 + 1)))]) ⟨rfl, rfl, rfl, trivial⟩ (Nat.lt_succ_self _) ⟨(((y3.set y5.toNat (⟨IntKind.i16.wrap y4, t6.Grows, t6.Most⟩ : Meadow)).set y5.toNat (⟨t7.Grass, IntKind.i16.wrap (IntKind.i64.wrap (y4 + 1)), t7.Most⟩ : Meadow)).set y5.toNat (⟨t8.Grass, t8.Grows, IntKind.i16.wrap (IntKind.i64.wrap ((IntKind.i64.wrap (y4 + 1)) + 1))⟩ : Meadow)), (IntKind.i64.wrap ((IntKind.i64.wrap ((IntKind.i64.wrap (y4 + 1)) + 1)) + 1)), (IntKind.i64.wrap (y5 + 1)), rfl, hS.pick [0] [] rfl, (by first | exact hl0 | (simp only [List.length_set]; exact hl0) | (simp only [List.length_set]; done)), H⟩
      · replace H := pif_f (of_decide_eq_false hb) H
        refine CJ.exit (EJ.skE (EJ.skE (EJ.hit (?_))))
        exact EJ.meet (F' := [(1, .int .i64 y4)]) ⟨rfl, trivial⟩ ⟨y3, y4, H, rfl, hS.pick [0] [] rfl, (by first | exact hl0 | (simp only [List.length_set]; exact hl0) | (simp only [List.length_set]; done))⟩
  · rintro F w1 ⟨y1, y2, he, rfl, hS, hl0⟩
    obtain rfl := Option.some.inj he
    have H := K181
    refine EJ.next ?_
    refine CJ.seq ?_
    refine CJ.region ?_
    refine OJ.pures tU_ok 2 rfl ?_
    refine OJ.nil (EJ.next ?_)
    refine CJ.ret (?_)
    obtain rfl := Option.some.inj H
    exact EJ.fin rfl (.tmp rfl .nil) ⟨rfl, hS.pick [0] [] rfl, (by first | exact hl0 | (simp only [List.length_set]; exact hl0) | (simp only [List.length_set]; done))⟩

def laws_heldMeadowS.l1 (a0 : List Meadow) : Nat → Int → Int → Option (Int ⊕ Int)
  | 0, _, _ => none
  | k + 1, y2, y3 => if y3 < (a0.length : Int) then ((getI a0 y3).bind fun t4 => if t4.Grass ≠ (IntKind.i16.wrap y2) then (some (Sum.inl (-1))) else ((getI a0 y3).bind fun t5 => if t5.Grows ≠ (IntKind.i16.wrap (IntKind.i64.wrap (y2 + 1))) then (some (Sum.inl (-1))) else ((getI a0 y3).bind fun t6 => if t6.Most ≠ (IntKind.i16.wrap (IntKind.i64.wrap ((IntKind.i64.wrap (y2 + 1)) + 1))) then (some (Sum.inl (-1))) else (laws_heldMeadowS.l1 a0 k (IntKind.i64.wrap ((IntKind.i64.wrap ((IntKind.i64.wrap (y2 + 1)) + 1)) + 1)) (IntKind.i64.wrap (y3 + 1)))))) else (some (Sum.inr y2))
def laws_heldMeadowS.f (k : Nat) (a0 : List Meadow) (a1 : Int) : Option Int := (laws_heldMeadowS.l1 a0 k a1 0).bind fun s182 => match s182 with | .inl r => some r | .inr y1 => some y1
theorem laws_heldMeadowS.c (k : Nat) (w : World) (Aa0 : Option Addr) (ca0 : Nat) (a0 : List Meadow) (hr0 : Rd cMeadow w Aa0 a0) (hc0 : a0.length ≤ ca0) (a1 : Int) (r : Int) (H : laws_heldMeadowS.f k a0 a1 = some r) :
    CV Try.prog 10 [.slice Aa0 a0.length ca0, .int .i64 a1].toArray w fun v w' => v = .int .i64 r ∧ Ext w w' := by
  have hS := ((St.init w no).param cMeadow Aa0 ca0 a0 hr0 hc0)
  unfold laws_heldMeadowS.f at H
  refine CV.body Try.func10 rfl Try.ntmps10 rfl ?_
  refine CJ.seq ?_
  refine CJ.region ?_
  refine OJ.pures tU_ok 1 rfl ?_
  refine OJ.nil (EJ.next ?_)
  refine CJ.seq ?_
  refine CJ.seq ?_
  refine CJ.region ?_
  refine OJ.pures tU_ok 1 rfl ?_
  refine OJ.nil (EJ.next ?_)
  obtain ⟨j182, H, K182⟩ := pbind H
  refine CJ.cut1 (fun F w1 => ∃ (y1 : Int) , (some (Sum.inr y1) : Option (Int ⊕ Int)) = some j182 ∧ F = [(1, .int .i64 y1)] ∧ St w no w1 [] [roC cMeadow Aa0 ca0 a0]) ?_ ?_
  · skip
    refine CJ.block ?_
    refine CJ.loop (fun k F w1 => ∃ (y2 : Int) (y3 : Int), F = [(0, .slice Aa0 a0.length ca0), (1, .int .i64 y2), (5, .int .i64 y3)] ∧ St w no w1 [] [roC cMeadow Aa0 ca0 a0] ∧ laws_heldMeadowS.l1 a0 k y2 y3 = some j182) k (F' := [(0, .slice Aa0 a0.length ca0), (1, .int .i64 a1), (5, .int .i64 0)]) ⟨rfl, rfl, rfl, trivial⟩ ⟨a1, 0, rfl, hS.pick [] [0] rfl, H⟩ ?_
    rintro k F w1 ⟨y2, y3, rfl, hS, H⟩
    cases k with
    | zero => rw [laws_heldMeadowS.l1] at H; cases H
    | succ k =>
      rw [laws_heldMeadowS.l1] at H
      refine CJ.seq ?_
      refine CJ.seq ?_
      refine CJ.region ?_
      refine OJ.pures tU_ok 4 rfl ?_
      refine OJ.nil (EJ.next ?_)
      refine CJ.cond rfl (fun hb => ?_) (fun hb => ?_)
      · replace H := pif_t (of_decide_eq_true hb) H
        refine CJ.skip (EJ.next ?_)
        refine CJ.seq ?_
        refine CJ.block ?_
        refine CJ.seq ?_
        refine CJ.seq ?_
        refine CJ.region ?_
        refine OJ.pures tU_ok 2 rfl ?_
        obtain ⟨t4, ht4, H⟩ := pbind H
        obtain ⟨ad4, e4⟩ := (hS.rd' (i := 0) rfl).some' ht4
        refine OJ.st rfl rfl rfl (SR.idxS tU_ok tI_ok rfl rfl rfl rfl e4 rfl (getI_some ht4).1) ?_
        refine OJ.st rfl rfl rfl (SR.fieldAddr tU_ok tI_ok rfl rfl rfl rfl rfl rfl) ?_
        refine OJ.st rfl rfl rfl (SR.load rfl rfl (fun w' hx => ld1 tU_ok rfl rfl (CA.ext (CA.sub ((hS.rd' (i := 0) rfl).at_ e4 ht4) 0) hx) rfl)) ?_
        refine OJ.pures tU_ok 3 rfl ?_
        refine OJ.nil (EJ.next ?_)
        refine CJ.cond rfl (fun hb => ?_) (fun hb => ?_)
        · replace H := pif_t (of_decide_eq_true hb) H
          refine CJ.seq ?_
          refine CJ.region ?_
          refine OJ.pures tU_ok 1 rfl ?_
          refine OJ.nil (EJ.next ?_)
          refine CJ.ret (EJ.skR (EJ.bkR (EJ.skR (EJ.skR (EJ.bkR (EJ.skR (EJ.skR (?_))))))))
          first | (obtain rfl := Option.some.inj H; have H := K182) | (obtain ⟨q182, H2, e182⟩ := pbind H; obtain rfl := Option.some.inj e182; obtain rfl := Option.some.inj K182; have H := H2)
          obtain rfl := Option.some.inj H
          exact EJ.fin rfl (.tmp rfl .nil) ⟨rfl, hS.ext⟩
        · replace H := pif_f (of_decide_eq_false hb) H
          refine CJ.skip (EJ.next ?_)
          refine CJ.seq ?_
          refine CJ.region ?_
          refine OJ.pures tU_ok 3 rfl ?_
          refine OJ.nil (EJ.next ?_)
          refine CJ.seq ?_
          refine CJ.seq ?_
          refine CJ.region ?_
          refine OJ.pures tU_ok 2 rfl ?_
          obtain ⟨t5, ht5, H⟩ := pbind H
          obtain ⟨ad5, e5⟩ := (hS.rd' (i := 0) rfl).some' ht5
          refine OJ.st rfl rfl rfl (SR.idxS tU_ok tI_ok rfl rfl rfl rfl e5 rfl (getI_some ht5).1) ?_
          refine OJ.st rfl rfl rfl (SR.fieldAddr tU_ok tI_ok rfl rfl rfl rfl rfl rfl) ?_
          refine OJ.st rfl rfl rfl (SR.load rfl rfl (fun w' hx => ld1 tU_ok rfl rfl (CA.ext (CA.sub ((hS.rd' (i := 0) rfl).at_ e5 ht5) 1) hx) rfl)) ?_
          refine OJ.pures tU_ok 3 rfl ?_
          refine OJ.nil (EJ.next ?_)
          refine CJ.cond rfl (fun hb => ?_) (fun hb => ?_)
          · replace H := pif_t (of_decide_eq_true hb) H
            refine CJ.seq ?_
            refine CJ.region ?_
            refine OJ.pures tU_ok 1 rfl ?_
            refine OJ.nil (EJ.next ?_)
            refine CJ.ret (EJ.skR (EJ.bkR (EJ.skR (EJ.skR (EJ.bkR (EJ.skR (EJ.skR (?_))))))))
            first | (obtain rfl := Option.some.inj H; have H := K182) | (obtain ⟨q182, H2, e182⟩ := pbind H; obtain rfl := Option.some.inj e182; obtain rfl := Option.some.inj K182; have H := H2)
            obtain rfl := Option.some.inj H
            exact EJ.fin rfl (.tmp rfl .nil) ⟨rfl, hS.ext⟩
          · replace H := pif_f (of_decide_eq_false hb) H
            refine CJ.skip (EJ.next ?_)
            refine CJ.seq ?_
            refine CJ.region ?_
            refine OJ.pures tU_ok 3 rfl ?_
            refine OJ.nil (EJ.next ?_)
            refine CJ.seq ?_
            refine CJ.seq ?_
            refine CJ.region ?_
            refine OJ.pures tU_ok 2 rfl ?_
            obtain ⟨t6, ht6, H⟩ := pbind H
            obtain ⟨ad6, e6⟩ := (hS.rd' (i := 0) rfl).some' ht6
            refine OJ.st rfl rfl rfl (SR.idxS tU_ok tI_ok rfl rfl rfl rfl e6 rfl (getI_some ht6).1) ?_
            refine OJ.st rfl rfl rfl (SR.fieldAddr tU_ok tI_ok rfl rfl rfl rfl rfl rfl) ?_
            refine OJ.st rfl rfl rfl (SR.load rfl rfl (fun w' hx => ld1 tU_ok rfl rfl (CA.ext (CA.sub ((hS.rd' (i := 0) rfl).at_ e6 ht6) 2) hx) rfl)) ?_
            refine OJ.pures tU_ok 3 rfl ?_
            refine OJ.nil (EJ.next ?_)
            refine CJ.cond rfl (fun hb => ?_) (fun hb => ?_)
            · replace H := pif_t (of_decide_eq_true hb) H
              refine CJ.seq ?_
              refine CJ.region ?_
              refine OJ.pures tU_ok 1 rfl ?_
              refine OJ.nil (EJ.next ?_)
              refine CJ.ret (EJ.skR (EJ.bkR (EJ.skR (EJ.skR (EJ.bkR (EJ.skR (EJ.skR (?_))))))))
              first | (obtain rfl := Option.some.inj H; have H := K182) | (obtain ⟨q182, H2, e182⟩ := pbind H; obtain rfl := Option.some.inj e182; obtain rfl := Option.some.inj K182; have H := H2)
              obtain rfl := Option.some.inj H
              exact EJ.fin rfl (.tmp rfl .nil) ⟨rfl, hS.ext⟩
            · replace H := pif_f (of_decide_eq_false hb) H
              refine CJ.skip (EJ.next ?_)
              refine CJ.region ?_
              refine OJ.pures tU_ok 3 rfl ?_
              refine OJ.nil (EJ.blk (EJ.next ?_))
              refine CJ.region ?_
              refine OJ.pures tU_ok 3 rfl ?_
              refine OJ.nil ?_
              exact EJ.round k (F' := [(0, .slice Aa0 a0.length ca0), (1, .int .i64 (IntKind.i64.wrap ((IntKind.i64.wrap ((IntKind.i64.wrap (y2 + 1)) + 1)) + 1))), (5, .int .i64 (IntKind.i64.wrap (y3 + 1)))]) ⟨rfl, rfl, rfl, trivial⟩ (Nat.lt_succ_self _) ⟨(IntKind.i64.wrap ((IntKind.i64.wrap ((IntKind.i64.wrap (y2 + 1)) + 1)) + 1)), (IntKind.i64.wrap (y3 + 1)), rfl, hS.pick [] [0] rfl, H⟩
      · replace H := pif_f (of_decide_eq_false hb) H
        refine CJ.exit (EJ.skE (EJ.skE (EJ.hit (?_))))
        exact EJ.meet (F' := [(1, .int .i64 y2)]) ⟨rfl, trivial⟩ ⟨y2, H, rfl, hS.pick [] [0] rfl⟩
  · rintro F w1 ⟨y1, he, rfl, hS⟩
    obtain rfl := Option.some.inj he
    have H := K182
    refine EJ.next ?_
    refine CJ.seq ?_
    refine CJ.region ?_
    refine OJ.pures tU_ok 2 rfl ?_
    refine OJ.nil (EJ.next ?_)
    refine CJ.ret (?_)
    obtain rfl := Option.some.inj H
    exact EJ.fin rfl (.tmp rfl .nil) ⟨rfl, hS.ext⟩

def laws_FnExactMeadowsOf.f (k : Nat) (a0 : Pasture) (a1 : Int) : Option Bool := (laws_toPasture.f k a0).bind fun t2 => (spec_MeadowsOf.f k t2 a1).bind fun t3 => (laws_toPasture.f k a0).bind fun t6 => (impl_MeadowsOf.f k t6 a1).bind fun t7 => ((laws_eqMeadowS.f k t7.1 t3.1).bind fun t11 => if (!t11) = true then (some true) else (some (decide (t7.2 ≠ t3.2)))).bind fun y10 => if y10 = true then (some false) else ((laws_markMeadowS.f k t7.1 1).bind fun t12 => (laws_heldMeadowS.f k t12.2 1).bind fun t13 => if t13 < 0 then (some false) else (if t13 ≠ t12.1 then (some false) else ((laws_toPasture.f k a0).bind fun t14 => (impl_MeadowsOf.f k t14 a1).bind fun t15 => ((laws_eqMeadowS.f k t15.1 t3.1).bind fun t19 => if (!t19) = true then (some true) else (some (decide (t15.2 ≠ t3.2)))).bind fun y18 => if y18 = true then (some false) else ((laws_heldMeadowS.f k t12.2 1).bind fun t20 => if t20 < 0 then (some false) else (if t20 ≠ t12.1 then (some false) else (some true))))))
theorem laws_FnExactMeadowsOf.c (k : Nat) (w : World) (a0 : Pasture) (a1 : Int) (r : Bool) (H : laws_FnExactMeadowsOf.f k a0 a1 = some r) :
    CV Try.prog 3 [.agg (cPasture.enc a0).toArray, .int .i64 a1].toArray w fun v w' => v = .bool r ∧ Ext w w' := by
  have hS := (St.init w no)
  unfold laws_FnExactMeadowsOf.f at H
  refine CV.body Try.func3 rfl Try.ntmps3 rfl ?_
  refine CJ.seq ?_
  refine CJ.region ?_
  refine OJ.ef rfl rfl rfl (Ef.box hS rfl rfl (cPasture.enc a0) rfl) ?_
  rintro _ w1 ⟨b1, rfl, hS⟩
  refine OJ.pures tU_ok 1 rfl ?_
  refine OJ.nil (EJ.next ?_)
  refine CJ.seq ?_
  refine CJ.region ?_
  refine OJ.st rfl rfl rfl (SR.load rfl rfl (fun w' hx => ldE tU_ok tI_ok rfl rfl rfl (CA.ext (hS.cells (i := 0) rfl) hx) rfl)) ?_
  obtain ⟨t2, ht2, H⟩ := pbind H
  refine OJ.callF rfl rfl rfl rfl rfl hb6 rfl (laws_toPasture.c k _ a0 _ ht2) ?_
  rintro _ w1 ⟨rfl, hs⟩
  replace hS := hS.grow hs
  refine OJ.pures tU_ok 1 rfl ?_
  obtain ⟨t3, ht3, H⟩ := pbind H
  refine OJ.callF rfl rfl rfl rfl rfl hb5 rfl (spec_MeadowsOf.c k _ t2 a1 _ ht3) ?_
  rintro _ w1 ⟨A4, c5, rfl, hs⟩
  replace hS := hS.addN hs
  refine OJ.pures tU_ok 5 rfl ?_
  refine OJ.nil (EJ.next ?_)
  refine CJ.seq ?_
  refine CJ.region ?_
  refine OJ.st rfl rfl rfl (SR.load rfl rfl (fun w' hx => ldE tU_ok tI_ok rfl rfl rfl (CA.ext (hS.cells (i := 0) rfl) hx) rfl)) ?_
  obtain ⟨t6, ht6, H⟩ := pbind H
  refine OJ.callF rfl rfl rfl rfl rfl hb6 rfl (laws_toPasture.c k _ a0 _ ht6) ?_
  rintro _ w1 ⟨rfl, hs⟩
  replace hS := hS.grow hs
  refine OJ.pures tU_ok 1 rfl ?_
  obtain ⟨t7, ht7, H⟩ := pbind H
  refine OJ.callF rfl rfl rfl rfl rfl hb7 rfl (impl_MeadowsOf.c k _ t6 a1 _ ht7) ?_
  rintro _ w1 ⟨A8, c9, rfl, hs⟩
  replace hS := hS.addN hs
  refine OJ.pures tU_ok 5 rfl ?_
  refine OJ.nil (EJ.next ?_)
  refine CJ.seq ?_
  obtain ⟨j178, H, K178⟩ := pbind H
  refine CJ.cut (fun F w1 => ∃ (y10 : Bool) , (some y10 : Option Bool) = some j178 ∧ F = [(1, .int .i64 a1), (2, .pointer (some ⟨b1, 0, none⟩)), (5, .slice A4 t3.1.length c5), (6, .int .i64 t3.2), (7, .slice A8 t7.1.length c9), (35, .bool y10)] ∧ St w no w1 [box b1 (cPasture.enc a0) 29, rowC cMeadow A4 c5 62 t3.1, rowC cMeadow A8 c9 62 t7.1] []) ?_ ?_
  · skip
    refine CJ.region ?_
    refine OJ.pures tU_ok 2 rfl ?_
    obtain ⟨t11, ht11, H⟩ := pbind H
    refine OJ.callF rfl rfl rfl rfl rfl hb8 rfl (laws_eqMeadowS.c k _ A8 c9 t7.1 (hS.rd (i := 2) rfl) (hS.le (i := 2) rfl) A4 c5 t3.1 (hS.rd (i := 1) rfl) (hS.le (i := 1) rfl) _ ht11) ?_
    rintro _ w1 ⟨rfl, hs⟩
    replace hS := hS.grow hs
    refine OJ.pures tU_ok 2 rfl ?_
    refine OJ.split (t := 31) rfl (fun hb => ?_) (fun hb => ?_)
    · replace H := pif_t hb H
      refine OJ.pures tU_ok 4 rfl ?_
      refine OJ.nil ?_
      exact EJ.meet (F' := [(1, .int .i64 a1), (2, .pointer (some ⟨b1, 0, none⟩)), (5, .slice A4 t3.1.length c5), (6, .int .i64 t3.2), (7, .slice A8 t7.1.length c9), (35, .bool true)]) ⟨rfl, rfl, rfl, rfl, rfl, rfl, trivial⟩ ⟨true, H, rfl, hS.pick [0, 1, 2] [] rfl⟩
    · replace H := pifb_f hb H
      refine OJ.pures tU_ok 4 rfl ?_
      refine OJ.nil ?_
      exact EJ.meet (F' := [(1, .int .i64 a1), (2, .pointer (some ⟨b1, 0, none⟩)), (5, .slice A4 t3.1.length c5), (6, .int .i64 t3.2), (7, .slice A8 t7.1.length c9), (35, .bool (decide (t7.2 ≠ t3.2)))]) ⟨rfl, rfl, rfl, rfl, rfl, rfl, trivial⟩ ⟨(decide (t7.2 ≠ t3.2)), H, rfl, hS.pick [0, 1, 2] [] rfl⟩
  · rintro F w1 ⟨y10, he, rfl, hS⟩
    obtain rfl := Option.some.inj he
    have H := K178
    refine CJ.cond rfl (fun hb => ?_) (fun hb => ?_)
    · replace H := pif_t hb H
      refine CJ.seq ?_
      refine CJ.region ?_
      refine OJ.pures tU_ok 1 rfl ?_
      refine OJ.nil (EJ.next ?_)
      refine CJ.ret (EJ.skR (?_))
      obtain rfl := Option.some.inj H
      exact EJ.fin rfl (.tmp rfl .nil) ⟨rfl, hS.ext⟩
    · replace H := pifb_f hb H
      refine CJ.skip (EJ.next ?_)
      refine CJ.seq ?_
      refine CJ.region ?_
      refine OJ.pures tU_ok 1 rfl ?_
      refine OJ.nil (EJ.next ?_)
      refine CJ.seq ?_
      refine CJ.region ?_
      refine OJ.pures tU_ok 2 rfl ?_
      obtain ⟨t12, ht12, H⟩ := pbind H
      refine OJ.callF rfl rfl rfl rfl rfl hb9 rfl (laws_markMeadowS.c k _ A8 c9 t7.1 1 ((hS.subs [2] [] [] rfl).pick [0] [] rfl) _ ht12) ?_
      rintro _ w1 ⟨rfl, hs, hlc0⟩
      replace hS := hS.back [2] rfl rfl [rowC cMeadow A8 c9 62 t12.2] [] hs ⟨fun _ => Iff.rfl, trivial⟩
      refine OJ.as (t := 7) rfl (show _ = (.slice A8 t12.2.length c9 : Value) by simp only [hlc0]) ?_
      refine OJ.as (t := 36) rfl (show _ = (.slice A8 t12.2.length c9 : Value) by simp only [hlc0]) ?_
      refine OJ.pures tU_ok 1 rfl ?_
      refine OJ.nil (EJ.next ?_)
      refine CJ.seq ?_
      refine CJ.region ?_
      refine OJ.pures tU_ok 1 rfl ?_
      refine OJ.nil (EJ.next ?_)
      refine CJ.seq ?_
      refine CJ.region ?_
      refine OJ.pures tU_ok 2 rfl ?_
      obtain ⟨t13, ht13, H⟩ := pbind H
      refine OJ.callF rfl rfl rfl rfl rfl hb10 rfl (laws_heldMeadowS.c k _ A8 c9 t12.2 (hS.rd (i := 2) rfl) (hS.le (i := 2) rfl) 1 _ ht13) ?_
      rintro _ w1 ⟨rfl, hs⟩
      replace hS := hS.grow hs
      refine OJ.pures tU_ok 1 rfl ?_
      refine OJ.nil (EJ.next ?_)
      refine CJ.seq ?_
      refine CJ.seq ?_
      refine CJ.region ?_
      refine OJ.pures tU_ok 2 rfl ?_
      refine OJ.nil (EJ.next ?_)
      refine CJ.cond rfl (fun hb => ?_) (fun hb => ?_)
      · replace H := pif_t (of_decide_eq_true hb) H
        refine CJ.seq ?_
        refine CJ.region ?_
        refine OJ.pures tU_ok 1 rfl ?_
        refine OJ.nil (EJ.next ?_)
        refine CJ.ret (EJ.skR (?_))
        obtain rfl := Option.some.inj H
        exact EJ.fin rfl (.tmp rfl .nil) ⟨rfl, hS.ext⟩
      · replace H := pif_f (of_decide_eq_false hb) H
        refine CJ.skip (EJ.next ?_)
        refine CJ.seq ?_
        refine CJ.seq ?_
        refine CJ.region ?_
        refine OJ.pures tU_ok 3 rfl ?_
        refine OJ.nil (EJ.next ?_)
        refine CJ.cond rfl (fun hb => ?_) (fun hb => ?_)
        · replace H := pif_t (of_decide_eq_true hb) H
          refine CJ.seq ?_
          refine CJ.region ?_
          refine OJ.pures tU_ok 1 rfl ?_
          refine OJ.nil (EJ.next ?_)
          refine CJ.ret (EJ.skR (?_))
          obtain rfl := Option.some.inj H
          exact EJ.fin rfl (.tmp rfl .nil) ⟨rfl, hS.ext⟩
        · replace H := pif_f (of_decide_eq_false hb) H
          refine CJ.skip (EJ.next ?_)
          refine CJ.seq ?_
          refine CJ.region ?_
          refine OJ.st rfl rfl rfl (SR.load rfl rfl (fun w' hx => ldE tU_ok tI_ok rfl rfl rfl (CA.ext (hS.cells (i := 0) rfl) hx) rfl)) ?_
          obtain ⟨t14, ht14, H⟩ := pbind H
          refine OJ.callF rfl rfl rfl rfl rfl hb6 rfl (laws_toPasture.c k _ a0 _ ht14) ?_
          rintro _ w1 ⟨rfl, hs⟩
          replace hS := hS.grow hs
          refine OJ.pures tU_ok 1 rfl ?_
          obtain ⟨t15, ht15, H⟩ := pbind H
          refine OJ.callF rfl rfl rfl rfl rfl hb7 rfl (impl_MeadowsOf.c k _ t14 a1 _ ht15) ?_
          rintro _ w1 ⟨A16, c17, rfl, hs⟩
          replace hS := hS.addN hs
          refine OJ.pures tU_ok 5 rfl ?_
          refine OJ.nil (EJ.next ?_)
          refine CJ.seq ?_
          obtain ⟨j183, H, K183⟩ := pbind H
          refine CJ.cut (fun F w1 => ∃ (y18 : Bool) , (some y18 : Option Bool) = some j183 ∧ F = [(7, .slice A8 t12.2.length c9), (9, .int .i64 t12.1), (62, .bool y18)] ∧ St w no w1 [rowC cMeadow A8 c9 62 t12.2] []) ?_ ?_
          · skip
            refine CJ.region ?_
            refine OJ.pures tU_ok 2 rfl ?_
            obtain ⟨t19, ht19, H⟩ := pbind H
            refine OJ.callF rfl rfl rfl rfl rfl hb8 rfl (laws_eqMeadowS.c k _ A16 c17 t15.1 (hS.rd (i := 3) rfl) (hS.le (i := 3) rfl) A4 c5 t3.1 (hS.rd (i := 1) rfl) (hS.le (i := 1) rfl) _ ht19) ?_
            rintro _ w1 ⟨rfl, hs⟩
            replace hS := hS.grow hs
            refine OJ.pures tU_ok 2 rfl ?_
            refine OJ.split (t := 58) rfl (fun hb => ?_) (fun hb => ?_)
            · replace H := pif_t hb H
              refine OJ.pures tU_ok 4 rfl ?_
              refine OJ.nil ?_
              exact EJ.meet (F' := [(7, .slice A8 t12.2.length c9), (9, .int .i64 t12.1), (62, .bool true)]) ⟨rfl, rfl, rfl, trivial⟩ ⟨true, H, rfl, hS.pick [2] [] rfl⟩
            · replace H := pifb_f hb H
              refine OJ.pures tU_ok 4 rfl ?_
              refine OJ.nil ?_
              exact EJ.meet (F' := [(7, .slice A8 t12.2.length c9), (9, .int .i64 t12.1), (62, .bool (decide (t15.2 ≠ t3.2)))]) ⟨rfl, rfl, rfl, trivial⟩ ⟨(decide (t15.2 ≠ t3.2)), H, rfl, hS.pick [2] [] rfl⟩
          · rintro F w1 ⟨y18, he, rfl, hS⟩
            obtain rfl := Option.some.inj he
            have H := K183
            refine CJ.cond rfl (fun hb => ?_) (fun hb => ?_)
            · replace H := pif_t hb H
              refine CJ.seq ?_
              refine CJ.region ?_
              refine OJ.pures tU_ok 1 rfl ?_
              refine OJ.nil (EJ.next ?_)
              refine CJ.ret (EJ.skR (?_))
              obtain rfl := Option.some.inj H
              exact EJ.fin rfl (.tmp rfl .nil) ⟨rfl, hS.ext⟩
            · replace H := pifb_f hb H
              refine CJ.skip (EJ.next ?_)
              refine CJ.seq ?_
              refine CJ.region ?_
              refine OJ.pures tU_ok 1 rfl ?_
              refine OJ.nil (EJ.next ?_)
              refine CJ.seq ?_
              refine CJ.region ?_
              refine OJ.pures tU_ok 2 rfl ?_
              obtain ⟨t20, ht20, H⟩ := pbind H
              refine OJ.callF rfl rfl rfl rfl rfl hb10 rfl (laws_heldMeadowS.c k _ A8 c9 t12.2 (hS.rd (i := 0) rfl) (hS.le (i := 0) rfl) 1 _ ht20) ?_
              rintro _ w1 ⟨rfl, hs⟩
              replace hS := hS.grow hs
              refine OJ.pures tU_ok 1 rfl ?_
              refine OJ.nil (EJ.next ?_)
              refine CJ.seq ?_
              refine CJ.seq ?_
              refine CJ.region ?_
              refine OJ.pures tU_ok 2 rfl ?_
              refine OJ.nil (EJ.next ?_)
              refine CJ.cond rfl (fun hb => ?_) (fun hb => ?_)
              · replace H := pif_t (of_decide_eq_true hb) H
                refine CJ.seq ?_
                refine CJ.region ?_
                refine OJ.pures tU_ok 1 rfl ?_
                refine OJ.nil (EJ.next ?_)
                refine CJ.ret (EJ.skR (?_))
                obtain rfl := Option.some.inj H
                exact EJ.fin rfl (.tmp rfl .nil) ⟨rfl, hS.ext⟩
              · replace H := pif_f (of_decide_eq_false hb) H
                refine CJ.skip (EJ.next ?_)
                refine CJ.seq ?_
                refine CJ.seq ?_
                refine CJ.region ?_
                refine OJ.pures tU_ok 3 rfl ?_
                refine OJ.nil (EJ.next ?_)
                refine CJ.cond rfl (fun hb => ?_) (fun hb => ?_)
                · replace H := pif_t (of_decide_eq_true hb) H
                  refine CJ.seq ?_
                  refine CJ.region ?_
                  refine OJ.pures tU_ok 1 rfl ?_
                  refine OJ.nil (EJ.next ?_)
                  refine CJ.ret (EJ.skR (?_))
                  obtain rfl := Option.some.inj H
                  exact EJ.fin rfl (.tmp rfl .nil) ⟨rfl, hS.ext⟩
                · replace H := pif_f (of_decide_eq_false hb) H
                  refine CJ.skip (EJ.next ?_)
                  refine CJ.seq ?_
                  refine CJ.region ?_
                  refine OJ.pures tU_ok 1 rfl ?_
                  refine OJ.nil (EJ.next ?_)
                  refine CJ.ret (?_)
                  obtain rfl := Option.some.inj H
                  exact EJ.fin rfl (.tmp rfl .nil) ⟨rfl, hS.ext⟩

def laws_szSpotS.f (a0 : List Spot) (a1 : Int) : Option Int := if (IntKind.i64.wrap (a1 - (a0.length : Int))) < 0 then (some (-1)) else (some (IntKind.i64.wrap (a1 - (a0.length : Int))))
theorem laws_szSpotS.c (w : World) (Aa0 : Option Addr) (ca0 : Nat) (a0 : List Spot) (hr0 : Rd cSpot w Aa0 a0) (hc0 : a0.length ≤ ca0) (a1 : Int) (r : Int) (H : laws_szSpotS.f a0 a1 = some r) :
    CV Try.prog 11 [.slice Aa0 a0.length ca0, .int .i64 a1].toArray w fun v w' => v = .int .i64 r ∧ Ext w w' := by
  have hS := ((St.init w no).param cSpot Aa0 ca0 a0 hr0 hc0)
  unfold laws_szSpotS.f at H
  refine CV.body Try.func11 rfl Try.ntmps11 rfl ?_
  refine CJ.seq ?_
  refine CJ.region ?_
  refine OJ.pures tU_ok 1 rfl ?_
  refine OJ.nil (EJ.next ?_)
  refine CJ.seq ?_
  refine CJ.region ?_
  refine OJ.pures tU_ok 5 rfl ?_
  refine OJ.nil (EJ.next ?_)
  refine CJ.seq ?_
  refine CJ.seq ?_
  refine CJ.region ?_
  refine OJ.pures tU_ok 2 rfl ?_
  refine OJ.nil (EJ.next ?_)
  refine CJ.cond rfl (fun hb => ?_) (fun hb => ?_)
  · replace H := pif_t (of_decide_eq_true hb) H
    refine CJ.seq ?_
    refine CJ.region ?_
    refine OJ.pures tU_ok 1 rfl ?_
    refine OJ.nil (EJ.next ?_)
    refine CJ.ret (EJ.skR (?_))
    obtain rfl := Option.some.inj H
    exact EJ.fin rfl (.tmp rfl .nil) ⟨rfl, hS.ext⟩
  · replace H := pif_f (of_decide_eq_false hb) H
    refine CJ.skip (EJ.next ?_)
    refine CJ.seq ?_
    refine CJ.region ?_
    refine OJ.pures tU_ok 2 rfl ?_
    refine OJ.nil (EJ.next ?_)
    refine CJ.ret (?_)
    obtain rfl := Option.some.inj H
    exact EJ.fin rfl (.tmp rfl .nil) ⟨rfl, hS.ext⟩

def laws_toSpot.f (a0 : Spot) : Option Spot := some (⟨a0.X, a0.Y⟩ : Spot)
theorem laws_toSpot.c (w : World) (a0 : Spot) (r : Spot) (H : laws_toSpot.f a0 = some r) :
    CV Try.prog 37 [.agg (cSpot.enc a0).toArray].toArray w fun v w' => v = .agg (cSpot.enc r).toArray ∧ Ext w w' := by
  have hS := (St.init w no)
  unfold laws_toSpot.f at H
  refine CV.body Try.func37 rfl Try.ntmps37 rfl ?_
  refine CJ.seq ?_
  refine CJ.region ?_
  refine OJ.ef rfl rfl rfl (Ef.box hS rfl rfl (cSpot.enc a0) rfl) ?_
  rintro _ w1 ⟨b1, rfl, hS⟩
  refine OJ.ef rfl rfl rfl (Ef.alloc hS tI_ok rfl rfl (cSpot.enc (⟨0, 0⟩ : Spot)) rfl) ?_
  rintro _ w1 ⟨b2, rfl, hS⟩
  refine OJ.nil (EJ.next ?_)
  refine CJ.seq ?_
  refine CJ.region ?_
  refine OJ.ef rfl rfl rfl (Ef.alloc hS tI_ok rfl rfl (cSpot.enc (⟨0, 0⟩ : Spot)) rfl) ?_
  rintro _ w1 ⟨b3, rfl, hS⟩
  refine OJ.nil (EJ.next ?_)
  refine CJ.seq ?_
  refine CJ.region ?_
  refine OJ.st rfl rfl rfl (SR.fieldAddr tU_ok tI_ok rfl rfl rfl rfl rfl rfl) ?_
  refine OJ.st rfl rfl rfl (SR.load rfl rfl (fun w' hx => ld1 tU_ok rfl rfl (CA.ext (CA.sub (hS.cells (i := 0) rfl) 0) hx) rfl)) ?_
  refine OJ.st rfl rfl rfl (SR.fieldAddr tU_ok tI_ok rfl rfl rfl rfl rfl rfl) ?_
  refine OJ.es rfl rfl (Es.store tI_ok hS (i := 2) rfl rfl rfl (ad1 _ _) rfl rfl (vs := (ci .i8).enc a0.X) rfl rfl (one1 rfl) (Nat.le_of_ble_eq_true rfl) (cSpot.enc (⟨a0.X, 0⟩ : Spot)) rfl) ?_
  intro w1 hS
  refine OJ.nil (EJ.next ?_)
  refine CJ.seq ?_
  refine CJ.region ?_
  refine OJ.st rfl rfl rfl (SR.fieldAddr tU_ok tI_ok rfl rfl rfl rfl rfl rfl) ?_
  refine OJ.st rfl rfl rfl (SR.load rfl rfl (fun w' hx => ld1 tU_ok rfl rfl (CA.ext (CA.sub (hS.cells (i := 0) rfl) 1) hx) rfl)) ?_
  refine OJ.st rfl rfl rfl (SR.fieldAddr tU_ok tI_ok rfl rfl rfl rfl rfl rfl) ?_
  refine OJ.es rfl rfl (Es.store tI_ok hS (i := 2) rfl rfl rfl (ad1 _ _) rfl rfl (vs := (ci .i8).enc a0.Y) rfl rfl (one1 rfl) (Nat.le_of_ble_eq_true rfl) (cSpot.enc (⟨a0.X, a0.Y⟩ : Spot)) rfl) ?_
  intro w1 hS
  refine OJ.nil (EJ.next ?_)
  refine CJ.seq ?_
  refine CJ.region ?_
  refine OJ.st rfl rfl rfl (SR.load rfl rfl (fun w' hx => ldE tU_ok tI_ok rfl rfl rfl (CA.ext (hS.cells (i := 2) rfl) hx) rfl)) ?_
  refine OJ.es rfl rfl (Es.store tI_ok hS (i := 1) rfl rfl rfl rfl rfl rfl (vs := cSpot.enc (⟨a0.X, a0.Y⟩ : Spot)) rfl (cSpot.len _) (cSpot.one _) (Nat.le_of_ble_eq_true rfl) (cSpot.enc (⟨a0.X, a0.Y⟩ : Spot)) rfl) ?_
  intro w1 hS
  refine OJ.nil (EJ.next ?_)
  refine CJ.ret (?_)
  obtain rfl := Option.some.inj H
  exact EJ.fin rfl (.cell rfl (ldE tU_ok tI_ok rfl rfl rfl (hS.cells (i := 1) rfl) rfl) .nil) ⟨rfl, hS.ext⟩

def laws_toSpotS.l1 (a0 : List Spot) : Nat → (List Spot) → Int → Option (List Spot)
  | 0, _, _ => none
  | k + 1, y4, y5 => if y5 < (a0.length : Int) then ((getI a0 y5).bind fun t6 => (laws_toSpot.f t6).bind fun t7 => (getI y4 y5).bind fun t8 => laws_toSpotS.l1 a0 k (y4.set y5.toNat t7) (IntKind.i64.wrap (y5 + 1))) else (some y4)
def laws_toSpotS.f (k : Nat) (a0 : List Spot) : Option (List Spot) := (chk (0 ≤ (a0.length : Int) ∧ (a0.length : Int) ≤ 4294967296)).bind fun u1 => (laws_toSpotS.l1 a0 k (List.replicate ((a0.length : Int).toNat) (⟨0, 0⟩ : Spot) : List Spot) 0).bind fun y3 => some y3
theorem laws_toSpotS.c (k : Nat) (w : World) (Aa0 : Option Addr) (ca0 : Nat) (a0 : List Spot) (hr0 : Rd cSpot w Aa0 a0) (hc0 : a0.length ≤ ca0) (r : List Spot) (H : laws_toSpotS.f k a0 = some r) :
    CV Try.prog 13 [.slice Aa0 a0.length ca0].toArray w fun v w' => ∃ (A0 : Option Addr) (c0 : Nat), v = .slice A0 r.length c0 ∧ St w no w' [rowC cSpot A0 c0 72 r] [] := by
  have hS := ((St.init w no).param cSpot Aa0 ca0 a0 hr0 hc0)
  unfold laws_toSpotS.f at H
  refine CV.body Try.func13 rfl Try.ntmps13 rfl ?_
  refine CJ.seq ?_
  refine CJ.region ?_
  refine OJ.pures tU_ok 1 rfl ?_
  refine OJ.nil (EJ.next ?_)
  refine CJ.seq ?_
  refine CJ.region ?_
  refine OJ.pures tU_ok 2 rfl ?_
  obtain ⟨u1, hu1, H⟩ := pbind H
  refine OJ.ef rfl rfl rfl (Ef.make tU_ok tI_ok hS (C := cSpot) rfl rfl rfl rfl rfl rfl rfl rfl (chk_some hu1) (⟨0, 0⟩ : Spot) rfl) ?_
  rintro _ w1 ⟨A2, rfl, hS⟩
  refine OJ.pures tU_ok 1 rfl ?_
  refine OJ.nil (EJ.next ?_)
  refine CJ.seq ?_
  refine CJ.seq ?_
  refine CJ.region ?_
  refine OJ.pures tU_ok 1 rfl ?_
  refine OJ.nil (EJ.next ?_)
  obtain ⟨j184, H, K184⟩ := pbind H
  refine CJ.cut1 (fun F w1 => ∃ (y3 : List Spot) , (some y3 : Option (List Spot)) = some j184 ∧ F = [(3, .slice A2 y3.length ((a0.length : Int).toNat))] ∧ St w no w1 [rowC cSpot A2 ((a0.length : Int).toNat) 72 y3] [roC cSpot Aa0 ca0 a0]) ?_ ?_
  · skip
    refine CJ.block ?_
    refine CJ.loop (fun k F w1 => ∃ (y4 : List Spot) (y5 : Int), F = [(0, .slice Aa0 a0.length ca0), (3, .slice A2 y4.length ((a0.length : Int).toNat)), (4, .int .i64 y5)] ∧ St w no w1 [rowC cSpot A2 ((a0.length : Int).toNat) 72 y4] [roC cSpot Aa0 ca0 a0] ∧ laws_toSpotS.l1 a0 k y4 y5 = some j184) k (F' := [(0, .slice Aa0 a0.length ca0), (3, .slice A2 (List.replicate ((a0.length : Int).toNat) (⟨0, 0⟩ : Spot) : List Spot).length ((a0.length : Int).toNat)), (4, .int .i64 0)]) ⟨rfl, rfl, rfl, trivial⟩ ⟨(List.replicate ((a0.length : Int).toNat) (⟨0, 0⟩ : Spot) : List Spot), 0, rfl, hS.pick [0] [0] rfl, H⟩ ?_
    rintro k F w1 ⟨y4, y5, rfl, hS, H⟩
    cases k with
    | zero => rw [laws_toSpotS.l1] at H; cases H
    | succ k =>
      rw [laws_toSpotS.l1] at H
      refine CJ.seq ?_
      refine CJ.seq ?_
      refine CJ.region ?_
      refine OJ.pures tU_ok 4 rfl ?_
      refine OJ.nil (EJ.next ?_)
      refine CJ.cond rfl (fun hb => ?_) (fun hb => ?_)
      · replace H := pif_t (of_decide_eq_true hb) H
        refine CJ.skip (EJ.next ?_)
        refine CJ.seq ?_
        refine CJ.block ?_
        refine CJ.region ?_
        refine OJ.pures tU_ok 4 rfl ?_
        obtain ⟨t6, ht6, H⟩ := pbind H
        obtain ⟨ad6, e6⟩ := (hS.rd' (i := 0) rfl).some' ht6
        refine OJ.st rfl rfl rfl (SR.idxS tU_ok tI_ok rfl rfl rfl rfl e6 rfl (getI_some ht6).1) ?_
        refine OJ.st rfl rfl rfl (SR.load rfl rfl (fun w' hx => ldE tU_ok tI_ok rfl rfl rfl (CA.ext ((hS.rd' (i := 0) rfl).at_ e6 ht6) hx) rfl)) ?_
        obtain ⟨t7, ht7, H⟩ := pbind H
        refine OJ.callF rfl rfl rfl rfl rfl hb37 rfl (laws_toSpot.c _ t6 _ ht7) ?_
        rintro _ w1 ⟨rfl, hs⟩
        replace hS := hS.grow hs
        obtain ⟨t8, ht8, H⟩ := pbind H
        obtain ⟨ad8, e8⟩ := (hS.rd (i := 0) rfl).some' ht8
        refine OJ.st rfl rfl rfl (SR.idxS tU_ok tI_ok rfl rfl rfl rfl e8 rfl (getI_some ht8).1) ?_
        refine OJ.es rfl rfl (Es.storeR tI_ok hS (i := 0) (off := 0) rfl rfl ht8 e8 rfl rfl rfl rfl (vs := cSpot.enc t7) rfl (cSpot.len _) (cSpot.one _) (Nat.le_of_ble_eq_true rfl) t7 rfl) ?_
        intro w1 hS
        refine OJ.as (t := 3) rfl (show _ = (.slice A2 (y4.set y5.toNat t7).length ((a0.length : Int).toNat) : Value) by simp only [List.length_set]) ?_
        refine OJ.as (t := 14) rfl (show _ = (.slice A2 (y4.set y5.toNat t7).length ((a0.length : Int).toNat) : Value) by simp only [List.length_set]) ?_
        refine OJ.nil (EJ.blk (EJ.next ?_))
        refine CJ.region ?_
        refine OJ.pures tU_ok 3 rfl ?_
        refine OJ.nil ?_
        exact EJ.round k (F' := [(0, .slice Aa0 a0.length ca0), (3, .slice A2 (y4.set y5.toNat t7).length ((a0.length : Int).toNat)), (4, .int .i64 (IntKind.i64.wrap (y5 + 1)))]) ⟨rfl, rfl, rfl, trivial⟩ (Nat.lt_succ_self _) ⟨(y4.set y5.toNat t7), (IntKind.i64.wrap (y5 + 1)), rfl, hS.pick [0] [0] rfl, H⟩
      · replace H := pif_f (of_decide_eq_false hb) H
        refine CJ.exit (EJ.skE (EJ.skE (EJ.hit (?_))))
        exact EJ.meet (F' := [(3, .slice A2 y4.length ((a0.length : Int).toNat))]) ⟨rfl, trivial⟩ ⟨y4, H, rfl, hS.pick [0] [0] rfl⟩
  · rintro F w1 ⟨y3, he, rfl, hS⟩
    obtain rfl := Option.some.inj he
    have H := K184
    refine EJ.next ?_
    refine CJ.seq ?_
    refine CJ.region ?_
    refine OJ.pures tU_ok 2 rfl ?_
    refine OJ.nil (EJ.next ?_)
    refine CJ.ret (?_)
    obtain rfl := Option.some.inj H
    exact EJ.fin rfl (.tmp rfl .nil) ⟨A2, ((a0.length : Int).toNat), rfl, hS.pick [0] [] rfl⟩

def spec_l00Put.l1 (a0 : List Int) (a1 : Int) : Nat → (List Int) → Bool → Int → Option ((List Int) × Bool)
  | 0, _, _, _ => none
  | k + 1, y6, y9, y10 => if y10 < (a0.length : Int) then ((if (!y9) = true then ((getI a0 y10).bind fun t12 => some (decide (a1 ≤ t12))) else (some false)).bind fun y11 => if y11 = true then ((getI a0 y10).bind fun t13 => if a1 < t13 then ((chk (y6.length + ([a1] : List Int).length ≤ 4294967296)).bind fun u15 => (getI a0 y10).bind fun t18 => (chk ((y6 ++ ([a1] : List Int)).length + ([t18] : List Int).length ≤ 4294967296)).bind fun u20 => spec_l00Put.l1 a0 a1 k ((y6 ++ ([a1] : List Int)) ++ ([t18] : List Int)) true (IntKind.i64.wrap (y10 + 1))) else ((getI a0 y10).bind fun t23 => (chk (y6.length + ([t23] : List Int).length ≤ 4294967296)).bind fun u25 => spec_l00Put.l1 a0 a1 k (y6 ++ ([t23] : List Int)) true (IntKind.i64.wrap (y10 + 1)))) else ((getI a0 y10).bind fun t28 => (chk (y6.length + ([t28] : List Int).length ≤ 4294967296)).bind fun u30 => spec_l00Put.l1 a0 a1 k (y6 ++ ([t28] : List Int)) y9 (IntKind.i64.wrap (y10 + 1)))) else (some (y6, y9))
def spec_l00Put.f (k : Nat) (a0 : List Int) (a1 : Int) : Option (List Int) := (spec_l00Put.l1 a0 a1 k ([] : List Int) false 0).bind fun (y2, y5) => if (!y5) = true then ((chk (y2.length + ([a1] : List Int).length ≤ 4294967296)).bind fun u34 => some (y2 ++ ([a1] : List Int))) else (some y2)
theorem spec_l00Put.c (k : Nat) (w : World) (Aa0 : Option Addr) (ca0 : Nat) (a0 : List Int) (hr0 : Rd (ci .i64) w Aa0 a0) (hc0 : a0.length ≤ ca0) (a1 : Int) (r : List Int) (H : spec_l00Put.f k a0 a1 = some r) :
    CV Try.prog 36 [.slice Aa0 a0.length ca0, .int .i64 a1].toArray w fun v w' => ∃ (A0 : Option Addr) (c0 : Nat), v = .slice A0 r.length c0 ∧ St w no w' [rowC (ci .i64) A0 c0 2 r] [] := by
  have hS := ((St.init w no).param (ci .i64) Aa0 ca0 a0 hr0 hc0)
  unfold spec_l00Put.f at H
  refine CV.body Try.func36 rfl Try.ntmps36 rfl ?_
  refine CJ.seq ?_
  refine CJ.region ?_
  refine OJ.pures tU_ok 1 rfl ?_
  refine OJ.nil (EJ.next ?_)
  refine CJ.seq ?_
  refine CJ.region ?_
  refine OJ.ef rfl rfl rfl (Ef.lit tU_ok tI_ok hS (C := (ci .i64)) rfl rfl rfl rfl rfl rfl ([] : List Int) rfl rfl rfl rfl) ?_
  rintro _ w1 ⟨A1, rfl, hS⟩
  refine OJ.pures tU_ok 1 rfl ?_
  refine OJ.nil (EJ.next ?_)
  refine CJ.seq ?_
  refine CJ.region ?_
  refine OJ.pures tU_ok 1 rfl ?_
  refine OJ.nil (EJ.next ?_)
  refine CJ.seq ?_
  refine CJ.seq ?_
  refine CJ.region ?_
  refine OJ.pures tU_ok 1 rfl ?_
  refine OJ.nil (EJ.next ?_)
  obtain ⟨j186, H, K186⟩ := pbind H
  refine CJ.cut1 (fun F w1 => ∃ (y2 : List Int) (y5 : Bool) (A3 : Option Addr) (c4 : Nat), (some (y2, y5) : Option ((List Int) × Bool)) = some j186 ∧ F = [(1, .int .i64 a1), (5, .slice A3 y2.length c4), (6, .bool y5)] ∧ St w no w1 [rowC (ci .i64) A3 c4 2 y2] [roC (ci .i64) Aa0 ca0 a0]) ?_ ?_
  · skip
    refine CJ.block ?_
    refine CJ.loop (fun k F w1 => ∃ (y6 : List Int) (y9 : Bool) (y10 : Int) (A7 : Option Addr) (c8 : Nat), F = [(0, .slice Aa0 a0.length ca0), (1, .int .i64 a1), (5, .slice A7 y6.length c8), (6, .bool y9), (7, .int .i64 y10)] ∧ St w no w1 [rowC (ci .i64) A7 c8 2 y6] [roC (ci .i64) Aa0 ca0 a0] ∧ spec_l00Put.l1 a0 a1 k y6 y9 y10 = some j186) k (F' := [(0, .slice Aa0 a0.length ca0), (1, .int .i64 a1), (5, .slice A1 ([] : List Int).length (([] : List Int).length)), (6, .bool false), (7, .int .i64 0)]) ⟨rfl, rfl, rfl, rfl, rfl, trivial⟩ ⟨([] : List Int), false, 0, A1, (([] : List Int).length), rfl, hS.pick [0] [0] rfl, H⟩ ?_
    rintro k F w1 ⟨y6, y9, y10, A7, c8, rfl, hS, H⟩
    cases k with
    | zero => rw [spec_l00Put.l1] at H; cases H
    | succ k =>
      rw [spec_l00Put.l1] at H
      refine CJ.seq ?_
      refine CJ.seq ?_
      refine CJ.region ?_
      refine OJ.pures tU_ok 4 rfl ?_
      refine OJ.nil (EJ.next ?_)
      refine CJ.cond rfl (fun hb => ?_) (fun hb => ?_)
      · replace H := pif_t (of_decide_eq_true hb) H
        refine CJ.skip (EJ.next ?_)
        refine CJ.seq ?_
        refine CJ.block ?_
        refine CJ.seq ?_
        obtain ⟨j189, H, K189⟩ := pbind H
        refine CJ.cut (fun F w1 => ∃ (y11 : Bool) , (some y11 : Option Bool) = some j189 ∧ F = [(0, .slice Aa0 a0.length ca0), (1, .int .i64 a1), (5, .slice A7 y6.length c8), (6, .bool y9), (7, .int .i64 y10), (24, .bool y11)] ∧ St w no w1 [rowC (ci .i64) A7 c8 2 y6] [roC (ci .i64) Aa0 ca0 a0]) ?_ ?_
        · skip
          refine CJ.region ?_
          refine OJ.pures tU_ok 3 rfl ?_
          refine OJ.split (t := 17) rfl (fun hb => ?_) (fun hb => ?_)
          · replace H := pif_t hb H
            refine OJ.pures tU_ok 2 rfl ?_
            obtain ⟨t12, ht12, H⟩ := pbind H
            obtain ⟨ad12, e12⟩ := (hS.rd' (i := 0) rfl).some' ht12
            refine OJ.st rfl rfl rfl (SR.idxS tU_ok tI_ok rfl rfl rfl rfl e12 rfl (getI_some ht12).1) ?_
            refine OJ.st rfl rfl rfl (SR.load rfl rfl (fun w' hx => ld1 tU_ok rfl rfl (CA.ext ((hS.rd' (i := 0) rfl).at_ e12 ht12) hx) rfl)) ?_
            refine OJ.pures tU_ok 3 rfl ?_
            refine OJ.nil ?_
            exact EJ.meet (F' := [(0, .slice Aa0 a0.length ca0), (1, .int .i64 a1), (5, .slice A7 y6.length c8), (6, .bool y9), (7, .int .i64 y10), (24, .bool (decide (a1 ≤ t12)))]) ⟨rfl, rfl, rfl, rfl, rfl, rfl, trivial⟩ ⟨(decide (a1 ≤ t12)), H, rfl, hS.pick [0] [0] rfl⟩
          · replace H := pifb_f hb H
            refine OJ.pures tU_ok 7 rfl ?_
            refine OJ.nil ?_
            exact EJ.meet (F' := [(0, .slice Aa0 a0.length ca0), (1, .int .i64 a1), (5, .slice A7 y6.length c8), (6, .bool y9), (7, .int .i64 y10), (24, .bool false)]) ⟨rfl, rfl, rfl, rfl, rfl, rfl, trivial⟩ ⟨false, H, rfl, hS.pick [0] [0] rfl⟩
        · rintro F w1 ⟨y11, he, rfl, hS⟩
          obtain rfl := Option.some.inj he
          have H := K189
          refine CJ.cond rfl (fun hb => ?_) (fun hb => ?_)
          · replace H := pif_t hb H
            refine CJ.seq ?_
            refine CJ.region ?_
            refine OJ.pures tU_ok 1 rfl ?_
            refine OJ.nil (EJ.next ?_)
            refine CJ.seq ?_
            refine CJ.region ?_
            refine OJ.pures tU_ok 2 rfl ?_
            obtain ⟨t13, ht13, H⟩ := pbind H
            obtain ⟨ad13, e13⟩ := (hS.rd' (i := 0) rfl).some' ht13
            refine OJ.st rfl rfl rfl (SR.idxS tU_ok tI_ok rfl rfl rfl rfl e13 rfl (getI_some ht13).1) ?_
            refine OJ.st rfl rfl rfl (SR.load rfl rfl (fun w' hx => ld1 tU_ok rfl rfl (CA.ext ((hS.rd' (i := 0) rfl).at_ e13 ht13) hx) rfl)) ?_
            refine OJ.pures tU_ok 2 rfl ?_
            refine OJ.nil (EJ.next ?_)
            refine CJ.cond rfl (fun hb => ?_) (fun hb => ?_)
            · replace H := pif_t (of_decide_eq_true hb) H
              refine CJ.region ?_
              refine OJ.pures tU_ok 2 rfl ?_
              refine OJ.ef rfl rfl rfl (Ef.lit tU_ok tI_ok hS (C := (ci .i64)) rfl rfl rfl rfl rfl rfl ([a1] : List Int) rfl rfl rfl rfl) ?_
              rintro _ w1 ⟨A14, rfl, hS⟩
              obtain ⟨u15, hu15, H⟩ := pbind H
              refine OJ.ew rfl rfl rfl (Ew.append tU_ok tI_ok (C := (ci .i64)) (xs := y6) (ys := ([a1] : List Int)) hS (i := 0) rfl rfl rfl rfl rfl rfl rfl rfl rfl rfl rfl rfl rfl (hS.rd (i := 1) rfl) (chk_some hu15)) ?_
              rintro _ w1 ⟨A16, c17, rfl, hS⟩
              refine OJ.pures tU_ok 1 rfl ?_
              refine OJ.nil (EJ.next ?_)
              refine CJ.region ?_
              refine OJ.pures tU_ok 3 rfl ?_
              obtain ⟨t18, ht18, H⟩ := pbind H
              obtain ⟨ad18, e18⟩ := (hS.rd' (i := 0) rfl).some' ht18
              refine OJ.st rfl rfl rfl (SR.idxS tU_ok tI_ok rfl rfl rfl rfl e18 rfl (getI_some ht18).1) ?_
              refine OJ.st rfl rfl rfl (SR.load rfl rfl (fun w' hx => ld1 tU_ok rfl rfl (CA.ext ((hS.rd' (i := 0) rfl).at_ e18 ht18) hx) rfl)) ?_
              refine OJ.ef rfl rfl rfl (Ef.lit tU_ok tI_ok hS (C := (ci .i64)) rfl rfl rfl rfl rfl rfl ([t18] : List Int) rfl rfl rfl rfl) ?_
              rintro _ w1 ⟨A19, rfl, hS⟩
              obtain ⟨u20, hu20, H⟩ := pbind H
              refine OJ.ew rfl rfl rfl (Ew.append tU_ok tI_ok (C := (ci .i64)) (xs := (y6 ++ ([a1] : List Int))) (ys := ([t18] : List Int)) hS (i := 0) rfl rfl rfl rfl rfl rfl rfl rfl rfl rfl rfl rfl rfl (hS.rd (i := 2) rfl) (chk_some hu20)) ?_
              rintro _ w1 ⟨A21, c22, rfl, hS⟩
              refine OJ.pures tU_ok 1 rfl ?_
              refine OJ.nil (EJ.blk (EJ.next ?_))
              refine CJ.region ?_
              refine OJ.pures tU_ok 3 rfl ?_
              refine OJ.nil ?_
              exact EJ.round k (F' := [(0, .slice Aa0 a0.length ca0), (1, .int .i64 a1), (5, .slice A21 ((y6 ++ ([a1] : List Int)) ++ ([t18] : List Int)).length c22), (6, .bool true), (7, .int .i64 (IntKind.i64.wrap (y10 + 1)))]) ⟨rfl, rfl, rfl, rfl, rfl, trivial⟩ (Nat.lt_succ_self _) ⟨((y6 ++ ([a1] : List Int)) ++ ([t18] : List Int)), true, (IntKind.i64.wrap (y10 + 1)), A21, c22, rfl, hS.pick [0] [0] rfl, H⟩
            · replace H := pif_f (of_decide_eq_false hb) H
              refine CJ.skip (EJ.next ?_)
              refine CJ.region ?_
              refine OJ.pures tU_ok 3 rfl ?_
              obtain ⟨t23, ht23, H⟩ := pbind H
              obtain ⟨ad23, e23⟩ := (hS.rd' (i := 0) rfl).some' ht23
              refine OJ.st rfl rfl rfl (SR.idxS tU_ok tI_ok rfl rfl rfl rfl e23 rfl (getI_some ht23).1) ?_
              refine OJ.st rfl rfl rfl (SR.load rfl rfl (fun w' hx => ld1 tU_ok rfl rfl (CA.ext ((hS.rd' (i := 0) rfl).at_ e23 ht23) hx) rfl)) ?_
              refine OJ.ef rfl rfl rfl (Ef.lit tU_ok tI_ok hS (C := (ci .i64)) rfl rfl rfl rfl rfl rfl ([t23] : List Int) rfl rfl rfl rfl) ?_
              rintro _ w1 ⟨A24, rfl, hS⟩
              obtain ⟨u25, hu25, H⟩ := pbind H
              refine OJ.ew rfl rfl rfl (Ew.append tU_ok tI_ok (C := (ci .i64)) (xs := y6) (ys := ([t23] : List Int)) hS (i := 0) rfl rfl rfl rfl rfl rfl rfl rfl rfl rfl rfl rfl rfl (hS.rd (i := 1) rfl) (chk_some hu25)) ?_
              rintro _ w1 ⟨A26, c27, rfl, hS⟩
              refine OJ.pures tU_ok 1 rfl ?_
              refine OJ.nil (EJ.blk (EJ.next ?_))
              refine CJ.region ?_
              refine OJ.pures tU_ok 3 rfl ?_
              refine OJ.nil ?_
              exact EJ.round k (F' := [(0, .slice Aa0 a0.length ca0), (1, .int .i64 a1), (5, .slice A26 (y6 ++ ([t23] : List Int)).length c27), (6, .bool true), (7, .int .i64 (IntKind.i64.wrap (y10 + 1)))]) ⟨rfl, rfl, rfl, rfl, rfl, trivial⟩ (Nat.lt_succ_self _) ⟨(y6 ++ ([t23] : List Int)), true, (IntKind.i64.wrap (y10 + 1)), A26, c27, rfl, hS.pick [0] [0] rfl, H⟩
          · replace H := pifb_f hb H
            refine CJ.skip (EJ.next ?_)
            refine CJ.region ?_
            refine OJ.pures tU_ok 3 rfl ?_
            obtain ⟨t28, ht28, H⟩ := pbind H
            obtain ⟨ad28, e28⟩ := (hS.rd' (i := 0) rfl).some' ht28
            refine OJ.st rfl rfl rfl (SR.idxS tU_ok tI_ok rfl rfl rfl rfl e28 rfl (getI_some ht28).1) ?_
            refine OJ.st rfl rfl rfl (SR.load rfl rfl (fun w' hx => ld1 tU_ok rfl rfl (CA.ext ((hS.rd' (i := 0) rfl).at_ e28 ht28) hx) rfl)) ?_
            refine OJ.ef rfl rfl rfl (Ef.lit tU_ok tI_ok hS (C := (ci .i64)) rfl rfl rfl rfl rfl rfl ([t28] : List Int) rfl rfl rfl rfl) ?_
            rintro _ w1 ⟨A29, rfl, hS⟩
            obtain ⟨u30, hu30, H⟩ := pbind H
            refine OJ.ew rfl rfl rfl (Ew.append tU_ok tI_ok (C := (ci .i64)) (xs := y6) (ys := ([t28] : List Int)) hS (i := 0) rfl rfl rfl rfl rfl rfl rfl rfl rfl rfl rfl rfl rfl (hS.rd (i := 1) rfl) (chk_some hu30)) ?_
            rintro _ w1 ⟨A31, c32, rfl, hS⟩
            refine OJ.pures tU_ok 1 rfl ?_
            refine OJ.nil (EJ.blk (EJ.next ?_))
            refine CJ.region ?_
            refine OJ.pures tU_ok 3 rfl ?_
            refine OJ.nil ?_
            exact EJ.round k (F' := [(0, .slice Aa0 a0.length ca0), (1, .int .i64 a1), (5, .slice A31 (y6 ++ ([t28] : List Int)).length c32), (6, .bool y9), (7, .int .i64 (IntKind.i64.wrap (y10 + 1)))]) ⟨rfl, rfl, rfl, rfl, rfl, trivial⟩ (Nat.lt_succ_self _) ⟨(y6 ++ ([t28] : List Int)), y9, (IntKind.i64.wrap (y10 + 1)), A31, c32, rfl, hS.pick [0] [0] rfl, H⟩
      · replace H := pif_f (of_decide_eq_false hb) H
        refine CJ.exit (EJ.skE (EJ.skE (EJ.hit (?_))))
        exact EJ.meet (F' := [(1, .int .i64 a1), (5, .slice A7 y6.length c8), (6, .bool y9)]) ⟨rfl, rfl, rfl, trivial⟩ ⟨y6, y9, A7, c8, H, rfl, hS.pick [0] [0] rfl⟩
  · rintro F w1 ⟨y2, y5, A3, c4, he, rfl, hS⟩
    obtain rfl := Option.some.inj he
    have H := K186
    refine EJ.next ?_
    refine CJ.seq ?_
    refine CJ.seq ?_
    refine CJ.region ?_
    refine OJ.pures tU_ok 2 rfl ?_
    refine OJ.nil (EJ.next ?_)
    refine CJ.cond rfl (fun hb => ?_) (fun hb => ?_)
    · replace H := pif_t hb H
      refine CJ.region ?_
      refine OJ.pures tU_ok 2 rfl ?_
      refine OJ.ef rfl rfl rfl (Ef.lit tU_ok tI_ok hS (C := (ci .i64)) rfl rfl rfl rfl rfl rfl ([a1] : List Int) rfl rfl rfl rfl) ?_
      rintro _ w1 ⟨A33, rfl, hS⟩
      obtain ⟨u34, hu34, H⟩ := pbind H
      refine OJ.ew rfl rfl rfl (Ew.append tU_ok tI_ok (C := (ci .i64)) (xs := y2) (ys := ([a1] : List Int)) hS (i := 0) rfl rfl rfl rfl rfl rfl rfl rfl rfl rfl rfl rfl rfl (hS.rd (i := 1) rfl) (chk_some hu34)) ?_
      rintro _ w1 ⟨A35, c36, rfl, hS⟩
      refine OJ.pures tU_ok 1 rfl ?_
      refine OJ.nil (EJ.next ?_)
      refine CJ.seq ?_
      refine CJ.region ?_
      refine OJ.pures tU_ok 2 rfl ?_
      refine OJ.nil (EJ.next ?_)
      refine CJ.ret (?_)
      obtain rfl := Option.some.inj H
      exact EJ.fin rfl (.tmp rfl .nil) ⟨A35, c36, rfl, hS.pick [0] [] rfl⟩
    · replace H := pifb_f hb H
      refine CJ.skip (EJ.next ?_)
      refine CJ.seq ?_
      refine CJ.region ?_
      refine OJ.pures tU_ok 2 rfl ?_
      refine OJ.nil (EJ.next ?_)
      refine CJ.ret (?_)
      obtain rfl := Option.some.inj H
      exact EJ.fin rfl (.tmp rfl .nil) ⟨A3, c4, rfl, hS.pick [0] [] rfl⟩

def spec_WateredYards.l1 (a1 : List Spot) (t4 : Arr 10 (Arr 10 Int) × List (List Spot)) : Nat → (List Int) → Int → Option (List Int)
  | 0, _, _ => none
  | k + 1, y13, y16 => if y16 < (a1.length : Int) then ((getI a1 y16).bind fun t17 => (getI a1 y16).bind fun t18 => (getI t4.1.l t17.Y).bind fun t19 => (getI t19.l t18.X).bind fun t20 => (spec_l00Put.f k y13 (IntKind.i64.wrap (t20 - 1))).bind fun t21 => spec_WateredYards.l1 a1 t4 k t21 (IntKind.i64.wrap (y16 + 1))) else (some y13)
def spec_WateredYards.f (k : Nat) (a0 : Pasture) (a1 : List Spot) : Option (List Int × Int) := (spec_l01All.f k a0 a1).bind fun t2 => if t2 ≠ 0 then (some (([] : List Int), t2)) else ((spec_l01Numbers.f k a0).bind fun t4 => (spec_WateredYards.l1 a1 t4 k ([] : List Int) 0).bind fun y10 => some (y10, 0))
theorem spec_WateredYards.c (k : Nat) (w : World) (a0 : Pasture) (Aa1 : Option Addr) (ca1 : Nat) (a1 : List Spot) (hr1 : Rd cSpot w Aa1 a1) (hc1 : a1.length ≤ ca1) (r : List Int × Int) (H : spec_WateredYards.f k a0 a1 = some r) :
    CV Try.prog 12 [.agg (cPasture.enc a0).toArray, .slice Aa1 a1.length ca1].toArray w fun v w' => ∃ (A0 : Option Addr) (c0 : Nat), v = .tuple #[.slice A0 r.1.length c0, .int .i64 r.2] ∧ St w no w' [rowC (ci .i64) A0 c0 2 r.1] [] := by
  have hS := ((St.init w no).param cSpot Aa1 ca1 a1 hr1 hc1)
  unfold spec_WateredYards.f at H
  refine CV.body Try.func12 rfl Try.ntmps12 rfl ?_
  refine CJ.seq ?_
  refine CJ.region ?_
  refine OJ.ef rfl rfl rfl (Ef.box hS rfl rfl (cPasture.enc a0) rfl) ?_
  rintro _ w1 ⟨b1, rfl, hS⟩
  refine OJ.pures tU_ok 2 rfl ?_
  refine OJ.nil (EJ.next ?_)
  refine CJ.seq ?_
  refine CJ.seq ?_
  refine CJ.region ?_
  refine OJ.pures tU_ok 1 rfl ?_
  obtain ⟨t2, ht2, H⟩ := pbind H
  refine OJ.callF rfl rfl rfl rfl rfl hb35 rfl (spec_l01All.c k _ _ a0 (hS.cells (i := 0) rfl) Aa1 ca1 a1 (hS.rd' (i := 0) rfl) (hS.le' (i := 0) rfl) _ ht2) ?_
  rintro _ w1 ⟨rfl, hs⟩
  replace hS := hS.grow hs
  refine OJ.pures tU_ok 1 rfl ?_
  refine OJ.nil (EJ.next ?_)
  refine CJ.seq ?_
  refine CJ.region ?_
  refine OJ.pures tU_ok 2 rfl ?_
  refine OJ.nil (EJ.next ?_)
  refine CJ.cond rfl (fun hb => ?_) (fun hb => ?_)
  · replace H := pif_t (of_decide_eq_true hb) H
    refine CJ.seq ?_
    refine CJ.region ?_
    refine OJ.ef rfl rfl rfl (Ef.lit tU_ok tI_ok hS (C := (ci .i64)) rfl rfl rfl rfl rfl rfl ([] : List Int) rfl rfl rfl rfl) ?_
    rintro _ w1 ⟨A3, rfl, hS⟩
    refine OJ.pures tU_ok 3 rfl ?_
    refine OJ.nil (EJ.next ?_)
    refine CJ.ret (EJ.skR (?_))
    obtain rfl := Option.some.inj H
    exact EJ.fin rfl (.tmp rfl (.tmp rfl .nil)) ⟨A3, (([] : List Int).length), rfl, hS.pick [1] [] rfl⟩
  · replace H := pif_f (of_decide_eq_false hb) H
    refine CJ.skip (EJ.next ?_)
    refine CJ.seq ?_
    refine CJ.region ?_
    obtain ⟨t4, ht4, H⟩ := pbind H
    refine OJ.callF rfl rfl rfl rfl rfl hb22 rfl (spec_l01Numbers.c k _ _ a0 (hS.cells (i := 0) rfl) _ ht4) ?_
    rintro _ w1 ⟨A5, c6, D7, rfl, hs⟩
    replace hS := hS.addN hs
    refine OJ.pures tU_ok 3 rfl ?_
    refine OJ.ef rfl rfl rfl (Ef.alloc hS tI_ok rfl rfl ((carr 10 (carr 10 (ci .i64))).enc (Arr.mk' (Arr.mk' 0 : Arr 10 Int) : Arr 10 (Arr 10 Int))) (by kernel_rfl)) ?_
    rintro _ w1 ⟨b8, rfl, hS⟩
    refine OJ.es rfl rfl (Es.put tI_ok hS (i := 2) rfl rfl rfl rfl rfl (vs := (carr 10 (carr 10 (ci .i64))).enc t4.1) rfl ((carr 10 (carr 10 (ci .i64))).len _) ((carr 10 (carr 10 (ci .i64))).one _) (Put.all (carr 10 (carr 10 (ci .i64))) (Arr.mk' (Arr.mk' 0 : Arr 10 Int) : Arr 10 (Arr 10 Int)) t4.1) (by (try simp only [add_lit, Nat.add_assoc, Nat.zero_add, Nat.add_zero]) <;> rfl)) ?_
    intro w1 hS
    refine OJ.pures tU_ok 1 rfl ?_
    refine OJ.nil (EJ.next ?_)
    refine CJ.seq ?_
    refine CJ.region ?_
    refine OJ.ef rfl rfl rfl (Ef.lit tU_ok tI_ok hS (C := (ci .i64)) rfl rfl rfl rfl rfl rfl ([] : List Int) rfl rfl rfl rfl) ?_
    rintro _ w1 ⟨A9, rfl, hS⟩
    refine OJ.pures tU_ok 1 rfl ?_
    refine OJ.nil (EJ.next ?_)
    refine CJ.seq ?_
    refine CJ.seq ?_
    refine CJ.region ?_
    refine OJ.pures tU_ok 1 rfl ?_
    refine OJ.nil (EJ.next ?_)
    obtain ⟨j185, H, K185⟩ := pbind H
    refine CJ.cut1 (fun F w1 => ∃ (y10 : List Int) (A11 : Option Addr) (c12 : Nat), (some y10 : Option (List Int)) = some j185 ∧ F = [(9, .slice A11 y10.length c12)] ∧ St w no w1 [rowC (ci .i64) A11 c12 2 y10] [roC cSpot Aa1 ca1 a1]) ?_ ?_
    · skip
      refine CJ.block ?_
      refine CJ.loop (fun k F w1 => ∃ (y13 : List Int) (y16 : Int) (A14 : Option Addr) (c15 : Nat), F = [(1, .slice Aa1 a1.length ca1), (7, .pointer (some ⟨b8, 0, none⟩)), (9, .slice A14 y13.length c15), (10, .int .i64 y16)] ∧ St w no w1 [box b8 ((carr 10 (carr 10 (ci .i64))).enc t4.1) 54, rowC (ci .i64) A14 c15 2 y13] [roC cSpot Aa1 ca1 a1] ∧ spec_WateredYards.l1 a1 t4 k y13 y16 = some j185) k (F' := [(1, .slice Aa1 a1.length ca1), (7, .pointer (some ⟨b8, 0, none⟩)), (9, .slice A9 ([] : List Int).length (([] : List Int).length)), (10, .int .i64 0)]) ⟨rfl, rfl, rfl, rfl, trivial⟩ ⟨([] : List Int), 0, A9, (([] : List Int).length), rfl, hS.pick [2, 3] [0] rfl, H⟩ ?_
      rintro k F w1 ⟨y13, y16, A14, c15, rfl, hS, H⟩
      cases k with
      | zero => rw [spec_WateredYards.l1] at H; cases H
      | succ k =>
        rw [spec_WateredYards.l1] at H
        refine CJ.seq ?_
        refine CJ.seq ?_
        refine CJ.region ?_
        refine OJ.pures tU_ok 4 rfl ?_
        refine OJ.nil (EJ.next ?_)
        refine CJ.cond rfl (fun hb => ?_) (fun hb => ?_)
        · replace H := pif_t (of_decide_eq_true hb) H
          refine CJ.skip (EJ.next ?_)
          refine CJ.seq ?_
          refine CJ.block ?_
          refine CJ.draw [] [0, 1, 2, 3, 4, 5, 6, 7, 8, 9, 10, 11, 12, 13, 14, 15, 16] mixed (by kernel_rfl) hS fun w1 hS => ?_
          refine DJ.pures tU_ok 3 rfl ?_
          obtain ⟨t17, ht17, H⟩ := pbind H
          obtain ⟨ad17, e17⟩ := (hS.rd' (i := 0) rfl).some' ht17
          refine DJ.st rfl rfl rfl rfl rfl (SR.idxS tU_ok tI_ok rfl rfl rfl rfl e17 rfl (getI_some ht17).1) ?_
          refine DJ.st rfl rfl rfl rfl rfl (SR.fieldAddr tU_ok tI_ok rfl rfl rfl rfl rfl rfl) ?_
          refine DJ.st rfl rfl rfl rfl rfl (SR.load rfl rfl (fun w' hx => ld1 tU_ok rfl rfl (CA.ext (CA.sub ((hS.rd' (i := 0) rfl).at_ e17 ht17) 1) hx) rfl)) ?_
          refine DJ.pures tU_ok 2 rfl ?_
          obtain ⟨t18, ht18, H⟩ := pbind H
          obtain ⟨ad18, e18⟩ := (hS.rd' (i := 0) rfl).some' ht18
          refine DJ.st rfl rfl rfl rfl rfl (SR.idxS tU_ok tI_ok rfl rfl rfl rfl e18 rfl (getI_some ht18).1) ?_
          refine DJ.st rfl rfl rfl rfl rfl (SR.fieldAddr tU_ok tI_ok rfl rfl rfl rfl rfl rfl) ?_
          refine DJ.st rfl rfl rfl rfl rfl (SR.load rfl rfl (fun w' hx => ld1 tU_ok rfl rfl (CA.ext (CA.sub ((hS.rd' (i := 0) rfl).at_ e18 ht18) 0) hx) rfl)) ?_
          obtain ⟨t19, ht19, H⟩ := pbind H
          refine DJ.st rfl rfl rfl rfl rfl (SR.idxA tU_ok tI_ok rfl rfl rfl rfl rfl (Arr.lt ht19)) ?_
          obtain ⟨t20, ht20, H⟩ := pbind H
          refine DJ.st rfl rfl rfl rfl rfl (SR.idxA tU_ok tI_ok rfl rfl rfl rfl rfl (Arr.lt ht20)) ?_
          refine DJ.st rfl rfl rfl rfl rfl (SR.load rfl rfl (fun w' hx => ld1 tU_ok rfl rfl (CA.ext (CA.idx (CA.idx (hS.cells (i := 0) rfl) ht19) ht20) hx) rfl)) ?_
          refine DJ.pures tU_ok 1 rfl ?_
          obtain ⟨t21, ht21, H⟩ := pbind H
          refine DJ.callF rfl rfl rfl rfl rfl rfl rfl hb36 rfl (spec_l00Put.c k _ A14 c15 y13 (hS.rd (i := 1) rfl) (hS.le (i := 1) rfl) (IntKind.i64.wrap (t20 - 1)) _ ht21) (by rintro v w' ⟨A22, c23, rfl, hs⟩; exact hs.ext) ?_
          rintro _ w1 ⟨A22, c23, rfl, hs⟩
          replace hS := hS.addN hs
          refine DJ.pures tU_ok 1 rfl ?_
          refine DJ.nil (EJ.blk (EJ.next ?_))
          refine CJ.region ?_
          refine OJ.pures tU_ok 3 rfl ?_
          refine OJ.nil ?_
          exact EJ.round k (F' := [(1, .slice Aa1 a1.length ca1), (7, .pointer (some ⟨b8, 0, none⟩)), (9, .slice A22 t21.length c23), (10, .int .i64 (IntKind.i64.wrap (y16 + 1)))]) ⟨rfl, rfl, rfl, rfl, trivial⟩ (Nat.lt_succ_self _) ⟨t21, (IntKind.i64.wrap (y16 + 1)), A22, c23, rfl, hS.pick [0, 2] [0] rfl, H⟩
        · replace H := pif_f (of_decide_eq_false hb) H
          refine CJ.exit (EJ.skE (EJ.skE (EJ.hit (?_))))
          exact EJ.meet (F' := [(9, .slice A14 y13.length c15)]) ⟨rfl, trivial⟩ ⟨y13, A14, c15, H, rfl, hS.pick [1] [0] rfl⟩
    · rintro F w1 ⟨y10, A11, c12, he, rfl, hS⟩
      obtain rfl := Option.some.inj he
      have H := K185
      refine EJ.next ?_
      refine CJ.seq ?_
      refine CJ.region ?_
      refine OJ.pures tU_ok 3 rfl ?_
      refine OJ.nil (EJ.next ?_)
      refine CJ.ret (?_)
      obtain rfl := Option.some.inj H
      exact EJ.fin rfl (.tmp rfl (.tmp rfl .nil)) ⟨A11, c12, rfl, hS.pick [0] [] rfl⟩

def slices_DeleteFunc_impl_Spot_impl_Spot.l1 (a1 : Spot → Option Bool) : Nat → (List Spot) → Int → Int → Option ((List Spot) × Int)
  | 0, _, _, _ => none
  | k + 1, y4, y5, y6 => if y6 < (y4.length : Int) then ((getI y4 y6).bind fun t7 => (a1 t7).bind fun t9 => if (!t9) = true then ((getI y4 y5).bind fun t10 => slices_DeleteFunc_impl_Spot_impl_Spot.l1 a1 k (y4.set y5.toNat t7) (IntKind.i64.wrap (y5 + 1)) (IntKind.i64.wrap (y6 + 1))) else (slices_DeleteFunc_impl_Spot_impl_Spot.l1 a1 k y4 y5 (IntKind.i64.wrap (y6 + 1)))) else (some (y4, y5))
def slices_DeleteFunc_impl_Spot_impl_Spot.f (k : Nat) (a0 : List Spot) (a1 : Spot → Option Bool) : Option (List Spot) := (slices_IndexFunc_impl_Spot_impl_Spot.f k a0 a1).bind fun t1 => if t1 = (-1) then (some a0) else ((slices_DeleteFunc_impl_Spot_impl_Spot.l1 a1 k a0 t1 (IntKind.i64.wrap (t1 + 1))).bind fun (y2, y3) => (chk ((0 : Int) ≤ y3 ∧ y3 ≤ (y2.length : Int) ∧ (y2.length : Int) ≤ (y2.length : Int))).bind fun u11 => (chk ((0 : Int) ≤ 0 ∧ 0 ≤ y3 ∧ y3 ≤ ((y2.take y3.toNat ++ List.replicate (y2.length - y3.toNat) (⟨0, 0⟩ : Spot)).length : Int))).bind fun u12 => some ((y2.take y3.toNat ++ List.replicate (y2.length - y3.toNat) (⟨0, 0⟩ : Spot)).take y3.toNat))
theorem slices_DeleteFunc_impl_Spot_impl_Spot.c (k : Nat) (w : World) (Aa0 : Option Addr) (ca0 : Nat) (a0 : List Spot) (na1 : Nat) (fsa1 capa1 : Array Value) (hb1 : hasBody Try.prog na1) (a1 : Spot → Option Bool) (hf1 : ∀ (z0 : Spot) (r : Bool), a1 z0 = some r → ∀ w', Chg (fpU [rowC cSpot Aa0 ca0 72 a0]) w w' → CV Try.prog na1 (fsa1 ++ [.agg (cSpot.enc z0).toArray].toArray ++ capa1) w' fun v w'' => v = .bool r ∧ Ext w' w'') (hin : St w (fpU [rowC cSpot Aa0 ca0 72 a0]) w [rowC cSpot Aa0 ca0 72 a0] []) (r : List Spot) (H : slices_DeleteFunc_impl_Spot_impl_Spot.f k a0 a1 = some r) :
    CV Try.prog 51 [.slice Aa0 a0.length ca0, .func (.func na1) fsa1 capa1].toArray w fun v w' => ∃ (A0 : Option Addr) (c0 : Nat), v = .slice A0 r.length c0 ∧ St w (fpU [rowC cSpot Aa0 ca0 72 a0]) w' [rowC cSpot A0 c0 72 r] [] := by
  have hS := hin
  unfold slices_DeleteFunc_impl_Spot_impl_Spot.f at H
  refine CV.body Try.func51 rfl Try.ntmps51 rfl ?_
  refine CJ.seq ?_
  refine CJ.region ?_
  refine OJ.pures tU_ok 1 rfl ?_
  refine OJ.nil (EJ.next ?_)
  refine CJ.seq ?_
  refine CJ.region ?_
  refine OJ.pures tU_ok 2 rfl ?_
  obtain ⟨t1, ht1, H⟩ := pbind H
  refine OJ.callF rfl rfl rfl rfl rfl hb57 rfl (slices_IndexFunc_impl_Spot_impl_Spot.c k _ Aa0 ca0 a0 (hS.rd (i := 0) rfl) (hS.le (i := 0) rfl) na1 fsa1 capa1 hb1 a1 (fun z0 r h w' hx => hf1 z0 r h w' (hS.chg.then hx (fun _ _ e => e.elim))) _ ht1) ?_
  rintro _ w1 ⟨rfl, hs⟩
  replace hS := hS.grow hs
  refine OJ.pures tU_ok 1 rfl ?_
  refine OJ.nil (EJ.next ?_)
  refine CJ.seq ?_
  refine CJ.seq ?_
  refine CJ.region ?_
  refine OJ.pures tU_ok 2 rfl ?_
  refine OJ.nil (EJ.next ?_)
  refine CJ.cond rfl (fun hb => ?_) (fun hb => ?_)
  · replace H := pif_t (of_decide_eq_true hb) H
    refine CJ.seq ?_
    refine CJ.region ?_
    refine OJ.pures tU_ok 2 rfl ?_
    refine OJ.nil (EJ.next ?_)
    refine CJ.ret (EJ.skR (?_))
    obtain rfl := Option.some.inj H
    exact EJ.fin rfl (.tmp rfl .nil) ⟨Aa0, ca0, rfl, hS.pick [0] [] rfl⟩
  · replace H := pif_f (of_decide_eq_false hb) H
    refine CJ.skip (EJ.next ?_)
    refine CJ.seq ?_
    refine CJ.seq ?_
    refine CJ.region ?_
    refine OJ.pures tU_ok 3 rfl ?_
    refine OJ.nil (EJ.next ?_)
    obtain ⟨j191, H, K191⟩ := pbind H
    refine CJ.cut1 (fun F w1 => ∃ (y2 : List Spot) (y3 : Int) , (some (y2, y3) : Option ((List Spot) × Int)) = some j191 ∧ F = [(0, .slice Aa0 y2.length ca0), (5, .int .i64 y3)] ∧ St w (fpU [rowC cSpot Aa0 ca0 72 a0]) w1 [rowC cSpot Aa0 ca0 72 y2] []) ?_ ?_
    · skip
      refine CJ.block ?_
      refine CJ.loop (fun k F w1 => ∃ (y4 : List Spot) (y5 : Int) (y6 : Int), F = [(0, .slice Aa0 y4.length ca0), (1, .func (.func na1) fsa1 capa1), (5, .int .i64 y5), (6, .int .i64 y6)] ∧ St w (fpU [rowC cSpot Aa0 ca0 72 a0]) w1 [rowC cSpot Aa0 ca0 72 y4] [] ∧ slices_DeleteFunc_impl_Spot_impl_Spot.l1 a1 k y4 y5 y6 = some j191) k (F' := [(0, .slice Aa0 a0.length ca0), (1, .func (.func na1) fsa1 capa1), (5, .int .i64 t1), (6, .int .i64 (IntKind.i64.wrap (t1 + 1)))]) ⟨rfl, rfl, rfl, rfl, trivial⟩ ⟨a0, t1, (IntKind.i64.wrap (t1 + 1)), rfl, hS.pick [0] [] rfl, H⟩ ?_
      rintro k F w1 ⟨y4, y5, y6, rfl, hS, H⟩
      cases k with
      | zero => rw [slices_DeleteFunc_impl_Spot_impl_Spot.l1] at H; cases H
      | succ k =>
        rw [slices_DeleteFunc_impl_Spot_impl_Spot.l1] at H
        refine CJ.seq ?_
        refine CJ.seq ?_
        refine CJ.region ?_
        refine OJ.pures tU_ok 4 rfl ?_
        refine OJ.nil (EJ.next ?_)
        refine CJ.cond rfl (fun hb => ?_) (fun hb => ?_)
        · replace H := pif_t (of_decide_eq_true hb) H
          refine CJ.skip (EJ.next ?_)
          refine CJ.seq ?_
          refine CJ.block ?_
          refine CJ.seq ?_
          refine CJ.region ?_
          refine OJ.pures tU_ok 2 rfl ?_
          obtain ⟨t7, ht7, H⟩ := pbind H
          obtain ⟨ad7, e7⟩ := (hS.rd (i := 0) rfl).some' ht7
          refine OJ.st rfl rfl rfl (SR.idxS tU_ok tI_ok rfl rfl rfl rfl e7 rfl (getI_some ht7).1) ?_
          refine OJ.st rfl rfl rfl (SR.load rfl rfl (fun w' hx => ldE tU_ok tI_ok rfl rfl rfl (CA.ext ((hS.rd (i := 0) rfl).at_ e7 ht7) hx) rfl)) ?_
          refine OJ.ef rfl rfl rfl (Ef.alloc hS tI_ok rfl rfl (cSpot.enc (⟨0, 0⟩ : Spot)) rfl) ?_
          rintro _ w1 ⟨b8, rfl, hS⟩
          refine OJ.es rfl rfl (Es.store tI_ok hS (i := 1) rfl rfl rfl rfl rfl rfl (vs := cSpot.enc t7) rfl (cSpot.len _) (cSpot.one _) (Nat.le_of_ble_eq_true rfl) (cSpot.enc t7) rfl) ?_
          intro w1 hS
          refine OJ.nil (EJ.next ?_)
          refine CJ.seq ?_
          refine CJ.region ?_
          refine OJ.pures tU_ok 1 rfl ?_
          refine OJ.st rfl rfl rfl (SR.load rfl rfl (fun w' hx => ldE tU_ok tI_ok rfl rfl rfl (CA.ext (hS.cells (i := 1) rfl) hx) rfl)) ?_
          obtain ⟨t9, ht9, H⟩ := pbind H
          refine OJ.call rfl rfl (Nat.le_of_ble_eq_true rfl) rfl rfl rfl hb1 rfl (hf1 t7 _ ht9 _ hS.chg) ?_
          rintro _ w1 ⟨rfl, hs⟩
          replace hS := hS.grow hs
          refine OJ.pures tU_ok 1 rfl ?_
          refine OJ.nil (EJ.next ?_)
          refine CJ.cond rfl (fun hb => ?_) (fun hb => ?_)
          · replace H := pif_t hb H
            refine CJ.seq ?_
            refine CJ.region ?_
            refine OJ.pures tU_ok 2 rfl ?_
            refine OJ.st rfl rfl rfl (SR.load rfl rfl (fun w' hx => ldE tU_ok tI_ok rfl rfl rfl (CA.ext (hS.cells (i := 1) rfl) hx) rfl)) ?_
            obtain ⟨t10, ht10, H⟩ := pbind H
            obtain ⟨ad10, e10⟩ := (hS.rd (i := 0) rfl).some' ht10
            refine OJ.st rfl rfl rfl (SR.idxS tU_ok tI_ok rfl rfl rfl rfl e10 rfl (getI_some ht10).1) ?_
            refine OJ.es rfl rfl (Es.storeR tI_ok hS (i := 0) (off := 0) rfl rfl ht10 e10 rfl rfl rfl rfl (vs := cSpot.enc t7) rfl (cSpot.len _) (cSpot.one _) (Nat.le_of_ble_eq_true rfl) t7 rfl) ?_
            intro w1 hS
            refine OJ.as (t := 0) rfl (show _ = (.slice Aa0 (y4.set y5.toNat t7).length ca0 : Value) by simp only [List.length_set]) ?_
            refine OJ.as (t := 17) rfl (show _ = (.slice Aa0 (y4.set y5.toNat t7).length ca0 : Value) by simp only [List.length_set]) ?_
            refine OJ.as (t := 22) rfl (show _ = (.slice Aa0 (y4.set y5.toNat t7).length ca0 : Value) by simp only [List.length_set]) ?_
            refine OJ.as (t := 30) rfl (show _ = (.slice Aa0 (y4.set y5.toNat t7).length ca0 : Value) by simp only [List.length_set]) ?_
            refine OJ.nil (EJ.next ?_)
            refine CJ.region ?_
            refine OJ.pures tU_ok 3 rfl ?_
            refine OJ.nil (EJ.blk (EJ.next ?_))
            refine CJ.region ?_
            refine OJ.pures tU_ok 3 rfl ?_
            refine OJ.nil ?_
            exact EJ.round k (F' := [(0, .slice Aa0 (y4.set y5.toNat t7).length ca0), (1, .func (.func na1) fsa1 capa1), (5, .int .i64 (IntKind.i64.wrap (y5 + 1))), (6, .int .i64 (IntKind.i64.wrap (y6 + 1)))]) ⟨rfl, rfl, rfl, rfl, trivial⟩ (Nat.lt_succ_self _) ⟨(y4.set y5.toNat t7), (IntKind.i64.wrap (y5 + 1)), (IntKind.i64.wrap (y6 + 1)), rfl, hS.pick [0] [] rfl, H⟩
          · replace H := pifb_f hb H
            refine CJ.skip (EJ.blk (EJ.next ?_))
            refine CJ.region ?_
            refine OJ.pures tU_ok 3 rfl ?_
            refine OJ.nil ?_
            exact EJ.round k (F' := [(0, .slice Aa0 y4.length ca0), (1, .func (.func na1) fsa1 capa1), (5, .int .i64 y5), (6, .int .i64 (IntKind.i64.wrap (y6 + 1)))]) ⟨rfl, rfl, rfl, rfl, trivial⟩ (Nat.lt_succ_self _) ⟨y4, y5, (IntKind.i64.wrap (y6 + 1)), rfl, hS.pick [0] [] rfl, H⟩
        · replace H := pif_f (of_decide_eq_false hb) H
          refine CJ.exit (EJ.skE (EJ.skE (EJ.hit (?_))))
          exact EJ.meet (F' := [(0, .slice Aa0 y4.length ca0), (5, .int .i64 y5)]) ⟨rfl, rfl, trivial⟩ ⟨y4, y5, H, rfl, hS.pick [0] [] rfl⟩
    · rintro F w1 ⟨y2, y3, he, rfl, hS⟩
      obtain rfl := Option.some.inj he
      have H := K191
      refine EJ.next ?_
      refine CJ.seq ?_
      refine CJ.region ?_
      refine OJ.pures tU_ok 2 rfl ?_
      obtain ⟨u11, hu11, H⟩ := pbind H
      refine OJ.st rfl rfl rfl (SR.cutS tU_ok tI_ok (y3.toNat) (y2.length) rfl rfl rfl rfl rfl rfl (.inr ⟨_, _, rfl, (chk_some hu11).1, rfl⟩) (.inl ⟨rfl, rfl⟩) (by have := (chk_some hu11); omega) (by have := (chk_some hu11); have := (hS.le (i := 0) rfl : y2.length ≤ ca0); omega)) ?_
      refine OJ.ewn rfl rfl (Ew.clear tU_ok tI_ok (C := cSpot) (lo := y3.toNat) hS (i := 0) rfl rfl rfl rfl rfl rfl rfl rfl rfl (⟨0, 0⟩ : Spot) rfl (by have := (chk_some hu11); omega) rfl) ?_
      rintro _ w1 ⟨rfl, hS⟩
      refine OJ.as (t := 0) rfl (show _ = (.slice Aa0 (y2.take y3.toNat ++ List.replicate (y2.length - y3.toNat) (⟨0, 0⟩ : Spot)).length ca0 : Value) by (rw [List.length_append, List.length_take, List.length_replicate, Nat.min_eq_left (by have := (chk_some hu11); omega), Nat.add_sub_cancel' (by have := (chk_some hu11); omega)])) ?_
      refine OJ.as (t := 36) rfl (show _ = (.slice Aa0 (y2.take y3.toNat ++ List.replicate (y2.length - y3.toNat) (⟨0, 0⟩ : Spot)).length ca0 : Value) by (rw [List.length_append, List.length_take, List.length_replicate, Nat.min_eq_left (by have := (chk_some hu11); omega), Nat.add_sub_cancel' (by have := (chk_some hu11); omega)])) ?_
      refine OJ.nil (EJ.next ?_)
      refine CJ.seq ?_
      refine CJ.region ?_
      refine OJ.pures tU_ok 2 rfl ?_
      obtain ⟨u12, hu12, H⟩ := pbind H
      refine OJ.st rfl rfl rfl (SR.cut0 tU_ok tI_ok rfl rfl rfl rfl rfl (by have := (chk_some hu12); omega) (by have := (chk_some hu12); have := (hS.le (i := 0) rfl : (y2.take y3.toNat ++ List.replicate (y2.length - y3.toNat) (⟨0, 0⟩ : Spot)).length ≤ ca0); omega)) ?_
      replace hS := hS.shrink (i := 0) (m := y3.toNat) rfl (by have := (chk_some hu12); omega)
      refine OJ.as (t := 41) rfl (show _ = (.slice Aa0 ((y2.take y3.toNat ++ List.replicate (y2.length - y3.toNat) (⟨0, 0⟩ : Spot)).take y3.toNat).length ca0 : Value) by rw [List.length_take, Nat.min_eq_left (by have := (chk_some hu12); omega)]) ?_
      refine OJ.pures tU_ok 1 rfl ?_
      refine OJ.nil (EJ.next ?_)
      refine CJ.ret (?_)
      obtain rfl := Option.some.inj H
      exact EJ.fin rfl (.tmp rfl .nil) ⟨Aa0, ca0, rfl, hS.pick [0] [] rfl⟩

def slices_Index_impl_Spot_impl_Spot.l1 (a0 : List Spot) (a1 : Spot) : Nat → Int → Option (Int ⊕ Unit)
  | 0, _ => none
  | k + 1, y2 => if y2 < (a0.length : Int) then ((getI a0 y2).bind fun t3 => if a1 = t3 then (some (Sum.inl y2)) else (slices_Index_impl_Spot_impl_Spot.l1 a0 a1 k (IntKind.i64.wrap (y2 + 1)))) else (some (Sum.inr ()))
def slices_Index_impl_Spot_impl_Spot.f (k : Nat) (a0 : List Spot) (a1 : Spot) : Option Int := (slices_Index_impl_Spot_impl_Spot.l1 a0 a1 k 0).bind fun s192 => match s192 with | .inl r => some r | .inr _ => some (-1)
theorem slices_Index_impl_Spot_impl_Spot.c (k : Nat) (w : World) (Aa0 : Option Addr) (ca0 : Nat) (a0 : List Spot) (hr0 : Rd cSpot w Aa0 a0) (hc0 : a0.length ≤ ca0) (a1 : Spot) (r : Int) (H : slices_Index_impl_Spot_impl_Spot.f k a0 a1 = some r) :
    CV Try.prog 63 [.slice Aa0 a0.length ca0, .agg (cSpot.enc a1).toArray].toArray w fun v w' => v = .int .i64 r ∧ Ext w w' := by
  have hS := ((St.init w no).param cSpot Aa0 ca0 a0 hr0 hc0)
  unfold slices_Index_impl_Spot_impl_Spot.f at H
  refine CV.body Try.func63 rfl Try.ntmps63 rfl ?_
  refine CJ.seq ?_
  refine CJ.region ?_
  refine OJ.ef rfl rfl rfl (Ef.box hS rfl rfl (cSpot.enc a1) rfl) ?_
  rintro _ w1 ⟨b1, rfl, hS⟩
  refine OJ.pures tU_ok 1 rfl ?_
  refine OJ.nil (EJ.next ?_)
  refine CJ.seq ?_
  refine CJ.seq ?_
  refine CJ.region ?_
  refine OJ.pures tU_ok 3 rfl ?_
  refine OJ.nil (EJ.next ?_)
  obtain ⟨j192, H, K192⟩ := pbind H
  refine CJ.cut1 (fun F w1 => (some (Sum.inr ()) : Option (Int ⊕ Unit)) = some j192 ∧ F = [] ∧ St w no w1 [] [roC cSpot Aa0 ca0 a0]) ?_ ?_
  · skip
    refine CJ.block ?_
    refine CJ.loop (fun k F w1 => ∃ (y2 : Int), F = [(0, .slice Aa0 a0.length ca0), (3, .pointer (some ⟨b1, 0, none⟩)), (7, .int .i64 (a0.length : Int)), (8, .int .i64 y2)] ∧ St w no w1 [box b1 (cSpot.enc a1) 72] [roC cSpot Aa0 ca0 a0] ∧ slices_Index_impl_Spot_impl_Spot.l1 a0 a1 k y2 = some j192) k (F' := [(0, .slice Aa0 a0.length ca0), (3, .pointer (some ⟨b1, 0, none⟩)), (7, .int .i64 (a0.length : Int)), (8, .int .i64 0)]) ⟨rfl, rfl, rfl, rfl, trivial⟩ ⟨0, rfl, hS.pick [0] [0] rfl, H⟩ ?_
    rintro k F w1 ⟨y2, rfl, hS, H⟩
    cases k with
    | zero => rw [slices_Index_impl_Spot_impl_Spot.l1] at H; cases H
    | succ k =>
      rw [slices_Index_impl_Spot_impl_Spot.l1] at H
      refine CJ.seq ?_
      refine CJ.region ?_
      refine OJ.pures tU_ok 1 rfl ?_
      refine OJ.nil (EJ.next ?_)
      refine CJ.seq ?_
      refine CJ.cond rfl (fun hb => ?_) (fun hb => ?_)
      · replace H := pif_t (of_decide_eq_true hb) H
        refine CJ.skip (EJ.next ?_)
        refine CJ.seq ?_
        refine CJ.block ?_
        refine CJ.seq ?_
        refine CJ.region ?_
        refine OJ.pures tU_ok 2 rfl ?_
        refine OJ.nil (EJ.next ?_)
        refine CJ.seq ?_
        refine CJ.draw [] [0, 1, 2, 3, 4, 5] mixed (by kernel_rfl) hS fun w1 hS => ?_
        refine DJ.st rfl rfl rfl rfl rfl (SR.load rfl rfl (fun w' hx => ldE tU_ok tI_ok rfl rfl rfl (CA.ext (hS.cells (i := 0) rfl) hx) rfl)) ?_
        refine DJ.pures tU_ok 2 rfl ?_
        obtain ⟨t3, ht3, H⟩ := pbind H
        obtain ⟨ad3, e3⟩ := (hS.rd' (i := 0) rfl).some' ht3
        refine DJ.st rfl rfl rfl rfl rfl (SR.idxS tU_ok tI_ok rfl rfl rfl rfl e3 rfl (getI_some ht3).1) ?_
        refine DJ.st rfl rfl rfl rfl rfl (SR.load rfl rfl (fun w' hx => ldE tU_ok tI_ok rfl rfl rfl (CA.ext ((hS.rd' (i := 0) rfl).at_ e3 ht3) hx) rfl)) ?_
        refine DJ.st rfl rfl rfl rfl rfl (SR.eqS eqT72 eqG72 rfl rfl rfl (rfl : _ = (cSpot.enc a1).toArray) (rfl : _ = (cSpot.enc t3).toArray)) ?_
        refine DJ.nil (EJ.next ?_)
        refine CJ.cond rfl (fun hb => ?_) (fun hb => ?_)
        · replace H := pif_t (of_decide_eq_true hb) H
          refine CJ.seq ?_
          refine CJ.region ?_
          refine OJ.pures tU_ok 2 rfl ?_
          refine OJ.nil (EJ.next ?_)
          refine CJ.ret (EJ.bkR (EJ.skR (EJ.skR (EJ.bkR (EJ.skR (EJ.skR (?_)))))))
          first | (obtain rfl := Option.some.inj H; have H := K192) | (obtain ⟨q192, H2, e192⟩ := pbind H; obtain rfl := Option.some.inj e192; obtain rfl := Option.some.inj K192; have H := H2)
          obtain rfl := Option.some.inj H
          exact EJ.fin rfl (.tmp rfl .nil) ⟨rfl, hS.ext⟩
        · replace H := pif_f (of_decide_eq_false hb) H
          refine CJ.skip (EJ.blk (EJ.next ?_))
          refine CJ.region ?_
          refine OJ.pures tU_ok 2 rfl ?_
          refine OJ.nil ?_
          exact EJ.round k (F' := [(0, .slice Aa0 a0.length ca0), (3, .pointer (some ⟨b1, 0, none⟩)), (7, .int .i64 (a0.length : Int)), (8, .int .i64 (IntKind.i64.wrap (y2 + 1)))]) ⟨rfl, rfl, rfl, rfl, trivial⟩ (Nat.lt_succ_self _) ⟨(IntKind.i64.wrap (y2 + 1)), rfl, hS.pick [0] [0] rfl, H⟩
      · replace H := pif_f (of_decide_eq_false hb) H
        refine CJ.exit (EJ.skE (EJ.skE (EJ.hit (?_))))
        exact EJ.meet (F' := []) trivial ⟨H, rfl, hS.pick [] [0] rfl⟩
  · rintro F w1 ⟨he, rfl, hS⟩
    obtain rfl := Option.some.inj he
    have H := K192
    refine EJ.next ?_
    refine CJ.seq ?_
    refine CJ.region ?_
    refine OJ.pures tU_ok 1 rfl ?_
    refine OJ.nil (EJ.next ?_)
    refine CJ.ret (?_)
    obtain rfl := Option.some.inj H
    exact EJ.fin rfl (.tmp rfl .nil) ⟨rfl, hS.ext⟩

def slices_Contains_impl_Spot_impl_Spot.f (k : Nat) (a0 : List Spot) (a1 : Spot) : Option Bool := (slices_Index_impl_Spot_impl_Spot.f k a0 a1).bind fun t2 => some (decide (0 ≤ t2))
theorem slices_Contains_impl_Spot_impl_Spot.c (k : Nat) (w : World) (Aa0 : Option Addr) (ca0 : Nat) (a0 : List Spot) (hr0 : Rd cSpot w Aa0 a0) (hc0 : a0.length ≤ ca0) (a1 : Spot) (r : Bool) (H : slices_Contains_impl_Spot_impl_Spot.f k a0 a1 = some r) :
    CV Try.prog 54 [.slice Aa0 a0.length ca0, .agg (cSpot.enc a1).toArray].toArray w fun v w' => v = .bool r ∧ Ext w w' := by
  have hS := ((St.init w no).param cSpot Aa0 ca0 a0 hr0 hc0)
  unfold slices_Contains_impl_Spot_impl_Spot.f at H
  refine CV.body Try.func54 rfl Try.ntmps54 rfl ?_
  refine CJ.seq ?_
  refine CJ.region ?_
  refine OJ.ef rfl rfl rfl (Ef.box hS rfl rfl (cSpot.enc a1) rfl) ?_
  rintro _ w1 ⟨b1, rfl, hS⟩
  refine OJ.pures tU_ok 1 rfl ?_
  refine OJ.nil (EJ.next ?_)
  refine CJ.seq ?_
  refine CJ.region ?_
  refine OJ.pures tU_ok 1 rfl ?_
  refine OJ.st rfl rfl rfl (SR.load rfl rfl (fun w' hx => ldE tU_ok tI_ok rfl rfl rfl (CA.ext (hS.cells (i := 0) rfl) hx) rfl)) ?_
  obtain ⟨t2, ht2, H⟩ := pbind H
  refine OJ.callF rfl rfl rfl rfl rfl hb63 rfl (slices_Index_impl_Spot_impl_Spot.c k _ Aa0 ca0 a0 (hS.rd' (i := 0) rfl) (hS.le' (i := 0) rfl) a1 _ ht2) ?_
  rintro _ w1 ⟨rfl, hs⟩
  replace hS := hS.grow hs
  refine OJ.pures tU_ok 2 rfl ?_
  refine OJ.nil (EJ.next ?_)
  refine CJ.ret (?_)
  obtain rfl := Option.some.inj H
  exact EJ.fin rfl (.tmp rfl .nil) ⟨rfl, hS.ext⟩

def impl_common_1.f (k : Nat) (a1 : List Spot) (a0 : Spot) : Option Bool := (slices_Contains_impl_Spot_impl_Spot.f k a1 a0).bind fun t2 => some (!t2)
theorem impl_common_1.c (k : Nat) (w : World) (Aa1 : Option Addr) (ca1 : Nat) (a1 : List Spot) (hr1 : Rd cSpot w Aa1 a1) (hc1 : a1.length ≤ ca1) (pa1 : Addr) (hp1 : CA w pa1 [.slice Aa1 a1.length ca1]) (a0 : Spot) (r : Bool) (H : impl_common_1.f k a1 a0 = some r) :
    CV Try.prog 53 [.agg (cSpot.enc a0).toArray, .pointer (some pa1)].toArray w fun v w' => v = .bool r ∧ Ext w w' := by
  have hS := (((St.init w no).param cSpot Aa1 ca1 a1 hr1 hc1).paramP pa1 [.slice Aa1 a1.length ca1] hp1)
  unfold impl_common_1.f at H
  refine CV.body Try.func53 rfl Try.ntmps53 rfl ?_
  refine CJ.seq ?_
  refine CJ.region ?_
  refine OJ.ef rfl rfl rfl (Ef.box hS rfl rfl (cSpot.enc a0) rfl) ?_
  rintro _ w1 ⟨b1, rfl, hS⟩
  refine OJ.pures tU_ok 1 rfl ?_
  refine OJ.nil (EJ.next ?_)
  refine CJ.seq ?_
  refine CJ.region ?_
  refine OJ.st rfl rfl rfl (SR.load rfl rfl (fun w' hx => ld1 tU_ok rfl rfl (CA.ext (hS.ca (i := 1) rfl) hx) rfl)) ?_
  refine OJ.st rfl rfl rfl (SR.load rfl rfl (fun w' hx => ldE tU_ok tI_ok rfl rfl rfl (CA.ext (hS.cells (i := 0) rfl) hx) rfl)) ?_
  obtain ⟨t2, ht2, H⟩ := pbind H
  refine OJ.callF rfl rfl rfl rfl rfl hb54 rfl (slices_Contains_impl_Spot_impl_Spot.c k _ Aa1 ca1 a1 (hS.rd' (i := 0) rfl) (hS.le' (i := 0) rfl) a0 _ ht2) ?_
  rintro _ w1 ⟨rfl, hs⟩
  replace hS := hS.grow hs
  refine OJ.pures tU_ok 2 rfl ?_
  refine OJ.nil (EJ.next ?_)
  refine CJ.ret (?_)
  obtain rfl := Option.some.inj H
  exact EJ.fin rfl (.tmp rfl .nil) ⟨rfl, hS.ext⟩

def impl_common.f (k : Nat) (a0 : List Spot) (a1 : List Spot) : Option (List Spot) := (slices_Clone_impl_Spot_impl_Spot.f a0).bind fun t2 => (slices_DeleteFunc_impl_Spot_impl_Spot.f k t2 (impl_common_1.f k a1)).bind fun t5 => some t5
theorem impl_common.c (k : Nat) (w : World) (Aa0 : Option Addr) (ca0 : Nat) (a0 : List Spot) (hr0 : Rd cSpot w Aa0 a0) (hc0 : a0.length ≤ ca0) (Aa1 : Option Addr) (ca1 : Nat) (a1 : List Spot) (hr1 : Rd cSpot w Aa1 a1) (hc1 : a1.length ≤ ca1) (r : List Spot) (H : impl_common.f k a0 a1 = some r) :
    CV Try.prog 38 [.slice Aa0 a0.length ca0, .slice Aa1 a1.length ca1].toArray w fun v w' => ∃ (A0 : Option Addr) (c0 : Nat), v = .slice A0 r.length c0 ∧ St w no w' [rowC cSpot A0 c0 72 r] [] := by
  have hS := (((St.init w no).param cSpot Aa0 ca0 a0 hr0 hc0).param cSpot Aa1 ca1 a1 hr1 hc1)
  unfold impl_common.f at H
  refine CV.body Try.func38 rfl Try.ntmps38 rfl ?_
  refine CJ.seq ?_
  refine CJ.region ?_
  refine OJ.ef rfl rfl rfl (Ef.box hS rfl rfl ([.slice Aa1 a1.length ca1]) rfl) ?_
  rintro _ w1 ⟨b1, rfl, hS⟩
  refine OJ.pures tU_ok 1 rfl ?_
  refine OJ.nil (EJ.next ?_)
  refine CJ.seq ?_
  refine CJ.region ?_
  refine OJ.pures tU_ok 1 rfl ?_
  obtain ⟨t2, ht2, H⟩ := pbind H
  refine OJ.callF rfl rfl rfl rfl rfl hb52 rfl (slices_Clone_impl_Spot_impl_Spot.c _ Aa0 ca0 a0 (hS.rd' (i := 0) rfl) (hS.le' (i := 0) rfl) _ ht2) ?_
  rintro _ w1 ⟨A3, c4, rfl, hs⟩
  replace hS := hS.addN hs
  refine OJ.pures tU_ok 1 rfl ?_
  obtain ⟨t5, ht5, H⟩ := pbind H
  refine OJ.callF rfl rfl rfl rfl rfl hb51 rfl (slices_DeleteFunc_impl_Spot_impl_Spot.c k _ A3 c4 t2 53 #[] #[.pointer (some ⟨b1, 0, none⟩)] hb53 (impl_common_1.f k a1) (fun z0 r h w' hx => CV.cast (impl_common_1.c k w' Aa1 ca1 a1 (roC.rd (hS.stayR [1] hx (j := 1) rfl)) (hS.le' (i := 1) rfl) ⟨b1, 0, none⟩ (box.ca (hS.stayL [1] hx (j := 0) rfl rfl))  z0 r h) (by simp)) ((hS.subs [1] [] [] rfl).pick [0] [] rfl) _ ht5) ?_
  rintro _ w1 ⟨A6, c7, rfl, hs⟩
  replace hS := hS.back' [] [1] rfl rfl [] [rowC cSpot A6 c7 72 t5] [] hs trivial (fun _ h => by cases h) (.inr rfl)
  refine OJ.pures tU_ok 1 rfl ?_
  refine OJ.nil (EJ.next ?_)
  refine CJ.ret (?_)
  obtain rfl := Option.some.inj H
  exact EJ.fin rfl (.tmp rfl .nil) ⟨A6, c7, rfl, hS.pick [2] [] rfl⟩

def impl_WateredYards.l1 (a1 : List Spot) (t4 : List (List Spot)) : Nat → (List Int) → Int → Option (List Int)
  | 0, _, _ => none
  | k + 1, y11, y14 => if y14 < (t4.length : Int) then ((getI t4 y14).bind fun t15 => (impl_common.f k t15 a1).bind fun t16 => if 0 < (t16.length : Int) then ((chk (y11.length + ([y14] : List Int).length ≤ 4294967296)).bind fun u20 => impl_WateredYards.l1 a1 t4 k (y11 ++ ([y14] : List Int)) (IntKind.i64.wrap (y14 + 1))) else (impl_WateredYards.l1 a1 t4 k y11 (IntKind.i64.wrap (y14 + 1)))) else (some y11)
def impl_WateredYards.f (k : Nat) (a0 : Pasture) (a1 : List Spot) : Option (List Int × Int) := (impl_cellCode.f k a0 a1).bind fun t2 => if t2 ≠ 0 then (some ([], t2)) else ((impl_Pasture_yards.f k a0).bind fun t4 => (impl_WateredYards.l1 a1 t4 k ([] : List Int) 0).bind fun y8 => some (y8, 0))
theorem impl_WateredYards.c (k : Nat) (w : World) (a0 : Pasture) (Aa1 : Option Addr) (ca1 : Nat) (a1 : List Spot) (hr1 : Rd cSpot w Aa1 a1) (hc1 : a1.length ≤ ca1) (r : List Int × Int) (H : impl_WateredYards.f k a0 a1 = some r) :
    CV Try.prog 14 [.agg (cPasture.enc a0).toArray, .slice Aa1 a1.length ca1].toArray w fun v w' => ∃ (A0 : Option Addr) (c0 : Nat), v = .tuple #[.slice A0 r.1.length c0, .int .i64 r.2] ∧ St w no w' [rowC (ci .i64) A0 c0 2 r.1] [] := by
  have hS := ((St.init w no).param cSpot Aa1 ca1 a1 hr1 hc1)
  unfold impl_WateredYards.f at H
  refine CV.body Try.func14 rfl Try.ntmps14 rfl ?_
  refine CJ.seq ?_
  refine CJ.region ?_
  refine OJ.ef rfl rfl rfl (Ef.box hS rfl rfl (cPasture.enc a0) rfl) ?_
  rintro _ w1 ⟨b1, rfl, hS⟩
  refine OJ.pures tU_ok 2 rfl ?_
  refine OJ.nil (EJ.next ?_)
  refine CJ.seq ?_
  refine CJ.seq ?_
  refine CJ.region ?_
  refine OJ.st rfl rfl rfl (SR.load rfl rfl (fun w' hx => ldE tU_ok tI_ok rfl rfl rfl (CA.ext (hS.cells (i := 0) rfl) hx) rfl)) ?_
  refine OJ.pures tU_ok 1 rfl ?_
  obtain ⟨t2, ht2, H⟩ := pbind H
  refine OJ.callF rfl rfl rfl rfl rfl hb28 rfl (impl_cellCode.c k _ a0 Aa1 ca1 a1 (hS.rd' (i := 0) rfl) (hS.le' (i := 0) rfl) _ ht2) ?_
  rintro _ w1 ⟨rfl, hs⟩
  replace hS := hS.grow hs
  refine OJ.pures tU_ok 1 rfl ?_
  refine OJ.nil (EJ.next ?_)
  refine CJ.seq ?_
  refine CJ.region ?_
  refine OJ.pures tU_ok 2 rfl ?_
  refine OJ.nil (EJ.next ?_)
  refine CJ.cond rfl (fun hb => ?_) (fun hb => ?_)
  · replace H := pif_t (of_decide_eq_true hb) H
    refine CJ.seq ?_
    refine CJ.region ?_
    refine OJ.pures tU_ok 3 rfl ?_
    refine OJ.nil (EJ.next ?_)
    refine CJ.ret (EJ.skR (?_))
    replace hS := hS.addNil (ci .i64) 2 none
    obtain rfl := Option.some.inj H
    exact EJ.fin rfl (.tmp rfl (.tmp rfl .nil)) ⟨none, 0, rfl, hS.pick [1] [] rfl⟩
  · replace H := pif_f (of_decide_eq_false hb) H
    refine CJ.skip (EJ.next ?_)
    refine CJ.seq ?_
    refine CJ.region ?_
    refine OJ.ef rfl rfl rfl (Ef.lit tU_ok tI_ok hS (C := (ci .i64)) rfl rfl rfl rfl rfl rfl ([] : List Int) rfl rfl rfl rfl) ?_
    rintro _ w1 ⟨A3, rfl, hS⟩
    refine OJ.pures tU_ok 1 rfl ?_
    refine OJ.nil (EJ.next ?_)
    refine CJ.seq ?_
    refine CJ.seq ?_
    refine CJ.region ?_
    refine OJ.st rfl rfl rfl (SR.load rfl rfl (fun w' hx => ldE tU_ok tI_ok rfl rfl rfl (CA.ext (hS.cells (i := 0) rfl) hx) rfl)) ?_
    obtain ⟨t4, ht4, H⟩ := pbind H
    refine OJ.callF rfl rfl rfl rfl rfl hb31 rfl (impl_Pasture_yards.c k _ a0 _ ht4) ?_
    rintro _ w1 ⟨A5, c6, D7, rfl, hs⟩
    replace hS := hS.addN hs
    refine OJ.pures tU_ok 2 rfl ?_
    refine OJ.nil (EJ.next ?_)
    obtain ⟨j190, H, K190⟩ := pbind H
    refine CJ.cut1 (fun F w1 => ∃ (y8 : List Int) (A9 : Option Addr) (c10 : Nat), (some y8 : Option (List Int)) = some j190 ∧ F = [(7, .slice A9 y8.length c10)] ∧ St w no w1 [rowC (ci .i64) A9 c10 2 y8] [roC cSpot Aa1 ca1 a1]) ?_ ?_
    · skip
      refine CJ.block ?_
      refine CJ.loop (fun k F w1 => ∃ (y11 : List Int) (y14 : Int) (A12 : Option Addr) (c13 : Nat), F = [(1, .slice Aa1 a1.length ca1), (7, .slice A12 y11.length c13), (18, .slice A5 t4.length c6), (19, .int .i64 (t4.length : Int)), (20, .int .i64 y14)] ∧ St w no w1 [rowC (ci .i64) A12 c13 2 y11, rowsC cSpot A5 c6 43 72 D7 t4] [roC cSpot Aa1 ca1 a1] ∧ impl_WateredYards.l1 a1 t4 k y11 y14 = some j190) k (F' := [(1, .slice Aa1 a1.length ca1), (7, .slice A3 ([] : List Int).length (([] : List Int).length)), (18, .slice A5 t4.length c6), (19, .int .i64 (t4.length : Int)), (20, .int .i64 0)]) ⟨rfl, rfl, rfl, rfl, rfl, trivial⟩ ⟨([] : List Int), 0, A3, (([] : List Int).length), rfl, hS.pick [1, 2] [0] rfl, H⟩ ?_
      rintro k F w1 ⟨y11, y14, A12, c13, rfl, hS, H⟩
      cases k with
      | zero => rw [impl_WateredYards.l1] at H; cases H
      | succ k =>
        rw [impl_WateredYards.l1] at H
        refine CJ.seq ?_
        refine CJ.region ?_
        refine OJ.pures tU_ok 1 rfl ?_
        refine OJ.nil (EJ.next ?_)
        refine CJ.seq ?_
        refine CJ.cond rfl (fun hb => ?_) (fun hb => ?_)
        · replace H := pif_t (of_decide_eq_true hb) H
          refine CJ.skip (EJ.next ?_)
          refine CJ.seq ?_
          refine CJ.block ?_
          refine CJ.seq ?_
          refine CJ.region ?_
          refine OJ.pures tU_ok 1 rfl ?_
          obtain ⟨t15, ht15, H⟩ := pbind H
          obtain ⟨Ae15, ce15, g15, d15, hx15⟩ := ros_el (hS.rowsRo (i := 1) rfl) ht15
          obtain ⟨ad15, e15⟩ := (ros_rd (hS.rowsRo (i := 1) rfl)).some' g15
          refine OJ.st rfl rfl rfl (SR.idxS tU_ok tI_ok rfl rfl rfl rfl e15 rfl (getI_some ht15).1) ?_
          refine OJ.st rfl rfl rfl (SR.load rfl rfl (fun w' hx => ld1 tU_ok rfl rfl (CA.ext ((ros_rd (hS.rowsRo (i := 1) rfl)).at_ e15 g15) hx) rfl)) ?_
          refine OJ.pures tU_ok 2 rfl ?_
          refine OJ.nil (EJ.next ?_)
          refine CJ.seq ?_
          refine CJ.region ?_
          refine OJ.pures tU_ok 2 rfl ?_
          obtain ⟨t16, ht16, H⟩ := pbind H
          refine OJ.callF rfl rfl rfl rfl rfl hb38 rfl (impl_common.c k _ Ae15 ce15 t15 (ros_sub (hS.rowsRo (i := 1) rfl) d15 hx15) (ros_subLe (hS.rowsRo (i := 1) rfl) d15 hx15) Aa1 ca1 a1 (hS.rd' (i := 0) rfl) (hS.le' (i := 0) rfl) _ ht16) ?_
          rintro _ w1 ⟨A17, c18, rfl, hs⟩
          replace hS := hS.addN hs
          refine OJ.pures tU_ok 2 rfl ?_
          refine OJ.nil (EJ.next ?_)
          refine CJ.cond rfl (fun hb => ?_) (fun hb => ?_)
          · replace H := pif_t (of_decide_eq_true hb) H
            refine CJ.region ?_
            refine OJ.pures tU_ok 2 rfl ?_
            refine OJ.ef rfl rfl rfl (Ef.lit tU_ok tI_ok hS (C := (ci .i64)) rfl rfl rfl rfl rfl rfl ([y14] : List Int) rfl rfl rfl rfl) ?_
            rintro _ w1 ⟨A19, rfl, hS⟩
            obtain ⟨u20, hu20, H⟩ := pbind H
            refine OJ.ew rfl rfl rfl (Ew.append tU_ok tI_ok (C := (ci .i64)) (xs := y11) (ys := ([y14] : List Int)) hS (i := 0) rfl rfl rfl rfl rfl rfl rfl rfl rfl rfl rfl rfl rfl (hS.rd (i := 3) rfl) (chk_some hu20)) ?_
            rintro _ w1 ⟨A21, c22, rfl, hS⟩
            refine OJ.pures tU_ok 1 rfl ?_
            refine OJ.nil (EJ.blk (EJ.next ?_))
            refine CJ.region ?_
            refine OJ.pures tU_ok 2 rfl ?_
            refine OJ.nil ?_
            exact EJ.round k (F' := [(1, .slice Aa1 a1.length ca1), (7, .slice A21 (y11 ++ ([y14] : List Int)).length c22), (18, .slice A5 t4.length c6), (19, .int .i64 (t4.length : Int)), (20, .int .i64 (IntKind.i64.wrap (y14 + 1)))]) ⟨rfl, rfl, rfl, rfl, rfl, trivial⟩ (Nat.lt_succ_self _) ⟨(y11 ++ ([y14] : List Int)), (IntKind.i64.wrap (y14 + 1)), A21, c22, rfl, hS.pick [0, 1] [0] rfl, H⟩
          · replace H := pif_f (of_decide_eq_false hb) H
            refine CJ.skip (EJ.blk (EJ.next ?_))
            refine CJ.region ?_
            refine OJ.pures tU_ok 2 rfl ?_
            refine OJ.nil ?_
            exact EJ.round k (F' := [(1, .slice Aa1 a1.length ca1), (7, .slice A12 y11.length c13), (18, .slice A5 t4.length c6), (19, .int .i64 (t4.length : Int)), (20, .int .i64 (IntKind.i64.wrap (y14 + 1)))]) ⟨rfl, rfl, rfl, rfl, rfl, trivial⟩ (Nat.lt_succ_self _) ⟨y11, (IntKind.i64.wrap (y14 + 1)), A12, c13, rfl, hS.pick [0, 1] [0] rfl, H⟩
        · replace H := pif_f (of_decide_eq_false hb) H
          refine CJ.exit (EJ.skE (EJ.skE (EJ.hit (?_))))
          exact EJ.meet (F' := [(7, .slice A12 y11.length c13)]) ⟨rfl, trivial⟩ ⟨y11, A12, c13, H, rfl, hS.pick [0] [0] rfl⟩
    · rintro F w1 ⟨y8, A9, c10, he, rfl, hS⟩
      obtain rfl := Option.some.inj he
      have H := K190
      refine EJ.next ?_
      refine CJ.seq ?_
      refine CJ.region ?_
      refine OJ.pures tU_ok 3 rfl ?_
      refine OJ.nil (EJ.next ?_)
      refine CJ.ret (?_)
      obtain rfl := Option.some.inj H
      exact EJ.fin rfl (.tmp rfl (.tmp rfl .nil)) ⟨A9, c10, rfl, hS.pick [0] [] rfl⟩

def laws_eqInt64S.l1 (a0 : List Int) (a1 : List Int) : Nat → Int → Option (Bool ⊕ Unit)
  | 0, _ => none
  | k + 1, y1 => if y1 < (a0.length : Int) then ((getI a0 y1).bind fun t2 => (getI a1 y1).bind fun t3 => if t2 ≠ t3 then (some (Sum.inl false)) else (laws_eqInt64S.l1 a0 a1 k (IntKind.i64.wrap (y1 + 1)))) else (some (Sum.inr ()))
def laws_eqInt64S.f (k : Nat) (a0 : List Int) (a1 : List Int) : Option Bool := if (a0.length : Int) ≠ (a1.length : Int) then (some false) else ((laws_eqInt64S.l1 a0 a1 k 0).bind fun s194 => match s194 with | .inl r => some r | .inr _ => some true)
theorem laws_eqInt64S.c (k : Nat) (w : World) (Aa0 : Option Addr) (ca0 : Nat) (a0 : List Int) (hr0 : Rd (ci .i64) w Aa0 a0) (hc0 : a0.length ≤ ca0) (Aa1 : Option Addr) (ca1 : Nat) (a1 : List Int) (hr1 : Rd (ci .i64) w Aa1 a1) (hc1 : a1.length ≤ ca1) (r : Bool) (H : laws_eqInt64S.f k a0 a1 = some r) :
    CV Try.prog 15 [.slice Aa0 a0.length ca0, .slice Aa1 a1.length ca1].toArray w fun v w' => v = .bool r ∧ Ext w w' := by
  have hS := (((St.init w no).param (ci .i64) Aa0 ca0 a0 hr0 hc0).param (ci .i64) Aa1 ca1 a1 hr1 hc1)
  unfold laws_eqInt64S.f at H
  refine CV.body Try.func15 rfl Try.ntmps15 rfl ?_
  refine CJ.seq ?_
  refine CJ.region ?_
  refine OJ.pures tU_ok 1 rfl ?_
  refine OJ.nil (EJ.next ?_)
  refine CJ.seq ?_
  refine CJ.seq ?_
  refine CJ.region ?_
  refine OJ.pures tU_ok 5 rfl ?_
  refine OJ.nil (EJ.next ?_)
  refine CJ.cond rfl (fun hb => ?_) (fun hb => ?_)
  · replace H := pif_t (of_decide_eq_true hb) H
    refine CJ.seq ?_
    refine CJ.region ?_
    refine OJ.pures tU_ok 1 rfl ?_
    refine OJ.nil (EJ.next ?_)
    refine CJ.ret (EJ.skR (?_))
    obtain rfl := Option.some.inj H
    exact EJ.fin rfl (.tmp rfl .nil) ⟨rfl, hS.ext⟩
  · replace H := pif_f (of_decide_eq_false hb) H
    refine CJ.skip (EJ.next ?_)
    refine CJ.seq ?_
    refine CJ.seq ?_
    refine CJ.region ?_
    refine OJ.pures tU_ok 1 rfl ?_
    refine OJ.nil (EJ.next ?_)
    obtain ⟨j194, H, K194⟩ := pbind H
    refine CJ.cut1 (fun F w1 => (some (Sum.inr ()) : Option (Bool ⊕ Unit)) = some j194 ∧ F = [] ∧ St w no w1 [] [roC (ci .i64) Aa0 ca0 a0, roC (ci .i64) Aa1 ca1 a1]) ?_ ?_
    · skip
      refine CJ.block ?_
      refine CJ.loop (fun k F w1 => ∃ (y1 : Int), F = [(0, .slice Aa0 a0.length ca0), (1, .slice Aa1 a1.length ca1), (5, .int .i64 y1)] ∧ St w no w1 [] [roC (ci .i64) Aa0 ca0 a0, roC (ci .i64) Aa1 ca1 a1] ∧ laws_eqInt64S.l1 a0 a1 k y1 = some j194) k (F' := [(0, .slice Aa0 a0.length ca0), (1, .slice Aa1 a1.length ca1), (5, .int .i64 0)]) ⟨rfl, rfl, rfl, trivial⟩ ⟨0, rfl, hS.pick [] [0, 1] rfl, H⟩ ?_
      rintro k F w1 ⟨y1, rfl, hS, H⟩
      cases k with
      | zero => rw [laws_eqInt64S.l1] at H; cases H
      | succ k =>
        rw [laws_eqInt64S.l1] at H
        refine CJ.seq ?_
        refine CJ.seq ?_
        refine CJ.region ?_
        refine OJ.pures tU_ok 4 rfl ?_
        refine OJ.nil (EJ.next ?_)
        refine CJ.cond rfl (fun hb => ?_) (fun hb => ?_)
        · replace H := pif_t (of_decide_eq_true hb) H
          refine CJ.skip (EJ.next ?_)
          refine CJ.seq ?_
          refine CJ.block ?_
          refine CJ.seq ?_
          refine CJ.draw [] [0, 1, 2, 3, 4, 5, 6, 7, 8] mixed (by kernel_rfl) hS fun w1 hS => ?_
          refine DJ.pures tU_ok 2 rfl ?_
          obtain ⟨t2, ht2, H⟩ := pbind H
          obtain ⟨ad2, e2⟩ := (hS.rd' (i := 0) rfl).some' ht2
          refine DJ.st rfl rfl rfl rfl rfl (SR.idxS tU_ok tI_ok rfl rfl rfl rfl e2 rfl (getI_some ht2).1) ?_
          refine DJ.st rfl rfl rfl rfl rfl (SR.load rfl rfl (fun w' hx => ld1 tU_ok rfl rfl (CA.ext ((hS.rd' (i := 0) rfl).at_ e2 ht2) hx) rfl)) ?_
          refine DJ.pures tU_ok 2 rfl ?_
          obtain ⟨t3, ht3, H⟩ := pbind H
          obtain ⟨ad3, e3⟩ := (hS.rd' (i := 1) rfl).some' ht3
          refine DJ.st rfl rfl rfl rfl rfl (SR.idxS tU_ok tI_ok rfl rfl rfl rfl e3 rfl (getI_some ht3).1) ?_
          refine DJ.st rfl rfl rfl rfl rfl (SR.load rfl rfl (fun w' hx => ld1 tU_ok rfl rfl (CA.ext ((hS.rd' (i := 1) rfl).at_ e3 ht3) hx) rfl)) ?_
          refine DJ.pures tU_ok 1 rfl ?_
          refine DJ.nil (EJ.next ?_)
          refine CJ.cond rfl (fun hb => ?_) (fun hb => ?_)
          · replace H := pif_t (of_decide_eq_true hb) H
            refine CJ.seq ?_
            refine CJ.region ?_
            refine OJ.pures tU_ok 1 rfl ?_
            refine OJ.nil (EJ.next ?_)
            refine CJ.ret (EJ.bkR (EJ.skR (EJ.skR (EJ.bkR (EJ.skR (EJ.skR (?_)))))))
            first | (obtain rfl := Option.some.inj H; have H := K194) | (obtain ⟨q194, H2, e194⟩ := pbind H; obtain rfl := Option.some.inj e194; obtain rfl := Option.some.inj K194; have H := H2)
            obtain rfl := Option.some.inj H
            exact EJ.fin rfl (.tmp rfl .nil) ⟨rfl, hS.ext⟩
          · replace H := pif_f (of_decide_eq_false hb) H
            refine CJ.skip (EJ.blk (EJ.next ?_))
            refine CJ.region ?_
            refine OJ.pures tU_ok 3 rfl ?_
            refine OJ.nil ?_
            exact EJ.round k (F' := [(0, .slice Aa0 a0.length ca0), (1, .slice Aa1 a1.length ca1), (5, .int .i64 (IntKind.i64.wrap (y1 + 1)))]) ⟨rfl, rfl, rfl, trivial⟩ (Nat.lt_succ_self _) ⟨(IntKind.i64.wrap (y1 + 1)), rfl, hS.pick [] [0, 1] rfl, H⟩
        · replace H := pif_f (of_decide_eq_false hb) H
          refine CJ.exit (EJ.skE (EJ.skE (EJ.hit (?_))))
          exact EJ.meet (F' := []) trivial ⟨H, rfl, hS.pick [] [0, 1] rfl⟩
    · rintro F w1 ⟨he, rfl, hS⟩
      obtain rfl := Option.some.inj he
      have H := K194
      refine EJ.next ?_
      refine CJ.seq ?_
      refine CJ.region ?_
      refine OJ.pures tU_ok 1 rfl ?_
      refine OJ.nil (EJ.next ?_)
      refine CJ.ret (?_)
      obtain rfl := Option.some.inj H
      exact EJ.fin rfl (.tmp rfl .nil) ⟨rfl, hS.ext⟩

def laws_eqSpot.f (a0 : Spot) (a1 : Spot) : Option Bool := if a0.X ≠ a1.X then (some false) else (if a0.Y ≠ a1.Y then (some false) else (some true))
theorem laws_eqSpot.c (w : World) (a0 : Spot) (a1 : Spot) (r : Bool) (H : laws_eqSpot.f a0 a1 = some r) :
    CV Try.prog 39 [.agg (cSpot.enc a0).toArray, .agg (cSpot.enc a1).toArray].toArray w fun v w' => v = .bool r ∧ Ext w w' := by
  have hS := (St.init w no)
  unfold laws_eqSpot.f at H
  refine CV.body Try.func39 rfl Try.ntmps39 rfl ?_
  refine CJ.seq ?_
  refine CJ.region ?_
  refine OJ.ef rfl rfl rfl (Ef.box hS rfl rfl (cSpot.enc a0) rfl) ?_
  rintro _ w1 ⟨b1, rfl, hS⟩
  refine OJ.ef rfl rfl rfl (Ef.box hS rfl rfl (cSpot.enc a1) rfl) ?_
  rintro _ w1 ⟨b2, rfl, hS⟩
  refine OJ.pures tU_ok 1 rfl ?_
  refine OJ.nil (EJ.next ?_)
  refine CJ.seq ?_
  refine CJ.seq ?_
  refine CJ.region ?_
  refine OJ.st rfl rfl rfl (SR.fieldAddr tU_ok tI_ok rfl rfl rfl rfl rfl rfl) ?_
  refine OJ.st rfl rfl rfl (SR.load rfl rfl (fun w' hx => ld1 tU_ok rfl rfl (CA.ext (CA.sub (hS.cells (i := 0) rfl) 0) hx) rfl)) ?_
  refine OJ.st rfl rfl rfl (SR.fieldAddr tU_ok tI_ok rfl rfl rfl rfl rfl rfl) ?_
  refine OJ.st rfl rfl rfl (SR.load rfl rfl (fun w' hx => ld1 tU_ok rfl rfl (CA.ext (CA.sub (hS.cells (i := 1) rfl) 0) hx) rfl)) ?_
  refine OJ.pures tU_ok 1 rfl ?_
  refine OJ.nil (EJ.next ?_)
  refine CJ.cond rfl (fun hb => ?_) (fun hb => ?_)
  · replace H := pif_t (of_decide_eq_true hb) H
    refine CJ.seq ?_
    refine CJ.region ?_
    refine OJ.pures tU_ok 1 rfl ?_
    refine OJ.nil (EJ.next ?_)
    refine CJ.ret (EJ.skR (?_))
    obtain rfl := Option.some.inj H
    exact EJ.fin rfl (.tmp rfl .nil) ⟨rfl, hS.ext⟩
  · replace H := pif_f (of_decide_eq_false hb) H
    refine CJ.skip (EJ.next ?_)
    refine CJ.seq ?_
    refine CJ.seq ?_
    refine CJ.region ?_
    refine OJ.st rfl rfl rfl (SR.fieldAddr tU_ok tI_ok rfl rfl rfl rfl rfl rfl) ?_
    refine OJ.st rfl rfl rfl (SR.load rfl rfl (fun w' hx => ld1 tU_ok rfl rfl (CA.ext (CA.sub (hS.cells (i := 0) rfl) 1) hx) rfl)) ?_
    refine OJ.st rfl rfl rfl (SR.fieldAddr tU_ok tI_ok rfl rfl rfl rfl rfl rfl) ?_
    refine OJ.st rfl rfl rfl (SR.load rfl rfl (fun w' hx => ld1 tU_ok rfl rfl (CA.ext (CA.sub (hS.cells (i := 1) rfl) 1) hx) rfl)) ?_
    refine OJ.pures tU_ok 1 rfl ?_
    refine OJ.nil (EJ.next ?_)
    refine CJ.cond rfl (fun hb => ?_) (fun hb => ?_)
    · replace H := pif_t (of_decide_eq_true hb) H
      refine CJ.seq ?_
      refine CJ.region ?_
      refine OJ.pures tU_ok 1 rfl ?_
      refine OJ.nil (EJ.next ?_)
      refine CJ.ret (EJ.skR (?_))
      obtain rfl := Option.some.inj H
      exact EJ.fin rfl (.tmp rfl .nil) ⟨rfl, hS.ext⟩
    · replace H := pif_f (of_decide_eq_false hb) H
      refine CJ.skip (EJ.next ?_)
      refine CJ.seq ?_
      refine CJ.region ?_
      refine OJ.pures tU_ok 1 rfl ?_
      refine OJ.nil (EJ.next ?_)
      refine CJ.ret (?_)
      obtain rfl := Option.some.inj H
      exact EJ.fin rfl (.tmp rfl .nil) ⟨rfl, hS.ext⟩

def laws_eqSpotS.l1 (a0 : List Spot) (a1 : List Spot) : Nat → Int → Option (Bool ⊕ Unit)
  | 0, _ => none
  | k + 1, y1 => if y1 < (a0.length : Int) then ((getI a0 y1).bind fun t2 => (getI a1 y1).bind fun t3 => (laws_eqSpot.f t2 t3).bind fun t4 => if (!t4) = true then (some (Sum.inl false)) else (laws_eqSpotS.l1 a0 a1 k (IntKind.i64.wrap (y1 + 1)))) else (some (Sum.inr ()))
def laws_eqSpotS.f (k : Nat) (a0 : List Spot) (a1 : List Spot) : Option Bool := if (a0.length : Int) ≠ (a1.length : Int) then (some false) else ((laws_eqSpotS.l1 a0 a1 k 0).bind fun s195 => match s195 with | .inl r => some r | .inr _ => some true)
theorem laws_eqSpotS.c (k : Nat) (w : World) (Aa0 : Option Addr) (ca0 : Nat) (a0 : List Spot) (hr0 : Rd cSpot w Aa0 a0) (hc0 : a0.length ≤ ca0) (Aa1 : Option Addr) (ca1 : Nat) (a1 : List Spot) (hr1 : Rd cSpot w Aa1 a1) (hc1 : a1.length ≤ ca1) (r : Bool) (H : laws_eqSpotS.f k a0 a1 = some r) :
    CV Try.prog 16 [.slice Aa0 a0.length ca0, .slice Aa1 a1.length ca1].toArray w fun v w' => v = .bool r ∧ Ext w w' := by
  have hS := (((St.init w no).param cSpot Aa0 ca0 a0 hr0 hc0).param cSpot Aa1 ca1 a1 hr1 hc1)
  unfold laws_eqSpotS.f at H
  refine CV.body Try.func16 rfl Try.ntmps16 rfl ?_
  refine CJ.seq ?_
  refine CJ.region ?_
  refine OJ.pures tU_ok 1 rfl ?_
  refine OJ.nil (EJ.next ?_)
  refine CJ.seq ?_
  refine CJ.seq ?_
  refine CJ.region ?_
  refine OJ.pures tU_ok 5 rfl ?_
  refine OJ.nil (EJ.next ?_)
  refine CJ.cond rfl (fun hb => ?_) (fun hb => ?_)
  · replace H := pif_t (of_decide_eq_true hb) H
    refine CJ.seq ?_
    refine CJ.region ?_
    refine OJ.pures tU_ok 1 rfl ?_
    refine OJ.nil (EJ.next ?_)
    refine CJ.ret (EJ.skR (?_))
    obtain rfl := Option.some.inj H
    exact EJ.fin rfl (.tmp rfl .nil) ⟨rfl, hS.ext⟩
  · replace H := pif_f (of_decide_eq_false hb) H
    refine CJ.skip (EJ.next ?_)
    refine CJ.seq ?_
    refine CJ.seq ?_
    refine CJ.region ?_
    refine OJ.pures tU_ok 1 rfl ?_
    refine OJ.nil (EJ.next ?_)
    obtain ⟨j195, H, K195⟩ := pbind H
    refine CJ.cut1 (fun F w1 => (some (Sum.inr ()) : Option (Bool ⊕ Unit)) = some j195 ∧ F = [] ∧ St w no w1 [] [roC cSpot Aa0 ca0 a0, roC cSpot Aa1 ca1 a1]) ?_ ?_
    · skip
      refine CJ.block ?_
      refine CJ.loop (fun k F w1 => ∃ (y1 : Int), F = [(0, .slice Aa0 a0.length ca0), (1, .slice Aa1 a1.length ca1), (5, .int .i64 y1)] ∧ St w no w1 [] [roC cSpot Aa0 ca0 a0, roC cSpot Aa1 ca1 a1] ∧ laws_eqSpotS.l1 a0 a1 k y1 = some j195) k (F' := [(0, .slice Aa0 a0.length ca0), (1, .slice Aa1 a1.length ca1), (5, .int .i64 0)]) ⟨rfl, rfl, rfl, trivial⟩ ⟨0, rfl, hS.pick [] [0, 1] rfl, H⟩ ?_
      rintro k F w1 ⟨y1, rfl, hS, H⟩
      cases k with
      | zero => rw [laws_eqSpotS.l1] at H; cases H
      | succ k =>
        rw [laws_eqSpotS.l1] at H
        refine CJ.seq ?_
        refine CJ.seq ?_
        refine CJ.region ?_
        refine OJ.pures tU_ok 4 rfl ?_
        refine OJ.nil (EJ.next ?_)
        refine CJ.cond rfl (fun hb => ?_) (fun hb => ?_)
        · replace H := pif_t (of_decide_eq_true hb) H
          refine CJ.skip (EJ.next ?_)
          refine CJ.seq ?_
          refine CJ.block ?_
          refine CJ.seq ?_
          refine CJ.draw [] [0, 1, 2, 3, 4, 5, 6, 7, 8, 9] mixed (by kernel_rfl) hS fun w1 hS => ?_
          refine DJ.pures tU_ok 2 rfl ?_
          obtain ⟨t2, ht2, H⟩ := pbind H
          obtain ⟨ad2, e2⟩ := (hS.rd' (i := 0) rfl).some' ht2
          refine DJ.st rfl rfl rfl rfl rfl (SR.idxS tU_ok tI_ok rfl rfl rfl rfl e2 rfl (getI_some ht2).1) ?_
          refine DJ.st rfl rfl rfl rfl rfl (SR.load rfl rfl (fun w' hx => ldE tU_ok tI_ok rfl rfl rfl (CA.ext ((hS.rd' (i := 0) rfl).at_ e2 ht2) hx) rfl)) ?_
          refine DJ.pures tU_ok 2 rfl ?_
          obtain ⟨t3, ht3, H⟩ := pbind H
          obtain ⟨ad3, e3⟩ := (hS.rd' (i := 1) rfl).some' ht3
          refine DJ.st rfl rfl rfl rfl rfl (SR.idxS tU_ok tI_ok rfl rfl rfl rfl e3 rfl (getI_some ht3).1) ?_
          refine DJ.st rfl rfl rfl rfl rfl (SR.load rfl rfl (fun w' hx => ldE tU_ok tI_ok rfl rfl rfl (CA.ext ((hS.rd' (i := 1) rfl).at_ e3 ht3) hx) rfl)) ?_
          obtain ⟨t4, ht4, H⟩ := pbind H
          refine DJ.callF rfl rfl rfl rfl rfl rfl rfl hb39 rfl (laws_eqSpot.c _ t2 t3 _ ht4) (by rintro v w' ⟨rfl, hs⟩; exact hs) ?_
          rintro _ w1 ⟨rfl, hs⟩
          replace hS := hS.grow hs
          refine DJ.pures tU_ok 1 rfl ?_
          refine DJ.nil (EJ.next ?_)
          refine CJ.cond rfl (fun hb => ?_) (fun hb => ?_)
          · replace H := pif_t hb H
            refine CJ.seq ?_
            refine CJ.region ?_
            refine OJ.pures tU_ok 1 rfl ?_
            refine OJ.nil (EJ.next ?_)
            refine CJ.ret (EJ.bkR (EJ.skR (EJ.skR (EJ.bkR (EJ.skR (EJ.skR (?_)))))))
            first | (obtain rfl := Option.some.inj H; have H := K195) | (obtain ⟨q195, H2, e195⟩ := pbind H; obtain rfl := Option.some.inj e195; obtain rfl := Option.some.inj K195; have H := H2)
            obtain rfl := Option.some.inj H
            exact EJ.fin rfl (.tmp rfl .nil) ⟨rfl, hS.ext⟩
          · replace H := pifb_f hb H
            refine CJ.skip (EJ.blk (EJ.next ?_))
            refine CJ.region ?_
            refine OJ.pures tU_ok 3 rfl ?_
            refine OJ.nil ?_
            exact EJ.round k (F' := [(0, .slice Aa0 a0.length ca0), (1, .slice Aa1 a1.length ca1), (5, .int .i64 (IntKind.i64.wrap (y1 + 1)))]) ⟨rfl, rfl, rfl, trivial⟩ (Nat.lt_succ_self _) ⟨(IntKind.i64.wrap (y1 + 1)), rfl, hS.pick [] [0, 1] rfl, H⟩
        · replace H := pif_f (of_decide_eq_false hb) H
          refine CJ.exit (EJ.skE (EJ.skE (EJ.hit (?_))))
          exact EJ.meet (F' := []) trivial ⟨H, rfl, hS.pick [] [0, 1] rfl⟩
    · rintro F w1 ⟨he, rfl, hS⟩
      obtain rfl := Option.some.inj he
      have H := K195
      refine EJ.next ?_
      refine CJ.seq ?_
      refine CJ.region ?_
      refine OJ.pures tU_ok 1 rfl ?_
      refine OJ.nil (EJ.next ?_)
      refine CJ.ret (?_)
      obtain rfl := Option.some.inj H
      exact EJ.fin rfl (.tmp rfl .nil) ⟨rfl, hS.ext⟩

def laws_markSpotS.l1 (a0 : List Spot) : Nat → (List Spot) → Int → Int → Option ((List Spot) × Int)
  | 0, _, _, _ => none
  | k + 1, y3, y4, y5 => if y5 < (a0.length : Int) then ((getI y3 y5).bind fun t6 => (getI (y3.set y5.toNat (⟨IntKind.i8.wrap y4, t6.Y⟩ : Spot)) y5).bind fun t7 => laws_markSpotS.l1 a0 k ((y3.set y5.toNat (⟨IntKind.i8.wrap y4, t6.Y⟩ : Spot)).set y5.toNat (⟨t7.X, IntKind.i8.wrap (IntKind.i64.wrap (y4 + 1))⟩ : Spot)) (IntKind.i64.wrap ((IntKind.i64.wrap (y4 + 1)) + 1)) (IntKind.i64.wrap (y5 + 1))) else (some (y3, y4))
def laws_markSpotS.f (k : Nat) (a0 : List Spot) (a1 : Int) : Option (Int × List Spot) := (laws_markSpotS.l1 a0 k a0 a1 0).bind fun (y1, y2) => some (y2, y1)
theorem laws_markSpotS.c (k : Nat) (w : World) (Aa0 : Option Addr) (ca0 : Nat) (a0 : List Spot) (a1 : Int) (hin : St w (fpU [rowC cSpot Aa0 ca0 72 a0]) w [rowC cSpot Aa0 ca0 72 a0] []) (r : Int × List Spot) (H : laws_markSpotS.f k a0 a1 = some r) :
    CV Try.prog 17 [.slice Aa0 a0.length ca0, .int .i64 a1].toArray w fun v w' => v = .int .i64 r.1 ∧ St w (fpU [rowC cSpot Aa0 ca0 72 a0]) w' [rowC cSpot Aa0 ca0 72 r.2] [] ∧ r.2.length = a0.length := by
  have hS := hin
  unfold laws_markSpotS.f at H
  refine CV.body Try.func17 rfl Try.ntmps17 rfl ?_
  have hl0 : a0.length = a0.length := rfl
  refine CJ.seq ?_
  refine CJ.region ?_
  refine OJ.pures tU_ok 1 rfl ?_
  refine OJ.nil (EJ.next ?_)
  refine CJ.seq ?_
  refine CJ.seq ?_
  refine CJ.region ?_
  refine OJ.pures tU_ok 1 rfl ?_
  refine OJ.nil (EJ.next ?_)
  obtain ⟨j197, H, K197⟩ := pbind H
  refine CJ.cut1 (fun F w1 => ∃ (y1 : List Spot) (y2 : Int) , (some (y1, y2) : Option ((List Spot) × Int)) = some j197 ∧ F = [(1, .int .i64 y2)] ∧ St w (fpU [rowC cSpot Aa0 ca0 72 a0]) w1 [rowC cSpot Aa0 ca0 72 y1] [] ∧ y1.length = a0.length) ?_ ?_
  · skip
    refine CJ.block ?_
    refine CJ.loop (fun k F w1 => ∃ (y3 : List Spot) (y4 : Int) (y5 : Int), F = [(0, .slice Aa0 a0.length ca0), (1, .int .i64 y4), (5, .int .i64 y5)] ∧ St w (fpU [rowC cSpot Aa0 ca0 72 a0]) w1 [rowC cSpot Aa0 ca0 72 y3] [] ∧ y3.length = a0.length ∧ laws_markSpotS.l1 a0 k y3 y4 y5 = some j197) k (F' := [(0, .slice Aa0 a0.length ca0), (1, .int .i64 a1), (5, .int .i64 0)]) ⟨rfl, rfl, rfl, trivial⟩ ⟨a0, a1, 0, rfl, hS.pick [0] [] rfl, (by first | exact hl0 | (simp only [List.length_set]; exact hl0) | (simp only [List.length_set]; done)), H⟩ ?_
    rintro k F w1 ⟨y3, y4, y5, rfl, hS, hl0, H⟩
    cases k with
    | zero => rw [laws_markSpotS.l1] at H; cases H
    | succ k =>
      rw [laws_markSpotS.l1] at H
      refine CJ.seq ?_
      refine CJ.seq ?_
      refine CJ.region ?_
      refine OJ.pures tU_ok 4 rfl ?_
      refine OJ.nil (EJ.next ?_)
      refine CJ.cond rfl (fun hb => ?_) (fun hb => ?_)
      · replace H := pif_t (of_decide_eq_true hb) H
        refine CJ.skip (EJ.next ?_)
        refine CJ.seq ?_
        refine CJ.block ?_
        refine CJ.seq ?_
        refine CJ.region ?_
        refine OJ.pures tU_ok 4 rfl ?_
        obtain ⟨t6, ht6, H⟩ := pbind H
        obtain ⟨ad6, e6⟩ := (hS.rd (i := 0) rfl).some' ht6
        refine OJ.st rfl rfl rfl (SR.idxS tU_ok tI_ok rfl rfl rfl rfl e6 rfl (by have hg := (getI_some ht6).1; (first | rw [hl0] at hg | (simp only [List.length_set] at hg; rw [hl0] at hg)); exact hg)) ?_
        refine OJ.st rfl rfl rfl (SR.fieldAddr tU_ok tI_ok rfl rfl rfl rfl rfl rfl) ?_
        refine OJ.es rfl rfl (Es.storeR tI_ok hS (i := 0) (off := 0) rfl rfl ht6 e6 rfl (add_add _ _ _) rfl rfl (vs := (ci .i8).enc (IntKind.i8.wrap y4)) rfl rfl (one1 rfl) (Nat.le_of_ble_eq_true rfl) (⟨IntKind.i8.wrap y4, t6.Y⟩ : Spot) rfl) ?_
        intro w1 hS
        refine OJ.nil (EJ.next ?_)
        refine CJ.seq ?_
        refine CJ.region ?_
        refine OJ.pures tU_ok 3 rfl ?_
        refine OJ.nil (EJ.next ?_)
        refine CJ.seq ?_
        refine CJ.region ?_
        refine OJ.pures tU_ok 4 rfl ?_
        obtain ⟨t7, ht7, H⟩ := pbind H
        obtain ⟨ad7, e7⟩ := (hS.rd (i := 0) rfl).some' ht7
        refine OJ.st rfl rfl rfl (SR.idxS tU_ok tI_ok rfl rfl rfl rfl e7 rfl (by have hg := (getI_some ht7).1; (first | rw [hl0] at hg | (simp only [List.length_set] at hg; rw [hl0] at hg)); exact hg)) ?_
        refine OJ.st rfl rfl rfl (SR.fieldAddr tU_ok tI_ok rfl rfl rfl rfl rfl rfl) ?_
        refine OJ.es rfl rfl (Es.storeR tI_ok hS (i := 0) (off := 1) rfl rfl ht7 e7 rfl (add_add _ _ _) rfl rfl (vs := (ci .i8).enc (IntKind.i8.wrap (IntKind.i64.wrap (y4 + 1)))) rfl rfl (one1 rfl) (Nat.le_of_ble_eq_true rfl) (⟨t7.X, IntKind.i8.wrap (IntKind.i64.wrap (y4 + 1))⟩ : Spot) rfl) ?_
        intro w1 hS
        refine OJ.nil (EJ.next ?_)
        refine CJ.region ?_
        refine OJ.pures tU_ok 3 rfl ?_
        refine OJ.nil (EJ.blk (EJ.next ?_))
        refine CJ.region ?_
        refine OJ.pures tU_ok 3 rfl ?_
        refine OJ.nil ?_
        exact EJ.round k (F' := [(0, .slice Aa0 a0.length ca0), (1, .int .i64 (IntKind.i64.wrap ((IntKind.i64.wrap (y4 + 1)) + 1))), (5, .int .i64 (IntKind.i64.wrap (y5 + 1)))]) ⟨rfl, rfl, rfl, trivial⟩ (Nat.lt_succ_self _) ⟨((y3.set y5.toNat (⟨IntKind.i8.wrap y4, t6.Y⟩ : Spot)).set y5.toNat (⟨t7.X, IntKind.i8.wrap (IntKind.i64.wrap (y4 + 1))⟩ : Spot)), (IntKind.i64.wrap ((IntKind.i64.wrap (y4 + 1)) + 1)), (IntKind.i64.wrap (y5 + 1)), rfl, hS.pick [0] [] rfl, (by first | exact hl0 | (simp only [List.length_set]; exact hl0) | (simp only [List.length_set]; done)), H⟩
      · replace H := pif_f (of_decide_eq_false hb) H
        refine CJ.exit (EJ.skE (EJ.skE (EJ.hit (?_))))
        exact EJ.meet (F' := [(1, .int .i64 y4)]) ⟨rfl, trivial⟩ ⟨y3, y4, H, rfl, hS.pick [0] [] rfl, (by first | exact hl0 | (simp only [List.length_set]; exact hl0) | (simp only [List.length_set]; done))⟩
  · rintro F w1 ⟨y1, y2, he, rfl, hS, hl0⟩
    obtain rfl := Option.some.inj he
    have H := K197
    refine EJ.next ?_
    refine CJ.seq ?_
    refine CJ.region ?_
    refine OJ.pures tU_ok 2 rfl ?_
    refine OJ.nil (EJ.next ?_)
    refine CJ.ret (?_)
    obtain rfl := Option.some.inj H
    exact EJ.fin rfl (.tmp rfl .nil) ⟨rfl, hS.pick [0] [] rfl, (by first | exact hl0 | (simp only [List.length_set]; exact hl0) | (simp only [List.length_set]; done))⟩

def laws_markInt64S.l1 (a0 : List Int) : Nat → (List Int) → Int → Int → Option ((List Int) × Int)
  | 0, _, _, _ => none
  | k + 1, y3, y4, y5 => if y5 < (a0.length : Int) then ((getI y3 y5).bind fun t6 => laws_markInt64S.l1 a0 k (y3.set y5.toNat y4) (IntKind.i64.wrap (y4 + 1)) (IntKind.i64.wrap (y5 + 1))) else (some (y3, y4))
def laws_markInt64S.f (k : Nat) (a0 : List Int) (a1 : Int) : Option (Int × List Int) := (laws_markInt64S.l1 a0 k a0 a1 0).bind fun (y1, y2) => some (y2, y1)
theorem laws_markInt64S.c (k : Nat) (w : World) (Aa0 : Option Addr) (ca0 : Nat) (a0 : List Int) (a1 : Int) (hin : St w (fpU [rowC (ci .i64) Aa0 ca0 2 a0]) w [rowC (ci .i64) Aa0 ca0 2 a0] []) (r : Int × List Int) (H : laws_markInt64S.f k a0 a1 = some r) :
    CV Try.prog 18 [.slice Aa0 a0.length ca0, .int .i64 a1].toArray w fun v w' => v = .int .i64 r.1 ∧ St w (fpU [rowC (ci .i64) Aa0 ca0 2 a0]) w' [rowC (ci .i64) Aa0 ca0 2 r.2] [] ∧ r.2.length = a0.length := by
  have hS := hin
  unfold laws_markInt64S.f at H
  refine CV.body Try.func18 rfl Try.ntmps18 rfl ?_
  have hl0 : a0.length = a0.length := rfl
  refine CJ.seq ?_
  refine CJ.region ?_
  refine OJ.pures tU_ok 1 rfl ?_
  refine OJ.nil (EJ.next ?_)
  refine CJ.seq ?_
  refine CJ.seq ?_
  refine CJ.region ?_
  refine OJ.pures tU_ok 1 rfl ?_
  refine OJ.nil (EJ.next ?_)
  obtain ⟨j200, H, K200⟩ := pbind H
  refine CJ.cut1 (fun F w1 => ∃ (y1 : List Int) (y2 : Int) , (some (y1, y2) : Option ((List Int) × Int)) = some j200 ∧ F = [(1, .int .i64 y2)] ∧ St w (fpU [rowC (ci .i64) Aa0 ca0 2 a0]) w1 [rowC (ci .i64) Aa0 ca0 2 y1] [] ∧ y1.length = a0.length) ?_ ?_
  · skip
    refine CJ.block ?_
    refine CJ.loop (fun k F w1 => ∃ (y3 : List Int) (y4 : Int) (y5 : Int), F = [(0, .slice Aa0 a0.length ca0), (1, .int .i64 y4), (5, .int .i64 y5)] ∧ St w (fpU [rowC (ci .i64) Aa0 ca0 2 a0]) w1 [rowC (ci .i64) Aa0 ca0 2 y3] [] ∧ y3.length = a0.length ∧ laws_markInt64S.l1 a0 k y3 y4 y5 = some j200) k (F' := [(0, .slice Aa0 a0.length ca0), (1, .int .i64 a1), (5, .int .i64 0)]) ⟨rfl, rfl, rfl, trivial⟩ ⟨a0, a1, 0, rfl, hS.pick [0] [] rfl, (by first | exact hl0 | (simp only [List.length_set]; exact hl0) | (simp only [List.length_set]; done)), H⟩ ?_
    rintro k F w1 ⟨y3, y4, y5, rfl, hS, hl0, H⟩
    cases k with
    | zero => rw [laws_markInt64S.l1] at H; cases H
    | succ k =>
      rw [laws_markInt64S.l1] at H
      refine CJ.seq ?_
      refine CJ.seq ?_
      refine CJ.region ?_
      refine OJ.pures tU_ok 4 rfl ?_
      refine OJ.nil (EJ.next ?_)
      refine CJ.cond rfl (fun hb => ?_) (fun hb => ?_)
      · replace H := pif_t (of_decide_eq_true hb) H
        refine CJ.skip (EJ.next ?_)
        refine CJ.seq ?_
        refine CJ.block ?_
        refine CJ.seq ?_
        refine CJ.region ?_
        refine OJ.pures tU_ok 3 rfl ?_
        obtain ⟨t6, ht6, H⟩ := pbind H
        obtain ⟨ad6, e6⟩ := (hS.rd (i := 0) rfl).some' ht6
        refine OJ.st rfl rfl rfl (SR.idxS tU_ok tI_ok rfl rfl rfl rfl e6 rfl (by have hg := (getI_some ht6).1; (first | rw [hl0] at hg | (simp only [List.length_set] at hg; rw [hl0] at hg)); exact hg)) ?_
        refine OJ.es rfl rfl (Es.storeR tI_ok hS (i := 0) (off := 0) rfl rfl ht6 e6 rfl rfl rfl rfl (vs := (ci .i64).enc y4) rfl rfl (one1 rfl) (Nat.le_of_ble_eq_true rfl) y4 rfl) ?_
        intro w1 hS
        refine OJ.nil (EJ.next ?_)
        refine CJ.region ?_
        refine OJ.pures tU_ok 3 rfl ?_
        refine OJ.nil (EJ.blk (EJ.next ?_))
        refine CJ.region ?_
        refine OJ.pures tU_ok 3 rfl ?_
        refine OJ.nil ?_
        exact EJ.round k (F' := [(0, .slice Aa0 a0.length ca0), (1, .int .i64 (IntKind.i64.wrap (y4 + 1))), (5, .int .i64 (IntKind.i64.wrap (y5 + 1)))]) ⟨rfl, rfl, rfl, trivial⟩ (Nat.lt_succ_self _) ⟨(y3.set y5.toNat y4), (IntKind.i64.wrap (y4 + 1)), (IntKind.i64.wrap (y5 + 1)), rfl, hS.pick [0] [] rfl, (by first | exact hl0 | (simp only [List.length_set]; exact hl0) | (simp only [List.length_set]; done)), H⟩
      · replace H := pif_f (of_decide_eq_false hb) H
        refine CJ.exit (EJ.skE (EJ.skE (EJ.hit (?_))))
        exact EJ.meet (F' := [(1, .int .i64 y4)]) ⟨rfl, trivial⟩ ⟨y3, y4, H, rfl, hS.pick [0] [] rfl, (by first | exact hl0 | (simp only [List.length_set]; exact hl0) | (simp only [List.length_set]; done))⟩
  · rintro F w1 ⟨y1, y2, he, rfl, hS, hl0⟩
    obtain rfl := Option.some.inj he
    have H := K200
    refine EJ.next ?_
    refine CJ.seq ?_
    refine CJ.region ?_
    refine OJ.pures tU_ok 2 rfl ?_
    refine OJ.nil (EJ.next ?_)
    refine CJ.ret (?_)
    obtain rfl := Option.some.inj H
    exact EJ.fin rfl (.tmp rfl .nil) ⟨rfl, hS.pick [0] [] rfl, (by first | exact hl0 | (simp only [List.length_set]; exact hl0) | (simp only [List.length_set]; done))⟩

def laws_heldInt64S.l1 (a0 : List Int) : Nat → Int → Int → Option (Int ⊕ Int)
  | 0, _, _ => none
  | k + 1, y2, y3 => if y3 < (a0.length : Int) then ((getI a0 y3).bind fun t4 => if t4 ≠ y2 then (some (Sum.inl (-1))) else (laws_heldInt64S.l1 a0 k (IntKind.i64.wrap (y2 + 1)) (IntKind.i64.wrap (y3 + 1)))) else (some (Sum.inr y2))
def laws_heldInt64S.f (k : Nat) (a0 : List Int) (a1 : Int) : Option Int := (laws_heldInt64S.l1 a0 k a1 0).bind fun s201 => match s201 with | .inl r => some r | .inr y1 => some y1
theorem laws_heldInt64S.c (k : Nat) (w : World) (Aa0 : Option Addr) (ca0 : Nat) (a0 : List Int) (hr0 : Rd (ci .i64) w Aa0 a0) (hc0 : a0.length ≤ ca0) (a1 : Int) (r : Int) (H : laws_heldInt64S.f k a0 a1 = some r) :
    CV Try.prog 19 [.slice Aa0 a0.length ca0, .int .i64 a1].toArray w fun v w' => v = .int .i64 r ∧ Ext w w' := by
  have hS := ((St.init w no).param (ci .i64) Aa0 ca0 a0 hr0 hc0)
  unfold laws_heldInt64S.f at H
  refine CV.body Try.func19 rfl Try.ntmps19 rfl ?_
  refine CJ.seq ?_
  refine CJ.region ?_
  refine OJ.pures tU_ok 1 rfl ?_
  refine OJ.nil (EJ.next ?_)
  refine CJ.seq ?_
  refine CJ.seq ?_
  refine CJ.region ?_
  refine OJ.pures tU_ok 1 rfl ?_
  refine OJ.nil (EJ.next ?_)
  obtain ⟨j201, H, K201⟩ := pbind H
  refine CJ.cut1 (fun F w1 => ∃ (y1 : Int) , (some (Sum.inr y1) : Option (Int ⊕ Int)) = some j201 ∧ F = [(1, .int .i64 y1)] ∧ St w no w1 [] [roC (ci .i64) Aa0 ca0 a0]) ?_ ?_
  · skip
    refine CJ.block ?_
    refine CJ.loop (fun k F w1 => ∃ (y2 : Int) (y3 : Int), F = [(0, .slice Aa0 a0.length ca0), (1, .int .i64 y2), (5, .int .i64 y3)] ∧ St w no w1 [] [roC (ci .i64) Aa0 ca0 a0] ∧ laws_heldInt64S.l1 a0 k y2 y3 = some j201) k (F' := [(0, .slice Aa0 a0.length ca0), (1, .int .i64 a1), (5, .int .i64 0)]) ⟨rfl, rfl, rfl, trivial⟩ ⟨a1, 0, rfl, hS.pick [] [0] rfl, H⟩ ?_
    rintro k F w1 ⟨y2, y3, rfl, hS, H⟩
    cases k with
    | zero => rw [laws_heldInt64S.l1] at H; cases H
    | succ k =>
      rw [laws_heldInt64S.l1] at H
      refine CJ.seq ?_
      refine CJ.seq ?_
      refine CJ.region ?_
      refine OJ.pures tU_ok 4 rfl ?_
      refine OJ.nil (EJ.next ?_)
      refine CJ.cond rfl (fun hb => ?_) (fun hb => ?_)
      · replace H := pif_t (of_decide_eq_true hb) H
        refine CJ.skip (EJ.next ?_)
        refine CJ.seq ?_
        refine CJ.block ?_
        refine CJ.seq ?_
        refine CJ.seq ?_
        refine CJ.region ?_
        refine OJ.pures tU_ok 2 rfl ?_
        obtain ⟨t4, ht4, H⟩ := pbind H
        obtain ⟨ad4, e4⟩ := (hS.rd' (i := 0) rfl).some' ht4
        refine OJ.st rfl rfl rfl (SR.idxS tU_ok tI_ok rfl rfl rfl rfl e4 rfl (getI_some ht4).1) ?_
        refine OJ.st rfl rfl rfl (SR.load rfl rfl (fun w' hx => ld1 tU_ok rfl rfl (CA.ext ((hS.rd' (i := 0) rfl).at_ e4 ht4) hx) rfl)) ?_
        refine OJ.pures tU_ok 2 rfl ?_
        refine OJ.nil (EJ.next ?_)
        refine CJ.cond rfl (fun hb => ?_) (fun hb => ?_)
        · replace H := pif_t (of_decide_eq_true hb) H
          refine CJ.seq ?_
          refine CJ.region ?_
          refine OJ.pures tU_ok 1 rfl ?_
          refine OJ.nil (EJ.next ?_)
          refine CJ.ret (EJ.skR (EJ.bkR (EJ.skR (EJ.skR (EJ.bkR (EJ.skR (EJ.skR (?_))))))))
          first | (obtain rfl := Option.some.inj H; have H := K201) | (obtain ⟨q201, H2, e201⟩ := pbind H; obtain rfl := Option.some.inj e201; obtain rfl := Option.some.inj K201; have H := H2)
          obtain rfl := Option.some.inj H
          exact EJ.fin rfl (.tmp rfl .nil) ⟨rfl, hS.ext⟩
        · replace H := pif_f (of_decide_eq_false hb) H
          refine CJ.skip (EJ.next ?_)
          refine CJ.region ?_
          refine OJ.pures tU_ok 3 rfl ?_
          refine OJ.nil (EJ.blk (EJ.next ?_))
          refine CJ.region ?_
          refine OJ.pures tU_ok 3 rfl ?_
          refine OJ.nil ?_
          exact EJ.round k (F' := [(0, .slice Aa0 a0.length ca0), (1, .int .i64 (IntKind.i64.wrap (y2 + 1))), (5, .int .i64 (IntKind.i64.wrap (y3 + 1)))]) ⟨rfl, rfl, rfl, trivial⟩ (Nat.lt_succ_self _) ⟨(IntKind.i64.wrap (y2 + 1)), (IntKind.i64.wrap (y3 + 1)), rfl, hS.pick [] [0] rfl, H⟩
      · replace H := pif_f (of_decide_eq_false hb) H
        refine CJ.exit (EJ.skE (EJ.skE (EJ.hit (?_))))
        exact EJ.meet (F' := [(1, .int .i64 y2)]) ⟨rfl, trivial⟩ ⟨y2, H, rfl, hS.pick [] [0] rfl⟩
  · rintro F w1 ⟨y1, he, rfl, hS⟩
    obtain rfl := Option.some.inj he
    have H := K201
    refine EJ.next ?_
    refine CJ.seq ?_
    refine CJ.region ?_
    refine OJ.pures tU_ok 2 rfl ?_
    refine OJ.nil (EJ.next ?_)
    refine CJ.ret (?_)
    obtain rfl := Option.some.inj H
    exact EJ.fin rfl (.tmp rfl .nil) ⟨rfl, hS.ext⟩

def laws_FnExactWateredYards.f (k : Nat) (a0 : Pasture) (a1 : List Spot) : Option Bool := (laws_szSpotS.f a1 1048576).bind fun t2 => if t2 < 0 then (some true) else ((laws_toPasture.f k a0).bind fun t3 => (laws_toSpotS.f k a1).bind fun t4 => (spec_WateredYards.f k t3 t4).bind fun t7 => (laws_toSpotS.f k a1).bind fun t10 => (laws_toPasture.f k a0).bind fun t13 => (impl_WateredYards.f k t13 t10).bind fun t14 => ((laws_eqInt64S.f k t14.1 t7.1).bind fun t18 => if (!t18) = true then (some true) else (some (decide (t14.2 ≠ t7.2)))).bind fun y17 => if y17 = true then (some false) else ((laws_toSpotS.f k a1).bind fun t19 => (laws_eqSpotS.f k t10 t19).bind fun t22 => if (!t22) = true then (some false) else ((laws_markSpotS.f k t10 1).bind fun t23 => (if t23.1 < 0 then (some true) else ((laws_eqInt64S.f k t14.1 t7.1).bind fun t25 => if (!t25) = true then (some true) else (some (decide (t14.2 ≠ t7.2))))).bind fun y24 => if y24 = true then (some false) else ((laws_markInt64S.f k t14.1 1).bind fun t26 => (laws_heldInt64S.f k t26.2 1).bind fun t27 => if t27 < 0 then (some false) else (if t27 ≠ t26.1 then (some false) else ((laws_toPasture.f k a0).bind fun t28 => (laws_toSpotS.f k a1).bind fun t29 => (impl_WateredYards.f k t28 t29).bind fun t32 => ((laws_eqInt64S.f k t32.1 t7.1).bind fun t36 => if (!t36) = true then (some true) else (some (decide (t32.2 ≠ t7.2)))).bind fun y35 => if y35 = true then (some false) else ((laws_heldInt64S.f k t26.2 1).bind fun t37 => if t37 < 0 then (some false) else (if t37 ≠ t26.1 then (some false) else (some true)))))))))
theorem laws_FnExactWateredYards.c (k : Nat) (w : World) (a0 : Pasture) (Aa1 : Option Addr) (ca1 : Nat) (a1 : List Spot) (hr1 : Rd cSpot w Aa1 a1) (hc1 : a1.length ≤ ca1) (r : Bool) (H : laws_FnExactWateredYards.f k a0 a1 = some r) :
    CV Try.prog 4 [.agg (cPasture.enc a0).toArray, .slice Aa1 a1.length ca1].toArray w fun v w' => v = .bool r ∧ Ext w w' := by
  have hS := ((St.init w no).param cSpot Aa1 ca1 a1 hr1 hc1)
  unfold laws_FnExactWateredYards.f at H
  refine CV.body Try.func4 rfl Try.ntmps4 rfl ?_
  refine CJ.seq ?_
  refine CJ.region ?_
  refine OJ.ef rfl rfl rfl (Ef.box hS rfl rfl (cPasture.enc a0) rfl) ?_
  rintro _ w1 ⟨b1, rfl, hS⟩
  refine OJ.pures tU_ok 1 rfl ?_
  refine OJ.nil (EJ.next ?_)
  refine CJ.seq ?_
  refine CJ.region ?_
  refine OJ.pures tU_ok 1 rfl ?_
  refine OJ.nil (EJ.next ?_)
  refine CJ.seq ?_
  refine CJ.region ?_
  refine OJ.pures tU_ok 2 rfl ?_
  obtain ⟨t2, ht2, H⟩ := pbind H
  refine OJ.callF rfl rfl rfl rfl rfl hb11 rfl (laws_szSpotS.c _ Aa1 ca1 a1 (hS.rd' (i := 0) rfl) (hS.le' (i := 0) rfl) 1048576 _ ht2) ?_
  rintro _ w1 ⟨rfl, hs⟩
  replace hS := hS.grow hs
  refine OJ.pures tU_ok 1 rfl ?_
  refine OJ.nil (EJ.next ?_)
  refine CJ.seq ?_
  refine CJ.seq ?_
  refine CJ.region ?_
  refine OJ.pures tU_ok 2 rfl ?_
  refine OJ.nil (EJ.next ?_)
  refine CJ.cond rfl (fun hb => ?_) (fun hb => ?_)
  · replace H := pif_t (of_decide_eq_true hb) H
    refine CJ.seq ?_
    refine CJ.region ?_
    refine OJ.pures tU_ok 1 rfl ?_
    refine OJ.nil (EJ.next ?_)
    refine CJ.ret (EJ.skR (?_))
    obtain rfl := Option.some.inj H
    exact EJ.fin rfl (.tmp rfl .nil) ⟨rfl, hS.ext⟩
  · replace H := pif_f (of_decide_eq_false hb) H
    refine CJ.skip (EJ.next ?_)
    refine CJ.seq ?_
    refine CJ.region ?_
    refine OJ.st rfl rfl rfl (SR.load rfl rfl (fun w' hx => ldE tU_ok tI_ok rfl rfl rfl (CA.ext (hS.cells (i := 0) rfl) hx) rfl)) ?_
    obtain ⟨t3, ht3, H⟩ := pbind H
    refine OJ.callF rfl rfl rfl rfl rfl hb6 rfl (laws_toPasture.c k _ a0 _ ht3) ?_
    rintro _ w1 ⟨rfl, hs⟩
    replace hS := hS.grow hs
    refine OJ.pures tU_ok 1 rfl ?_
    obtain ⟨t4, ht4, H⟩ := pbind H
    refine OJ.callF rfl rfl rfl rfl rfl hb13 rfl (laws_toSpotS.c k _ Aa1 ca1 a1 (hS.rd' (i := 0) rfl) (hS.le' (i := 0) rfl) _ ht4) ?_
    rintro _ w1 ⟨A5, c6, rfl, hs⟩
    replace hS := hS.addN hs
    obtain ⟨t7, ht7, H⟩ := pbind H
    refine OJ.callF rfl rfl rfl rfl rfl hb12 rfl (spec_WateredYards.c k _ t3 A5 c6 t4 (hS.rd (i := 1) rfl) (hS.le (i := 1) rfl) _ ht7) ?_
    rintro _ w1 ⟨A8, c9, rfl, hs⟩
    replace hS := hS.addN hs
    refine OJ.pures tU_ok 5 rfl ?_
    refine OJ.nil (EJ.next ?_)
    refine CJ.seq ?_
    refine CJ.region ?_
    refine OJ.pures tU_ok 1 rfl ?_
    obtain ⟨t10, ht10, H⟩ := pbind H
    refine OJ.callF rfl rfl rfl rfl rfl hb13 rfl (laws_toSpotS.c k _ Aa1 ca1 a1 (hS.rd' (i := 0) rfl) (hS.le' (i := 0) rfl) _ ht10) ?_
    rintro _ w1 ⟨A11, c12, rfl, hs⟩
    replace hS := hS.addN hs
    refine OJ.pures tU_ok 1 rfl ?_
    refine OJ.nil (EJ.next ?_)
    refine CJ.seq ?_
    refine CJ.region ?_
    refine OJ.st rfl rfl rfl (SR.load rfl rfl (fun w' hx => ldE tU_ok tI_ok rfl rfl rfl (CA.ext (hS.cells (i := 0) rfl) hx) rfl)) ?_
    obtain ⟨t13, ht13, H⟩ := pbind H
    refine OJ.callF rfl rfl rfl rfl rfl hb6 rfl (laws_toPasture.c k _ a0 _ ht13) ?_
    rintro _ w1 ⟨rfl, hs⟩
    replace hS := hS.grow hs
    refine OJ.pures tU_ok 1 rfl ?_
    obtain ⟨t14, ht14, H⟩ := pbind H
    refine OJ.callF rfl rfl rfl rfl rfl hb14 rfl (impl_WateredYards.c k _ t13 A11 c12 t10 (hS.rd (i := 3) rfl) (hS.le (i := 3) rfl) _ ht14) ?_
    rintro _ w1 ⟨A15, c16, rfl, hs⟩
    replace hS := hS.addN hs
    refine OJ.pures tU_ok 5 rfl ?_
    refine OJ.nil (EJ.next ?_)
    refine CJ.seq ?_
    obtain ⟨j193, H, K193⟩ := pbind H
    refine CJ.cut (fun F w1 => ∃ (y17 : Bool) , (some y17 : Option Bool) = some j193 ∧ F = [(1, .slice Aa1 a1.length ca1), (2, .pointer (some ⟨b1, 0, none⟩)), (6, .slice A8 t7.1.length c9), (7, .int .i64 t7.2), (8, .slice A11 t10.length c12), (9, .slice A15 t14.1.length c16), (10, .int .i64 t14.2), (46, .bool y17)] ∧ St w no w1 [box b1 (cPasture.enc a0) 29, rowC (ci .i64) A8 c9 2 t7.1, rowC cSpot A11 c12 72 t10, rowC (ci .i64) A15 c16 2 t14.1] [roC cSpot Aa1 ca1 a1]) ?_ ?_
    · skip
      refine CJ.region ?_
      refine OJ.pures tU_ok 2 rfl ?_
      obtain ⟨t18, ht18, H⟩ := pbind H
      refine OJ.callF rfl rfl rfl rfl rfl hb15 rfl (laws_eqInt64S.c k _ A15 c16 t14.1 (hS.rd (i := 4) rfl) (hS.le (i := 4) rfl) A8 c9 t7.1 (hS.rd (i := 2) rfl) (hS.le (i := 2) rfl) _ ht18) ?_
      rintro _ w1 ⟨rfl, hs⟩
      replace hS := hS.grow hs
      refine OJ.pures tU_ok 2 rfl ?_
      refine OJ.split (t := 42) rfl (fun hb => ?_) (fun hb => ?_)
      · replace H := pif_t hb H
        refine OJ.pures tU_ok 4 rfl ?_
        refine OJ.nil ?_
        exact EJ.meet (F' := [(1, .slice Aa1 a1.length ca1), (2, .pointer (some ⟨b1, 0, none⟩)), (6, .slice A8 t7.1.length c9), (7, .int .i64 t7.2), (8, .slice A11 t10.length c12), (9, .slice A15 t14.1.length c16), (10, .int .i64 t14.2), (46, .bool true)]) ⟨rfl, rfl, rfl, rfl, rfl, rfl, rfl, rfl, trivial⟩ ⟨true, H, rfl, hS.pick [0, 2, 3, 4] [0] rfl⟩
      · replace H := pifb_f hb H
        refine OJ.pures tU_ok 4 rfl ?_
        refine OJ.nil ?_
        exact EJ.meet (F' := [(1, .slice Aa1 a1.length ca1), (2, .pointer (some ⟨b1, 0, none⟩)), (6, .slice A8 t7.1.length c9), (7, .int .i64 t7.2), (8, .slice A11 t10.length c12), (9, .slice A15 t14.1.length c16), (10, .int .i64 t14.2), (46, .bool (decide (t14.2 ≠ t7.2)))]) ⟨rfl, rfl, rfl, rfl, rfl, rfl, rfl, rfl, trivial⟩ ⟨(decide (t14.2 ≠ t7.2)), H, rfl, hS.pick [0, 2, 3, 4] [0] rfl⟩
    · rintro F w1 ⟨y17, he, rfl, hS⟩
      obtain rfl := Option.some.inj he
      have H := K193
      refine CJ.cond rfl (fun hb => ?_) (fun hb => ?_)
      · replace H := pif_t hb H
        refine CJ.seq ?_
        refine CJ.region ?_
        refine OJ.pures tU_ok 1 rfl ?_
        refine OJ.nil (EJ.next ?_)
        refine CJ.ret (EJ.skR (?_))
        obtain rfl := Option.some.inj H
        exact EJ.fin rfl (.tmp rfl .nil) ⟨rfl, hS.ext⟩
      · replace H := pifb_f hb H
        refine CJ.skip (EJ.next ?_)
        refine CJ.seq ?_
        refine CJ.seq ?_
        refine CJ.region ?_
        refine OJ.pures tU_ok 2 rfl ?_
        obtain ⟨t19, ht19, H⟩ := pbind H
        refine OJ.callF rfl rfl rfl rfl rfl hb13 rfl (laws_toSpotS.c k _ Aa1 ca1 a1 (hS.rd' (i := 0) rfl) (hS.le' (i := 0) rfl) _ ht19) ?_
        rintro _ w1 ⟨A20, c21, rfl, hs⟩
        replace hS := hS.addN hs
        obtain ⟨t22, ht22, H⟩ := pbind H
        refine OJ.callF rfl rfl rfl rfl rfl hb16 rfl (laws_eqSpotS.c k _ A11 c12 t10 (hS.rd (i := 2) rfl) (hS.le (i := 2) rfl) A20 c21 t19 (hS.rd (i := 4) rfl) (hS.le (i := 4) rfl) _ ht22) ?_
        rintro _ w1 ⟨rfl, hs⟩
        replace hS := hS.grow hs
        refine OJ.pures tU_ok 1 rfl ?_
        refine OJ.nil (EJ.next ?_)
        refine CJ.cond rfl (fun hb => ?_) (fun hb => ?_)
        · replace H := pif_t hb H
          refine CJ.seq ?_
          refine CJ.region ?_
          refine OJ.pures tU_ok 1 rfl ?_
          refine OJ.nil (EJ.next ?_)
          refine CJ.ret (EJ.skR (?_))
          obtain rfl := Option.some.inj H
          exact EJ.fin rfl (.tmp rfl .nil) ⟨rfl, hS.ext⟩
        · replace H := pifb_f hb H
          refine CJ.skip (EJ.next ?_)
          refine CJ.seq ?_
          refine CJ.region ?_
          refine OJ.pures tU_ok 1 rfl ?_
          refine OJ.nil (EJ.next ?_)
          refine CJ.seq ?_
          refine CJ.region ?_
          refine OJ.pures tU_ok 2 rfl ?_
          obtain ⟨t23, ht23, H⟩ := pbind H
          refine OJ.callF rfl rfl rfl rfl rfl hb17 rfl (laws_markSpotS.c k _ A11 c12 t10 1 ((hS.subs [2] [] [] rfl).pick [0] [] rfl) _ ht23) ?_
          rintro _ w1 ⟨rfl, hs, hlc0⟩
          replace hS := hS.back [2] rfl rfl [rowC cSpot A11 c12 72 t23.2] [] hs ⟨fun _ => Iff.rfl, trivial⟩
          refine OJ.as (t := 8) rfl (show _ = (.slice A11 t23.2.length c12 : Value) by simp only [hlc0]) ?_
          refine OJ.as (t := 47) rfl (show _ = (.slice A11 t23.2.length c12 : Value) by simp only [hlc0]) ?_
          refine OJ.as (t := 52) rfl (show _ = (.slice A11 t23.2.length c12 : Value) by simp only [hlc0]) ?_
          refine OJ.pures tU_ok 1 rfl ?_
          refine OJ.nil (EJ.next ?_)
          refine CJ.seq ?_
          obtain ⟨j198, H, K198⟩ := pbind H
          refine CJ.cut (fun F w1 => ∃ (y24 : Bool) , (some y24 : Option Bool) = some j198 ∧ F = [(1, .slice Aa1 a1.length ca1), (2, .pointer (some ⟨b1, 0, none⟩)), (6, .slice A8 t7.1.length c9), (7, .int .i64 t7.2), (9, .slice A15 t14.1.length c16), (67, .bool y24)] ∧ St w no w1 [box b1 (cPasture.enc a0) 29, rowC (ci .i64) A8 c9 2 t7.1, rowC (ci .i64) A15 c16 2 t14.1] [roC cSpot Aa1 ca1 a1]) ?_ ?_
          · skip
            refine CJ.region ?_
            refine OJ.pures tU_ok 3 rfl ?_
            refine OJ.split (t := 57) rfl (fun hb => ?_) (fun hb => ?_)
            · replace H := pif_t (of_decide_eq_true hb) H
              refine OJ.pures tU_ok 10 rfl ?_
              refine OJ.nil ?_
              exact EJ.meet (F' := [(1, .slice Aa1 a1.length ca1), (2, .pointer (some ⟨b1, 0, none⟩)), (6, .slice A8 t7.1.length c9), (7, .int .i64 t7.2), (9, .slice A15 t14.1.length c16), (67, .bool true)]) ⟨rfl, rfl, rfl, rfl, rfl, rfl, trivial⟩ ⟨true, H, rfl, hS.pick [0, 1, 3] [0] rfl⟩
            · replace H := pif_f (of_decide_eq_false hb) H
              refine OJ.pures tU_ok 2 rfl ?_
              obtain ⟨t25, ht25, H⟩ := pbind H
              refine OJ.callF rfl rfl rfl rfl rfl hb15 rfl (laws_eqInt64S.c k _ A15 c16 t14.1 (hS.rd (i := 3) rfl) (hS.le (i := 3) rfl) A8 c9 t7.1 (hS.rd (i := 1) rfl) (hS.le (i := 1) rfl) _ ht25) ?_
              rintro _ w1 ⟨rfl, hs⟩
              replace hS := hS.grow hs
              refine OJ.pures tU_ok 3 rfl ?_
              refine OJ.split (t := 63) rfl (fun hb => ?_) (fun hb => ?_)
              · replace H := pif_t hb H
                refine OJ.pures tU_ok 4 rfl ?_
                refine OJ.nil ?_
                exact EJ.meet (F' := [(1, .slice Aa1 a1.length ca1), (2, .pointer (some ⟨b1, 0, none⟩)), (6, .slice A8 t7.1.length c9), (7, .int .i64 t7.2), (9, .slice A15 t14.1.length c16), (67, .bool true)]) ⟨rfl, rfl, rfl, rfl, rfl, rfl, trivial⟩ ⟨true, H, rfl, hS.pick [0, 1, 3] [0] rfl⟩
              · replace H := pifb_f hb H
                refine OJ.pures tU_ok 4 rfl ?_
                refine OJ.nil ?_
                exact EJ.meet (F' := [(1, .slice Aa1 a1.length ca1), (2, .pointer (some ⟨b1, 0, none⟩)), (6, .slice A8 t7.1.length c9), (7, .int .i64 t7.2), (9, .slice A15 t14.1.length c16), (67, .bool (decide (t14.2 ≠ t7.2)))]) ⟨rfl, rfl, rfl, rfl, rfl, rfl, trivial⟩ ⟨(decide (t14.2 ≠ t7.2)), H, rfl, hS.pick [0, 1, 3] [0] rfl⟩
          · rintro F w1 ⟨y24, he, rfl, hS⟩
            obtain rfl := Option.some.inj he
            have H := K198
            refine CJ.cond rfl (fun hb => ?_) (fun hb => ?_)
            · replace H := pif_t hb H
              refine CJ.seq ?_
              refine CJ.region ?_
              refine OJ.pures tU_ok 1 rfl ?_
              refine OJ.nil (EJ.next ?_)
              refine CJ.ret (EJ.skR (?_))
              obtain rfl := Option.some.inj H
              exact EJ.fin rfl (.tmp rfl .nil) ⟨rfl, hS.ext⟩
            · replace H := pifb_f hb H
              refine CJ.skip (EJ.next ?_)
              refine CJ.seq ?_
              refine CJ.region ?_
              refine OJ.pures tU_ok 1 rfl ?_
              refine OJ.nil (EJ.next ?_)
              refine CJ.seq ?_
              refine CJ.region ?_
              refine OJ.pures tU_ok 2 rfl ?_
              obtain ⟨t26, ht26, H⟩ := pbind H
              refine OJ.callF rfl rfl rfl rfl rfl hb18 rfl (laws_markInt64S.c k _ A15 c16 t14.1 1 ((hS.subs [2] [] [] rfl).pick [0] [] rfl) _ ht26) ?_
              rintro _ w1 ⟨rfl, hs, hlc0⟩
              replace hS := hS.back [2] rfl rfl [rowC (ci .i64) A15 c16 2 t26.2] [] hs ⟨fun _ => Iff.rfl, trivial⟩
              refine OJ.as (t := 9) rfl (show _ = (.slice A15 t26.2.length c16 : Value) by simp only [hlc0]) ?_
              refine OJ.as (t := 68) rfl (show _ = (.slice A15 t26.2.length c16 : Value) by simp only [hlc0]) ?_
              refine OJ.pures tU_ok 1 rfl ?_
              refine OJ.nil (EJ.next ?_)
              refine CJ.seq ?_
              refine CJ.region ?_
              refine OJ.pures tU_ok 1 rfl ?_
              refine OJ.nil (EJ.next ?_)
              refine CJ.seq ?_
              refine CJ.region ?_
              refine OJ.pures tU_ok 2 rfl ?_
              obtain ⟨t27, ht27, H⟩ := pbind H
              refine OJ.callF rfl rfl rfl rfl rfl hb19 rfl (laws_heldInt64S.c k _ A15 c16 t26.2 (hS.rd (i := 2) rfl) (hS.le (i := 2) rfl) 1 _ ht27) ?_
              rintro _ w1 ⟨rfl, hs⟩
              replace hS := hS.grow hs
              refine OJ.pures tU_ok 1 rfl ?_
              refine OJ.nil (EJ.next ?_)
              refine CJ.seq ?_
              refine CJ.seq ?_
              refine CJ.region ?_
              refine OJ.pures tU_ok 2 rfl ?_
              refine OJ.nil (EJ.next ?_)
              refine CJ.cond rfl (fun hb => ?_) (fun hb => ?_)
              · replace H := pif_t (of_decide_eq_true hb) H
                refine CJ.seq ?_
                refine CJ.region ?_
                refine OJ.pures tU_ok 1 rfl ?_
                refine OJ.nil (EJ.next ?_)
                refine CJ.ret (EJ.skR (?_))
                obtain rfl := Option.some.inj H
                exact EJ.fin rfl (.tmp rfl .nil) ⟨rfl, hS.ext⟩
              · replace H := pif_f (of_decide_eq_false hb) H
                refine CJ.skip (EJ.next ?_)
                refine CJ.seq ?_
                refine CJ.seq ?_
                refine CJ.region ?_
                refine OJ.pures tU_ok 3 rfl ?_
                refine OJ.nil (EJ.next ?_)
                refine CJ.cond rfl (fun hb => ?_) (fun hb => ?_)
                · replace H := pif_t (of_decide_eq_true hb) H
                  refine CJ.seq ?_
                  refine CJ.region ?_
                  refine OJ.pures tU_ok 1 rfl ?_
                  refine OJ.nil (EJ.next ?_)
                  refine CJ.ret (EJ.skR (?_))
                  obtain rfl := Option.some.inj H
                  exact EJ.fin rfl (.tmp rfl .nil) ⟨rfl, hS.ext⟩
                · replace H := pif_f (of_decide_eq_false hb) H
                  refine CJ.skip (EJ.next ?_)
                  refine CJ.seq ?_
                  refine CJ.region ?_
                  refine OJ.st rfl rfl rfl (SR.load rfl rfl (fun w' hx => ldE tU_ok tI_ok rfl rfl rfl (CA.ext (hS.cells (i := 0) rfl) hx) rfl)) ?_
                  obtain ⟨t28, ht28, H⟩ := pbind H
                  refine OJ.callF rfl rfl rfl rfl rfl hb6 rfl (laws_toPasture.c k _ a0 _ ht28) ?_
                  rintro _ w1 ⟨rfl, hs⟩
                  replace hS := hS.grow hs
                  refine OJ.pures tU_ok 1 rfl ?_
                  obtain ⟨t29, ht29, H⟩ := pbind H
                  refine OJ.callF rfl rfl rfl rfl rfl hb13 rfl (laws_toSpotS.c k _ Aa1 ca1 a1 (hS.rd' (i := 0) rfl) (hS.le' (i := 0) rfl) _ ht29) ?_
                  rintro _ w1 ⟨A30, c31, rfl, hs⟩
                  replace hS := hS.addN hs
                  obtain ⟨t32, ht32, H⟩ := pbind H
                  refine OJ.callF rfl rfl rfl rfl rfl hb14 rfl (impl_WateredYards.c k _ t28 A30 c31 t29 (hS.rd (i := 3) rfl) (hS.le (i := 3) rfl) _ ht32) ?_
                  rintro _ w1 ⟨A33, c34, rfl, hs⟩
                  replace hS := hS.addN hs
                  refine OJ.pures tU_ok 5 rfl ?_
                  refine OJ.nil (EJ.next ?_)
                  refine CJ.seq ?_
                  obtain ⟨j202, H, K202⟩ := pbind H
                  refine CJ.cut (fun F w1 => ∃ (y35 : Bool) , (some y35 : Option Bool) = some j202 ∧ F = [(9, .slice A15 t26.2.length c16), (12, .int .i64 t26.1), (95, .bool y35)] ∧ St w no w1 [rowC (ci .i64) A15 c16 2 t26.2] [roC cSpot Aa1 ca1 a1]) ?_ ?_
                  · skip
                    refine CJ.region ?_
                    refine OJ.pures tU_ok 2 rfl ?_
                    obtain ⟨t36, ht36, H⟩ := pbind H
                    refine OJ.callF rfl rfl rfl rfl rfl hb15 rfl (laws_eqInt64S.c k _ A33 c34 t32.1 (hS.rd (i := 4) rfl) (hS.le (i := 4) rfl) A8 c9 t7.1 (hS.rd (i := 1) rfl) (hS.le (i := 1) rfl) _ ht36) ?_
                    rintro _ w1 ⟨rfl, hs⟩
                    replace hS := hS.grow hs
                    refine OJ.pures tU_ok 2 rfl ?_
                    refine OJ.split (t := 91) rfl (fun hb => ?_) (fun hb => ?_)
                    · replace H := pif_t hb H
                      refine OJ.pures tU_ok 4 rfl ?_
                      refine OJ.nil ?_
                      exact EJ.meet (F' := [(9, .slice A15 t26.2.length c16), (12, .int .i64 t26.1), (95, .bool true)]) ⟨rfl, rfl, rfl, trivial⟩ ⟨true, H, rfl, hS.pick [2] [0] rfl⟩
                    · replace H := pifb_f hb H
                      refine OJ.pures tU_ok 4 rfl ?_
                      refine OJ.nil ?_
                      exact EJ.meet (F' := [(9, .slice A15 t26.2.length c16), (12, .int .i64 t26.1), (95, .bool (decide (t32.2 ≠ t7.2)))]) ⟨rfl, rfl, rfl, trivial⟩ ⟨(decide (t32.2 ≠ t7.2)), H, rfl, hS.pick [2] [0] rfl⟩
                  · rintro F w1 ⟨y35, he, rfl, hS⟩
                    obtain rfl := Option.some.inj he
                    have H := K202
                    refine CJ.cond rfl (fun hb => ?_) (fun hb => ?_)
                    · replace H := pif_t hb H
                      refine CJ.seq ?_
                      refine CJ.region ?_
                      refine OJ.pures tU_ok 1 rfl ?_
                      refine OJ.nil (EJ.next ?_)
                      refine CJ.ret (EJ.skR (?_))
                      obtain rfl := Option.some.inj H
                      exact EJ.fin rfl (.tmp rfl .nil) ⟨rfl, hS.ext⟩
                    · replace H := pifb_f hb H
                      refine CJ.skip (EJ.next ?_)
                      refine CJ.seq ?_
                      refine CJ.region ?_
                      refine OJ.pures tU_ok 1 rfl ?_
                      refine OJ.nil (EJ.next ?_)
                      refine CJ.seq ?_
                      refine CJ.region ?_
                      refine OJ.pures tU_ok 2 rfl ?_
                      obtain ⟨t37, ht37, H⟩ := pbind H
                      refine OJ.callF rfl rfl rfl rfl rfl hb19 rfl (laws_heldInt64S.c k _ A15 c16 t26.2 (hS.rd (i := 0) rfl) (hS.le (i := 0) rfl) 1 _ ht37) ?_
                      rintro _ w1 ⟨rfl, hs⟩
                      replace hS := hS.grow hs
                      refine OJ.pures tU_ok 1 rfl ?_
                      refine OJ.nil (EJ.next ?_)
                      refine CJ.seq ?_
                      refine CJ.seq ?_
                      refine CJ.region ?_
                      refine OJ.pures tU_ok 2 rfl ?_
                      refine OJ.nil (EJ.next ?_)
                      refine CJ.cond rfl (fun hb => ?_) (fun hb => ?_)
                      · replace H := pif_t (of_decide_eq_true hb) H
                        refine CJ.seq ?_
                        refine CJ.region ?_
                        refine OJ.pures tU_ok 1 rfl ?_
                        refine OJ.nil (EJ.next ?_)
                        refine CJ.ret (EJ.skR (?_))
                        obtain rfl := Option.some.inj H
                        exact EJ.fin rfl (.tmp rfl .nil) ⟨rfl, hS.ext⟩
                      · replace H := pif_f (of_decide_eq_false hb) H
                        refine CJ.skip (EJ.next ?_)
                        refine CJ.seq ?_
                        refine CJ.seq ?_
                        refine CJ.region ?_
                        refine OJ.pures tU_ok 3 rfl ?_
                        refine OJ.nil (EJ.next ?_)
                        refine CJ.cond rfl (fun hb => ?_) (fun hb => ?_)
                        · replace H := pif_t (of_decide_eq_true hb) H
                          refine CJ.seq ?_
                          refine CJ.region ?_
                          refine OJ.pures tU_ok 1 rfl ?_
                          refine OJ.nil (EJ.next ?_)
                          refine CJ.ret (EJ.skR (?_))
                          obtain rfl := Option.some.inj H
                          exact EJ.fin rfl (.tmp rfl .nil) ⟨rfl, hS.ext⟩
                        · replace H := pif_f (of_decide_eq_false hb) H
                          refine CJ.skip (EJ.next ?_)
                          refine CJ.seq ?_
                          refine CJ.region ?_
                          refine OJ.pures tU_ok 1 rfl ?_
                          refine OJ.nil (EJ.next ?_)
                          refine CJ.ret (?_)
                          obtain rfl := Option.some.inj H
                          exact EJ.fin rfl (.tmp rfl .nil) ⟨rfl, hS.ext⟩
end Go.Proofs.Ytlmfhjjhgiobdaa
