/-
  What the functions come to.
-/
import Derived.Test.YtggfhhmfhhkdpaaDoorGT
namespace Go.Proofs.YtggfhhmfhhkdpaaDoor
open G
set_option linter.unusedVariables false
set_option linter.unusedSimpArgs false
set_option maxRecDepth 100000
set_option maxHeartbeats 4000000
def laws_szSightS.f (a0 : List Sight) (a1 : Int) : Option Int := if (IntKind.i64.wrap (a1 - (a0.length : Int))) < 0 then (some (-1)) else (some (IntKind.i64.wrap (a1 - (a0.length : Int))))
theorem laws_szSightS.c (w : World) (Aa0 : Option Addr) (ca0 : Nat) (a0 : List Sight) (hr0 : Rd cSight w Aa0 a0) (hc0 : a0.length ≤ ca0) (a1 : Int) (r : Int) (H : laws_szSightS.f a0 a1 = some r) :
    CV Tryd.prog 5 [.slice Aa0 a0.length ca0, .int .i64 a1].toArray w fun v w' => v = .int .i64 r ∧ Ext w w' := by
  have hS := ((St.init w no).param cSight Aa0 ca0 a0 hr0 hc0)
  unfold laws_szSightS.f at H
  refine CV.body Tryd.func5 rfl Tryd.ntmps5 rfl ?_
  refine CJ.seq ?_
  refine CJ.region ?_
  refine OJ.pures tU_ok 1 rfl ?_
  refine OJ.nil (EJ.next ?_)
  refine CJ.seq ?_
  refine CJ.region ?_
  refine OJ.pures tU_ok 5 rfl ?_
  refine OJ.nil (EJ.next ?_)
  refine CJ.seq ?_
  refine CJ.seq ?_
  refine CJ.region ?_
  refine OJ.pures tU_ok 2 rfl ?_
  refine OJ.nil (EJ.next ?_)
  refine CJ.cond rfl (fun hb => ?_) (fun hb => ?_)
  · replace H := pif_t (of_decide_eq_true hb) H
    refine CJ.seq ?_
    refine CJ.region ?_
    refine OJ.pures tU_ok 1 rfl ?_
    refine OJ.nil (EJ.next ?_)
    refine CJ.ret (EJ.skR (?_))
    obtain rfl := Option.some.inj H
    exact EJ.fin rfl (.tmp rfl .nil) ⟨rfl, hS.ext⟩
  · replace H := pif_f (of_decide_eq_false hb) H
    refine CJ.skip (EJ.next ?_)
    refine CJ.seq ?_
    refine CJ.region ?_
    refine OJ.pures tU_ok 2 rfl ?_
    refine OJ.nil (EJ.next ?_)
    refine CJ.ret (?_)
    obtain rfl := Option.some.inj H
    exact EJ.fin rfl (.tmp rfl .nil) ⟨rfl, hS.ext⟩

def laws_toSpot.f (a0 : Spot) : Option Spot := some (⟨a0.X, a0.Y⟩ : Spot)
theorem laws_toSpot.c (w : World) (a0 : Spot) (r : Spot) (H : laws_toSpot.f a0 = some r) :
    CV Tryd.prog 32 [.agg (cSpot.enc a0).toArray].toArray w fun v w' => v = .agg (cSpot.enc r).toArray ∧ Ext w w' := by
  have hS := (St.init w no)
  unfold laws_toSpot.f at H
  refine CV.body Tryd.func32 rfl Tryd.ntmps32 rfl ?_
  refine CJ.seq ?_
  refine CJ.region ?_
  refine OJ.ef rfl rfl rfl (Ef.box hS rfl rfl (cSpot.enc a0) rfl) ?_
  rintro _ w1 ⟨b1, rfl, hS⟩
  refine OJ.ef rfl rfl rfl (Ef.alloc hS tI_ok rfl rfl (cSpot.enc (⟨0, 0⟩ : Spot)) rfl) ?_
  rintro _ w1 ⟨b2, rfl, hS⟩
  refine OJ.nil (EJ.next ?_)
  refine CJ.seq ?_
  refine CJ.region ?_
  refine OJ.ef rfl rfl rfl (Ef.alloc hS tI_ok rfl rfl (cSpot.enc (⟨0, 0⟩ : Spot)) rfl) ?_
  rintro _ w1 ⟨b3, rfl, hS⟩
  refine OJ.nil (EJ.next ?_)
  refine CJ.seq ?_
  refine CJ.region ?_
  refine OJ.st rfl rfl rfl (SR.fieldAddr tU_ok tI_ok rfl rfl rfl rfl rfl rfl) ?_
  refine OJ.st rfl rfl rfl (SR.load rfl rfl (fun w' hx => ld1 tU_ok rfl rfl (CA.ext (CA.sub (hS.cells (i := 0) rfl) 0) hx) rfl)) ?_
  refine OJ.st rfl rfl rfl (SR.fieldAddr tU_ok tI_ok rfl rfl rfl rfl rfl rfl) ?_
  refine OJ.es rfl rfl (Es.store tI_ok hS (i := 2) rfl rfl rfl (ad1 _ _) rfl rfl (vs := (ci .i8).enc a0.X) rfl rfl (one1 rfl) (Nat.le_of_ble_eq_true rfl) (cSpot.enc (⟨a0.X, 0⟩ : Spot)) rfl) ?_
  intro w1 hS
  refine OJ.nil (EJ.next ?_)
  refine CJ.seq ?_
  refine CJ.region ?_
  refine OJ.st rfl rfl rfl (SR.fieldAddr tU_ok tI_ok rfl rfl rfl rfl rfl rfl) ?_
  refine OJ.st rfl rfl rfl (SR.load rfl rfl (fun w' hx => ld1 tU_ok rfl rfl (CA.ext (CA.sub (hS.cells (i := 0) rfl) 1) hx) rfl)) ?_
  refine OJ.st rfl rfl rfl (SR.fieldAddr tU_ok tI_ok rfl rfl rfl rfl rfl rfl) ?_
  refine OJ.es rfl rfl (Es.store tI_ok hS (i := 2) rfl rfl rfl (ad1 _ _) rfl rfl (vs := (ci .i8).enc a0.Y) rfl rfl (one1 rfl) (Nat.le_of_ble_eq_true rfl) (cSpot.enc (⟨a0.X, a0.Y⟩ : Spot)) rfl) ?_
  intro w1 hS
  refine OJ.nil (EJ.next ?_)
  refine CJ.seq ?_
  refine CJ.region ?_
  refine OJ.st rfl rfl rfl (SR.load rfl rfl (fun w' hx => ldE tU_ok tI_ok rfl rfl rfl (CA.ext (hS.cells (i := 2) rfl) hx) rfl)) ?_
  refine OJ.es rfl rfl (Es.store tI_ok hS (i := 1) rfl rfl rfl rfl rfl rfl (vs := cSpot.enc (⟨a0.X, a0.Y⟩ : Spot)) rfl (cSpot.len _) (cSpot.one _) (Nat.le_of_ble_eq_true rfl) (cSpot.enc (⟨a0.X, a0.Y⟩ : Spot)) rfl) ?_
  intro w1 hS
  refine OJ.nil (EJ.next ?_)
  refine CJ.ret (?_)
  obtain rfl := Option.some.inj H
  exact EJ.fin rfl (.cell rfl (ldE tU_ok tI_ok rfl rfl rfl (hS.cells (i := 1) rfl) rfl) .nil) ⟨rfl, hS.ext⟩

def laws_toSight.f (a0 : Sight) : Option Sight := (laws_toSpot.f a0.At).bind fun t4 => some (⟨a0.Day, t4⟩ : Sight)
theorem laws_toSight.c (w : World) (a0 : Sight) (r : Sight) (H : laws_toSight.f a0 = some r) :
    CV Tryd.prog 17 [.agg (cSight.enc a0).toArray].toArray w fun v w' => v = .agg (cSight.enc r).toArray ∧ Ext w w' := by
  have hS := (St.init w no)
  unfold laws_toSight.f at H
  refine CV.body Tryd.func17 rfl Tryd.ntmps17 rfl ?_
  refine CJ.seq ?_
  refine CJ.region ?_
  refine OJ.ef rfl rfl rfl (Ef.box hS rfl rfl (cSight.enc a0) rfl) ?_
  rintro _ w1 ⟨b1, rfl, hS⟩
  refine OJ.ef rfl rfl rfl (Ef.alloc hS tI_ok rfl rfl (cSight.enc (⟨0, (⟨0, 0⟩ : Spot)⟩ : Sight)) rfl) ?_
  rintro _ w1 ⟨b2, rfl, hS⟩
  refine OJ.nil (EJ.next ?_)
  refine CJ.seq ?_
  refine CJ.region ?_
  refine OJ.ef rfl rfl rfl (Ef.alloc hS tI_ok rfl rfl (cSight.enc (⟨0, (⟨0, 0⟩ : Spot)⟩ : Sight)) rfl) ?_
  rintro _ w1 ⟨b3, rfl, hS⟩
  refine OJ.nil (EJ.next ?_)
  refine CJ.seq ?_
  refine CJ.region ?_
  refine OJ.st rfl rfl rfl (SR.fieldAddr tU_ok tI_ok rfl rfl rfl rfl rfl rfl) ?_
  refine OJ.st rfl rfl rfl (SR.load rfl rfl (fun w' hx => ld1 tU_ok rfl rfl (CA.ext (CA.sub (hS.cells (i := 0) rfl) 0) hx) rfl)) ?_
  refine OJ.st rfl rfl rfl (SR.fieldAddr tU_ok tI_ok rfl rfl rfl rfl rfl rfl) ?_
  refine OJ.es rfl rfl (Es.store tI_ok hS (i := 2) rfl rfl rfl (ad1 _ _) rfl rfl (vs := (ci .i16).enc a0.Day) rfl rfl (one1 rfl) (Nat.le_of_ble_eq_true rfl) (cSight.enc (⟨a0.Day, (⟨0, 0⟩ : Spot)⟩ : Sight)) rfl) ?_
  intro w1 hS
  refine OJ.nil (EJ.next ?_)
  refine CJ.seq ?_
  refine CJ.region ?_
  refine OJ.st rfl rfl rfl (SR.fieldAddr tU_ok tI_ok rfl rfl rfl rfl rfl rfl) ?_
  refine OJ.st rfl rfl rfl (SR.load rfl rfl (fun w' hx => ldN tU_ok tI_ok rfl rfl rfl (CA.ext (CA.sub (hS.cells (i := 0) rfl) 1) hx) (cSpot.len _) rfl)) ?_
  obtain ⟨t4, ht4, H⟩ := pbind H
  refine OJ.callF rfl rfl rfl rfl rfl hb32 rfl (laws_toSpot.c _ a0.At _ ht4) ?_
  rintro _ w1 ⟨rfl, hs⟩
  replace hS := hS.grow hs
  refine OJ.st rfl rfl rfl (SR.fieldAddr tU_ok tI_ok rfl rfl rfl rfl rfl rfl) ?_
  refine OJ.es rfl rfl (Es.store tI_ok hS (i := 2) rfl rfl rfl (ad1 _ _) rfl rfl (vs := cSpot.enc t4) rfl (cSpot.len _) (cSpot.one _) (Nat.le_of_ble_eq_true rfl) (cSight.enc (⟨a0.Day, t4⟩ : Sight)) rfl) ?_
  intro w1 hS
  refine OJ.nil (EJ.next ?_)
  refine CJ.seq ?_
  refine CJ.region ?_
  refine OJ.st rfl rfl rfl (SR.load rfl rfl (fun w' hx => ldE tU_ok tI_ok rfl rfl rfl (CA.ext (hS.cells (i := 2) rfl) hx) rfl)) ?_
  refine OJ.es rfl rfl (Es.store tI_ok hS (i := 1) rfl rfl rfl rfl rfl rfl (vs := cSight.enc (⟨a0.Day, t4⟩ : Sight)) rfl (cSight.len _) (cSight.one _) (Nat.le_of_ble_eq_true rfl) (cSight.enc (⟨a0.Day, t4⟩ : Sight)) rfl) ?_
  intro w1 hS
  refine OJ.nil (EJ.next ?_)
  refine CJ.ret (?_)
  obtain rfl := Option.some.inj H
  exact EJ.fin rfl (.cell rfl (ldE tU_ok tI_ok rfl rfl rfl (hS.cells (i := 1) rfl) rfl) .nil) ⟨rfl, hS.ext⟩

def laws_toSightS.l1 (a0 : List Sight) : Nat → (List Sight) → Int → Option (List Sight)
  | 0, _, _ => none
  | k + 1, y4, y5 => if y5 < (a0.length : Int) then ((getI a0 y5).bind fun t6 => (laws_toSight.f t6).bind fun t7 => (getI y4 y5).bind fun t8 => laws_toSightS.l1 a0 k (y4.set y5.toNat t7) (IntKind.i64.wrap (y5 + 1))) else (some y4)
def laws_toSightS.f (k : Nat) (a0 : List Sight) : Option (List Sight) := (chk (0 ≤ (a0.length : Int) ∧ (a0.length : Int) ≤ 4294967296)).bind fun u1 => (laws_toSightS.l1 a0 k (List.replicate ((a0.length : Int).toNat) (⟨0, (⟨0, 0⟩ : Spot)⟩ : Sight) : List Sight) 0).bind fun y3 => some y3
theorem laws_toSightS.c (k : Nat) (w : World) (Aa0 : Option Addr) (ca0 : Nat) (a0 : List Sight) (hr0 : Rd cSight w Aa0 a0) (hc0 : a0.length ≤ ca0) (r : List Sight) (H : laws_toSightS.f k a0 = some r) :
    CV Tryd.prog 7 [.slice Aa0 a0.length ca0].toArray w fun v w' => ∃ (A0 : Option Addr) (c0 : Nat), v = .slice A0 r.length c0 ∧ St w no w' [rowC cSight A0 c0 39 r] [] := by
  have hS := ((St.init w no).param cSight Aa0 ca0 a0 hr0 hc0)
  unfold laws_toSightS.f at H
  refine CV.body Tryd.func7 rfl Tryd.ntmps7 rfl ?_
  refine CJ.seq ?_
  refine CJ.region ?_
  refine OJ.pures tU_ok 1 rfl ?_
  refine OJ.nil (EJ.next ?_)
  refine CJ.seq ?_
  refine CJ.region ?_
  refine OJ.pures tU_ok 2 rfl ?_
  obtain ⟨u1, hu1, H⟩ := pbind H
  refine OJ.ef rfl rfl rfl (Ef.make tU_ok tI_ok hS (C := cSight) rfl rfl rfl rfl rfl rfl rfl rfl (chk_some hu1) (⟨0, (⟨0, 0⟩ : Spot)⟩ : Sight) rfl) ?_
  rintro _ w1 ⟨A2, rfl, hS⟩
  refine OJ.pures tU_ok 1 rfl ?_
  refine OJ.nil (EJ.next ?_)
  refine CJ.seq ?_
  refine CJ.seq ?_
  refine CJ.region ?_
  refine OJ.pures tU_ok 1 rfl ?_
  refine OJ.nil (EJ.next ?_)
  obtain ⟨j1, H, K1⟩ := pbind H
  refine CJ.cut1 (fun F w1 => ∃ (y3 : List Sight) , (some y3 : Option (List Sight)) = some j1 ∧ F = [(3, .slice A2 y3.length ((a0.length : Int).toNat))] ∧ St w no w1 [rowC cSight A2 ((a0.length : Int).toNat) 39 y3] [roC cSight Aa0 ca0 a0]) ?_ ?_
  · skip
    refine CJ.block ?_
    refine CJ.loop (fun k F w1 => ∃ (y4 : List Sight) (y5 : Int), F = [(0, .slice Aa0 a0.length ca0), (3, .slice A2 y4.length ((a0.length : Int).toNat)), (4, .int .i64 y5)] ∧ St w no w1 [rowC cSight A2 ((a0.length : Int).toNat) 39 y4] [roC cSight Aa0 ca0 a0] ∧ laws_toSightS.l1 a0 k y4 y5 = some j1) k (F' := [(0, .slice Aa0 a0.length ca0), (3, .slice A2 (List.replicate ((a0.length : Int).toNat) (⟨0, (⟨0, 0⟩ : Spot)⟩ : Sight) : List Sight).length ((a0.length : Int).toNat)), (4, .int .i64 0)]) ⟨rfl, rfl, rfl, trivial⟩ ⟨(List.replicate ((a0.length : Int).toNat) (⟨0, (⟨0, 0⟩ : Spot)⟩ : Sight) : List Sight), 0, rfl, hS.pick [0] [0] rfl, H⟩ ?_
    rintro k F w1 ⟨y4, y5, rfl, hS, H⟩
    cases k with
    | zero => rw [laws_toSightS.l1] at H; cases H
    | succ k =>
      rw [laws_toSightS.l1] at H
      refine CJ.seq ?_
      refine CJ.seq ?_
      refine CJ.region ?_
      refine OJ.pures tU_ok 4 rfl ?_
      refine OJ.nil (EJ.next ?_)
      refine CJ.cond rfl (fun hb => ?_) (fun hb => ?_)
      · replace H := pif_t (of_decide_eq_true hb) H
        refine CJ.skip (EJ.next ?_)
        refine CJ.seq ?_
        refine CJ.block ?_
        refine CJ.region ?_
        refine OJ.pures tU_ok 4 rfl ?_
        obtain ⟨t6, ht6, H⟩ := pbind H
        obtain ⟨ad6, e6⟩ := (hS.rd' (i := 0) rfl).some' ht6
        refine OJ.st rfl rfl rfl (SR.idxS tU_ok tI_ok rfl rfl rfl rfl e6 rfl (getI_some ht6).1) ?_
        refine OJ.st rfl rfl rfl (SR.load rfl rfl (fun w' hx => ldE tU_ok tI_ok rfl rfl rfl (CA.ext ((hS.rd' (i := 0) rfl).at_ e6 ht6) hx) rfl)) ?_
        obtain ⟨t7, ht7, H⟩ := pbind H
        refine OJ.callF rfl rfl rfl rfl rfl hb17 rfl (laws_toSight.c _ t6 _ ht7) ?_
        rintro _ w1 ⟨rfl, hs⟩
        replace hS := hS.grow hs
        obtain ⟨t8, ht8, H⟩ := pbind H
        obtain ⟨ad8, e8⟩ := (hS.rd (i := 0) rfl).some' ht8
        refine OJ.st rfl rfl rfl (SR.idxS tU_ok tI_ok rfl rfl rfl rfl e8 rfl (getI_some ht8).1) ?_
        refine OJ.es rfl rfl (Es.storeR tI_ok hS (i := 0) (off := 0) rfl rfl ht8 e8 rfl rfl rfl rfl (vs := cSight.enc t7) rfl (cSight.len _) (cSight.one _) (Nat.le_of_ble_eq_true rfl) t7 rfl) ?_
        intro w1 hS
        refine OJ.as (t := 3) rfl (show _ = (.slice A2 (y4.set y5.toNat t7).length ((a0.length : Int).toNat) : Value) by simp only [List.length_set]) ?_
        refine OJ.as (t := 14) rfl (show _ = (.slice A2 (y4.set y5.toNat t7).length ((a0.length : Int).toNat) : Value) by simp only [List.length_set]) ?_
        refine OJ.nil (EJ.blk (EJ.next ?_))
        refine CJ.region ?_
        refine OJ.pures tU_ok 3 rfl ?_
        refine OJ.nil ?_
        exact EJ.round k (F' := [(0, .slice Aa0 a0.length ca0), (3, .slice A2 (y4.set y5.toNat t7).length ((a0.length : Int).toNat)), (4, .int .i64 (IntKind.i64.wrap (y5 + 1)))]) ⟨rfl, rfl, rfl, trivial⟩ (Nat.lt_succ_self _) ⟨(y4.set y5.toNat t7), (IntKind.i64.wrap (y5 + 1)), rfl, hS.pick [0] [0] rfl, H⟩
      · replace H := pif_f (of_decide_eq_false hb) H
        refine CJ.exit (EJ.skE (EJ.skE (EJ.hit (?_))))
        exact EJ.meet (F' := [(3, .slice A2 y4.length ((a0.length : Int).toNat))]) ⟨rfl, trivial⟩ ⟨y4, H, rfl, hS.pick [0] [0] rfl⟩
  · rintro F w1 ⟨y3, he, rfl, hS⟩
    obtain rfl := Option.some.inj he
    have H := K1
    refine EJ.next ?_
    refine CJ.seq ?_
    refine CJ.region ?_
    refine OJ.pures tU_ok 2 rfl ?_
    refine OJ.nil (EJ.next ?_)
    refine CJ.ret (?_)
    obtain rfl := Option.some.inj H
    exact EJ.fin rfl (.tmp rfl .nil) ⟨A2, ((a0.length : Int).toNat), rfl, hS.pick [0] [] rfl⟩

def spec_l00In.f (a0 : Int) (a1 : Int) (a2 : Int) : Option Bool := if a1 ≤ a0 then (some (decide (a0 ≤ a2))) else (some false)
theorem spec_l00In.c (w : World) (a0 : Int) (a1 : Int) (a2 : Int) (r : Bool) (H : spec_l00In.f a0 a1 a2 = some r) :
    CV Tryd.prog 30 [.int .i64 a0, .int .i64 a1, .int .i64 a2].toArray w fun v w' => v = .bool r ∧ Ext w w' := by
  have hS := (St.init w no)
  unfold spec_l00In.f at H
  refine CV.body Tryd.func30 rfl Tryd.ntmps30 rfl ?_
  refine CJ.seq ?_
  refine CJ.region ?_
  refine OJ.pures tU_ok 1 rfl ?_
  refine OJ.nil (EJ.next ?_)
  refine CJ.seq ?_
  refine CJ.region ?_
  refine OJ.pures tU_ok 4 rfl ?_
  refine OJ.split (t := 10) rfl (fun hb => ?_) (fun hb => ?_)
  · replace H := pif_t (of_decide_eq_true hb) H
    refine OJ.pures tU_ok 5 rfl ?_
    refine OJ.nil (EJ.next ?_)
    refine CJ.ret (?_)
    obtain rfl := Option.some.inj H
    exact EJ.fin rfl (.tmp rfl .nil) ⟨rfl, hS.ext⟩
  · replace H := pif_f (of_decide_eq_false hb) H
    refine OJ.pures tU_ok 5 rfl ?_
    refine OJ.nil (EJ.next ?_)
    refine CJ.ret (?_)
    obtain rfl := Option.some.inj H
    exact EJ.fin rfl (.tmp rfl .nil) ⟨rfl, hS.ext⟩

def spec_l03Spot.f (a0 : Spot) : Option Bool := (spec_l00In.f (IntKind.i64.wrap a0.X) 0 9).bind fun t2 => if t2 = true then ((spec_l00In.f (IntKind.i64.wrap a0.Y) 0 9).bind fun t3 => some t3) else (some false)
theorem spec_l03Spot.c (w : World) (a0 : Spot) (r : Bool) (H : spec_l03Spot.f a0 = some r) :
    CV Tryd.prog 14 [.agg (cSpot.enc a0).toArray].toArray w fun v w' => v = .bool r ∧ Ext w w' := by
  have hS := (St.init w no)
  unfold spec_l03Spot.f at H
  refine CV.body Tryd.func14 rfl Tryd.ntmps14 rfl ?_
  refine CJ.seq ?_
  refine CJ.region ?_
  refine OJ.ef rfl rfl rfl (Ef.box hS rfl rfl (cSpot.enc a0) rfl) ?_
  rintro _ w1 ⟨b1, rfl, hS⟩
  refine OJ.pures tU_ok 1 rfl ?_
  refine OJ.nil (EJ.next ?_)
  refine CJ.seq ?_
  refine CJ.region ?_
  refine OJ.st rfl rfl rfl (SR.fieldAddr tU_ok tI_ok rfl rfl rfl rfl rfl rfl) ?_
  refine OJ.st rfl rfl rfl (SR.load rfl rfl (fun w' hx => ld1 tU_ok rfl rfl (CA.ext (CA.sub (hS.cells (i := 0) rfl) 0) hx) rfl)) ?_
  refine OJ.pures tU_ok 1 rfl ?_
  obtain ⟨t2, ht2, H⟩ := pbind H
  refine OJ.callF rfl rfl rfl rfl rfl hb30 rfl (spec_l00In.c _ (IntKind.i64.wrap a0.X) 0 9 _ ht2) ?_
  rintro _ w1 ⟨rfl, hs⟩
  replace hS := hS.grow hs
  refine OJ.pures tU_ok 1 rfl ?_
  refine OJ.split (t := 7) rfl (fun hb => ?_) (fun hb => ?_)
  · replace H := pif_t hb H
    refine OJ.st rfl rfl rfl (SR.fieldAddr tU_ok tI_ok rfl rfl rfl rfl rfl rfl) ?_
    refine OJ.st rfl rfl rfl (SR.load rfl rfl (fun w' hx => ld1 tU_ok rfl rfl (CA.ext (CA.sub (hS.cells (i := 0) rfl) 1) hx) rfl)) ?_
    refine OJ.pures tU_ok 1 rfl ?_
    obtain ⟨t3, ht3, H⟩ := pbind H
    refine OJ.callF rfl rfl rfl rfl rfl hb30 rfl (spec_l00In.c _ (IntKind.i64.wrap a0.Y) 0 9 _ ht3) ?_
    rintro _ w1 ⟨rfl, hs⟩
    replace hS := hS.grow hs
    refine OJ.pures tU_ok 2 rfl ?_
    refine OJ.nil (EJ.next ?_)
    refine CJ.ret (?_)
    obtain rfl := Option.some.inj H
    exact EJ.fin rfl (.tmp rfl .nil) ⟨rfl, hS.ext⟩
  · replace H := pifb_f hb H
    refine OJ.pures tU_ok 6 rfl ?_
    refine OJ.nil (EJ.next ?_)
    refine CJ.ret (?_)
    obtain rfl := Option.some.inj H
    exact EJ.fin rfl (.tmp rfl .nil) ⟨rfl, hS.ext⟩

def spec_l01Grass.f (a0 : Int) : Option Bool := (spec_l00In.f a0 0 1000).bind fun t1 => some t1
theorem spec_l01Grass.c (w : World) (a0 : Int) (r : Bool) (H : spec_l01Grass.f a0 = some r) :
    CV Tryd.prog 25 [.int .i64 a0].toArray w fun v w' => v = .bool r ∧ Ext w w' := by
  have hS := (St.init w no)
  unfold spec_l01Grass.f at H
  refine CV.body Tryd.func25 rfl Tryd.ntmps25 rfl ?_
  refine CJ.seq ?_
  refine CJ.region ?_
  refine OJ.pures tU_ok 1 rfl ?_
  refine OJ.nil (EJ.next ?_)
  refine CJ.seq ?_
  refine CJ.region ?_
  refine OJ.pures tU_ok 1 rfl ?_
  obtain ⟨t1, ht1, H⟩ := pbind H
  refine OJ.callF rfl rfl rfl rfl rfl hb30 rfl (spec_l00In.c _ a0 0 1000 _ ht1) ?_
  rintro _ w1 ⟨rfl, hs⟩
  replace hS := hS.grow hs
  refine OJ.pures tU_ok 1 rfl ?_
  refine OJ.nil (EJ.next ?_)
  refine CJ.ret (?_)
  obtain rfl := Option.some.inj H
  exact EJ.fin rfl (.tmp rfl .nil) ⟨rfl, hS.ext⟩

def spec_l07Seen.l1 (a0 : List Sight) : Nat → Int → Option (Bool ⊕ Unit)
  | 0, _ => none
  | k + 1, y1 => if y1 < (a0.length : Int) then ((getI a0 y1).bind fun t2 => (spec_l01Grass.f (IntKind.i64.wrap t2.Day)).bind fun t3 => if (!t3) = true then (some (Sum.inl false)) else (if 0 < y1 then ((getI a0 y1).bind fun t4 => (getI a0 (IntKind.i64.wrap (y1 - 1))).bind fun t5 => if t4.Day < t5.Day then (some (Sum.inl false)) else (spec_l07Seen.l1 a0 k (IntKind.i64.wrap (y1 + 1)))) else (spec_l07Seen.l1 a0 k (IntKind.i64.wrap (y1 + 1))))) else (some (Sum.inr ()))
def spec_l07Seen.f (k : Nat) (a0 : List Sight) : Option Bool := (spec_l07Seen.l1 a0 k 0).bind fun s3 => match s3 with | .inl r => some r | .inr _ => some (decide ((a0.length : Int) ≤ 40))
theorem spec_l07Seen.c (k : Nat) (w : World) (Aa0 : Option Addr) (ca0 : Nat) (a0 : List Sight) (hr0 : Rd cSight w Aa0 a0) (hc0 : a0.length ≤ ca0) (r : Bool) (H : spec_l07Seen.f k a0 = some r) :
    CV Tryd.prog 15 [.slice Aa0 a0.length ca0].toArray w fun v w' => v = .bool r ∧ Ext w w' := by
  have hS := ((St.init w no).param cSight Aa0 ca0 a0 hr0 hc0)
  unfold spec_l07Seen.f at H
  refine CV.body Tryd.func15 rfl Tryd.ntmps15 rfl ?_
  refine CJ.seq ?_
  refine CJ.region ?_
  refine OJ.pures tU_ok 1 rfl ?_
  refine OJ.nil (EJ.next ?_)
  refine CJ.seq ?_
  refine CJ.seq ?_
  refine CJ.region ?_
  refine OJ.pures tU_ok 1 rfl ?_
  refine OJ.nil (EJ.next ?_)
  obtain ⟨j3, H, K3⟩ := pbind H
  refine CJ.cut1 (fun F w1 => (some (Sum.inr ()) : Option (Bool ⊕ Unit)) = some j3 ∧ F = [(0, .slice Aa0 a0.length ca0)] ∧ St w no w1 [] [roC cSight Aa0 ca0 a0]) ?_ ?_
  · skip
    refine CJ.block ?_
    refine CJ.loop (fun k F w1 => ∃ (y1 : Int), F = [(0, .slice Aa0 a0.length ca0), (3, .int .i64 y1)] ∧ St w no w1 [] [roC cSight Aa0 ca0 a0] ∧ spec_l07Seen.l1 a0 k y1 = some j3) k (F' := [(0, .slice Aa0 a0.length ca0), (3, .int .i64 0)]) ⟨rfl, rfl, trivial⟩ ⟨0, rfl, hS.pick [] [0] rfl, H⟩ ?_
    rintro k F w1 ⟨y1, rfl, hS, H⟩
    cases k with
    | zero => rw [spec_l07Seen.l1] at H; cases H
    | succ k =>
      rw [spec_l07Seen.l1] at H
      refine CJ.seq ?_
      refine CJ.seq ?_
      refine CJ.region ?_
      refine OJ.pures tU_ok 4 rfl ?_
      refine OJ.nil (EJ.next ?_)
      refine CJ.cond rfl (fun hb => ?_) (fun hb => ?_)
      · replace H := pif_t (of_decide_eq_true hb) H
        refine CJ.skip (EJ.next ?_)
        refine CJ.seq ?_
        refine CJ.block ?_
        refine CJ.seq ?_
        refine CJ.draw [] [0, 1, 2, 3, 4, 5, 6, 7, 8, 9, 10, 11, 12, 13, 14, 15, 16, 17, 18, 19, 20, 21, 22, 23, 24, 25] mixed (by kernel_rfl) hS fun w1 hS => ?_
        refine DJ.pures tU_ok 2 rfl ?_
        obtain ⟨t2, ht2, H⟩ := pbind H
        obtain ⟨ad2, e2⟩ := (hS.rd' (i := 0) rfl).some' ht2
        refine DJ.st rfl rfl rfl rfl rfl (SR.idxS tU_ok tI_ok rfl rfl rfl rfl e2 rfl (getI_some ht2).1) ?_
        refine DJ.st rfl rfl rfl rfl rfl (SR.fieldAddr tU_ok tI_ok rfl rfl rfl rfl rfl rfl) ?_
        refine DJ.st rfl rfl rfl rfl rfl (SR.load rfl rfl (fun w' hx => ld1 tU_ok rfl rfl (CA.ext (CA.sub ((hS.rd' (i := 0) rfl).at_ e2 ht2) 0) hx) rfl)) ?_
        refine DJ.pures tU_ok 1 rfl ?_
        obtain ⟨t3, ht3, H⟩ := pbind H
        refine DJ.callF rfl rfl rfl rfl rfl rfl rfl hb25 rfl (spec_l01Grass.c _ (IntKind.i64.wrap t2.Day) _ ht3) (by rintro v w' ⟨rfl, hs⟩; exact hs) ?_
        rintro _ w1 ⟨rfl, hs⟩
        replace hS := hS.grow hs
        refine DJ.pures tU_ok 2 rfl ?_
        refine DJ.split (t := 18) rfl (fun hb => ?_) (fun hb => ?_)
        · replace H := pif_t hb H
          refine DJ.pures tU_ok 17 rfl ?_
          refine DJ.nil (EJ.next ?_)
          refine CJ.condT rfl ?_
          refine CJ.seq ?_
          refine CJ.region ?_
          refine OJ.pures tU_ok 1 rfl ?_
          refine OJ.nil (EJ.next ?_)
          refine CJ.ret (EJ.bkR (EJ.skR (EJ.skR (EJ.bkR (EJ.skR (EJ.skR (?_)))))))
          first | (obtain rfl := Option.some.inj H; have H := K3) | (obtain ⟨q3, H2, e3⟩ := pbind H; obtain rfl := Option.some.inj e3; obtain rfl := Option.some.inj K3; have H := H2)
          obtain rfl := Option.some.inj H
          exact EJ.fin rfl (.tmp rfl .nil) ⟨rfl, hS.ext⟩
        · replace H := pifb_f hb H
          refine DJ.pures tU_ok 3 rfl ?_
          refine DJ.split (t := 21) rfl (fun hb => ?_) (fun hb => ?_)
          · replace H := pif_t (of_decide_eq_true hb) H
            refine DJ.pures tU_ok 2 rfl ?_
            obtain ⟨t4, ht4, H⟩ := pbind H
            obtain ⟨ad4, e4⟩ := (hS.rd' (i := 0) rfl).some' ht4
            refine DJ.st rfl rfl rfl rfl rfl (SR.idxS tU_ok tI_ok rfl rfl rfl rfl e4 rfl (getI_some ht4).1) ?_
            refine DJ.st rfl rfl rfl rfl rfl (SR.fieldAddr tU_ok tI_ok rfl rfl rfl rfl rfl rfl) ?_
            refine DJ.st rfl rfl rfl rfl rfl (SR.load rfl rfl (fun w' hx => ld1 tU_ok rfl rfl (CA.ext (CA.sub ((hS.rd' (i := 0) rfl).at_ e4 ht4) 0) hx) rfl)) ?_
            refine DJ.pures tU_ok 3 rfl ?_
            obtain ⟨t5, ht5, H⟩ := pbind H
            obtain ⟨ad5, e5⟩ := (hS.rd' (i := 0) rfl).some' ht5
            refine DJ.st rfl rfl rfl rfl rfl (SR.idxS tU_ok tI_ok rfl rfl rfl rfl e5 rfl (getI_some ht5).1) ?_
            refine DJ.st rfl rfl rfl rfl rfl (SR.fieldAddr tU_ok tI_ok rfl rfl rfl rfl rfl rfl) ?_
            refine DJ.st rfl rfl rfl rfl rfl (SR.load rfl rfl (fun w' hx => ld1 tU_ok rfl rfl (CA.ext (CA.sub ((hS.rd' (i := 0) rfl).at_ e5 ht5) 0) hx) rfl)) ?_
            refine DJ.pures tU_ok 3 rfl ?_
            refine DJ.nil (EJ.next ?_)
            refine CJ.cond rfl (fun hb => ?_) (fun hb => ?_)
            · replace H := pif_t (of_decide_eq_true hb) H
              refine CJ.seq ?_
              refine CJ.region ?_
              refine OJ.pures tU_ok 1 rfl ?_
              refine OJ.nil (EJ.next ?_)
              refine CJ.ret (EJ.bkR (EJ.skR (EJ.skR (EJ.bkR (EJ.skR (EJ.skR (?_)))))))
              first | (obtain rfl := Option.some.inj H; have H := K3) | (obtain ⟨q3, H2, e3⟩ := pbind H; obtain rfl := Option.some.inj e3; obtain rfl := Option.some.inj K3; have H := H2)
              obtain rfl := Option.some.inj H
              exact EJ.fin rfl (.tmp rfl .nil) ⟨rfl, hS.ext⟩
            · replace H := pif_f (of_decide_eq_false hb) H
              refine CJ.skip (EJ.blk (EJ.next ?_))
              refine CJ.region ?_
              refine OJ.pures tU_ok 3 rfl ?_
              refine OJ.nil ?_
              exact EJ.round k (F' := [(0, .slice Aa0 a0.length ca0), (3, .int .i64 (IntKind.i64.wrap (y1 + 1)))]) ⟨rfl, rfl, trivial⟩ (Nat.lt_succ_self _) ⟨(IntKind.i64.wrap (y1 + 1)), rfl, hS.pick [] [0] rfl, H⟩
          · replace H := pif_f (of_decide_eq_false hb) H
            refine DJ.pures tU_ok 14 rfl ?_
            refine DJ.nil (EJ.next ?_)
            refine CJ.condF rfl ?_
            refine CJ.skip (EJ.blk (EJ.next ?_))
            refine CJ.region ?_
            refine OJ.pures tU_ok 3 rfl ?_
            refine OJ.nil ?_
            exact EJ.round k (F' := [(0, .slice Aa0 a0.length ca0), (3, .int .i64 (IntKind.i64.wrap (y1 + 1)))]) ⟨rfl, rfl, trivial⟩ (Nat.lt_succ_self _) ⟨(IntKind.i64.wrap (y1 + 1)), rfl, hS.pick [] [0] rfl, H⟩
      · replace H := pif_f (of_decide_eq_false hb) H
        refine CJ.exit (EJ.skE (EJ.skE (EJ.hit (?_))))
        exact EJ.meet (F' := [(0, .slice Aa0 a0.length ca0)]) ⟨rfl, trivial⟩ ⟨H, rfl, hS.pick [] [0] rfl⟩
  · rintro F w1 ⟨he, rfl, hS⟩
    obtain rfl := Option.some.inj he
    have H := K3
    refine EJ.next ?_
    refine CJ.seq ?_
    refine CJ.region ?_
    refine OJ.pures tU_ok 4 rfl ?_
    refine OJ.nil (EJ.next ?_)
    refine CJ.ret (?_)
    obtain rfl := Option.some.inj H
    exact EJ.fin rfl (.tmp rfl .nil) ⟨rfl, hS.ext⟩

def spec_Decimal.f : Nat → Int → Option ByteArray
  | 0, _ => none
  | k + 1, a0 => if a0 < 10 then (some (bstr ([IntKind.u8.wrap (IntKind.i64.wrap (48 + (Int.tmod a0 10)))] : List Int))) else (((spec_Decimal.f k) (IntKind.i64.wrap (Int.tdiv a0 10))).bind fun t2 => (chk (t2.size + (bstr ([IntKind.u8.wrap (IntKind.i64.wrap (48 + (Int.tmod a0 10)))] : List Int)).size ≤ 4294967296)).bind fun u4 => some (t2 ++ (bstr ([IntKind.u8.wrap (IntKind.i64.wrap (48 + (Int.tmod a0 10)))] : List Int))))
theorem spec_Decimal.c : ∀ (k : Nat) (w : World) (a0 : Int) (r : ByteArray) (H : spec_Decimal.f k a0 = some r),
    CV Tryd.prog 31 [.int .i64 a0].toArray w fun v w' => v = .string r ∧ Ext w w' := by
  intro k
  induction k
  · intro w a0 r H; rw [spec_Decimal.f] at H; cases H
  rename_i k ih
  intro w a0 r H
  have hS := (St.init w no)
  rw [spec_Decimal.f] at H
  generalize spec_Decimal.f k = self at H ih
  refine CV.body Tryd.func31 rfl Tryd.ntmps31 rfl ?_
  refine CJ.seq ?_
  refine CJ.region ?_
  refine OJ.pures tU_ok 1 rfl ?_
  refine OJ.nil (EJ.next ?_)
  refine CJ.seq ?_
  refine CJ.seq ?_
  refine CJ.region ?_
  refine OJ.pures tU_ok 2 rfl ?_
  refine OJ.nil (EJ.next ?_)
  refine CJ.cond rfl (fun hb => ?_) (fun hb => ?_)
  · replace H := pif_t (of_decide_eq_true hb) H
    refine CJ.seq ?_
    refine CJ.region ?_
    refine OJ.pures tU_ok 1 rfl ?_
    refine OJ.st rfl rfl rfl (SR.rem rfl rfl rfl (by decide)) ?_
    refine OJ.pures tU_ok 2 rfl ?_
    refine OJ.ef rfl rfl rfl (Ef.lit tU_ok tI_ok hS (C := (ci .u8)) rfl rfl rfl rfl rfl rfl ([IntKind.u8.wrap (IntKind.i64.wrap (48 + (Int.tmod a0 10)))] : List Int) rfl rfl rfl rfl) ?_
    rintro _ w1 ⟨A1, rfl, hS⟩
    refine OJ.st rfl rfl rfl (SR.b2s tU_ok rfl rfl rfl rfl rfl (hS.rd (i := 0) rfl)) ?_
    refine OJ.pures tU_ok 1 rfl ?_
    refine OJ.nil (EJ.next ?_)
    refine CJ.ret (EJ.skR (?_))
    obtain rfl := Option.some.inj H
    exact EJ.fin rfl (.tmp rfl .nil) ⟨rfl, hS.ext⟩
  · replace H := pif_f (of_decide_eq_false hb) H
    refine CJ.skip (EJ.next ?_)
    refine CJ.seq ?_
    obtain ⟨t2, ht2, H⟩ := pbind H
    obtain ⟨u4, hu4, H⟩ := pbind H
    refine CJ.cut1 (fun F w1 => ∃ (A3 : Option Addr), F = [(2, .string (t2 ++ (bstr ([IntKind.u8.wrap (IntKind.i64.wrap (48 + (Int.tmod a0 10)))] : List Int))))] ∧ St w no w1 [rowC (ci .u8) A3 (([IntKind.u8.wrap (IntKind.i64.wrap (48 + (Int.tmod a0 10)))] : List Int).length) 5 ([IntKind.u8.wrap (IntKind.i64.wrap (48 + (Int.tmod a0 10)))] : List Int)] []) ?_ ?_
    · skip
      refine CJ.drawT [] [2, 7, 8] (.one 0 (.one 1 (.one 3 (.one 4 (.one 5 (.one 6 (.br (.alt 2 (.one 7 (.one 8 (.one 9 (.one 10 (.fin))))) (.alt 7 (.br (.alt 2 (.one 8 (.one 9 (.one 10 (.fin)))) (.alt 8 (.one 2 (.one 9 (.one 10 (.fin)))) (.stop)))) (.stop)))))))))) mixed (by kernel_rfl) hS [] fun w1 hS hY hV => ?_
      refine TJ.pures tU_ok 1 rfl ?_
      refine TJ.sp rfl rfl rfl rfl rfl (fun w2 => SR.quo rfl rfl rfl (by decide)) ?_
      refine TJ.pures tU_ok 1 rfl ?_
      refine TJ.sp rfl rfl rfl rfl rfl (fun w2 => SR.rem rfl rfl rfl (by decide)) ?_
      refine TJ.pures tU_ok 2 rfl ?_
      refine TJ.br ?_
      refine TJ.alt ?_ ?_
      · skip
        refine TJ.callF hY rfl rfl rfl rfl rfl rfl rfl hb31 rfl (ih _ (IntKind.i64.wrap (Int.tdiv a0 10)) _ ht2) (by rintro v w' ⟨rfl, hs⟩; exact hs) ?_
        rintro _ w1 hY ⟨rfl, hs⟩
        replace hS := hS.grow hs
        refine TJ.ef hY rfl rfl rfl rfl rfl (Ef.lit tU_ok tI_ok hS (C := (ci .u8)) rfl rfl rfl rfl rfl rfl ([IntKind.u8.wrap (IntKind.i64.wrap (48 + (Int.tmod a0 10)))] : List Int) rfl rfl rfl rfl) ?_
        rintro _ w1 hY ⟨A5, rfl, hS⟩
        refine TJ.se hY rfl rfl rfl rfl rfl (SR.b2s tU_ok rfl rfl rfl rfl rfl (hS.rd (i := 0) rfl)) ?_
        refine TJ.sp rfl rfl rfl rfl rfl (fun w2 => SR.concat rfl rfl rfl (chk_some hu4)) ?_
        refine TJ.pures tU_ok 1 rfl ?_
        refine TJ.nil ?_
        exact EJ.meet (F' := [(2, .string (t2 ++ (bstr ([IntKind.u8.wrap (IntKind.i64.wrap (48 + (Int.tmod a0 10)))] : List Int))))]) ⟨rfl, trivial⟩ ⟨A5, rfl, hS.pick [0] [] rfl⟩
      refine TJ.alt ?_ ?_
      · skip
        refine TJ.ef hY rfl rfl rfl rfl rfl (Ef.lit tU_ok tI_ok hS (C := (ci .u8)) rfl rfl rfl rfl rfl rfl ([IntKind.u8.wrap (IntKind.i64.wrap (48 + (Int.tmod a0 10)))] : List Int) rfl rfl rfl rfl) ?_
        rintro _ w1 hY ⟨A6, rfl, hS⟩
        refine TJ.br ?_
        refine TJ.alt ?_ ?_
        · skip
          refine TJ.callF hY rfl rfl rfl rfl rfl rfl rfl hb31 rfl (ih _ (IntKind.i64.wrap (Int.tdiv a0 10)) _ ht2) (by rintro v w' ⟨rfl, hs⟩; exact hs) ?_
          rintro _ w1 hY ⟨rfl, hs⟩
          replace hS := hS.grow hs
          refine TJ.se hY rfl rfl rfl rfl rfl (SR.b2s tU_ok rfl rfl rfl rfl rfl (hS.rd (i := 0) rfl)) ?_
          refine TJ.sp rfl rfl rfl rfl rfl (fun w2 => SR.concat rfl rfl rfl (chk_some hu4)) ?_
          refine TJ.pures tU_ok 1 rfl ?_
          refine TJ.nil ?_
          exact EJ.meet (F' := [(2, .string (t2 ++ (bstr ([IntKind.u8.wrap (IntKind.i64.wrap (48 + (Int.tmod a0 10)))] : List Int))))]) ⟨rfl, trivial⟩ ⟨A6, rfl, hS.pick [0] [] rfl⟩
        refine TJ.alt ?_ ?_
        · skip
          refine TJ.se hY rfl rfl rfl rfl rfl (SR.b2s tU_ok rfl rfl rfl rfl rfl (hS.rd (i := 0) rfl)) ?_
          refine TJ.callF hY rfl rfl rfl rfl rfl rfl rfl hb31 rfl (ih _ (IntKind.i64.wrap (Int.tdiv a0 10)) _ ht2) (by rintro v w' ⟨rfl, hs⟩; exact hs) ?_
          rintro _ w1 hY ⟨rfl, hs⟩
          replace hS := hS.grow hs
          refine TJ.sp rfl rfl rfl rfl rfl (fun w2 => SR.concat rfl rfl rfl (chk_some hu4)) ?_
          refine TJ.pures tU_ok 1 rfl ?_
          refine TJ.nil ?_
          exact EJ.meet (F' := [(2, .string (t2 ++ (bstr ([IntKind.u8.wrap (IntKind.i64.wrap (48 + (Int.tmod a0 10)))] : List Int))))]) ⟨rfl, trivial⟩ ⟨A6, rfl, hS.pick [0] [] rfl⟩
        exact TJ.stop
      exact TJ.stop
    · rintro F w1 ⟨A3, rfl, hS⟩
      refine EJ.next ?_
      refine CJ.ret (?_)
      obtain rfl := Option.some.inj H
      exact EJ.fin rfl (.tmp rfl .nil) ⟨rfl, hS.ext⟩

def spec_l07Text.l1 (a0 : List Sight) : Nat → ByteArray → Int → Option ByteArray
  | 0, _, _ => none
  | k + 1, y2, y3 => if y3 < (a0.length : Int) then (if 0 < y3 then ((chk (y2.size + (⟨#[32]⟩ : ByteArray).size ≤ 4294967296)).bind fun u4 => (getI a0 y3).bind fun t5 => (getI a0 y3).bind fun t6 => (getI a0 y3).bind fun t7 => (spec_Decimal.f k (IntKind.i64.wrap t5.Day)).bind fun t8 => (chk (t8.size + (⟨#[58]⟩ : ByteArray).size ≤ 4294967296)).bind fun u9 => (spec_Decimal.f k (IntKind.i64.wrap t6.At.X)).bind fun t10 => (chk ((t8 ++ (⟨#[58]⟩ : ByteArray)).size + t10.size ≤ 4294967296)).bind fun u11 => (chk (((t8 ++ (⟨#[58]⟩ : ByteArray)) ++ t10).size + (⟨#[44]⟩ : ByteArray).size ≤ 4294967296)).bind fun u12 => (spec_Decimal.f k (IntKind.i64.wrap t7.At.Y)).bind fun t13 => (chk ((((t8 ++ (⟨#[58]⟩ : ByteArray)) ++ t10) ++ (⟨#[44]⟩ : ByteArray)).size + t13.size ≤ 4294967296)).bind fun u14 => (chk ((y2 ++ (⟨#[32]⟩ : ByteArray)).size + ((((t8 ++ (⟨#[58]⟩ : ByteArray)) ++ t10) ++ (⟨#[44]⟩ : ByteArray)) ++ t13).size ≤ 4294967296)).bind fun u15 => spec_l07Text.l1 a0 k ((y2 ++ (⟨#[32]⟩ : ByteArray)) ++ ((((t8 ++ (⟨#[58]⟩ : ByteArray)) ++ t10) ++ (⟨#[44]⟩ : ByteArray)) ++ t13)) (IntKind.i64.wrap (y3 + 1))) else ((getI a0 y3).bind fun t16 => (getI a0 y3).bind fun t17 => (getI a0 y3).bind fun t18 => (spec_Decimal.f k (IntKind.i64.wrap t16.Day)).bind fun t19 => (chk (t19.size + (⟨#[58]⟩ : ByteArray).size ≤ 4294967296)).bind fun u20 => (spec_Decimal.f k (IntKind.i64.wrap t17.At.X)).bind fun t21 => (chk ((t19 ++ (⟨#[58]⟩ : ByteArray)).size + t21.size ≤ 4294967296)).bind fun u22 => (chk (((t19 ++ (⟨#[58]⟩ : ByteArray)) ++ t21).size + (⟨#[44]⟩ : ByteArray).size ≤ 4294967296)).bind fun u23 => (spec_Decimal.f k (IntKind.i64.wrap t18.At.Y)).bind fun t24 => (chk ((((t19 ++ (⟨#[58]⟩ : ByteArray)) ++ t21) ++ (⟨#[44]⟩ : ByteArray)).size + t24.size ≤ 4294967296)).bind fun u25 => (chk (y2.size + ((((t19 ++ (⟨#[58]⟩ : ByteArray)) ++ t21) ++ (⟨#[44]⟩ : ByteArray)) ++ t24).size ≤ 4294967296)).bind fun u26 => spec_l07Text.l1 a0 k (y2 ++ ((((t19 ++ (⟨#[58]⟩ : ByteArray)) ++ t21) ++ (⟨#[44]⟩ : ByteArray)) ++ t24)) (IntKind.i64.wrap (y3 + 1)))) else (some y2)
def spec_l07Text.f (k : Nat) (a0 : List Sight) : Option ByteArray := (spec_l07Text.l1 a0 k ByteArray.empty 0).bind fun y1 => some y1
theorem spec_l07Text.c (k : Nat) (w : World) (Aa0 : Option Addr) (ca0 : Nat) (a0 : List Sight) (hr0 : Rd cSight w Aa0 a0) (hc0 : a0.length ≤ ca0) (r : ByteArray) (H : spec_l07Text.f k a0 = some r) :
    CV Tryd.prog 16 [.slice Aa0 a0.length ca0].toArray w fun v w' => v = .string r ∧ Ext w w' := by
  have hS := ((St.init w no).param cSight Aa0 ca0 a0 hr0 hc0)
  unfold spec_l07Text.f at H
  refine CV.body Tryd.func16 rfl Tryd.ntmps16 rfl ?_
  refine CJ.seq ?_
  refine CJ.region ?_
  refine OJ.pures tU_ok 1 rfl ?_
  refine OJ.nil (EJ.next ?_)
  refine CJ.seq ?_
  refine CJ.region ?_
  refine OJ.pures tU_ok 1 rfl ?_
  refine OJ.nil (EJ.next ?_)
  refine CJ.seq ?_
  refine CJ.seq ?_
  refine CJ.region ?_
  refine OJ.pures tU_ok 1 rfl ?_
  refine OJ.nil (EJ.next ?_)
  obtain ⟨j4, H, K4⟩ := pbind H
  refine CJ.cut1 (fun F w1 => ∃ (y1 : ByteArray) , (some y1 : Option ByteArray) = some j4 ∧ F = [(3, .string y1)] ∧ St w no w1 [] [roC cSight Aa0 ca0 a0]) ?_ ?_
  · skip
    refine CJ.block ?_
    refine CJ.loop (fun k F w1 => ∃ (y2 : ByteArray) (y3 : Int), F = [(0, .slice Aa0 a0.length ca0), (3, .string y2), (4, .int .i64 y3)] ∧ St w no w1 [] [roC cSight Aa0 ca0 a0] ∧ spec_l07Text.l1 a0 k y2 y3 = some j4) k (F' := [(0, .slice Aa0 a0.length ca0), (3, .string ByteArray.empty), (4, .int .i64 0)]) ⟨rfl, rfl, rfl, trivial⟩ ⟨ByteArray.empty, 0, rfl, hS.pick [] [0] rfl, H⟩ ?_
    rintro k F w1 ⟨y2, y3, rfl, hS, H⟩
    cases k with
    | zero => rw [spec_l07Text.l1] at H; cases H
    | succ k =>
      rw [spec_l07Text.l1] at H
      refine CJ.seq ?_
      refine CJ.seq ?_
      refine CJ.region ?_
      refine OJ.pures tU_ok 4 rfl ?_
      refine OJ.nil (EJ.next ?_)
      refine CJ.cond rfl (fun hb => ?_) (fun hb => ?_)
      · replace H := pif_t (of_decide_eq_true hb) H
        refine CJ.skip (EJ.next ?_)
        refine CJ.seq ?_
        refine CJ.block ?_
        refine CJ.seq ?_
        refine CJ.seq ?_
        refine CJ.region ?_
        refine OJ.pures tU_ok 2 rfl ?_
        refine OJ.nil (EJ.next ?_)
        refine CJ.cond rfl (fun hb => ?_) (fun hb => ?_)
        · replace H := pif_t (of_decide_eq_true hb) H
          refine CJ.region ?_
          refine OJ.pures tU_ok 1 rfl ?_
          obtain ⟨u4, hu4, H⟩ := pbind H
          refine OJ.st rfl rfl rfl (SR.concat rfl rfl rfl (chk_some hu4)) ?_
          refine OJ.pures tU_ok 1 rfl ?_
          refine OJ.nil (EJ.next ?_)
          refine CJ.draw [] [0, 1, 2, 3, 4, 5, 6, 9, 10, 11, 12, 13, 14, 15, 19, 20, 21, 22, 23, 24, 25, 7, 8, 16, 17, 18, 26, 27, 28, 29] mixed (by kernel_rfl) hS fun w1 hS => ?_
          refine DJ.pures tU_ok 3 rfl ?_
          obtain ⟨t5, ht5, H⟩ := pbind H
          obtain ⟨ad5, e5⟩ := (hS.rd' (i := 0) rfl).some' ht5
          refine DJ.st rfl rfl rfl rfl rfl (SR.idxS tU_ok tI_ok rfl rfl rfl rfl e5 rfl (getI_some ht5).1) ?_
          refine DJ.st rfl rfl rfl rfl rfl (SR.fieldAddr tU_ok tI_ok rfl rfl rfl rfl rfl rfl) ?_
          refine DJ.st rfl rfl rfl rfl rfl (SR.load rfl rfl (fun w' hx => ld1 tU_ok rfl rfl (CA.ext (CA.sub ((hS.rd' (i := 0) rfl).at_ e5 ht5) 0) hx) rfl)) ?_
          refine DJ.pures tU_ok 3 rfl ?_
          obtain ⟨t6, ht6, H⟩ := pbind H
          obtain ⟨ad6, e6⟩ := (hS.rd' (i := 0) rfl).some' ht6
          refine DJ.st rfl rfl rfl rfl rfl (SR.idxS tU_ok tI_ok rfl rfl rfl rfl e6 rfl (getI_some ht6).1) ?_
          refine DJ.st rfl rfl rfl rfl rfl (SR.fieldAddr tU_ok tI_ok rfl rfl rfl rfl rfl rfl) ?_
          refine DJ.st rfl rfl rfl rfl rfl (SR.fieldAddr tU_ok tI_ok rfl rfl rfl rfl rfl rfl) ?_
          refine DJ.st rfl rfl rfl rfl rfl (SR.load rfl rfl (fun w' hx => ld1 tU_ok rfl rfl (CA.ext (CA.sub (CA.sub ((hS.rd' (i := 0) rfl).at_ e6 ht6) 1) 0) hx) rfl)) ?_
          refine DJ.pures tU_ok 3 rfl ?_
          obtain ⟨t7, ht7, H⟩ := pbind H
          obtain ⟨ad7, e7⟩ := (hS.rd' (i := 0) rfl).some' ht7
          refine DJ.st rfl rfl rfl rfl rfl (SR.idxS tU_ok tI_ok rfl rfl rfl rfl e7 rfl (getI_some ht7).1) ?_
          refine DJ.st rfl rfl rfl rfl rfl (SR.fieldAddr tU_ok tI_ok rfl rfl rfl rfl rfl rfl) ?_
          refine DJ.st rfl rfl rfl rfl rfl (SR.fieldAddr tU_ok tI_ok rfl rfl rfl rfl rfl rfl) ?_
          refine DJ.st rfl rfl rfl rfl rfl (SR.load rfl rfl (fun w' hx => ld1 tU_ok rfl rfl (CA.ext (CA.sub (CA.sub ((hS.rd' (i := 0) rfl).at_ e7 ht7) 1) 1) hx) rfl)) ?_
          refine DJ.pures tU_ok 1 rfl ?_
          obtain ⟨t8, ht8, H⟩ := pbind H
          refine DJ.callF rfl rfl rfl rfl rfl rfl rfl hb31 rfl (spec_Decimal.c k _ (IntKind.i64.wrap t5.Day) _ ht8) (by rintro v w' ⟨rfl, hs⟩; exact hs) ?_
          rintro _ w1 ⟨rfl, hs⟩
          replace hS := hS.grow hs
          obtain ⟨u9, hu9, H⟩ := pbind H
          refine DJ.st rfl rfl rfl rfl rfl (SR.concat rfl rfl rfl (chk_some hu9)) ?_
          obtain ⟨t10, ht10, H⟩ := pbind H
          refine DJ.callF rfl rfl rfl rfl rfl rfl rfl hb31 rfl (spec_Decimal.c k _ (IntKind.i64.wrap t6.At.X) _ ht10) (by rintro v w' ⟨rfl, hs⟩; exact hs) ?_
          rintro _ w1 ⟨rfl, hs⟩
          replace hS := hS.grow hs
          obtain ⟨u11, hu11, H⟩ := pbind H
          refine DJ.st rfl rfl rfl rfl rfl (SR.concat rfl rfl rfl (chk_some hu11)) ?_
          obtain ⟨u12, hu12, H⟩ := pbind H
          refine DJ.st rfl rfl rfl rfl rfl (SR.concat rfl rfl rfl (chk_some hu12)) ?_
          obtain ⟨t13, ht13, H⟩ := pbind H
          refine DJ.callF rfl rfl rfl rfl rfl rfl rfl hb31 rfl (spec_Decimal.c k _ (IntKind.i64.wrap t7.At.Y) _ ht13) (by rintro v w' ⟨rfl, hs⟩; exact hs) ?_
          rintro _ w1 ⟨rfl, hs⟩
          replace hS := hS.grow hs
          obtain ⟨u14, hu14, H⟩ := pbind H
          refine DJ.st rfl rfl rfl rfl rfl (SR.concat rfl rfl rfl (chk_some hu14)) ?_
          obtain ⟨u15, hu15, H⟩ := pbind H
          refine DJ.st rfl rfl rfl rfl rfl (SR.concat rfl rfl rfl (chk_some hu15)) ?_
          refine DJ.pures tU_ok 1 rfl ?_
          refine DJ.nil (EJ.blk (EJ.next ?_))
          refine CJ.region ?_
          refine OJ.pures tU_ok 3 rfl ?_
          refine OJ.nil ?_
          exact EJ.round k (F' := [(0, .slice Aa0 a0.length ca0), (3, .string ((y2 ++ (⟨#[32]⟩ : ByteArray)) ++ ((((t8 ++ (⟨#[58]⟩ : ByteArray)) ++ t10) ++ (⟨#[44]⟩ : ByteArray)) ++ t13))), (4, .int .i64 (IntKind.i64.wrap (y3 + 1)))]) ⟨rfl, rfl, rfl, trivial⟩ (Nat.lt_succ_self _) ⟨((y2 ++ (⟨#[32]⟩ : ByteArray)) ++ ((((t8 ++ (⟨#[58]⟩ : ByteArray)) ++ t10) ++ (⟨#[44]⟩ : ByteArray)) ++ t13)), (IntKind.i64.wrap (y3 + 1)), rfl, hS.pick [] [0] rfl, H⟩
        · replace H := pif_f (of_decide_eq_false hb) H
          refine CJ.skip (EJ.next ?_)
          refine CJ.draw [] [0, 1, 2, 3, 4, 5, 6, 9, 10, 11, 12, 13, 14, 15, 19, 20, 21, 22, 23, 24, 25, 7, 8, 16, 17, 18, 26, 27, 28, 29] mixed (by kernel_rfl) hS fun w1 hS => ?_
          refine DJ.pures tU_ok 3 rfl ?_
          obtain ⟨t16, ht16, H⟩ := pbind H
          obtain ⟨ad16, e16⟩ := (hS.rd' (i := 0) rfl).some' ht16
          refine DJ.st rfl rfl rfl rfl rfl (SR.idxS tU_ok tI_ok rfl rfl rfl rfl e16 rfl (getI_some ht16).1) ?_
          refine DJ.st rfl rfl rfl rfl rfl (SR.fieldAddr tU_ok tI_ok rfl rfl rfl rfl rfl rfl) ?_
          refine DJ.st rfl rfl rfl rfl rfl (SR.load rfl rfl (fun w' hx => ld1 tU_ok rfl rfl (CA.ext (CA.sub ((hS.rd' (i := 0) rfl).at_ e16 ht16) 0) hx) rfl)) ?_
          refine DJ.pures tU_ok 3 rfl ?_
          obtain ⟨t17, ht17, H⟩ := pbind H
          obtain ⟨ad17, e17⟩ := (hS.rd' (i := 0) rfl).some' ht17
          refine DJ.st rfl rfl rfl rfl rfl (SR.idxS tU_ok tI_ok rfl rfl rfl rfl e17 rfl (getI_some ht17).1) ?_
          refine DJ.st rfl rfl rfl rfl rfl (SR.fieldAddr tU_ok tI_ok rfl rfl rfl rfl rfl rfl) ?_
          refine DJ.st rfl rfl rfl rfl rfl (SR.fieldAddr tU_ok tI_ok rfl rfl rfl rfl rfl rfl) ?_
          refine DJ.st rfl rfl rfl rfl rfl (SR.load rfl rfl (fun w' hx => ld1 tU_ok rfl rfl (CA.ext (CA.sub (CA.sub ((hS.rd' (i := 0) rfl).at_ e17 ht17) 1) 0) hx) rfl)) ?_
          refine DJ.pures tU_ok 3 rfl ?_
          obtain ⟨t18, ht18, H⟩ := pbind H
          obtain ⟨ad18, e18⟩ := (hS.rd' (i := 0) rfl).some' ht18
          refine DJ.st rfl rfl rfl rfl rfl (SR.idxS tU_ok tI_ok rfl rfl rfl rfl e18 rfl (getI_some ht18).1) ?_
          refine DJ.st rfl rfl rfl rfl rfl (SR.fieldAddr tU_ok tI_ok rfl rfl rfl rfl rfl rfl) ?_
          refine DJ.st rfl rfl rfl rfl rfl (SR.fieldAddr tU_ok tI_ok rfl rfl rfl rfl rfl rfl) ?_
          refine DJ.st rfl rfl rfl rfl rfl (SR.load rfl rfl (fun w' hx => ld1 tU_ok rfl rfl (CA.ext (CA.sub (CA.sub ((hS.rd' (i := 0) rfl).at_ e18 ht18) 1) 1) hx) rfl)) ?_
          refine DJ.pures tU_ok 1 rfl ?_
          obtain ⟨t19, ht19, H⟩ := pbind H
          refine DJ.callF rfl rfl rfl rfl rfl rfl rfl hb31 rfl (spec_Decimal.c k _ (IntKind.i64.wrap t16.Day) _ ht19) (by rintro v w' ⟨rfl, hs⟩; exact hs) ?_
          rintro _ w1 ⟨rfl, hs⟩
          replace hS := hS.grow hs
          obtain ⟨u20, hu20, H⟩ := pbind H
          refine DJ.st rfl rfl rfl rfl rfl (SR.concat rfl rfl rfl (chk_some hu20)) ?_
          obtain ⟨t21, ht21, H⟩ := pbind H
          refine DJ.callF rfl rfl rfl rfl rfl rfl rfl hb31 rfl (spec_Decimal.c k _ (IntKind.i64.wrap t17.At.X) _ ht21) (by rintro v w' ⟨rfl, hs⟩; exact hs) ?_
          rintro _ w1 ⟨rfl, hs⟩
          replace hS := hS.grow hs
          obtain ⟨u22, hu22, H⟩ := pbind H
          refine DJ.st rfl rfl rfl rfl rfl (SR.concat rfl rfl rfl (chk_some hu22)) ?_
          obtain ⟨u23, hu23, H⟩ := pbind H
          refine DJ.st rfl rfl rfl rfl rfl (SR.concat rfl rfl rfl (chk_some hu23)) ?_
          obtain ⟨t24, ht24, H⟩ := pbind H
          refine DJ.callF rfl rfl rfl rfl rfl rfl rfl hb31 rfl (spec_Decimal.c k _ (IntKind.i64.wrap t18.At.Y) _ ht24) (by rintro v w' ⟨rfl, hs⟩; exact hs) ?_
          rintro _ w1 ⟨rfl, hs⟩
          replace hS := hS.grow hs
          obtain ⟨u25, hu25, H⟩ := pbind H
          refine DJ.st rfl rfl rfl rfl rfl (SR.concat rfl rfl rfl (chk_some hu25)) ?_
          obtain ⟨u26, hu26, H⟩ := pbind H
          refine DJ.st rfl rfl rfl rfl rfl (SR.concat rfl rfl rfl (chk_some hu26)) ?_
          refine DJ.pures tU_ok 1 rfl ?_
          refine DJ.nil (EJ.blk (EJ.next ?_))
          refine CJ.region ?_
          refine OJ.pures tU_ok 3 rfl ?_
          refine OJ.nil ?_
          exact EJ.round k (F' := [(0, .slice Aa0 a0.length ca0), (3, .string (y2 ++ ((((t19 ++ (⟨#[58]⟩ : ByteArray)) ++ t21) ++ (⟨#[44]⟩ : ByteArray)) ++ t24))), (4, .int .i64 (IntKind.i64.wrap (y3 + 1)))]) ⟨rfl, rfl, rfl, trivial⟩ (Nat.lt_succ_self _) ⟨(y2 ++ ((((t19 ++ (⟨#[58]⟩ : ByteArray)) ++ t21) ++ (⟨#[44]⟩ : ByteArray)) ++ t24)), (IntKind.i64.wrap (y3 + 1)), rfl, hS.pick [] [0] rfl, H⟩
      · replace H := pif_f (of_decide_eq_false hb) H
        refine CJ.exit (EJ.skE (EJ.skE (EJ.hit (?_))))
        exact EJ.meet (F' := [(3, .string y2)]) ⟨rfl, trivial⟩ ⟨y2, H, rfl, hS.pick [] [0] rfl⟩
  · rintro F w1 ⟨y1, he, rfl, hS⟩
    obtain rfl := Option.some.inj he
    have H := K4
    refine EJ.next ?_
    refine CJ.seq ?_
    refine CJ.region ?_
    refine OJ.pures tU_ok 2 rfl ?_
    refine OJ.nil (EJ.next ?_)
    refine CJ.ret (?_)
    obtain rfl := Option.some.inj H
    exact EJ.fin rfl (.tmp rfl .nil) ⟨rfl, hS.ext⟩

def spec_SightsText.l1 (a0 : List Sight) : Nat → Int → Option (ByteArray ⊕ Unit)
  | 0, _ => none
  | k + 1, y1 => if y1 < (a0.length : Int) then ((getI a0 y1).bind fun t2 => (spec_l03Spot.f t2.At).bind fun t3 => if (!t3) = true then (some (Sum.inl ByteArray.empty)) else (spec_SightsText.l1 a0 k (IntKind.i64.wrap (y1 + 1)))) else (some (Sum.inr ()))
def spec_SightsText.f (k : Nat) (a0 : List Sight) : Option ByteArray := (spec_SightsText.l1 a0 k 0).bind fun s2 => match s2 with | .inl r => some r | .inr _ => (spec_l07Seen.f k a0).bind fun t4 => if (!t4) = true then (some ByteArray.empty) else ((spec_l07Text.f k a0).bind fun t5 => some t5)
theorem spec_SightsText.c (k : Nat) (w : World) (Aa0 : Option Addr) (ca0 : Nat) (a0 : List Sight) (hr0 : Rd cSight w Aa0 a0) (hc0 : a0.length ≤ ca0) (r : ByteArray) (H : spec_SightsText.f k a0 = some r) :
    CV Tryd.prog 6 [.slice Aa0 a0.length ca0].toArray w fun v w' => v = .string r ∧ Ext w w' := by
  have hS := ((St.init w no).param cSight Aa0 ca0 a0 hr0 hc0)
  unfold spec_SightsText.f at H
  refine CV.body Tryd.func6 rfl Tryd.ntmps6 rfl ?_
  refine CJ.seq ?_
  refine CJ.region ?_
  refine OJ.pures tU_ok 1 rfl ?_
  refine OJ.nil (EJ.next ?_)
  refine CJ.seq ?_
  refine CJ.seq ?_
  refine CJ.region ?_
  refine OJ.pures tU_ok 1 rfl ?_
  refine OJ.nil (EJ.next ?_)
  obtain ⟨j2, H, K2⟩ := pbind H
  refine CJ.cut1 (fun F w1 => (some (Sum.inr ()) : Option (ByteArray ⊕ Unit)) = some j2 ∧ F = [(0, .slice Aa0 a0.length ca0)] ∧ St w no w1 [] [roC cSight Aa0 ca0 a0]) ?_ ?_
  · skip
    refine CJ.block ?_
    refine CJ.loop (fun k F w1 => ∃ (y1 : Int), F = [(0, .slice Aa0 a0.length ca0), (3, .int .i64 y1)] ∧ St w no w1 [] [roC cSight Aa0 ca0 a0] ∧ spec_SightsText.l1 a0 k y1 = some j2) k (F' := [(0, .slice Aa0 a0.length ca0), (3, .int .i64 0)]) ⟨rfl, rfl, trivial⟩ ⟨0, rfl, hS.pick [] [0] rfl, H⟩ ?_
    rintro k F w1 ⟨y1, rfl, hS, H⟩
    cases k with
    | zero => rw [spec_SightsText.l1] at H; cases H
    | succ k =>
      rw [spec_SightsText.l1] at H
      refine CJ.seq ?_
      refine CJ.seq ?_
      refine CJ.region ?_
      refine OJ.pures tU_ok 4 rfl ?_
      refine OJ.nil (EJ.next ?_)
      refine CJ.cond rfl (fun hb => ?_) (fun hb => ?_)
      · replace H := pif_t (of_decide_eq_true hb) H
        refine CJ.skip (EJ.next ?_)
        refine CJ.seq ?_
        refine CJ.block ?_
        refine CJ.seq ?_
        refine CJ.region ?_
        refine OJ.pures tU_ok 2 rfl ?_
        obtain ⟨t2, ht2, H⟩ := pbind H
        obtain ⟨ad2, e2⟩ := (hS.rd' (i := 0) rfl).some' ht2
        refine OJ.st rfl rfl rfl (SR.idxS tU_ok tI_ok rfl rfl rfl rfl e2 rfl (getI_some ht2).1) ?_
        refine OJ.st rfl rfl rfl (SR.fieldAddr tU_ok tI_ok rfl rfl rfl rfl rfl rfl) ?_
        refine OJ.st rfl rfl rfl (SR.load rfl rfl (fun w' hx => ldN tU_ok tI_ok rfl rfl rfl (CA.ext (CA.sub ((hS.rd' (i := 0) rfl).at_ e2 ht2) 1) hx) (cSpot.len _) rfl)) ?_
        obtain ⟨t3, ht3, H⟩ := pbind H
        refine OJ.callF rfl rfl rfl rfl rfl hb14 rfl (spec_l03Spot.c _ t2.At _ ht3) ?_
        rintro _ w1 ⟨rfl, hs⟩
        replace hS := hS.grow hs
        refine OJ.pures tU_ok 1 rfl ?_
        refine OJ.nil (EJ.next ?_)
        refine CJ.cond rfl (fun hb => ?_) (fun hb => ?_)
        · replace H := pif_t hb H
          refine CJ.seq ?_
          refine CJ.region ?_
          refine OJ.pures tU_ok 1 rfl ?_
          refine OJ.nil (EJ.next ?_)
          refine CJ.ret (EJ.bkR (EJ.skR (EJ.skR (EJ.bkR (EJ.skR (EJ.skR (?_)))))))
          first | (obtain rfl := Option.some.inj H; have H := K2) | (obtain ⟨q2, H2, e2⟩ := pbind H; obtain rfl := Option.some.inj e2; obtain rfl := Option.some.inj K2; have H := H2)
          obtain rfl := Option.some.inj H
          exact EJ.fin rfl (.tmp rfl .nil) ⟨rfl, hS.ext⟩
        · replace H := pifb_f hb H
          refine CJ.skip (EJ.blk (EJ.next ?_))
          refine CJ.region ?_
          refine OJ.pures tU_ok 3 rfl ?_
          refine OJ.nil ?_
          exact EJ.round k (F' := [(0, .slice Aa0 a0.length ca0), (3, .int .i64 (IntKind.i64.wrap (y1 + 1)))]) ⟨rfl, rfl, trivial⟩ (Nat.lt_succ_self _) ⟨(IntKind.i64.wrap (y1 + 1)), rfl, hS.pick [] [0] rfl, H⟩
      · replace H := pif_f (of_decide_eq_false hb) H
        refine CJ.exit (EJ.skE (EJ.skE (EJ.hit (?_))))
        exact EJ.meet (F' := [(0, .slice Aa0 a0.length ca0)]) ⟨rfl, trivial⟩ ⟨H, rfl, hS.pick [] [0] rfl⟩
  · rintro F w1 ⟨he, rfl, hS⟩
    obtain rfl := Option.some.inj he
    have H := K2
    refine EJ.next ?_
    refine CJ.seq ?_
    refine CJ.seq ?_
    refine CJ.region ?_
    refine OJ.pures tU_ok 1 rfl ?_
    obtain ⟨t4, ht4, H⟩ := pbind H
    refine OJ.callF rfl rfl rfl rfl rfl hb15 rfl (spec_l07Seen.c k _ Aa0 ca0 a0 (hS.rd' (i := 0) rfl) (hS.le' (i := 0) rfl) _ ht4) ?_
    rintro _ w1 ⟨rfl, hs⟩
    replace hS := hS.grow hs
    refine OJ.pures tU_ok 1 rfl ?_
    refine OJ.nil (EJ.next ?_)
    refine CJ.cond rfl (fun hb => ?_) (fun hb => ?_)
    · replace H := pif_t hb H
      refine CJ.seq ?_
      refine CJ.region ?_
      refine OJ.pures tU_ok 1 rfl ?_
      refine OJ.nil (EJ.next ?_)
      refine CJ.ret (EJ.skR (?_))
      obtain rfl := Option.some.inj H
      exact EJ.fin rfl (.tmp rfl .nil) ⟨rfl, hS.ext⟩
    · replace H := pifb_f hb H
      refine CJ.skip (EJ.next ?_)
      refine CJ.seq ?_
      refine CJ.region ?_
      refine OJ.pures tU_ok 1 rfl ?_
      obtain ⟨t5, ht5, H⟩ := pbind H
      refine OJ.callF rfl rfl rfl rfl rfl hb16 rfl (spec_l07Text.c k _ Aa0 ca0 a0 (hS.rd' (i := 0) rfl) (hS.le' (i := 0) rfl) _ ht5) ?_
      rintro _ w1 ⟨rfl, hs⟩
      replace hS := hS.grow hs
      refine OJ.pures tU_ok 1 rfl ?_
      refine OJ.nil (EJ.next ?_)
      refine CJ.ret (?_)
      obtain rfl := Option.some.inj H
      exact EJ.fin rfl (.tmp rfl .nil) ⟨rfl, hS.ext⟩

def impl_within.f (a0 : Int) (a1 : Int) (a2 : Int) : Option Bool := if a1 ≤ a0 then (some (decide (a0 ≤ a2))) else (some false)
theorem impl_within.c (w : World) (a0 : Int) (a1 : Int) (a2 : Int) (r : Bool) (H : impl_within.f a0 a1 a2 = some r) :
    CV Tryd.prog 33 [.int .i64 a0, .int .i64 a1, .int .i64 a2].toArray w fun v w' => v = .bool r ∧ Ext w w' := by
  have hS := (St.init w no)
  unfold impl_within.f at H
  refine CV.body Tryd.func33 rfl Tryd.ntmps33 rfl ?_
  refine CJ.seq ?_
  refine CJ.region ?_
  refine OJ.pures tU_ok 1 rfl ?_
  refine OJ.nil (EJ.next ?_)
  refine CJ.seq ?_
  refine CJ.region ?_
  refine OJ.pures tU_ok 4 rfl ?_
  refine OJ.split (t := 10) rfl (fun hb => ?_) (fun hb => ?_)
  · replace H := pif_t (of_decide_eq_true hb) H
    refine OJ.pures tU_ok 5 rfl ?_
    refine OJ.nil (EJ.next ?_)
    refine CJ.ret (?_)
    obtain rfl := Option.some.inj H
    exact EJ.fin rfl (.tmp rfl .nil) ⟨rfl, hS.ext⟩
  · replace H := pif_f (of_decide_eq_false hb) H
    refine OJ.pures tU_ok 5 rfl ?_
    refine OJ.nil (EJ.next ?_)
    refine CJ.ret (?_)
    obtain rfl := Option.some.inj H
    exact EJ.fin rfl (.tmp rfl .nil) ⟨rfl, hS.ext⟩

def impl_Pasture_isCell.f (a0 : Pasture) (a1 : Spot) : Option Bool := (impl_within.f (IntKind.i64.wrap a1.X) 0 (IntKind.i64.wrap ((if 10 < (IntKind.i64.wrap a0.Wide) then 10 else (IntKind.i64.wrap a0.Wide)) - 1))).bind fun t3 => if t3 = true then ((impl_within.f (IntKind.i64.wrap a1.Y) 0 (IntKind.i64.wrap ((if 10 < (IntKind.i64.wrap a0.High) then 10 else (IntKind.i64.wrap a0.High)) - 1))).bind fun t4 => some t4) else (some false)
theorem impl_Pasture_isCell.c (w : World) (a0 : Pasture) (a1 : Spot) (r : Bool) (H : impl_Pasture_isCell.f a0 a1 = some r) :
    CV Tryd.prog 34 [.agg (cPasture.enc a0).toArray, .agg (cSpot.enc a1).toArray].toArray w fun v w' => v = .bool r ∧ Ext w w' := by
  have hS := (St.init w no)
  unfold impl_Pasture_isCell.f at H
  refine CV.body Tryd.func34 rfl Tryd.ntmps34 rfl ?_
  refine CJ.seq ?_
  refine CJ.region ?_
  refine OJ.ef rfl rfl rfl (Ef.box hS rfl rfl (cPasture.enc a0) rfl) ?_
  rintro _ w1 ⟨b1, rfl, hS⟩
  refine OJ.ef rfl rfl rfl (Ef.box hS rfl rfl (cSpot.enc a1) rfl) ?_
  rintro _ w1 ⟨b2, rfl, hS⟩
  refine OJ.pures tU_ok 1 rfl ?_
  refine OJ.nil (EJ.next ?_)
  refine CJ.seq ?_
  refine CJ.region ?_
  refine OJ.st rfl rfl rfl (SR.fieldAddr tU_ok tI_ok rfl rfl rfl rfl rfl rfl) ?_
  refine OJ.st rfl rfl rfl (SR.load rfl rfl (fun w' hx => ld1 tU_ok rfl rfl (CA.ext (CA.sub (hS.cells (i := 1) rfl) 0) hx) rfl)) ?_
  refine OJ.pures tU_ok 1 rfl ?_
  refine OJ.st rfl rfl rfl (SR.fieldAddr tU_ok tI_ok rfl rfl rfl rfl rfl rfl) ?_
  refine OJ.st rfl rfl rfl (SR.load rfl rfl (fun w' hx => ld1 tU_ok rfl rfl (CA.ext (CA.fld (hS.cells (i := 0) rfl) (mid_part (fe_Pasture_0 _) (fl_Pasture_0 _) ((ci .i8).len _))) hx) rfl)) ?_
  refine OJ.pures tU_ok 3 rfl ?_
  obtain ⟨t3, ht3, H⟩ := pbind H
  refine OJ.callF rfl rfl rfl rfl rfl hb33 rfl (impl_within.c _ (IntKind.i64.wrap a1.X) 0 (IntKind.i64.wrap ((if 10 < (IntKind.i64.wrap a0.Wide) then 10 else (IntKind.i64.wrap a0.Wide)) - 1)) _ ht3) ?_
  rintro _ w1 ⟨rfl, hs⟩
  replace hS := hS.grow hs
  refine OJ.pures tU_ok 1 rfl ?_
  refine OJ.split (t := 14) rfl (fun hb => ?_) (fun hb => ?_)
  · replace H := pif_t hb H
    refine OJ.st rfl rfl rfl (SR.fieldAddr tU_ok tI_ok rfl rfl rfl rfl rfl rfl) ?_
    refine OJ.st rfl rfl rfl (SR.load rfl rfl (fun w' hx => ld1 tU_ok rfl rfl (CA.ext (CA.sub (hS.cells (i := 1) rfl) 1) hx) rfl)) ?_
    refine OJ.pures tU_ok 1 rfl ?_
    refine OJ.st rfl rfl rfl (SR.fieldAddr tU_ok tI_ok rfl rfl rfl rfl rfl rfl) ?_
    refine OJ.st rfl rfl rfl (SR.load rfl rfl (fun w' hx => ld1 tU_ok rfl rfl (CA.ext (CA.fld (hS.cells (i := 0) rfl) (mid_part (fe_Pasture_1 _) (fl_Pasture_1 _) ((ci .i8).len _))) hx) rfl)) ?_
    refine OJ.pures tU_ok 3 rfl ?_
    obtain ⟨t4, ht4, H⟩ := pbind H
    refine OJ.callF rfl rfl rfl rfl rfl hb33 rfl (impl_within.c _ (IntKind.i64.wrap a1.Y) 0 (IntKind.i64.wrap ((if 10 < (IntKind.i64.wrap a0.High) then 10 else (IntKind.i64.wrap a0.High)) - 1)) _ ht4) ?_
    rintro _ w1 ⟨rfl, hs⟩
    replace hS := hS.grow hs
    refine OJ.pures tU_ok 2 rfl ?_
    refine OJ.nil (EJ.next ?_)
    refine CJ.ret (?_)
    obtain rfl := Option.some.inj H
    exact EJ.fin rfl (.tmp rfl .nil) ⟨rfl, hS.ext⟩
  · replace H := pifb_f hb H
    refine OJ.pures tU_ok 11 rfl ?_
    refine OJ.nil (EJ.next ?_)
    refine CJ.ret (?_)
    obtain rfl := Option.some.inj H
    exact EJ.fin rfl (.tmp rfl .nil) ⟨rfl, hS.ext⟩

def impl_Pasture_areSights.l1 (a0 : Pasture) (a1 : List Sight) : Nat → Int → Option (Bool ⊕ Unit)
  | 0, _ => none
  | k + 1, y2 => if y2 < (a1.length : Int) then ((getI a1 y2).bind fun t3 => (impl_within.f (IntKind.i64.wrap t3.Day) 0 1000).bind fun t5 => if (!t5) = true then (some (Sum.inl false)) else ((impl_Pasture_isCell.f a0 t3.At).bind fun t6 => if (!t6) = true then (some (Sum.inl false)) else (if 0 < y2 then ((getI a1 (IntKind.i64.wrap (y2 - 1))).bind fun t7 => if t3.Day < t7.Day then (some (Sum.inl false)) else (impl_Pasture_areSights.l1 a0 a1 k (IntKind.i64.wrap (y2 + 1)))) else (impl_Pasture_areSights.l1 a0 a1 k (IntKind.i64.wrap (y2 + 1)))))) else (some (Sum.inr ()))
def impl_Pasture_areSights.f (k : Nat) (a0 : Pasture) (a1 : List Sight) : Option Bool := (impl_Pasture_areSights.l1 a0 a1 k 0).bind fun s5 => match s5 with | .inl r => some r | .inr _ => some (decide ((a1.length : Int) ≤ 40))
theorem impl_Pasture_areSights.c (k : Nat) (w : World) (a0 : Pasture) (Aa1 : Option Addr) (ca1 : Nat) (a1 : List Sight) (hr1 : Rd cSight w Aa1 a1) (hc1 : a1.length ≤ ca1) (r : Bool) (H : impl_Pasture_areSights.f k a0 a1 = some r) :
    CV Tryd.prog 18 [.agg (cPasture.enc a0).toArray, .slice Aa1 a1.length ca1].toArray w fun v w' => v = .bool r ∧ Ext w w' := by
  have hS := ((St.init w no).param cSight Aa1 ca1 a1 hr1 hc1)
  unfold impl_Pasture_areSights.f at H
  refine CV.body Tryd.func18 rfl Tryd.ntmps18 rfl ?_
  refine CJ.seq ?_
  refine CJ.region ?_
  refine OJ.ef rfl rfl rfl (Ef.box hS rfl rfl (cPasture.enc a0) rfl) ?_
  rintro _ w1 ⟨b1, rfl, hS⟩
  refine OJ.pures tU_ok 1 rfl ?_
  refine OJ.nil (EJ.next ?_)
  refine CJ.seq ?_
  refine CJ.seq ?_
  refine CJ.region ?_
  refine OJ.pures tU_ok 3 rfl ?_
  refine OJ.nil (EJ.next ?_)
  obtain ⟨j5, H, K5⟩ := pbind H
  refine CJ.cut1 (fun F w1 => (some (Sum.inr ()) : Option (Bool ⊕ Unit)) = some j5 ∧ F = [(1, .slice Aa1 a1.length ca1)] ∧ St w no w1 [] [roC cSight Aa1 ca1 a1]) ?_ ?_
  · skip
    refine CJ.block ?_
    refine CJ.loop (fun k F w1 => ∃ (y2 : Int), F = [(1, .slice Aa1 a1.length ca1), (2, .pointer (some ⟨b1, 0, none⟩)), (7, .slice Aa1 a1.length ca1), (8, .int .i64 (a1.length : Int)), (9, .int .i64 y2)] ∧ St w no w1 [box b1 (cPasture.enc a0) 50] [roC cSight Aa1 ca1 a1] ∧ impl_Pasture_areSights.l1 a0 a1 k y2 = some j5) k (F' := [(1, .slice Aa1 a1.length ca1), (2, .pointer (some ⟨b1, 0, none⟩)), (7, .slice Aa1 a1.length ca1), (8, .int .i64 (a1.length : Int)), (9, .int .i64 0)]) ⟨rfl, rfl, rfl, rfl, rfl, trivial⟩ ⟨0, rfl, hS.pick [0] [0] rfl, H⟩ ?_
    rintro k F w1 ⟨y2, rfl, hS, H⟩
    cases k with
    | zero => rw [impl_Pasture_areSights.l1] at H; cases H
    | succ k =>
      rw [impl_Pasture_areSights.l1] at H
      refine CJ.seq ?_
      refine CJ.region ?_
      refine OJ.pures tU_ok 1 rfl ?_
      refine OJ.nil (EJ.next ?_)
      refine CJ.seq ?_
      refine CJ.cond rfl (fun hb => ?_) (fun hb => ?_)
      · replace H := pif_t (of_decide_eq_true hb) H
        refine CJ.skip (EJ.next ?_)
        refine CJ.seq ?_
        refine CJ.block ?_
        refine CJ.seq ?_
        refine CJ.region ?_
        refine OJ.pures tU_ok 1 rfl ?_
        obtain ⟨t3, ht3, H⟩ := pbind H
        obtain ⟨ad3, e3⟩ := (hS.rd' (i := 0) rfl).some' ht3
        refine OJ.st rfl rfl rfl (SR.idxS tU_ok tI_ok rfl rfl rfl rfl e3 rfl (getI_some ht3).1) ?_
        refine OJ.st rfl rfl rfl (SR.load rfl rfl (fun w' hx => ldE tU_ok tI_ok rfl rfl rfl (CA.ext ((hS.rd' (i := 0) rfl).at_ e3 ht3) hx) rfl)) ?_
        refine OJ.ef rfl rfl rfl (Ef.alloc hS tI_ok rfl rfl (cSight.enc (⟨0, (⟨0, 0⟩ : Spot)⟩ : Sight)) rfl) ?_
        rintro _ w1 ⟨b4, rfl, hS⟩
        refine OJ.pures tU_ok 1 rfl ?_
        refine OJ.es rfl rfl (Es.store tI_ok hS (i := 1) rfl rfl rfl rfl rfl rfl (vs := cSight.enc t3) rfl (cSight.len _) (cSight.one _) (Nat.le_of_ble_eq_true rfl) (cSight.enc t3) rfl) ?_
        intro w1 hS
        refine OJ.nil (EJ.next ?_)
        refine CJ.seq ?_
        refine CJ.draw [] [0, 1, 2, 3, 4, 5, 6, 7, 8, 9, 10, 11, 12, 13, 14, 15, 16, 17, 18, 19, 20, 21, 22, 23, 24, 25, 26] mixed (by kernel_rfl) hS fun w1 hS => ?_
        refine DJ.st rfl rfl rfl rfl rfl (SR.fieldAddr tU_ok tI_ok rfl rfl rfl rfl rfl rfl) ?_
        refine DJ.st rfl rfl rfl rfl rfl (SR.load rfl rfl (fun w' hx => ld1 tU_ok rfl rfl (CA.ext (CA.sub (hS.cells (i := 1) rfl) 0) hx) rfl)) ?_
        refine DJ.pures tU_ok 1 rfl ?_
        obtain ⟨t5, ht5, H⟩ := pbind H
        refine DJ.callF rfl rfl rfl rfl rfl rfl rfl hb33 rfl (impl_within.c _ (IntKind.i64.wrap t3.Day) 0 1000 _ ht5) (by rintro v w' ⟨rfl, hs⟩; exact hs) ?_
        rintro _ w1 ⟨rfl, hs⟩
        replace hS := hS.grow hs
        refine DJ.pures tU_ok 2 rfl ?_
        refine DJ.split (t := 19) rfl (fun hb => ?_) (fun hb => ?_)
        · replace H := pif_t hb H
          refine DJ.pures tU_ok 21 rfl ?_
          refine DJ.nil (EJ.next ?_)
          refine CJ.condT rfl ?_
          refine CJ.seq ?_
          refine CJ.region ?_
          refine OJ.pures tU_ok 1 rfl ?_
          refine OJ.nil (EJ.next ?_)
          refine CJ.ret (EJ.bkR (EJ.skR (EJ.skR (EJ.bkR (EJ.skR (EJ.skR (?_)))))))
          first | (obtain rfl := Option.some.inj H; have H := K5) | (obtain ⟨q5, H2, e5⟩ := pbind H; obtain rfl := Option.some.inj e5; obtain rfl := Option.some.inj K5; have H := H2)
          obtain rfl := Option.some.inj H
          exact EJ.fin rfl (.tmp rfl .nil) ⟨rfl, hS.ext⟩
        · replace H := pifb_f hb H
          refine DJ.st rfl rfl rfl rfl rfl (SR.load rfl rfl (fun w' hx => ldE tU_ok tI_ok rfl rfl rfl (CA.ext (hS.cells (i := 0) rfl) hx) rfl)) ?_
          refine DJ.st rfl rfl rfl rfl rfl (SR.fieldAddr tU_ok tI_ok rfl rfl rfl rfl rfl rfl) ?_
          refine DJ.st rfl rfl rfl rfl rfl (SR.load rfl rfl (fun w' hx => ldN tU_ok tI_ok rfl rfl rfl (CA.ext (CA.sub (hS.cells (i := 1) rfl) 1) hx) (cSpot.len _) rfl)) ?_
          obtain ⟨t6, ht6, H⟩ := pbind H
          refine DJ.callF rfl rfl rfl rfl rfl rfl rfl hb34 rfl (impl_Pasture_isCell.c _ a0 t3.At _ ht6) (by rintro v w' ⟨rfl, hs⟩; exact hs) ?_
          rintro _ w1 ⟨rfl, hs⟩
          replace hS := hS.grow hs
          refine DJ.pures tU_ok 3 rfl ?_
          refine DJ.split (t := 26) rfl (fun hb => ?_) (fun hb => ?_)
          · replace H := pif_t hb H
            refine DJ.pures tU_ok 14 rfl ?_
            refine DJ.nil (EJ.next ?_)
            refine CJ.condT rfl ?_
            refine CJ.seq ?_
            refine CJ.region ?_
            refine OJ.pures tU_ok 1 rfl ?_
            refine OJ.nil (EJ.next ?_)
            refine CJ.ret (EJ.bkR (EJ.skR (EJ.skR (EJ.bkR (EJ.skR (EJ.skR (?_)))))))
            first | (obtain rfl := Option.some.inj H; have H := K5) | (obtain ⟨q5, H2, e5⟩ := pbind H; obtain rfl := Option.some.inj e5; obtain rfl := Option.some.inj K5; have H := H2)
            obtain rfl := Option.some.inj H
            exact EJ.fin rfl (.tmp rfl .nil) ⟨rfl, hS.ext⟩
          · replace H := pifb_f hb H
            refine DJ.pures tU_ok 3 rfl ?_
            refine DJ.split (t := 29) rfl (fun hb => ?_) (fun hb => ?_)
            · replace H := pif_t (of_decide_eq_true hb) H
              refine DJ.st rfl rfl rfl rfl rfl (SR.fieldAddr tU_ok tI_ok rfl rfl rfl rfl rfl rfl) ?_
              refine DJ.st rfl rfl rfl rfl rfl (SR.load rfl rfl (fun w' hx => ld1 tU_ok rfl rfl (CA.ext (CA.sub (hS.cells (i := 1) rfl) 0) hx) rfl)) ?_
              refine DJ.pures tU_ok 3 rfl ?_
              obtain ⟨t7, ht7, H⟩ := pbind H
              obtain ⟨ad7, e7⟩ := (hS.rd' (i := 0) rfl).some' ht7
              refine DJ.st rfl rfl rfl rfl rfl (SR.idxS tU_ok tI_ok rfl rfl rfl rfl e7 rfl (getI_some ht7).1) ?_
              refine DJ.st rfl rfl rfl rfl rfl (SR.fieldAddr tU_ok tI_ok rfl rfl rfl rfl rfl rfl) ?_
              refine DJ.st rfl rfl rfl rfl rfl (SR.load rfl rfl (fun w' hx => ld1 tU_ok rfl rfl (CA.ext (CA.sub ((hS.rd' (i := 0) rfl).at_ e7 ht7) 0) hx) rfl)) ?_
              refine DJ.pures tU_ok 3 rfl ?_
              refine DJ.nil (EJ.next ?_)
              refine CJ.cond rfl (fun hb => ?_) (fun hb => ?_)
              · replace H := pif_t (of_decide_eq_true hb) H
                refine CJ.seq ?_
                refine CJ.region ?_
                refine OJ.pures tU_ok 1 rfl ?_
                refine OJ.nil (EJ.next ?_)
                refine CJ.ret (EJ.bkR (EJ.skR (EJ.skR (EJ.bkR (EJ.skR (EJ.skR (?_)))))))
                first | (obtain rfl := Option.some.inj H; have H := K5) | (obtain ⟨q5, H2, e5⟩ := pbind H; obtain rfl := Option.some.inj e5; obtain rfl := Option.some.inj K5; have H := H2)
                obtain rfl := Option.some.inj H
                exact EJ.fin rfl (.tmp rfl .nil) ⟨rfl, hS.ext⟩
              · replace H := pif_f (of_decide_eq_false hb) H
                refine CJ.skip (EJ.blk (EJ.next ?_))
                refine CJ.region ?_
                refine OJ.pures tU_ok 2 rfl ?_
                refine OJ.nil ?_
                exact EJ.round k (F' := [(1, .slice Aa1 a1.length ca1), (2, .pointer (some ⟨b1, 0, none⟩)), (7, .slice Aa1 a1.length ca1), (8, .int .i64 (a1.length : Int)), (9, .int .i64 (IntKind.i64.wrap (y2 + 1)))]) ⟨rfl, rfl, rfl, rfl, rfl, trivial⟩ (Nat.lt_succ_self _) ⟨(IntKind.i64.wrap (y2 + 1)), rfl, hS.pick [0] [0] rfl, H⟩
            · replace H := pif_f (of_decide_eq_false hb) H
              refine DJ.pures tU_ok 11 rfl ?_
              refine DJ.nil (EJ.next ?_)
              refine CJ.condF rfl ?_
              refine CJ.skip (EJ.blk (EJ.next ?_))
              refine CJ.region ?_
              refine OJ.pures tU_ok 2 rfl ?_
              refine OJ.nil ?_
              exact EJ.round k (F' := [(1, .slice Aa1 a1.length ca1), (2, .pointer (some ⟨b1, 0, none⟩)), (7, .slice Aa1 a1.length ca1), (8, .int .i64 (a1.length : Int)), (9, .int .i64 (IntKind.i64.wrap (y2 + 1)))]) ⟨rfl, rfl, rfl, rfl, rfl, trivial⟩ (Nat.lt_succ_self _) ⟨(IntKind.i64.wrap (y2 + 1)), rfl, hS.pick [0] [0] rfl, H⟩
      · replace H := pif_f (of_decide_eq_false hb) H
        refine CJ.exit (EJ.skE (EJ.skE (EJ.hit (?_))))
        exact EJ.meet (F' := [(1, .slice Aa1 a1.length ca1)]) ⟨rfl, trivial⟩ ⟨H, rfl, hS.pick [] [0] rfl⟩
  · rintro F w1 ⟨he, rfl, hS⟩
    obtain rfl := Option.some.inj he
    have H := K5
    refine EJ.next ?_
    refine CJ.seq ?_
    refine CJ.region ?_
    refine OJ.pures tU_ok 4 rfl ?_
    refine OJ.nil (EJ.next ?_)
    refine CJ.ret (?_)
    obtain rfl := Option.some.inj H
    exact EJ.fin rfl (.tmp rfl .nil) ⟨rfl, hS.ext⟩

def strconv_FormatInt.f (a0 : Int) (a1 : Int) : Option ByteArray := (chk (a1 = 10 ∧ -9223372036854775808 ≤ a0 ∧ a0 ≤ 9223372036854775807)).bind fun _ => some (itoaB a0)
theorem strconv_FormatInt.c (w : World) (a0 : Int) (a1 : Int) (hT : (tabC Tryd.prog).holds w) (r : ByteArray) (H : strconv_FormatInt.f a0 a1 = some r) :
    CV Tryd.prog 35 [.int .i64 a0, .int .i64 a1].toArray w fun v w' => v = .string r ∧ Ext w w' := by
  unfold strconv_FormatInt.f at H
  obtain ⟨u, hu, H⟩ := pbind H
  have h := chk_some hu
  obtain rfl := Option.some.inj H
  obtain ⟨rfl, h0, h1⟩ := h
  exact fmt_cv hT h0 h1 (fun n h0 h1 w ht => Any.strconv_FormatInt_10 layFmt n h0 h1 w ht)

def impl_decimal.f (a0 : Int) : Option ByteArray := (strconv_FormatInt.f a0 10).bind fun t1 => some t1
theorem impl_decimal.c (w : World) (a0 : Int) (hT : (tabC Tryd.prog).holds w) (r : ByteArray) (H : impl_decimal.f a0 = some r) :
    CV Tryd.prog 19 [.int .i64 a0].toArray w fun v w' => v = .string r ∧ Ext w w' := by
  have hS := ((St.init w no).paramT (tabC Tryd.prog) hT)
  unfold impl_decimal.f at H
  refine CV.body Tryd.func19 rfl Tryd.ntmps19 rfl ?_
  refine CJ.seq ?_
  refine CJ.region ?_
  refine OJ.pures tU_ok 1 rfl ?_
  refine OJ.nil (EJ.next ?_)
  refine CJ.seq ?_
  refine CJ.region ?_
  refine OJ.pures tU_ok 1 rfl ?_
  obtain ⟨t1, ht1, H⟩ := pbind H
  refine OJ.callF rfl rfl rfl rfl rfl hb35 rfl (strconv_FormatInt.c _ a0 10 (hS.ro (i := 0) rfl) _ ht1) ?_
  rintro _ w1 ⟨rfl, hs⟩
  replace hS := hS.grow hs
  refine OJ.pures tU_ok 1 rfl ?_
  refine OJ.nil (EJ.next ?_)
  refine CJ.ret (?_)
  obtain rfl := Option.some.inj H
  exact EJ.fin rfl (.tmp rfl .nil) ⟨rfl, hS.ext⟩

def impl_Spot_text.f (a0 : Spot) : Option ByteArray := (impl_decimal.f (IntKind.i64.wrap a0.X)).bind fun t2 => (chk (t2.size + (⟨#[44]⟩ : ByteArray).size ≤ 4294967296)).bind fun u3 => (impl_decimal.f (IntKind.i64.wrap a0.Y)).bind fun t4 => (chk ((t2 ++ (⟨#[44]⟩ : ByteArray)).size + t4.size ≤ 4294967296)).bind fun u5 => some ((t2 ++ (⟨#[44]⟩ : ByteArray)) ++ t4)
theorem impl_Spot_text.c (w : World) (a0 : Spot) (hT : (tabC Tryd.prog).holds w) (r : ByteArray) (H : impl_Spot_text.f a0 = some r) :
    CV Tryd.prog 20 [.agg (cSpot.enc a0).toArray].toArray w fun v w' => v = .string r ∧ Ext w w' := by
  have hS := ((St.init w no).paramT (tabC Tryd.prog) hT)
  unfold impl_Spot_text.f at H
  refine CV.body Tryd.func20 rfl Tryd.ntmps20 rfl ?_
  refine CJ.seq ?_
  refine CJ.region ?_
  refine OJ.ef rfl rfl rfl (Ef.box hS rfl rfl (cSpot.enc a0) rfl) ?_
  rintro _ w1 ⟨b1, rfl, hS⟩
  refine OJ.pures tU_ok 1 rfl ?_
  refine OJ.nil (EJ.next ?_)
  refine CJ.seq ?_
  refine CJ.draw [] [0, 1, 2, 5, 6, 7, 3, 4, 8, 9, 10] mixed (by kernel_rfl) hS fun w1 hS => ?_
  refine DJ.st rfl rfl rfl rfl rfl (SR.fieldAddr tU_ok tI_ok rfl rfl rfl rfl rfl rfl) ?_
  refine DJ.st rfl rfl rfl rfl rfl (SR.load rfl rfl (fun w' hx => ld1 tU_ok rfl rfl (CA.ext (CA.sub (hS.cells (i := 0) rfl) 0) hx) rfl)) ?_
  refine DJ.pures tU_ok 1 rfl ?_
  refine DJ.st rfl rfl rfl rfl rfl (SR.fieldAddr tU_ok tI_ok rfl rfl rfl rfl rfl rfl) ?_
  refine DJ.st rfl rfl rfl rfl rfl (SR.load rfl rfl (fun w' hx => ld1 tU_ok rfl rfl (CA.ext (CA.sub (hS.cells (i := 0) rfl) 1) hx) rfl)) ?_
  refine DJ.pures tU_ok 1 rfl ?_
  obtain ⟨t2, ht2, H⟩ := pbind H
  refine DJ.callF rfl rfl rfl rfl rfl rfl rfl hb19 rfl (impl_decimal.c _ (IntKind.i64.wrap a0.X) (hS.ro (i := 0) rfl) _ ht2) (by rintro v w' ⟨rfl, hs⟩; exact hs) ?_
  rintro _ w1 ⟨rfl, hs⟩
  replace hS := hS.grow hs
  obtain ⟨u3, hu3, H⟩ := pbind H
  refine DJ.st rfl rfl rfl rfl rfl (SR.concat rfl rfl rfl (chk_some hu3)) ?_
  obtain ⟨t4, ht4, H⟩ := pbind H
  refine DJ.callF rfl rfl rfl rfl rfl rfl rfl hb19 rfl (impl_decimal.c _ (IntKind.i64.wrap a0.Y) (hS.ro (i := 0) rfl) _ ht4) (by rintro v w' ⟨rfl, hs⟩; exact hs) ?_
  rintro _ w1 ⟨rfl, hs⟩
  replace hS := hS.grow hs
  obtain ⟨u5, hu5, H⟩ := pbind H
  refine DJ.st rfl rfl rfl rfl rfl (SR.concat rfl rfl rfl (chk_some hu5)) ?_
  refine DJ.pures tU_ok 1 rfl ?_
  refine DJ.nil (EJ.next ?_)
  refine CJ.ret (?_)
  obtain rfl := Option.some.inj H
  exact EJ.fin rfl (.tmp rfl .nil) ⟨rfl, hS.ext⟩

def strings_Join.f (a0 : List ByteArray) (a1 : ByteArray) : Option (ByteArray × List ByteArray) := (chk (a0.length ≤ 4294967296 ∧ (joinB a0 a1).size ≤ 4294967296)).bind fun _ => some (joinB a0 a1, a0)
theorem strings_Join.c (w : World) (Aa0 : Option Addr) (ca0 : Nat) (a0 : List ByteArray) (a1 : ByteArray) (hin : St w (fpU [rowC G.cs Aa0 ca0 9 a0]) w [rowC G.cs Aa0 ca0 9 a0] []) (r : ByteArray × List ByteArray) (H : strings_Join.f a0 a1 = some r) :
    CV Tryd.prog 21 [.slice Aa0 a0.length ca0, .string a1].toArray w fun v w' => v = .string r.1 ∧ St w (fpU [rowC G.cs Aa0 ca0 9 a0]) w' [rowC G.cs Aa0 ca0 9 r.2] [] ∧ r.2.length = a0.length := by
  unfold strings_Join.f at H
  obtain ⟨u, hu, H⟩ := pbind H
  obtain rfl := Option.some.inj H
  exact join_cv hin (fun a c sep w => Any.strings_Join_none layJoin layExtra a c sep w) (fun bk o c xs sep w h1 h2 h3 h4 h5 => Any.strings_Join layJoin layExtra bk o c xs sep w h1 h2 h3 h4 h5) (chk_some hu).1 (chk_some hu).2

def impl_SightsText.l1 (a0 : List Sight) : Nat → (List ByteArray) → Int → Option (List ByteArray)
  | 0, _, _ => none
  | k + 1, y6, y9 => if y9 < (a0.length : Int) then ((getI a0 y9).bind fun t10 => (impl_decimal.f (IntKind.i64.wrap t10.Day)).bind fun t12 => (chk (t12.size + (⟨#[58]⟩ : ByteArray).size ≤ 4294967296)).bind fun u13 => (impl_Spot_text.f t10.At).bind fun t14 => (chk ((t12 ++ (⟨#[58]⟩ : ByteArray)).size + t14.size ≤ 4294967296)).bind fun u15 => (chk (y6.length + ([(t12 ++ (⟨#[58]⟩ : ByteArray)) ++ t14] : List ByteArray).length ≤ 4294967296)).bind fun u17 => impl_SightsText.l1 a0 k (y6 ++ ([(t12 ++ (⟨#[58]⟩ : ByteArray)) ++ t14] : List ByteArray)) (IntKind.i64.wrap (y9 + 1))) else (some y6)
def impl_SightsText.f (k : Nat) (a0 : List Sight) : Option ByteArray := (impl_Pasture_areSights.f k (⟨10, 10, (Arr.mk' (Arr.mk' 0 : Arr 10 Int) : Arr 10 (Arr 10 Int)), (Arr.mk' 0 : Arr 10 Int), (Arr.mk' 0 : Arr 10 Int)⟩ : Pasture) a0).bind fun t1 => if (!t1) = true then (some ByteArray.empty) else ((impl_SightsText.l1 a0 k ([] : List ByteArray) 0).bind fun y3 => (strings_Join.f y3 (⟨#[32]⟩ : ByteArray)).bind fun t20 => some t20.1)
theorem impl_SightsText.c (k : Nat) (w : World) (Aa0 : Option Addr) (ca0 : Nat) (a0 : List Sight) (hr0 : Rd cSight w Aa0 a0) (hc0 : a0.length ≤ ca0) (hT : (tabC Tryd.prog).holds w) (r : ByteArray) (H : impl_SightsText.f k a0 = some r) :
    CV Tryd.prog 8 [.slice Aa0 a0.length ca0].toArray w fun v w' => v = .string r ∧ Ext w w' := by
  have hS := (((St.init w no).param cSight Aa0 ca0 a0 hr0 hc0).paramT (tabC Tryd.prog) hT)
  unfold impl_SightsText.f at H
  refine CV.body Tryd.func8 rfl Tryd.ntmps8 rfl ?_
  refine CJ.seq ?_
  refine CJ.region ?_
  refine OJ.pures tU_ok 1 rfl ?_
  refine OJ.nil (EJ.next ?_)
  refine CJ.seq ?_
  refine CJ.seq ?_
  refine CJ.region ?_
  refine OJ.st rfl rfl rfl (SR.build (C := cPasture) tU_ok tI_ok rfl rfl rfl (zs := [.int .i8 0, .int .i8 0, .int .i16 0, .int .i16 0, .int .i16 0, .int .i16 0, .int .i16 0, .int .i16 0, .int .i16 0, .int .i16 0, .int .i16 0, .int .i16 0, .int .i16 0, .int .i16 0, .int .i16 0, .int .i16 0, .int .i16 0, .int .i16 0, .int .i16 0, .int .i16 0, .int .i16 0, .int .i16 0, .int .i16 0, .int .i16 0, .int .i16 0, .int .i16 0, .int .i16 0, .int .i16 0, .int .i16 0, .int .i16 0, .int .i16 0, .int .i16 0, .int .i16 0, .int .i16 0, .int .i16 0, .int .i16 0, .int .i16 0, .int .i16 0, .int .i16 0, .int .i16 0, .int .i16 0, .int .i16 0, .int .i16 0, .int .i16 0, .int .i16 0, .int .i16 0, .int .i16 0, .int .i16 0, .int .i16 0, .int .i16 0, .int .i16 0, .int .i16 0, .int .i16 0, .int .i16 0, .int .i16 0, .int .i16 0, .int .i16 0, .int .i16 0, .int .i16 0, .int .i16 0, .int .i16 0, .int .i16 0, .int .i16 0, .int .i16 0, .int .i16 0, .int .i16 0, .int .i16 0, .int .i16 0, .int .i16 0, .int .i16 0, .int .i16 0, .int .i16 0, .int .i16 0, .int .i16 0, .int .i16 0, .int .i16 0, .int .i16 0, .int .i16 0, .int .i16 0, .int .i16 0, .int .i16 0, .int .i16 0, .int .i16 0, .int .i16 0, .int .i16 0, .int .i16 0, .int .i16 0, .int .i16 0, .int .i16 0, .int .i16 0, .int .i16 0, .int .i16 0, .int .i16 0, .int .i16 0, .int .i16 0, .int .i16 0, .int .i16 0, .int .i16 0, .int .i16 0, .int .i16 0, .int .i16 0, .int .i16 0, .int .u16 0, .int .u16 0, .int .u16 0, .int .u16 0, .int .u16 0, .int .u16 0, .int .u16 0, .int .u16 0, .int .u16 0, .int .u16 0, .int .u16 0, .int .u16 0, .int .u16 0, .int .u16 0, .int .u16 0, .int .u16 0, .int .u16 0, .int .u16 0, .int .u16 0, .int .u16 0]) rfl rfl rfl (⟨10, 10, (Arr.mk' (Arr.mk' 0 : Arr 10 Int) : Arr 10 (Arr 10 Int)), (Arr.mk' 0 : Arr 10 Int), (Arr.mk' 0 : Arr 10 Int)⟩ : Pasture) rfl) ?_
  refine OJ.pures tU_ok 1 rfl ?_
  obtain ⟨t1, ht1, H⟩ := pbind H
  refine OJ.callF rfl rfl rfl rfl rfl hb18 rfl (impl_Pasture_areSights.c k _ (⟨10, 10, (Arr.mk' (Arr.mk' 0 : Arr 10 Int) : Arr 10 (Arr 10 Int)), (Arr.mk' 0 : Arr 10 Int), (Arr.mk' 0 : Arr 10 Int)⟩ : Pasture) Aa0 ca0 a0 (hS.rd' (i := 0) rfl) (hS.le' (i := 0) rfl) _ ht1) ?_
  rintro _ w1 ⟨rfl, hs⟩
  replace hS := hS.grow hs
  refine OJ.pures tU_ok 1 rfl ?_
  refine OJ.nil (EJ.next ?_)
  refine CJ.cond rfl (fun hb => ?_) (fun hb => ?_)
  · replace H := pif_t hb H
    refine CJ.seq ?_
    refine CJ.region ?_
    refine OJ.pures tU_ok 1 rfl ?_
    refine OJ.nil (EJ.next ?_)
    refine CJ.ret (EJ.skR (?_))
    obtain rfl := Option.some.inj H
    exact EJ.fin rfl (.tmp rfl .nil) ⟨rfl, hS.ext⟩
  · replace H := pifb_f hb H
    refine CJ.skip (EJ.next ?_)
    refine CJ.seq ?_
    refine CJ.region ?_
    refine OJ.ef rfl rfl rfl (Ef.lit tU_ok tI_ok hS (C := G.cs) rfl rfl rfl rfl rfl rfl ([] : List ByteArray) rfl rfl rfl rfl) ?_
    rintro _ w1 ⟨A2, rfl, hS⟩
    refine OJ.pures tU_ok 1 rfl ?_
    refine OJ.nil (EJ.next ?_)
    refine CJ.seq ?_
    refine CJ.seq ?_
    refine CJ.region ?_
    refine OJ.pures tU_ok 3 rfl ?_
    refine OJ.nil (EJ.next ?_)
    obtain ⟨j7, H, K7⟩ := pbind H
    refine CJ.cut1 (fun F w1 => ∃ (y3 : List ByteArray) (A4 : Option Addr) (c5 : Nat), (some y3 : Option (List ByteArray)) = some j7 ∧ F = [(3, .slice A4 y3.length c5)] ∧ St w no w1 [rowC G.cs A4 c5 9 y3] [roC cSight Aa0 ca0 a0, tabC Tryd.prog]) ?_ ?_
    · skip
      refine CJ.block ?_
      refine CJ.loop (fun k F w1 => ∃ (y6 : List ByteArray) (y9 : Int) (A7 : Option Addr) (c8 : Nat), F = [(3, .slice A7 y6.length c8), (11, .slice Aa0 a0.length ca0), (12, .int .i64 (a0.length : Int)), (13, .int .i64 y9)] ∧ St w no w1 [rowC G.cs A7 c8 9 y6] [roC cSight Aa0 ca0 a0, tabC Tryd.prog] ∧ impl_SightsText.l1 a0 k y6 y9 = some j7) k (F' := [(3, .slice A2 ([] : List ByteArray).length (([] : List ByteArray).length)), (11, .slice Aa0 a0.length ca0), (12, .int .i64 (a0.length : Int)), (13, .int .i64 0)]) ⟨rfl, rfl, rfl, rfl, trivial⟩ ⟨([] : List ByteArray), 0, A2, (([] : List ByteArray).length), rfl, hS.pick [0] [0, 1] rfl, H⟩ ?_
      rintro k F w1 ⟨y6, y9, A7, c8, rfl, hS, H⟩
      cases k with
      | zero => rw [impl_SightsText.l1] at H; cases H
      | succ k =>
        rw [impl_SightsText.l1] at H
        refine CJ.seq ?_
        refine CJ.region ?_
        refine OJ.pures tU_ok 1 rfl ?_
        refine OJ.nil (EJ.next ?_)
        refine CJ.seq ?_
        refine CJ.cond rfl (fun hb => ?_) (fun hb => ?_)
        · replace H := pif_t (of_decide_eq_true hb) H
          refine CJ.skip (EJ.next ?_)
          refine CJ.seq ?_
          refine CJ.block ?_
          refine CJ.seq ?_
          refine CJ.region ?_
          obtain ⟨t10, ht10, H⟩ := pbind H
          obtain ⟨ad10, e10⟩ := (hS.rd' (i := 0) rfl).some' ht10
          refine OJ.st rfl rfl rfl (SR.idxS tU_ok tI_ok rfl rfl rfl rfl e10 rfl (getI_some ht10).1) ?_
          refine OJ.st rfl rfl rfl (SR.load rfl rfl (fun w' hx => ldE tU_ok tI_ok rfl rfl rfl (CA.ext ((hS.rd' (i := 0) rfl).at_ e10 ht10) hx) rfl)) ?_
          refine OJ.ef rfl rfl rfl (Ef.alloc hS tI_ok rfl rfl (cSight.enc (⟨0, (⟨0, 0⟩ : Spot)⟩ : Sight)) rfl) ?_
          rintro _ w1 ⟨b11, rfl, hS⟩
          refine OJ.es rfl rfl (Es.store tI_ok hS (i := 1) rfl rfl rfl rfl rfl rfl (vs := cSight.enc t10) rfl (cSight.len _) (cSight.one _) (Nat.le_of_ble_eq_true rfl) (cSight.enc t10) rfl) ?_
          intro w1 hS
          refine OJ.nil (EJ.next ?_)
          refine CJ.draw [] [0, 1, 2, 3, 6, 7, 4, 5, 8, 9, 10, 11, 12] mixed (by kernel_rfl) hS fun w1 hS => ?_
          refine DJ.pures tU_ok 1 rfl ?_
          refine DJ.st rfl rfl rfl rfl rfl (SR.fieldAddr tU_ok tI_ok rfl rfl rfl rfl rfl rfl) ?_
          refine DJ.st rfl rfl rfl rfl rfl (SR.load rfl rfl (fun w' hx => ld1 tU_ok rfl rfl (CA.ext (CA.sub (hS.cells (i := 1) rfl) 0) hx) rfl)) ?_
          refine DJ.pures tU_ok 1 rfl ?_
          refine DJ.st rfl rfl rfl rfl rfl (SR.fieldAddr tU_ok tI_ok rfl rfl rfl rfl rfl rfl) ?_
          refine DJ.st rfl rfl rfl rfl rfl (SR.load rfl rfl (fun w' hx => ldN tU_ok tI_ok rfl rfl rfl (CA.ext (CA.sub (hS.cells (i := 1) rfl) 1) hx) (cSpot.len _) rfl)) ?_
          obtain ⟨t12, ht12, H⟩ := pbind H
          refine DJ.callF rfl rfl rfl rfl rfl rfl rfl hb19 rfl (impl_decimal.c _ (IntKind.i64.wrap t10.Day) (hS.ro (i := 1) rfl) _ ht12) (by rintro v w' ⟨rfl, hs⟩; exact hs) ?_
          rintro _ w1 ⟨rfl, hs⟩
          replace hS := hS.grow hs
          obtain ⟨u13, hu13, H⟩ := pbind H
          refine DJ.st rfl rfl rfl rfl rfl (SR.concat rfl rfl rfl (chk_some hu13)) ?_
          obtain ⟨t14, ht14, H⟩ := pbind H
          refine DJ.callF rfl rfl rfl rfl rfl rfl rfl hb20 rfl (impl_Spot_text.c _ t10.At (hS.ro (i := 1) rfl) _ ht14) (by rintro v w' ⟨rfl, hs⟩; exact hs) ?_
          rintro _ w1 ⟨rfl, hs⟩
          replace hS := hS.grow hs
          obtain ⟨u15, hu15, H⟩ := pbind H
          refine DJ.st rfl rfl rfl rfl rfl (SR.concat rfl rfl rfl (chk_some hu15)) ?_
          refine DJ.ef rfl rfl rfl rfl rfl (Ef.lit tU_ok tI_ok hS (C := G.cs) rfl rfl rfl rfl rfl rfl ([(t12 ++ (⟨#[58]⟩ : ByteArray)) ++ t14] : List ByteArray) rfl rfl rfl rfl) ?_
          rintro _ w1 ⟨A16, rfl, hS⟩
          obtain ⟨u17, hu17, H⟩ := pbind H
          refine DJ.ew rfl rfl rfl rfl rfl (Ew.append tU_ok tI_ok (C := G.cs) (xs := y6) (ys := ([(t12 ++ (⟨#[58]⟩ : ByteArray)) ++ t14] : List ByteArray)) hS (i := 0) rfl rfl rfl rfl rfl rfl rfl rfl rfl rfl rfl rfl rfl (hS.rd (i := 2) rfl) (chk_some hu17)) ?_
          rintro _ w1 ⟨A18, c19, rfl, hS⟩
          refine DJ.pures tU_ok 1 rfl ?_
          refine DJ.nil (EJ.blk (EJ.next ?_))
          refine CJ.region ?_
          refine OJ.pures tU_ok 2 rfl ?_
          refine OJ.nil ?_
          exact EJ.round k (F' := [(3, .slice A18 (y6 ++ ([(t12 ++ (⟨#[58]⟩ : ByteArray)) ++ t14] : List ByteArray)).length c19), (11, .slice Aa0 a0.length ca0), (12, .int .i64 (a0.length : Int)), (13, .int .i64 (IntKind.i64.wrap (y9 + 1)))]) ⟨rfl, rfl, rfl, rfl, trivial⟩ (Nat.lt_succ_self _) ⟨(y6 ++ ([(t12 ++ (⟨#[58]⟩ : ByteArray)) ++ t14] : List ByteArray)), (IntKind.i64.wrap (y9 + 1)), A18, c19, rfl, hS.pick [0] [0, 1] rfl, H⟩
        · replace H := pif_f (of_decide_eq_false hb) H
          refine CJ.exit (EJ.skE (EJ.skE (EJ.hit (?_))))
          exact EJ.meet (F' := [(3, .slice A7 y6.length c8)]) ⟨rfl, trivial⟩ ⟨y6, A7, c8, H, rfl, hS.pick [0] [0, 1] rfl⟩
    · rintro F w1 ⟨y3, A4, c5, he, rfl, hS⟩
      obtain rfl := Option.some.inj he
      have H := K7
      refine EJ.next ?_
      refine CJ.seq ?_
      refine CJ.region ?_
      refine OJ.pures tU_ok 1 rfl ?_
      obtain ⟨t20, ht20, H⟩ := pbind H
      refine OJ.callF rfl rfl rfl rfl rfl hb21 rfl (strings_Join.c _ A4 c5 y3 (⟨#[32]⟩ : ByteArray) ((hS.subs [0] [] [] rfl).pick [0] [] rfl) _ ht20) ?_
      rintro _ w1 ⟨rfl, hs, hlc0⟩
      replace hS := hS.back [0] rfl rfl [rowC G.cs A4 c5 9 t20.2] [] hs ⟨fun _ => Iff.rfl, trivial⟩
      refine OJ.as (t := 3) rfl (show _ = (.slice A4 t20.2.length c5 : Value) by simp only [hlc0]) ?_
      refine OJ.as (t := 30) rfl (show _ = (.slice A4 t20.2.length c5 : Value) by simp only [hlc0]) ?_
      refine OJ.pures tU_ok 1 rfl ?_
      refine OJ.nil (EJ.next ?_)
      refine CJ.ret (?_)
      obtain rfl := Option.some.inj H
      exact EJ.fin rfl (.tmp rfl .nil) ⟨rfl, hS.ext⟩

def laws_eqSpot.f (a0 : Spot) (a1 : Spot) : Option Bool := if a0.X ≠ a1.X then (some false) else (if a0.Y ≠ a1.Y then (some false) else (some true))
theorem laws_eqSpot.c (w : World) (a0 : Spot) (a1 : Spot) (r : Bool) (H : laws_eqSpot.f a0 a1 = some r) :
    CV Tryd.prog 39 [.agg (cSpot.enc a0).toArray, .agg (cSpot.enc a1).toArray].toArray w fun v w' => v = .bool r ∧ Ext w w' := by
  have hS := (St.init w no)
  unfold laws_eqSpot.f at H
  refine CV.body Tryd.func39 rfl Tryd.ntmps39 rfl ?_
  refine CJ.seq ?_
  refine CJ.region ?_
  refine OJ.ef rfl rfl rfl (Ef.box hS rfl rfl (cSpot.enc a0) rfl) ?_
  rintro _ w1 ⟨b1, rfl, hS⟩
  refine OJ.ef rfl rfl rfl (Ef.box hS rfl rfl (cSpot.enc a1) rfl) ?_
  rintro _ w1 ⟨b2, rfl, hS⟩
  refine OJ.pures tU_ok 1 rfl ?_
  refine OJ.nil (EJ.next ?_)
  refine CJ.seq ?_
  refine CJ.seq ?_
  refine CJ.region ?_
  refine OJ.st rfl rfl rfl (SR.fieldAddr tU_ok tI_ok rfl rfl rfl rfl rfl rfl) ?_
  refine OJ.st rfl rfl rfl (SR.load rfl rfl (fun w' hx => ld1 tU_ok rfl rfl (CA.ext (CA.sub (hS.cells (i := 0) rfl) 0) hx) rfl)) ?_
  refine OJ.st rfl rfl rfl (SR.fieldAddr tU_ok tI_ok rfl rfl rfl rfl rfl rfl) ?_
  refine OJ.st rfl rfl rfl (SR.load rfl rfl (fun w' hx => ld1 tU_ok rfl rfl (CA.ext (CA.sub (hS.cells (i := 1) rfl) 0) hx) rfl)) ?_
  refine OJ.pures tU_ok 1 rfl ?_
  refine OJ.nil (EJ.next ?_)
  refine CJ.cond rfl (fun hb => ?_) (fun hb => ?_)
  · replace H := pif_t (of_decide_eq_true hb) H
    refine CJ.seq ?_
    refine CJ.region ?_
    refine OJ.pures tU_ok 1 rfl ?_
    refine OJ.nil (EJ.next ?_)
    refine CJ.ret (EJ.skR (?_))
    obtain rfl := Option.some.inj H
    exact EJ.fin rfl (.tmp rfl .nil) ⟨rfl, hS.ext⟩
  · replace H := pif_f (of_decide_eq_false hb) H
    refine CJ.skip (EJ.next ?_)
    refine CJ.seq ?_
    refine CJ.seq ?_
    refine CJ.region ?_
    refine OJ.st rfl rfl rfl (SR.fieldAddr tU_ok tI_ok rfl rfl rfl rfl rfl rfl) ?_
    refine OJ.st rfl rfl rfl (SR.load rfl rfl (fun w' hx => ld1 tU_ok rfl rfl (CA.ext (CA.sub (hS.cells (i := 0) rfl) 1) hx) rfl)) ?_
    refine OJ.st rfl rfl rfl (SR.fieldAddr tU_ok tI_ok rfl rfl rfl rfl rfl rfl) ?_
    refine OJ.st rfl rfl rfl (SR.load rfl rfl (fun w' hx => ld1 tU_ok rfl rfl (CA.ext (CA.sub (hS.cells (i := 1) rfl) 1) hx) rfl)) ?_
    refine OJ.pures tU_ok 1 rfl ?_
    refine OJ.nil (EJ.next ?_)
    refine CJ.cond rfl (fun hb => ?_) (fun hb => ?_)
    · replace H := pif_t (of_decide_eq_true hb) H
      refine CJ.seq ?_
      refine CJ.region ?_
      refine OJ.pures tU_ok 1 rfl ?_
      refine OJ.nil (EJ.next ?_)
      refine CJ.ret (EJ.skR (?_))
      obtain rfl := Option.some.inj H
      exact EJ.fin rfl (.tmp rfl .nil) ⟨rfl, hS.ext⟩
    · replace H := pif_f (of_decide_eq_false hb) H
      refine CJ.skip (EJ.next ?_)
      refine CJ.seq ?_
      refine CJ.region ?_
      refine OJ.pures tU_ok 1 rfl ?_
      refine OJ.nil (EJ.next ?_)
      refine CJ.ret (?_)
      obtain rfl := Option.some.inj H
      exact EJ.fin rfl (.tmp rfl .nil) ⟨rfl, hS.ext⟩

def laws_eqSight.f (a0 : Sight) (a1 : Sight) : Option Bool := if a0.Day ≠ a1.Day then (some false) else ((laws_eqSpot.f a0.At a1.At).bind fun t3 => if (!t3) = true then (some false) else (some true))
theorem laws_eqSight.c (w : World) (a0 : Sight) (a1 : Sight) (r : Bool) (H : laws_eqSight.f a0 a1 = some r) :
    CV Tryd.prog 22 [.agg (cSight.enc a0).toArray, .agg (cSight.enc a1).toArray].toArray w fun v w' => v = .bool r ∧ Ext w w' := by
  have hS := (St.init w no)
  unfold laws_eqSight.f at H
  refine CV.body Tryd.func22 rfl Tryd.ntmps22 rfl ?_
  refine CJ.seq ?_
  refine CJ.region ?_
  refine OJ.ef rfl rfl rfl (Ef.box hS rfl rfl (cSight.enc a0) rfl) ?_
  rintro _ w1 ⟨b1, rfl, hS⟩
  refine OJ.ef rfl rfl rfl (Ef.box hS rfl rfl (cSight.enc a1) rfl) ?_
  rintro _ w1 ⟨b2, rfl, hS⟩
  refine OJ.pures tU_ok 1 rfl ?_
  refine OJ.nil (EJ.next ?_)
  refine CJ.seq ?_
  refine CJ.seq ?_
  refine CJ.region ?_
  refine OJ.st rfl rfl rfl (SR.fieldAddr tU_ok tI_ok rfl rfl rfl rfl rfl rfl) ?_
  refine OJ.st rfl rfl rfl (SR.load rfl rfl (fun w' hx => ld1 tU_ok rfl rfl (CA.ext (CA.sub (hS.cells (i := 0) rfl) 0) hx) rfl)) ?_
  refine OJ.st rfl rfl rfl (SR.fieldAddr tU_ok tI_ok rfl rfl rfl rfl rfl rfl) ?_
  refine OJ.st rfl rfl rfl (SR.load rfl rfl (fun w' hx => ld1 tU_ok rfl rfl (CA.ext (CA.sub (hS.cells (i := 1) rfl) 0) hx) rfl)) ?_
  refine OJ.pures tU_ok 1 rfl ?_
  refine OJ.nil (EJ.next ?_)
  refine CJ.cond rfl (fun hb => ?_) (fun hb => ?_)
  · replace H := pif_t (of_decide_eq_true hb) H
    refine CJ.seq ?_
    refine CJ.region ?_
    refine OJ.pures tU_ok 1 rfl ?_
    refine OJ.nil (EJ.next ?_)
    refine CJ.ret (EJ.skR (?_))
    obtain rfl := Option.some.inj H
    exact EJ.fin rfl (.tmp rfl .nil) ⟨rfl, hS.ext⟩
  · replace H := pif_f (of_decide_eq_false hb) H
    refine CJ.skip (EJ.next ?_)
    refine CJ.seq ?_
    refine CJ.seq ?_
    refine CJ.region ?_
    refine OJ.st rfl rfl rfl (SR.fieldAddr tU_ok tI_ok rfl rfl rfl rfl rfl rfl) ?_
    refine OJ.st rfl rfl rfl (SR.load rfl rfl (fun w' hx => ldN tU_ok tI_ok rfl rfl rfl (CA.ext (CA.sub (hS.cells (i := 0) rfl) 1) hx) (cSpot.len _) rfl)) ?_
    refine OJ.st rfl rfl rfl (SR.fieldAddr tU_ok tI_ok rfl rfl rfl rfl rfl rfl) ?_
    refine OJ.st rfl rfl rfl (SR.load rfl rfl (fun w' hx => ldN tU_ok tI_ok rfl rfl rfl (CA.ext (CA.sub (hS.cells (i := 1) rfl) 1) hx) (cSpot.len _) rfl)) ?_
    obtain ⟨t3, ht3, H⟩ := pbind H
    refine OJ.callF rfl rfl rfl rfl rfl hb39 rfl (laws_eqSpot.c _ a0.At a1.At _ ht3) ?_
    rintro _ w1 ⟨rfl, hs⟩
    replace hS := hS.grow hs
    refine OJ.pures tU_ok 1 rfl ?_
    refine OJ.nil (EJ.next ?_)
    refine CJ.cond rfl (fun hb => ?_) (fun hb => ?_)
    · replace H := pif_t hb H
      refine CJ.seq ?_
      refine CJ.region ?_
      refine OJ.pures tU_ok 1 rfl ?_
      refine OJ.nil (EJ.next ?_)
      refine CJ.ret (EJ.skR (?_))
      obtain rfl := Option.some.inj H
      exact EJ.fin rfl (.tmp rfl .nil) ⟨rfl, hS.ext⟩
    · replace H := pifb_f hb H
      refine CJ.skip (EJ.next ?_)
      refine CJ.seq ?_
      refine CJ.region ?_
      refine OJ.pures tU_ok 1 rfl ?_
      refine OJ.nil (EJ.next ?_)
      refine CJ.ret (?_)
      obtain rfl := Option.some.inj H
      exact EJ.fin rfl (.tmp rfl .nil) ⟨rfl, hS.ext⟩

def laws_eqSightS.l1 (a0 : List Sight) (a1 : List Sight) : Nat → Int → Option (Bool ⊕ Unit)
  | 0, _ => none
  | k + 1, y1 => if y1 < (a0.length : Int) then ((getI a0 y1).bind fun t2 => (getI a1 y1).bind fun t3 => (laws_eqSight.f t2 t3).bind fun t4 => if (!t4) = true then (some (Sum.inl false)) else (laws_eqSightS.l1 a0 a1 k (IntKind.i64.wrap (y1 + 1)))) else (some (Sum.inr ()))
def laws_eqSightS.f (k : Nat) (a0 : List Sight) (a1 : List Sight) : Option Bool := if (a0.length : Int) ≠ (a1.length : Int) then (some false) else ((laws_eqSightS.l1 a0 a1 k 0).bind fun s8 => match s8 with | .inl r => some r | .inr _ => some true)
theorem laws_eqSightS.c (k : Nat) (w : World) (Aa0 : Option Addr) (ca0 : Nat) (a0 : List Sight) (hr0 : Rd cSight w Aa0 a0) (hc0 : a0.length ≤ ca0) (Aa1 : Option Addr) (ca1 : Nat) (a1 : List Sight) (hr1 : Rd cSight w Aa1 a1) (hc1 : a1.length ≤ ca1) (r : Bool) (H : laws_eqSightS.f k a0 a1 = some r) :
    CV Tryd.prog 9 [.slice Aa0 a0.length ca0, .slice Aa1 a1.length ca1].toArray w fun v w' => v = .bool r ∧ Ext w w' := by
  have hS := (((St.init w no).param cSight Aa0 ca0 a0 hr0 hc0).param cSight Aa1 ca1 a1 hr1 hc1)
  unfold laws_eqSightS.f at H
  refine CV.body Tryd.func9 rfl Tryd.ntmps9 rfl ?_
  refine CJ.seq ?_
  refine CJ.region ?_
  refine OJ.pures tU_ok 1 rfl ?_
  refine OJ.nil (EJ.next ?_)
  refine CJ.seq ?_
  refine CJ.seq ?_
  refine CJ.region ?_
  refine OJ.pures tU_ok 5 rfl ?_
  refine OJ.nil (EJ.next ?_)
  refine CJ.cond rfl (fun hb => ?_) (fun hb => ?_)
  · replace H := pif_t (of_decide_eq_true hb) H
    refine CJ.seq ?_
    refine CJ.region ?_
    refine OJ.pures tU_ok 1 rfl ?_
    refine OJ.nil (EJ.next ?_)
    refine CJ.ret (EJ.skR (?_))
    obtain rfl := Option.some.inj H
    exact EJ.fin rfl (.tmp rfl .nil) ⟨rfl, hS.ext⟩
  · replace H := pif_f (of_decide_eq_false hb) H
    refine CJ.skip (EJ.next ?_)
    refine CJ.seq ?_
    refine CJ.seq ?_
    refine CJ.region ?_
    refine OJ.pures tU_ok 1 rfl ?_
    refine OJ.nil (EJ.next ?_)
    obtain ⟨j8, H, K8⟩ := pbind H
    refine CJ.cut1 (fun F w1 => (some (Sum.inr ()) : Option (Bool ⊕ Unit)) = some j8 ∧ F = [] ∧ St w no w1 [] [roC cSight Aa0 ca0 a0, roC cSight Aa1 ca1 a1]) ?_ ?_
    · skip
      refine CJ.block ?_
      refine CJ.loop (fun k F w1 => ∃ (y1 : Int), F = [(0, .slice Aa0 a0.length ca0), (1, .slice Aa1 a1.length ca1), (5, .int .i64 y1)] ∧ St w no w1 [] [roC cSight Aa0 ca0 a0, roC cSight Aa1 ca1 a1] ∧ laws_eqSightS.l1 a0 a1 k y1 = some j8) k (F' := [(0, .slice Aa0 a0.length ca0), (1, .slice Aa1 a1.length ca1), (5, .int .i64 0)]) ⟨rfl, rfl, rfl, trivial⟩ ⟨0, rfl, hS.pick [] [0, 1] rfl, H⟩ ?_
      rintro k F w1 ⟨y1, rfl, hS, H⟩
      cases k with
      | zero => rw [laws_eqSightS.l1] at H; cases H
      | succ k =>
        rw [laws_eqSightS.l1] at H
        refine CJ.seq ?_
        refine CJ.seq ?_
        refine CJ.region ?_
        refine OJ.pures tU_ok 4 rfl ?_
        refine OJ.nil (EJ.next ?_)
        refine CJ.cond rfl (fun hb => ?_) (fun hb => ?_)
        · replace H := pif_t (of_decide_eq_true hb) H
          refine CJ.skip (EJ.next ?_)
          refine CJ.seq ?_
          refine CJ.block ?_
          refine CJ.seq ?_
          refine CJ.draw [] [0, 1, 2, 3, 4, 5, 6, 7, 8, 9] mixed (by kernel_rfl) hS fun w1 hS => ?_
          refine DJ.pures tU_ok 2 rfl ?_
          obtain ⟨t2, ht2, H⟩ := pbind H
          obtain ⟨ad2, e2⟩ := (hS.rd' (i := 0) rfl).some' ht2
          refine DJ.st rfl rfl rfl rfl rfl (SR.idxS tU_ok tI_ok rfl rfl rfl rfl e2 rfl (getI_some ht2).1) ?_
          refine DJ.st rfl rfl rfl rfl rfl (SR.load rfl rfl (fun w' hx => ldE tU_ok tI_ok rfl rfl rfl (CA.ext ((hS.rd' (i := 0) rfl).at_ e2 ht2) hx) rfl)) ?_
          refine DJ.pures tU_ok 2 rfl ?_
          obtain ⟨t3, ht3, H⟩ := pbind H
          obtain ⟨ad3, e3⟩ := (hS.rd' (i := 1) rfl).some' ht3
          refine DJ.st rfl rfl rfl rfl rfl (SR.idxS tU_ok tI_ok rfl rfl rfl rfl e3 rfl (getI_some ht3).1) ?_
          refine DJ.st rfl rfl rfl rfl rfl (SR.load rfl rfl (fun w' hx => ldE tU_ok tI_ok rfl rfl rfl (CA.ext ((hS.rd' (i := 1) rfl).at_ e3 ht3) hx) rfl)) ?_
          obtain ⟨t4, ht4, H⟩ := pbind H
          refine DJ.callF rfl rfl rfl rfl rfl rfl rfl hb22 rfl (laws_eqSight.c _ t2 t3 _ ht4) (by rintro v w' ⟨rfl, hs⟩; exact hs) ?_
          rintro _ w1 ⟨rfl, hs⟩
          replace hS := hS.grow hs
          refine DJ.pures tU_ok 1 rfl ?_
          refine DJ.nil (EJ.next ?_)
          refine CJ.cond rfl (fun hb => ?_) (fun hb => ?_)
          · replace H := pif_t hb H
            refine CJ.seq ?_
            refine CJ.region ?_
            refine OJ.pures tU_ok 1 rfl ?_
            refine OJ.nil (EJ.next ?_)
            refine CJ.ret (EJ.bkR (EJ.skR (EJ.skR (EJ.bkR (EJ.skR (EJ.skR (?_)))))))
            first | (obtain rfl := Option.some.inj H; have H := K8) | (obtain ⟨q8, H2, e8⟩ := pbind H; obtain rfl := Option.some.inj e8; obtain rfl := Option.some.inj K8; have H := H2)
            obtain rfl := Option.some.inj H
            exact EJ.fin rfl (.tmp rfl .nil) ⟨rfl, hS.ext⟩
          · replace H := pifb_f hb H
            refine CJ.skip (EJ.blk (EJ.next ?_))
            refine CJ.region ?_
            refine OJ.pures tU_ok 3 rfl ?_
            refine OJ.nil ?_
            exact EJ.round k (F' := [(0, .slice Aa0 a0.length ca0), (1, .slice Aa1 a1.length ca1), (5, .int .i64 (IntKind.i64.wrap (y1 + 1)))]) ⟨rfl, rfl, rfl, trivial⟩ (Nat.lt_succ_self _) ⟨(IntKind.i64.wrap (y1 + 1)), rfl, hS.pick [] [0, 1] rfl, H⟩
        · replace H := pif_f (of_decide_eq_false hb) H
          refine CJ.exit (EJ.skE (EJ.skE (EJ.hit (?_))))
          exact EJ.meet (F' := []) trivial ⟨H, rfl, hS.pick [] [0, 1] rfl⟩
    · rintro F w1 ⟨he, rfl, hS⟩
      obtain rfl := Option.some.inj he
      have H := K8
      refine EJ.next ?_
      refine CJ.seq ?_
      refine CJ.region ?_
      refine OJ.pures tU_ok 1 rfl ?_
      refine OJ.nil (EJ.next ?_)
      refine CJ.ret (?_)
      obtain rfl := Option.some.inj H
      exact EJ.fin rfl (.tmp rfl .nil) ⟨rfl, hS.ext⟩

def laws_FnExactSightsText.f (k : Nat) (a0 : List Sight) : Option Bool := (laws_szSightS.f a0 1048576).bind fun t1 => if t1 < 0 then (some true) else ((laws_toSightS.f k a0).bind fun t2 => (spec_SightsText.f k t2).bind fun t5 => (laws_toSightS.f k a0).bind fun t6 => (impl_SightsText.f k t6).bind fun t9 => if t9 ≠ t5 then (some false) else ((laws_toSightS.f k a0).bind fun t10 => (laws_eqSightS.f k t6 t10).bind fun t13 => if (!t13) = true then (some false) else (some true)))
theorem laws_FnExactSightsText.c (k : Nat) (w : World) (Aa0 : Option Addr) (ca0 : Nat) (a0 : List Sight) (hr0 : Rd cSight w Aa0 a0) (hc0 : a0.length ≤ ca0) (hT : (tabC Tryd.prog).holds w) (r : Bool) (H : laws_FnExactSightsText.f k a0 = some r) :
    CV Tryd.prog 3 [.slice Aa0 a0.length ca0].toArray w fun v w' => v = .bool r ∧ Ext w w' := by
  have hS := (((St.init w no).param cSight Aa0 ca0 a0 hr0 hc0).paramT (tabC Tryd.prog) hT)
  unfold laws_FnExactSightsText.f at H
  refine CV.body Tryd.func3 rfl Tryd.ntmps3 rfl ?_
  refine CJ.seq ?_
  refine CJ.region ?_
  refine OJ.pures tU_ok 1 rfl ?_
  refine OJ.nil (EJ.next ?_)
  refine CJ.seq ?_
  refine CJ.region ?_
  refine OJ.pures tU_ok 1 rfl ?_
  refine OJ.nil (EJ.next ?_)
  refine CJ.seq ?_
  refine CJ.region ?_
  refine OJ.pures tU_ok 2 rfl ?_
  obtain ⟨t1, ht1, H⟩ := pbind H
  refine OJ.callF rfl rfl rfl rfl rfl hb5 rfl (laws_szSightS.c _ Aa0 ca0 a0 (hS.rd' (i := 0) rfl) (hS.le' (i := 0) rfl) 1048576 _ ht1) ?_
  rintro _ w1 ⟨rfl, hs⟩
  replace hS := hS.grow hs
  refine OJ.pures tU_ok 1 rfl ?_
  refine OJ.nil (EJ.next ?_)
  refine CJ.seq ?_
  refine CJ.seq ?_
  refine CJ.region ?_
  refine OJ.pures tU_ok 2 rfl ?_
  refine OJ.nil (EJ.next ?_)
  refine CJ.cond rfl (fun hb => ?_) (fun hb => ?_)
  · replace H := pif_t (of_decide_eq_true hb) H
    refine CJ.seq ?_
    refine CJ.region ?_
    refine OJ.pures tU_ok 1 rfl ?_
    refine OJ.nil (EJ.next ?_)
    refine CJ.ret (EJ.skR (?_))
    obtain rfl := Option.some.inj H
    exact EJ.fin rfl (.tmp rfl .nil) ⟨rfl, hS.ext⟩
  · replace H := pif_f (of_decide_eq_false hb) H
    refine CJ.skip (EJ.next ?_)
    refine CJ.seq ?_
    refine CJ.region ?_
    refine OJ.pures tU_ok 1 rfl ?_
    obtain ⟨t2, ht2, H⟩ := pbind H
    refine OJ.callF rfl rfl rfl rfl rfl hb7 rfl (laws_toSightS.c k _ Aa0 ca0 a0 (hS.rd' (i := 0) rfl) (hS.le' (i := 0) rfl) _ ht2) ?_
    rintro _ w1 ⟨A3, c4, rfl, hs⟩
    replace hS := hS.addN hs
    obtain ⟨t5, ht5, H⟩ := pbind H
    refine OJ.callF rfl rfl rfl rfl rfl hb6 rfl (spec_SightsText.c k _ A3 c4 t2 (hS.rd (i := 0) rfl) (hS.le (i := 0) rfl) _ ht5) ?_
    rintro _ w1 ⟨rfl, hs⟩
    replace hS := hS.grow hs
    refine OJ.pures tU_ok 1 rfl ?_
    refine OJ.nil (EJ.next ?_)
    refine CJ.seq ?_
    refine CJ.region ?_
    refine OJ.pures tU_ok 1 rfl ?_
    obtain ⟨t6, ht6, H⟩ := pbind H
    refine OJ.callF rfl rfl rfl rfl rfl hb7 rfl (laws_toSightS.c k _ Aa0 ca0 a0 (hS.rd' (i := 0) rfl) (hS.le' (i := 0) rfl) _ ht6) ?_
    rintro _ w1 ⟨A7, c8, rfl, hs⟩
    replace hS := hS.addN hs
    refine OJ.pures tU_ok 1 rfl ?_
    refine OJ.nil (EJ.next ?_)
    refine CJ.seq ?_
    refine CJ.region ?_
    refine OJ.pures tU_ok 1 rfl ?_
    obtain ⟨t9, ht9, H⟩ := pbind H
    refine OJ.callF rfl rfl rfl rfl rfl hb8 rfl (impl_SightsText.c k _ A7 c8 t6 (hS.rd (i := 1) rfl) (hS.le (i := 1) rfl) (hS.ro (i := 1) rfl) _ ht9) ?_
    rintro _ w1 ⟨rfl, hs⟩
    replace hS := hS.grow hs
    refine OJ.pures tU_ok 1 rfl ?_
    refine OJ.nil (EJ.next ?_)
    refine CJ.seq ?_
    refine CJ.seq ?_
    refine CJ.region ?_
    refine OJ.pures tU_ok 3 rfl ?_
    refine OJ.nil (EJ.next ?_)
    refine CJ.cond rfl (fun hb => ?_) (fun hb => ?_)
    · replace H := pif_t (of_decide_eq_true hb) H
      refine CJ.seq ?_
      refine CJ.region ?_
      refine OJ.pures tU_ok 1 rfl ?_
      refine OJ.nil (EJ.next ?_)
      refine CJ.ret (EJ.skR (?_))
      obtain rfl := Option.some.inj H
      exact EJ.fin rfl (.tmp rfl .nil) ⟨rfl, hS.ext⟩
    · replace H := pif_f (of_decide_eq_false hb) H
      refine CJ.skip (EJ.next ?_)
      refine CJ.seq ?_
      refine CJ.seq ?_
      refine CJ.region ?_
      refine OJ.pures tU_ok 2 rfl ?_
      obtain ⟨t10, ht10, H⟩ := pbind H
      refine OJ.callF rfl rfl rfl rfl rfl hb7 rfl (laws_toSightS.c k _ Aa0 ca0 a0 (hS.rd' (i := 0) rfl) (hS.le' (i := 0) rfl) _ ht10) ?_
      rintro _ w1 ⟨A11, c12, rfl, hs⟩
      replace hS := hS.addN hs
      obtain ⟨t13, ht13, H⟩ := pbind H
      refine OJ.callF rfl rfl rfl rfl rfl hb9 rfl (laws_eqSightS.c k _ A7 c8 t6 (hS.rd (i := 1) rfl) (hS.le (i := 1) rfl) A11 c12 t10 (hS.rd (i := 2) rfl) (hS.le (i := 2) rfl) _ ht13) ?_
      rintro _ w1 ⟨rfl, hs⟩
      replace hS := hS.grow hs
      refine OJ.pures tU_ok 1 rfl ?_
      refine OJ.nil (EJ.next ?_)
      refine CJ.cond rfl (fun hb => ?_) (fun hb => ?_)
      · replace H := pif_t hb H
        refine CJ.seq ?_
        refine CJ.region ?_
        refine OJ.pures tU_ok 1 rfl ?_
        refine OJ.nil (EJ.next ?_)
        refine CJ.ret (EJ.skR (?_))
        obtain rfl := Option.some.inj H
        exact EJ.fin rfl (.tmp rfl .nil) ⟨rfl, hS.ext⟩
      · replace H := pifb_f hb H
        refine CJ.skip (EJ.next ?_)
        refine CJ.seq ?_
        refine CJ.region ?_
        refine OJ.pures tU_ok 1 rfl ?_
        refine OJ.nil (EJ.next ?_)
        refine CJ.ret (?_)
        obtain rfl := Option.some.inj H
        exact EJ.fin rfl (.tmp rfl .nil) ⟨rfl, hS.ext⟩
end Go.Proofs.YtggfhhmfhhkdpaaDoor
