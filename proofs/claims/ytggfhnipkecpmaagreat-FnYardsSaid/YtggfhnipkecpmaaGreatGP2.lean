/-
  What the functions come to.
-/
import Derived.Test.YtggfhnipkecpmaaGreatGP1
namespace Go.Proofs.YtggfhnipkecpmaaGreat
open G
set_option linter.unusedVariables false
set_option linter.unusedSimpArgs false
set_option maxRecDepth 100000
set_option maxHeartbeats 4000000
def spec_P6Spot.f (a0 : List Int) (a1 : Pasture) : Option Spot := (spec_l00From.f a0).bind fun t3 => (spec_l00Src_pick.f (⟨a0, t3.at_, t3.seed⟩ : l00Src) (IntKind.i64.wrap a1.Wide)).bind fun t5 => (spec_l00Src_pick.f (⟨a0, t5.2.at_, t5.2.seed⟩ : l00Src) (IntKind.i64.wrap a1.High)).bind fun t6 => some (⟨IntKind.i8.wrap t5.1, IntKind.i8.wrap t6.1⟩ : Spot)
theorem spec_P6Spot.c (w : World) (Aa0 : Option Addr) (ca0 : Nat) (a0 : List Int) (hr0 : Rd (ci .u8) w Aa0 a0) (hc0 : a0.length ≤ ca0) (a1 : Pasture) (r : Spot) (H : spec_P6Spot.f a0 a1 = some r) :
    CV Tryz.prog 19 [.slice Aa0 a0.length ca0, .agg (cPasture.enc a1).toArray].toArray w fun v w' => v = .agg (cSpot.enc r).toArray ∧ Ext w w' := by
  have hS := ((St.init w no).param (ci .u8) Aa0 ca0 a0 hr0 hc0)
  unfold spec_P6Spot.f at H
  refine CV.body Tryz.func19 rfl Tryz.ntmps19 rfl ?_
  refine CJ.seq ?_
  refine CJ.region ?_
  refine OJ.ef rfl rfl rfl (Ef.box hS rfl rfl (cPasture.enc a1) rfl) ?_
  rintro _ w1 ⟨b1, rfl, hS⟩
  refine OJ.ef rfl rfl rfl (Ef.alloc hS tI_ok rfl rfl (cSpot.enc (⟨0, 0⟩ : Spot)) rfl) ?_
  rintro _ w1 ⟨b2, rfl, hS⟩
  refine OJ.nil (EJ.next ?_)
  refine CJ.seq ?_
  refine CJ.region ?_
  refine OJ.pures tU_ok 1 rfl ?_
  obtain ⟨t3, ht3, H⟩ := pbind H
  refine OJ.callF rfl rfl rfl rfl rfl hb28 rfl (spec_l00From.c _ Aa0 ca0 a0 (hS.rd' (i := 0) rfl) (hS.le' (i := 0) rfl) _ ht3) ?_
  rintro _ w1 ⟨b4, rfl, hs⟩
  replace hS := hS.addN hs
  refine OJ.pures tU_ok 1 rfl ?_
  refine OJ.nil (EJ.next ?_)
  refine CJ.seq ?_
  refine CJ.region ?_
  refine OJ.pures tU_ok 1 rfl ?_
  refine OJ.st rfl rfl rfl (SR.fieldAddr tU_ok tI_ok rfl rfl rfl rfl rfl rfl) ?_
  refine OJ.st rfl rfl rfl (SR.load rfl rfl (fun w' hx => ld1 tU_ok rfl rfl (CA.ext (CA.fld (hS.cells (i := 0) rfl) (mid_part (fe_Pasture_0 _) (fl_Pasture_0 _) ((ci .i8).len _))) hx) rfl)) ?_
  refine OJ.pures tU_ok 1 rfl ?_
  obtain ⟨t5, ht5, H⟩ := pbind H
  refine OJ.callF rfl rfl rfl rfl rfl hb45 rfl (spec_l00Src_pick.c _ Aa0 ca0 (⟨a0, t3.at_, t3.seed⟩ : l00Src) b4 (IntKind.i64.wrap a1.Wide) ((hS.subs [2] [0] [] rfl).pick [0] [0] rfl) _ ht5) ?_
  rintro _ w1 ⟨rfl, hs⟩
  replace hS := hS.back [2] rfl rfl [box b4 ([.slice Aa0 a0.length ca0, .int .i64 t5.2.at_, .int .u64 t5.2.seed]) 95] [] hs ⟨fun _ => Iff.rfl, trivial⟩
  refine OJ.pures tU_ok 1 rfl ?_
  refine OJ.nil (EJ.next ?_)
  refine CJ.seq ?_
  refine CJ.region ?_
  refine OJ.pures tU_ok 3 rfl ?_
  refine OJ.st rfl rfl rfl (SR.fieldAddr tU_ok tI_ok rfl rfl rfl rfl rfl rfl) ?_
  refine OJ.st rfl rfl rfl (SR.load rfl rfl (fun w' hx => ld1 tU_ok rfl rfl (CA.ext (CA.fld (hS.cells (i := 0) rfl) (mid_part (fe_Pasture_1 _) (fl_Pasture_1 _) ((ci .i8).len _))) hx) rfl)) ?_
  refine OJ.pures tU_ok 1 rfl ?_
  obtain ⟨t6, ht6, H⟩ := pbind H
  refine OJ.callF rfl rfl rfl rfl rfl hb45 rfl (spec_l00Src_pick.c _ Aa0 ca0 (⟨a0, t5.2.at_, t5.2.seed⟩ : l00Src) b4 (IntKind.i64.wrap a1.High) ((hS.subs [2] [0] [] rfl).pick [0] [0] rfl) _ ht6) ?_
  rintro _ w1 ⟨rfl, hs⟩
  replace hS := hS.back [2] rfl rfl [box b4 ([.slice Aa0 a0.length ca0, .int .i64 t6.2.at_, .int .u64 t6.2.seed]) 95] [] hs ⟨fun _ => Iff.rfl, trivial⟩
  refine OJ.pures tU_ok 1 rfl ?_
  refine OJ.st rfl rfl rfl (SR.build (C := cSpot) tU_ok tI_ok rfl rfl rfl (zs := [.int .i8 0, .int .i8 0]) rfl rfl rfl (⟨IntKind.i8.wrap t5.1, IntKind.i8.wrap t6.1⟩ : Spot) rfl) ?_
  refine OJ.es rfl rfl (Es.store tI_ok hS (i := 1) rfl rfl rfl rfl rfl rfl (vs := cSpot.enc (⟨IntKind.i8.wrap t5.1, IntKind.i8.wrap t6.1⟩ : Spot)) rfl (cSpot.len _) (cSpot.one _) (Nat.le_of_ble_eq_true rfl) (cSpot.enc (⟨IntKind.i8.wrap t5.1, IntKind.i8.wrap t6.1⟩ : Spot)) rfl) ?_
  intro w1 hS
  refine OJ.nil (EJ.next ?_)
  refine CJ.ret (?_)
  obtain rfl := Option.some.inj H
  exact EJ.fin rfl (.cell rfl (ldE tU_ok tI_ok rfl rfl rfl (hS.cells (i := 1) rfl) rfl) .nil) ⟨rfl, hS.ext⟩

def impl_SameYard.f (k : Nat) (a0 : Pasture) (a1 : Spot) (a2 : Spot) : Option (Bool × Int) := (impl_cellCode.f k a0 ([a1, a2] : List Spot)).bind fun t5 => if t5 ≠ 0 then (some (false, t5)) else ((impl_Pasture_far.f k a0 ([a1] : List Spot)).bind fun t7 => (impl_steps_at.f t7 a2).bind fun t9 => some (decide (0 ≤ t9), 0))
theorem impl_SameYard.c (k : Nat) (w : World) (a0 : Pasture) (a1 : Spot) (a2 : Spot) (r : Bool × Int) (H : impl_SameYard.f k a0 a1 a2 = some r) :
    CV Tryz.prog 20 [.agg (cPasture.enc a0).toArray, .agg (cSpot.enc a1).toArray, .agg (cSpot.enc a2).toArray].toArray w fun v w' => v = .tuple #[.bool r.1, .int .i64 r.2] ∧ Ext w w' := by
  have hS := (St.init w no)
  unfold impl_SameYard.f at H
  refine CV.body Tryz.func20 rfl Tryz.ntmps20 rfl ?_
  refine CJ.seq ?_
  refine CJ.region ?_
  refine OJ.ef rfl rfl rfl (Ef.box hS rfl rfl (cPasture.enc a0) rfl) ?_
  rintro _ w1 ⟨b1, rfl, hS⟩
  refine OJ.ef rfl rfl rfl (Ef.box hS rfl rfl (cSpot.enc a1) rfl) ?_
  rintro _ w1 ⟨b2, rfl, hS⟩
  refine OJ.ef rfl rfl rfl (Ef.box hS rfl rfl (cSpot.enc a2) rfl) ?_
  rintro _ w1 ⟨b3, rfl, hS⟩
  refine OJ.pures tU_ok 2 rfl ?_
  refine OJ.nil (EJ.next ?_)
  refine CJ.seq ?_
  refine CJ.seq ?_
  refine CJ.region ?_
  refine OJ.st rfl rfl rfl (SR.load rfl rfl (fun w' hx => ldE tU_ok tI_ok rfl rfl rfl (CA.ext (hS.cells (i := 0) rfl) hx) rfl)) ?_
  refine OJ.st rfl rfl rfl (SR.load rfl rfl (fun w' hx => ldE tU_ok tI_ok rfl rfl rfl (CA.ext (hS.cells (i := 1) rfl) hx) rfl)) ?_
  refine OJ.st rfl rfl rfl (SR.load rfl rfl (fun w' hx => ldE tU_ok tI_ok rfl rfl rfl (CA.ext (hS.cells (i := 2) rfl) hx) rfl)) ?_
  refine OJ.ef rfl rfl rfl (Ef.lit tU_ok tI_ok hS (C := cSpot) rfl rfl rfl rfl rfl rfl ([a1, a2] : List Spot) rfl rfl rfl rfl) ?_
  rintro _ w1 ⟨A4, rfl, hS⟩
  obtain ⟨t5, ht5, H⟩ := pbind H
  refine OJ.callF rfl rfl rfl rfl rfl hb39 rfl (impl_cellCode.c k _ a0 A4 (([a1, a2] : List Spot).length) ([a1, a2] : List Spot) (hS.rd (i := 3) rfl) (hS.le (i := 3) rfl) _ ht5) ?_
  rintro _ w1 ⟨rfl, hs⟩
  replace hS := hS.grow hs
  refine OJ.pures tU_ok 1 rfl ?_
  refine OJ.nil (EJ.next ?_)
  refine CJ.seq ?_
  refine CJ.region ?_
  refine OJ.pures tU_ok 2 rfl ?_
  refine OJ.nil (EJ.next ?_)
  refine CJ.cond rfl (fun hb => ?_) (fun hb => ?_)
  · replace H := pif_t (of_decide_eq_true hb) H
    refine CJ.seq ?_
    refine CJ.region ?_
    refine OJ.pures tU_ok 3 rfl ?_
    refine OJ.nil (EJ.next ?_)
    refine CJ.ret (EJ.skR (?_))
    obtain rfl := Option.some.inj H
    exact EJ.fin rfl (.tmp rfl (.tmp rfl .nil)) ⟨rfl, hS.ext⟩
  · replace H := pif_f (of_decide_eq_false hb) H
    refine CJ.skip (EJ.next ?_)
    refine CJ.seq ?_
    refine CJ.region ?_
    refine OJ.st rfl rfl rfl (SR.load rfl rfl (fun w' hx => ldE tU_ok tI_ok rfl rfl rfl (CA.ext (hS.cells (i := 0) rfl) hx) rfl)) ?_
    refine OJ.st rfl rfl rfl (SR.load rfl rfl (fun w' hx => ldE tU_ok tI_ok rfl rfl rfl (CA.ext (hS.cells (i := 1) rfl) hx) rfl)) ?_
    refine OJ.ef rfl rfl rfl (Ef.lit tU_ok tI_ok hS (C := cSpot) rfl rfl rfl rfl rfl rfl ([a1] : List Spot) rfl rfl rfl rfl) ?_
    rintro _ w1 ⟨A6, rfl, hS⟩
    obtain ⟨t7, ht7, H⟩ := pbind H
    refine OJ.callF rfl rfl rfl rfl rfl hb46 rfl (impl_Pasture_far.c k _ a0 A6 (([a1] : List Spot).length) ([a1] : List Spot) (hS.rd (i := 4) rfl) (hS.le (i := 4) rfl) _ ht7) ?_
    rintro _ w1 ⟨rfl, hs⟩
    replace hS := hS.grow hs
    refine OJ.ef rfl rfl rfl (Ef.alloc hS tI_ok rfl rfl ((carr 10 (carr 10 (ci .i16))).enc (Arr.mk' (Arr.mk' 0 : Arr 10 Int) : Arr 10 (Arr 10 Int))) (by kernel_rfl)) ?_
    rintro _ w1 ⟨b8, rfl, hS⟩
    refine OJ.es rfl rfl (Es.put tI_ok hS (i := 5) rfl rfl rfl rfl rfl (vs := (carr 10 (carr 10 (ci .i16))).enc t7) rfl ((carr 10 (carr 10 (ci .i16))).len _) ((carr 10 (carr 10 (ci .i16))).one _) (Put.all (carr 10 (carr 10 (ci .i16))) (Arr.mk' (Arr.mk' 0 : Arr 10 Int) : Arr 10 (Arr 10 Int)) t7) (by (try simp only [add_lit, Nat.add_assoc, Nat.zero_add, Nat.add_zero]) <;> rfl)) ?_
    intro w1 hS
    refine OJ.nil (EJ.next ?_)
    refine CJ.seq ?_
    refine CJ.region ?_
    refine OJ.st rfl rfl rfl (SR.load rfl rfl (fun w' hx => ldE tU_ok tI_ok rfl rfl rfl (CA.ext (hS.cells (i := 2) rfl) hx) rfl)) ?_
    obtain ⟨t9, ht9, H⟩ := pbind H
    refine OJ.callF rfl rfl rfl rfl rfl hb47 rfl (impl_steps_at.c _ _ t7 (hS.cells (i := 5) rfl) a2 _ ht9) ?_
    rintro _ w1 ⟨rfl, hs⟩
    replace hS := hS.grow hs
    refine OJ.pures tU_ok 3 rfl ?_
    refine OJ.nil (EJ.next ?_)
    refine CJ.ret (?_)
    obtain rfl := Option.some.inj H
    exact EJ.fin rfl (.tmp rfl (.tmp rfl .nil)) ⟨rfl, hS.ext⟩

def impl_StepsBetween.f (k : Nat) (a0 : Pasture) (a1 : Spot) (a2 : Spot) : Option (Int × Int) := (impl_cellCode.f k a0 ([a1, a2] : List Spot)).bind fun t5 => if t5 ≠ 0 then (some (0, t5)) else ((impl_Pasture_far.f k a0 ([a1] : List Spot)).bind fun t7 => (impl_steps_at.f t7 a2).bind fun t9 => if t9 < 0 then (some (0, 6)) else ((impl_steps_at.f t7 a2).bind fun t10 => some (t10, 0)))
theorem impl_StepsBetween.c (k : Nat) (w : World) (a0 : Pasture) (a1 : Spot) (a2 : Spot) (r : Int × Int) (H : impl_StepsBetween.f k a0 a1 a2 = some r) :
    CV Tryz.prog 21 [.agg (cPasture.enc a0).toArray, .agg (cSpot.enc a1).toArray, .agg (cSpot.enc a2).toArray].toArray w fun v w' => v = .tuple #[.int .i64 r.1, .int .i64 r.2] ∧ Ext w w' := by
  have hS := (St.init w no)
  unfold impl_StepsBetween.f at H
  refine CV.body Tryz.func21 rfl Tryz.ntmps21 rfl ?_
  refine CJ.seq ?_
  refine CJ.region ?_
  refine OJ.ef rfl rfl rfl (Ef.box hS rfl rfl (cPasture.enc a0) rfl) ?_
  rintro _ w1 ⟨b1, rfl, hS⟩
  refine OJ.ef rfl rfl rfl (Ef.box hS rfl rfl (cSpot.enc a1) rfl) ?_
  rintro _ w1 ⟨b2, rfl, hS⟩
  refine OJ.ef rfl rfl rfl (Ef.box hS rfl rfl (cSpot.enc a2) rfl) ?_
  rintro _ w1 ⟨b3, rfl, hS⟩
  refine OJ.pures tU_ok 2 rfl ?_
  refine OJ.nil (EJ.next ?_)
  refine CJ.seq ?_
  refine CJ.seq ?_
  refine CJ.region ?_
  refine OJ.st rfl rfl rfl (SR.load rfl rfl (fun w' hx => ldE tU_ok tI_ok rfl rfl rfl (CA.ext (hS.cells (i := 0) rfl) hx) rfl)) ?_
  refine OJ.st rfl rfl rfl (SR.load rfl rfl (fun w' hx => ldE tU_ok tI_ok rfl rfl rfl (CA.ext (hS.cells (i := 1) rfl) hx) rfl)) ?_
  refine OJ.st rfl rfl rfl (SR.load rfl rfl (fun w' hx => ldE tU_ok tI_ok rfl rfl rfl (CA.ext (hS.cells (i := 2) rfl) hx) rfl)) ?_
  refine OJ.ef rfl rfl rfl (Ef.lit tU_ok tI_ok hS (C := cSpot) rfl rfl rfl rfl rfl rfl ([a1, a2] : List Spot) rfl rfl rfl rfl) ?_
  rintro _ w1 ⟨A4, rfl, hS⟩
  obtain ⟨t5, ht5, H⟩ := pbind H
  refine OJ.callF rfl rfl rfl rfl rfl hb39 rfl (impl_cellCode.c k _ a0 A4 (([a1, a2] : List Spot).length) ([a1, a2] : List Spot) (hS.rd (i := 3) rfl) (hS.le (i := 3) rfl) _ ht5) ?_
  rintro _ w1 ⟨rfl, hs⟩
  replace hS := hS.grow hs
  refine OJ.pures tU_ok 1 rfl ?_
  refine OJ.nil (EJ.next ?_)
  refine CJ.seq ?_
  refine CJ.region ?_
  refine OJ.pures tU_ok 2 rfl ?_
  refine OJ.nil (EJ.next ?_)
  refine CJ.cond rfl (fun hb => ?_) (fun hb => ?_)
  · replace H := pif_t (of_decide_eq_true hb) H
    refine CJ.seq ?_
    refine CJ.region ?_
    refine OJ.pures tU_ok 3 rfl ?_
    refine OJ.nil (EJ.next ?_)
    refine CJ.ret (EJ.skR (?_))
    obtain rfl := Option.some.inj H
    exact EJ.fin rfl (.tmp rfl (.tmp rfl .nil)) ⟨rfl, hS.ext⟩
  · replace H := pif_f (of_decide_eq_false hb) H
    refine CJ.skip (EJ.next ?_)
    refine CJ.seq ?_
    refine CJ.region ?_
    refine OJ.st rfl rfl rfl (SR.load rfl rfl (fun w' hx => ldE tU_ok tI_ok rfl rfl rfl (CA.ext (hS.cells (i := 0) rfl) hx) rfl)) ?_
    refine OJ.st rfl rfl rfl (SR.load rfl rfl (fun w' hx => ldE tU_ok tI_ok rfl rfl rfl (CA.ext (hS.cells (i := 1) rfl) hx) rfl)) ?_
    refine OJ.ef rfl rfl rfl (Ef.lit tU_ok tI_ok hS (C := cSpot) rfl rfl rfl rfl rfl rfl ([a1] : List Spot) rfl rfl rfl rfl) ?_
    rintro _ w1 ⟨A6, rfl, hS⟩
    obtain ⟨t7, ht7, H⟩ := pbind H
    refine OJ.callF rfl rfl rfl rfl rfl hb46 rfl (impl_Pasture_far.c k _ a0 A6 (([a1] : List Spot).length) ([a1] : List Spot) (hS.rd (i := 4) rfl) (hS.le (i := 4) rfl) _ ht7) ?_
    rintro _ w1 ⟨rfl, hs⟩
    replace hS := hS.grow hs
    refine OJ.ef rfl rfl rfl (Ef.alloc hS tI_ok rfl rfl ((carr 10 (carr 10 (ci .i16))).enc (Arr.mk' (Arr.mk' 0 : Arr 10 Int) : Arr 10 (Arr 10 Int))) (by kernel_rfl)) ?_
    rintro _ w1 ⟨b8, rfl, hS⟩
    refine OJ.es rfl rfl (Es.put tI_ok hS (i := 5) rfl rfl rfl rfl rfl (vs := (carr 10 (carr 10 (ci .i16))).enc t7) rfl ((carr 10 (carr 10 (ci .i16))).len _) ((carr 10 (carr 10 (ci .i16))).one _) (Put.all (carr 10 (carr 10 (ci .i16))) (Arr.mk' (Arr.mk' 0 : Arr 10 Int) : Arr 10 (Arr 10 Int)) t7) (by (try simp only [add_lit, Nat.add_assoc, Nat.zero_add, Nat.add_zero]) <;> rfl)) ?_
    intro w1 hS
    refine OJ.nil (EJ.next ?_)
    refine CJ.seq ?_
    refine CJ.seq ?_
    refine CJ.region ?_
    refine OJ.st rfl rfl rfl (SR.load rfl rfl (fun w' hx => ldE tU_ok tI_ok rfl rfl rfl (CA.ext (hS.cells (i := 2) rfl) hx) rfl)) ?_
    obtain ⟨t9, ht9, H⟩ := pbind H
    refine OJ.callF rfl rfl rfl rfl rfl hb47 rfl (impl_steps_at.c _ _ t7 (hS.cells (i := 5) rfl) a2 _ ht9) ?_
    rintro _ w1 ⟨rfl, hs⟩
    replace hS := hS.grow hs
    refine OJ.pures tU_ok 1 rfl ?_
    refine OJ.nil (EJ.next ?_)
    refine CJ.cond rfl (fun hb => ?_) (fun hb => ?_)
    · replace H := pif_t (of_decide_eq_true hb) H
      refine CJ.seq ?_
      refine CJ.region ?_
      refine OJ.pures tU_ok 2 rfl ?_
      refine OJ.nil (EJ.next ?_)
      refine CJ.ret (EJ.skR (?_))
      obtain rfl := Option.some.inj H
      exact EJ.fin rfl (.tmp rfl (.tmp rfl .nil)) ⟨rfl, hS.ext⟩
    · replace H := pif_f (of_decide_eq_false hb) H
      refine CJ.skip (EJ.next ?_)
      refine CJ.seq ?_
      refine CJ.region ?_
      refine OJ.st rfl rfl rfl (SR.load rfl rfl (fun w' hx => ldE tU_ok tI_ok rfl rfl rfl (CA.ext (hS.cells (i := 2) rfl) hx) rfl)) ?_
      obtain ⟨t10, ht10, H⟩ := pbind H
      refine OJ.callF rfl rfl rfl rfl rfl hb47 rfl (impl_steps_at.c _ _ t7 (hS.cells (i := 5) rfl) a2 _ ht10) ?_
      rintro _ w1 ⟨rfl, hs⟩
      replace hS := hS.grow hs
      refine OJ.pures tU_ok 2 rfl ?_
      refine OJ.nil (EJ.next ?_)
      refine CJ.ret (?_)
      obtain rfl := Option.some.inj H
      exact EJ.fin rfl (.tmp rfl (.tmp rfl .nil)) ⟨rfl, hS.ext⟩

def impl_Pasture_beside.l1 (a0 : Pasture) (a1 : Spot) : Nat → (List Spot) → Int → Option (List Spot)
  | 0, _, _ => none
  | k + 1, y7, y10 => if y10 < 4 then ((impl_Pasture_canGo.f a0 a1 y10).bind fun t11 => if t11 = true then ((impl_Spot_ahead.f a1 y10).bind fun t12 => (chk (y7.length + ([t12] : List Spot).length ≤ 4294967296)).bind fun u14 => impl_Pasture_beside.l1 a0 a1 k (y7 ++ ([t12] : List Spot)) (IntKind.i64.wrap (y10 + 1))) else (impl_Pasture_beside.l1 a0 a1 k y7 (IntKind.i64.wrap (y10 + 1)))) else (some y7)
def impl_Pasture_beside.f (k : Nat) (a0 : Pasture) (a1 : Spot) : Option (List Spot) := (impl_Pasture_beside.l1 a0 a1 k ([] : List Spot) 0).bind fun y4 => some y4
theorem impl_Pasture_beside.c (k : Nat) (w : World) (a0 : Pasture) (a1 : Spot) (r : List Spot) (H : impl_Pasture_beside.f k a0 a1 = some r) :
    CV Tryz.prog 53 [.agg (cPasture.enc a0).toArray, .agg (cSpot.enc a1).toArray].toArray w fun v w' => ∃ (A0 : Option Addr) (c0 : Nat), v = .slice A0 r.length c0 ∧ St w no w' [rowC cSpot A0 c0 46 r] [] := by
  have hS := (St.init w no)
  unfold impl_Pasture_beside.f at H
  refine CV.body Tryz.func53 rfl Tryz.ntmps53 rfl ?_
  refine CJ.seq ?_
  refine CJ.region ?_
  refine OJ.ef rfl rfl rfl (Ef.box hS rfl rfl (cPasture.enc a0) rfl) ?_
  rintro _ w1 ⟨b1, rfl, hS⟩
  refine OJ.ef rfl rfl rfl (Ef.box hS rfl rfl (cSpot.enc a1) rfl) ?_
  rintro _ w1 ⟨b2, rfl, hS⟩
  refine OJ.pures tU_ok 1 rfl ?_
  refine OJ.nil (EJ.next ?_)
  refine CJ.seq ?_
  refine CJ.region ?_
  refine OJ.ef rfl rfl rfl (Ef.lit tU_ok tI_ok hS (C := cSpot) rfl rfl rfl rfl rfl rfl ([] : List Spot) rfl rfl rfl rfl) ?_
  rintro _ w1 ⟨A3, rfl, hS⟩
  refine OJ.pures tU_ok 1 rfl ?_
  refine OJ.nil (EJ.next ?_)
  refine CJ.seq ?_
  refine CJ.seq ?_
  refine CJ.region ?_
  refine OJ.pures tU_ok 1 rfl ?_
  refine OJ.nil (EJ.next ?_)
  obtain ⟨j389, H, K389⟩ := pbind H
  refine CJ.cut1 (fun F w1 => ∃ (y4 : List Spot) (A5 : Option Addr) (c6 : Nat), (some y4 : Option (List Spot)) = some j389 ∧ F = [(5, .slice A5 y4.length c6)] ∧ St w no w1 [rowC cSpot A5 c6 46 y4] []) ?_ ?_
  · skip
    refine CJ.block ?_
    refine CJ.loop (fun k F w1 => ∃ (y7 : List Spot) (y10 : Int) (A8 : Option Addr) (c9 : Nat), F = [(2, .pointer (some ⟨b1, 0, none⟩)), (3, .pointer (some ⟨b2, 0, none⟩)), (5, .slice A8 y7.length c9), (8, .int .i64 y10)] ∧ St w no w1 [box b1 (cPasture.enc a0) 31, box b2 (cSpot.enc a1) 46, rowC cSpot A8 c9 46 y7] [] ∧ impl_Pasture_beside.l1 a0 a1 k y7 y10 = some j389) k (F' := [(2, .pointer (some ⟨b1, 0, none⟩)), (3, .pointer (some ⟨b2, 0, none⟩)), (5, .slice A3 ([] : List Spot).length (([] : List Spot).length)), (8, .int .i64 0)]) ⟨rfl, rfl, rfl, rfl, trivial⟩ ⟨([] : List Spot), 0, A3, (([] : List Spot).length), rfl, hS.pick [0, 1, 2] [] rfl, H⟩ ?_
    rintro k F w1 ⟨y7, y10, A8, c9, rfl, hS, H⟩
    cases k with
    | zero => rw [impl_Pasture_beside.l1] at H; cases H
    | succ k =>
      rw [impl_Pasture_beside.l1] at H
      refine CJ.seq ?_
      refine CJ.region ?_
      refine OJ.pures tU_ok 1 rfl ?_
      refine OJ.nil (EJ.next ?_)
      refine CJ.seq ?_
      refine CJ.cond rfl (fun hb => ?_) (fun hb => ?_)
      · replace H := pif_t (of_decide_eq_true hb) H
        refine CJ.skip (EJ.next ?_)
        refine CJ.seq ?_
        refine CJ.block ?_
        refine CJ.seq ?_
        refine CJ.region ?_
        refine OJ.pures tU_ok 2 rfl ?_
        refine OJ.nil (EJ.next ?_)
        refine CJ.seq ?_
        refine CJ.region ?_
        refine OJ.st rfl rfl rfl (SR.load rfl rfl (fun w' hx => ldE tU_ok tI_ok rfl rfl rfl (CA.ext (hS.cells (i := 0) rfl) hx) rfl)) ?_
        refine OJ.st rfl rfl rfl (SR.load rfl rfl (fun w' hx => ldE tU_ok tI_ok rfl rfl rfl (CA.ext (hS.cells (i := 1) rfl) hx) rfl)) ?_
        refine OJ.pures tU_ok 1 rfl ?_
        obtain ⟨t11, ht11, H⟩ := pbind H
        refine OJ.callF rfl rfl rfl rfl rfl hb82 rfl (impl_Pasture_canGo.c _ a0 a1 y10 _ ht11) ?_
        rintro _ w1 ⟨rfl, hs⟩
        replace hS := hS.grow hs
        refine OJ.nil (EJ.next ?_)
        refine CJ.cond rfl (fun hb => ?_) (fun hb => ?_)
        · replace H := pif_t hb H
          refine CJ.region ?_
          refine OJ.pures tU_ok 1 rfl ?_
          refine OJ.st rfl rfl rfl (SR.load rfl rfl (fun w' hx => ldE tU_ok tI_ok rfl rfl rfl (CA.ext (hS.cells (i := 1) rfl) hx) rfl)) ?_
          refine OJ.pures tU_ok 1 rfl ?_
          obtain ⟨t12, ht12, H⟩ := pbind H
          refine OJ.callF rfl rfl rfl rfl rfl hb74 rfl (impl_Spot_ahead.c _ a1 y10 _ ht12) ?_
          rintro _ w1 ⟨rfl, hs⟩
          replace hS := hS.grow hs
          refine OJ.ef rfl rfl rfl (Ef.lit tU_ok tI_ok hS (C := cSpot) rfl rfl rfl rfl rfl rfl ([t12] : List Spot) rfl rfl rfl rfl) ?_
          rintro _ w1 ⟨A13, rfl, hS⟩
          obtain ⟨u14, hu14, H⟩ := pbind H
          refine OJ.ew rfl rfl rfl (Ew.append tU_ok tI_ok (C := cSpot) (xs := y7) (ys := ([t12] : List Spot)) hS (i := 2) rfl rfl rfl rfl rfl rfl rfl rfl rfl rfl rfl rfl rfl (hS.rd (i := 3) rfl) (chk_some hu14)) ?_
          rintro _ w1 ⟨A15, c16, rfl, hS⟩
          refine OJ.pures tU_ok 1 rfl ?_
          refine OJ.nil (EJ.blk (EJ.next ?_))
          refine CJ.region ?_
          refine OJ.pures tU_ok 2 rfl ?_
          refine OJ.nil ?_
          exact EJ.round k (F' := [(2, .pointer (some ⟨b1, 0, none⟩)), (3, .pointer (some ⟨b2, 0, none⟩)), (5, .slice A15 (y7 ++ ([t12] : List Spot)).length c16), (8, .int .i64 (IntKind.i64.wrap (y10 + 1)))]) ⟨rfl, rfl, rfl, rfl, trivial⟩ (Nat.lt_succ_self _) ⟨(y7 ++ ([t12] : List Spot)), (IntKind.i64.wrap (y10 + 1)), A15, c16, rfl, hS.pick [0, 1, 2] [] rfl, H⟩
        · replace H := pifb_f hb H
          refine CJ.skip (EJ.blk (EJ.next ?_))
          refine CJ.region ?_
          refine OJ.pures tU_ok 2 rfl ?_
          refine OJ.nil ?_
          exact EJ.round k (F' := [(2, .pointer (some ⟨b1, 0, none⟩)), (3, .pointer (some ⟨b2, 0, none⟩)), (5, .slice A8 y7.length c9), (8, .int .i64 (IntKind.i64.wrap (y10 + 1)))]) ⟨rfl, rfl, rfl, rfl, trivial⟩ (Nat.lt_succ_self _) ⟨y7, (IntKind.i64.wrap (y10 + 1)), A8, c9, rfl, hS.pick [0, 1, 2] [] rfl, H⟩
      · replace H := pif_f (of_decide_eq_false hb) H
        refine CJ.exit (EJ.skE (EJ.skE (EJ.hit (?_))))
        exact EJ.meet (F' := [(5, .slice A8 y7.length c9)]) ⟨rfl, trivial⟩ ⟨y7, A8, c9, H, rfl, hS.pick [2] [] rfl⟩
  · rintro F w1 ⟨y4, A5, c6, he, rfl, hS⟩
    obtain rfl := Option.some.inj he
    have H := K389
    refine EJ.next ?_
    refine CJ.seq ?_
    refine CJ.region ?_
    refine OJ.pures tU_ok 2 rfl ?_
    refine OJ.nil (EJ.next ?_)
    refine CJ.ret (?_)
    obtain rfl := Option.some.inj H
    exact EJ.fin rfl (.tmp rfl .nil) ⟨A5, c6, rfl, hS.pick [0] [] rfl⟩

def slices_DeleteFunc_impl_Spot_impl_Spot.l1 (a1 : Spot → Option Bool) : Nat → (List Spot) → Int → Int → Option ((List Spot) × Int)
  | 0, _, _, _ => none
  | k + 1, y4, y5, y6 => if y6 < (y4.length : Int) then ((getI y4 y6).bind fun t7 => (a1 t7).bind fun t9 => if (!t9) = true then ((getI y4 y5).bind fun t10 => slices_DeleteFunc_impl_Spot_impl_Spot.l1 a1 k (y4.set y5.toNat t7) (IntKind.i64.wrap (y5 + 1)) (IntKind.i64.wrap (y6 + 1))) else (slices_DeleteFunc_impl_Spot_impl_Spot.l1 a1 k y4 y5 (IntKind.i64.wrap (y6 + 1)))) else (some (y4, y5))
def slices_DeleteFunc_impl_Spot_impl_Spot.f (k : Nat) (a0 : List Spot) (a1 : Spot → Option Bool) : Option (List Spot) := (slices_IndexFunc_impl_Spot_impl_Spot.f k a0 a1).bind fun t1 => if t1 = (-1) then (some a0) else ((slices_DeleteFunc_impl_Spot_impl_Spot.l1 a1 k a0 t1 (IntKind.i64.wrap (t1 + 1))).bind fun (y2, y3) => (chk ((0 : Int) ≤ y3 ∧ y3 ≤ (y2.length : Int) ∧ (y2.length : Int) ≤ (y2.length : Int))).bind fun u11 => (chk ((0 : Int) ≤ 0 ∧ 0 ≤ y3 ∧ y3 ≤ ((y2.take y3.toNat ++ List.replicate (y2.length - y3.toNat) (⟨0, 0⟩ : Spot)).length : Int))).bind fun u12 => some ((y2.take y3.toNat ++ List.replicate (y2.length - y3.toNat) (⟨0, 0⟩ : Spot)).take y3.toNat))
theorem slices_DeleteFunc_impl_Spot_impl_Spot.c (k : Nat) (w : World) (Aa0 : Option Addr) (ca0 : Nat) (a0 : List Spot) (na1 : Nat) (fsa1 capa1 : Array Value) (hb1 : hasBody Tryz.prog na1) (a1 : Spot → Option Bool) (hf1 : ∀ (z0 : Spot) (r : Bool), a1 z0 = some r → ∀ w', Chg (fpU [rowC cSpot Aa0 ca0 46 a0]) w w' → CV Tryz.prog na1 (fsa1 ++ [.agg (cSpot.enc z0).toArray].toArray ++ capa1) w' fun v w'' => v = .bool r ∧ Ext w' w'') (hin : St w (fpU [rowC cSpot Aa0 ca0 46 a0]) w [rowC cSpot Aa0 ca0 46 a0] []) (r : List Spot) (H : slices_DeleteFunc_impl_Spot_impl_Spot.f k a0 a1 = some r) :
    CV Tryz.prog 84 [.slice Aa0 a0.length ca0, .func (.func na1) fsa1 capa1].toArray w fun v w' => ∃ (A0 : Option Addr) (c0 : Nat), v = .slice A0 r.length c0 ∧ St w (fpU [rowC cSpot Aa0 ca0 46 a0]) w' [rowC cSpot A0 c0 46 r] [] := by
  have hS := hin
  unfold slices_DeleteFunc_impl_Spot_impl_Spot.f at H
  refine CV.body Tryz.func84 rfl Tryz.ntmps84 rfl ?_
  refine CJ.seq ?_
  refine CJ.region ?_
  refine OJ.pures tU_ok 1 rfl ?_
  refine OJ.nil (EJ.next ?_)
  refine CJ.seq ?_
  refine CJ.region ?_
  refine OJ.pures tU_ok 2 rfl ?_
  obtain ⟨t1, ht1, H⟩ := pbind H
  refine OJ.callF rfl rfl rfl rfl rfl hb91 rfl (slices_IndexFunc_impl_Spot_impl_Spot.c k _ Aa0 ca0 a0 (hS.rd (i := 0) rfl) (hS.le (i := 0) rfl) na1 fsa1 capa1 hb1 a1 (fun z0 r h w' hx => hf1 z0 r h w' (hS.chg.then hx (fun _ _ e => e.elim))) _ ht1) ?_
  rintro _ w1 ⟨rfl, hs⟩
  replace hS := hS.grow hs
  refine OJ.pures tU_ok 1 rfl ?_
  refine OJ.nil (EJ.next ?_)
  refine CJ.seq ?_
  refine CJ.seq ?_
  refine CJ.region ?_
  refine OJ.pures tU_ok 2 rfl ?_
  refine OJ.nil (EJ.next ?_)
  refine CJ.cond rfl (fun hb => ?_) (fun hb => ?_)
  · replace H := pif_t (of_decide_eq_true hb) H
    refine CJ.seq ?_
    refine CJ.region ?_
    refine OJ.pures tU_ok 2 rfl ?_
    refine OJ.nil (EJ.next ?_)
    refine CJ.ret (EJ.skR (?_))
    obtain rfl := Option.some.inj H
    exact EJ.fin rfl (.tmp rfl .nil) ⟨Aa0, ca0, rfl, hS.pick [0] [] rfl⟩
  · replace H := pif_f (of_decide_eq_false hb) H
    refine CJ.skip (EJ.next ?_)
    refine CJ.seq ?_
    refine CJ.seq ?_
    refine CJ.region ?_
    refine OJ.pures tU_ok 3 rfl ?_
    refine OJ.nil (EJ.next ?_)
    obtain ⟨j390, H, K390⟩ := pbind H
    refine CJ.cut1 (fun F w1 => ∃ (y2 : List Spot) (y3 : Int) , (some (y2, y3) : Option ((List Spot) × Int)) = some j390 ∧ F = [(0, .slice Aa0 y2.length ca0), (5, .int .i64 y3)] ∧ St w (fpU [rowC cSpot Aa0 ca0 46 a0]) w1 [rowC cSpot Aa0 ca0 46 y2] []) ?_ ?_
    · skip
      refine CJ.block ?_
      refine CJ.loop (fun k F w1 => ∃ (y4 : List Spot) (y5 : Int) (y6 : Int), F = [(0, .slice Aa0 y4.length ca0), (1, .func (.func na1) fsa1 capa1), (5, .int .i64 y5), (6, .int .i64 y6)] ∧ St w (fpU [rowC cSpot Aa0 ca0 46 a0]) w1 [rowC cSpot Aa0 ca0 46 y4] [] ∧ slices_DeleteFunc_impl_Spot_impl_Spot.l1 a1 k y4 y5 y6 = some j390) k (F' := [(0, .slice Aa0 a0.length ca0), (1, .func (.func na1) fsa1 capa1), (5, .int .i64 t1), (6, .int .i64 (IntKind.i64.wrap (t1 + 1)))]) ⟨rfl, rfl, rfl, rfl, trivial⟩ ⟨a0, t1, (IntKind.i64.wrap (t1 + 1)), rfl, hS.pick [0] [] rfl, H⟩ ?_
      rintro k F w1 ⟨y4, y5, y6, rfl, hS, H⟩
      cases k with
      | zero => rw [slices_DeleteFunc_impl_Spot_impl_Spot.l1] at H; cases H
      | succ k =>
        rw [slices_DeleteFunc_impl_Spot_impl_Spot.l1] at H
        refine CJ.seq ?_
        refine CJ.seq ?_
        refine CJ.region ?_
        refine OJ.pures tU_ok 4 rfl ?_
        refine OJ.nil (EJ.next ?_)
        refine CJ.cond rfl (fun hb => ?_) (fun hb => ?_)
        · replace H := pif_t (of_decide_eq_true hb) H
          refine CJ.skip (EJ.next ?_)
          refine CJ.seq ?_
          refine CJ.block ?_
          refine CJ.seq ?_
          refine CJ.region ?_
          refine OJ.pures tU_ok 2 rfl ?_
          obtain ⟨t7, ht7, H⟩ := pbind H
          obtain ⟨ad7, e7⟩ := (hS.rd (i := 0) rfl).some' ht7
          refine OJ.st rfl rfl rfl (SR.idxS tU_ok tI_ok rfl rfl rfl rfl e7 rfl (getI_some ht7).1) ?_
          refine OJ.st rfl rfl rfl (SR.load rfl rfl (fun w' hx => ldE tU_ok tI_ok rfl rfl rfl (CA.ext ((hS.rd (i := 0) rfl).at_ e7 ht7) hx) rfl)) ?_
          refine OJ.ef rfl rfl rfl (Ef.alloc hS tI_ok rfl rfl (cSpot.enc (⟨0, 0⟩ : Spot)) rfl) ?_
          rintro _ w1 ⟨b8, rfl, hS⟩
          refine OJ.es rfl rfl (Es.store tI_ok hS (i := 1) rfl rfl rfl rfl rfl rfl (vs := cSpot.enc t7) rfl (cSpot.len _) (cSpot.one _) (Nat.le_of_ble_eq_true rfl) (cSpot.enc t7) rfl) ?_
          intro w1 hS
          refine OJ.nil (EJ.next ?_)
          refine CJ.seq ?_
          refine CJ.region ?_
          refine OJ.pures tU_ok 1 rfl ?_
          refine OJ.st rfl rfl rfl (SR.load rfl rfl (fun w' hx => ldE tU_ok tI_ok rfl rfl rfl (CA.ext (hS.cells (i := 1) rfl) hx) rfl)) ?_
          obtain ⟨t9, ht9, H⟩ := pbind H
          refine OJ.call rfl rfl (Nat.le_of_ble_eq_true rfl) rfl rfl rfl hb1 rfl (hf1 t7 _ ht9 _ hS.chg) ?_
          rintro _ w1 ⟨rfl, hs⟩
          replace hS := hS.grow hs
          refine OJ.pures tU_ok 1 rfl ?_
          refine OJ.nil (EJ.next ?_)
          refine CJ.cond rfl (fun hb => ?_) (fun hb => ?_)
          · replace H := pif_t hb H
            refine CJ.seq ?_
            refine CJ.region ?_
            refine OJ.pures tU_ok 2 rfl ?_
            refine OJ.st rfl rfl rfl (SR.load rfl rfl (fun w' hx => ldE tU_ok tI_ok rfl rfl rfl (CA.ext (hS.cells (i := 1) rfl) hx) rfl)) ?_
            obtain ⟨t10, ht10, H⟩ := pbind H
            obtain ⟨ad10, e10⟩ := (hS.rd (i := 0) rfl).some' ht10
            refine OJ.st rfl rfl rfl (SR.idxS tU_ok tI_ok rfl rfl rfl rfl e10 rfl (getI_some ht10).1) ?_
            refine OJ.es rfl rfl (Es.storeR tI_ok hS (i := 0) (off := 0) rfl rfl ht10 e10 rfl rfl rfl rfl (vs := cSpot.enc t7) rfl (cSpot.len _) (cSpot.one _) (Nat.le_of_ble_eq_true rfl) t7 rfl) ?_
            intro w1 hS
            refine OJ.as (t := 0) rfl (show _ = (.slice Aa0 (y4.set y5.toNat t7).length ca0 : Value) by simp only [List.length_set]) ?_
            refine OJ.as (t := 17) rfl (show _ = (.slice Aa0 (y4.set y5.toNat t7).length ca0 : Value) by simp only [List.length_set]) ?_
            refine OJ.as (t := 22) rfl (show _ = (.slice Aa0 (y4.set y5.toNat t7).length ca0 : Value) by simp only [List.length_set]) ?_
            refine OJ.as (t := 30) rfl (show _ = (.slice Aa0 (y4.set y5.toNat t7).length ca0 : Value) by simp only [List.length_set]) ?_
            refine OJ.nil (EJ.next ?_)
            refine CJ.region ?_
            refine OJ.pures tU_ok 3 rfl ?_
            refine OJ.nil (EJ.blk (EJ.next ?_))
            refine CJ.region ?_
            refine OJ.pures tU_ok 3 rfl ?_
            refine OJ.nil ?_
            exact EJ.round k (F' := [(0, .slice Aa0 (y4.set y5.toNat t7).length ca0), (1, .func (.func na1) fsa1 capa1), (5, .int .i64 (IntKind.i64.wrap (y5 + 1))), (6, .int .i64 (IntKind.i64.wrap (y6 + 1)))]) ⟨rfl, rfl, rfl, rfl, trivial⟩ (Nat.lt_succ_self _) ⟨(y4.set y5.toNat t7), (IntKind.i64.wrap (y5 + 1)), (IntKind.i64.wrap (y6 + 1)), rfl, hS.pick [0] [] rfl, H⟩
          · replace H := pifb_f hb H
            refine CJ.skip (EJ.blk (EJ.next ?_))
            refine CJ.region ?_
            refine OJ.pures tU_ok 3 rfl ?_
            refine OJ.nil ?_
            exact EJ.round k (F' := [(0, .slice Aa0 y4.length ca0), (1, .func (.func na1) fsa1 capa1), (5, .int .i64 y5), (6, .int .i64 (IntKind.i64.wrap (y6 + 1)))]) ⟨rfl, rfl, rfl, rfl, trivial⟩ (Nat.lt_succ_self _) ⟨y4, y5, (IntKind.i64.wrap (y6 + 1)), rfl, hS.pick [0] [] rfl, H⟩
        · replace H := pif_f (of_decide_eq_false hb) H
          refine CJ.exit (EJ.skE (EJ.skE (EJ.hit (?_))))
          exact EJ.meet (F' := [(0, .slice Aa0 y4.length ca0), (5, .int .i64 y5)]) ⟨rfl, rfl, trivial⟩ ⟨y4, y5, H, rfl, hS.pick [0] [] rfl⟩
    · rintro F w1 ⟨y2, y3, he, rfl, hS⟩
      obtain rfl := Option.some.inj he
      have H := K390
      refine EJ.next ?_
      refine CJ.seq ?_
      refine CJ.region ?_
      refine OJ.pures tU_ok 2 rfl ?_
      obtain ⟨u11, hu11, H⟩ := pbind H
      refine OJ.st rfl rfl rfl (SR.cutS tU_ok tI_ok (y3.toNat) (y2.length) rfl rfl rfl rfl rfl rfl (.inr ⟨_, _, rfl, (chk_some hu11).1, rfl⟩) (.inl ⟨rfl, rfl⟩) (by have := (chk_some hu11); omega) (by have := (chk_some hu11); have := (hS.le (i := 0) rfl : y2.length ≤ ca0); omega)) ?_
      refine OJ.ewn rfl rfl (Ew.clear tU_ok tI_ok (C := cSpot) (lo := y3.toNat) hS (i := 0) rfl rfl rfl rfl rfl rfl rfl rfl rfl (⟨0, 0⟩ : Spot) rfl (by have := (chk_some hu11); omega) rfl) ?_
      rintro _ w1 ⟨rfl, hS⟩
      refine OJ.as (t := 0) rfl (show _ = (.slice Aa0 (y2.take y3.toNat ++ List.replicate (y2.length - y3.toNat) (⟨0, 0⟩ : Spot)).length ca0 : Value) by (rw [List.length_append, List.length_take, List.length_replicate, Nat.min_eq_left (by have := (chk_some hu11); omega), Nat.add_sub_cancel' (by have := (chk_some hu11); omega)])) ?_
      refine OJ.as (t := 36) rfl (show _ = (.slice Aa0 (y2.take y3.toNat ++ List.replicate (y2.length - y3.toNat) (⟨0, 0⟩ : Spot)).length ca0 : Value) by (rw [List.length_append, List.length_take, List.length_replicate, Nat.min_eq_left (by have := (chk_some hu11); omega), Nat.add_sub_cancel' (by have := (chk_some hu11); omega)])) ?_
      refine OJ.nil (EJ.next ?_)
      refine CJ.seq ?_
      refine CJ.region ?_
      refine OJ.pures tU_ok 2 rfl ?_
      obtain ⟨u12, hu12, H⟩ := pbind H
      refine OJ.st rfl rfl rfl (SR.cut0 tU_ok tI_ok rfl rfl rfl rfl rfl (by have := (chk_some hu12); omega) (by have := (chk_some hu12); have := (hS.le (i := 0) rfl : (y2.take y3.toNat ++ List.replicate (y2.length - y3.toNat) (⟨0, 0⟩ : Spot)).length ≤ ca0); omega)) ?_
      replace hS := hS.shrink (i := 0) (m := y3.toNat) rfl (by have := (chk_some hu12); omega)
      refine OJ.as (t := 41) rfl (show _ = (.slice Aa0 ((y2.take y3.toNat ++ List.replicate (y2.length - y3.toNat) (⟨0, 0⟩ : Spot)).take y3.toNat).length ca0 : Value) by rw [List.length_take, Nat.min_eq_left (by have := (chk_some hu12); omega)]) ?_
      refine OJ.pures tU_ok 1 rfl ?_
      refine OJ.nil (EJ.next ?_)
      refine CJ.ret (?_)
      obtain rfl := Option.some.inj H
      exact EJ.fin rfl (.tmp rfl .nil) ⟨Aa0, ca0, rfl, hS.pick [0] [] rfl⟩

def impl_Pasture_way_1.f (a1 : Arr 10 (Arr 10 Int)) (a2 : Spot) (a0 : Spot) : Option Bool := (impl_steps_at.f a1 a0).bind fun t2 => (impl_steps_at.f a1 a2).bind fun t3 => some (decide (t2 ≠ (IntKind.i64.wrap (t3 - 1))))
theorem impl_Pasture_way_1.c (w : World) (qa1 : Addr) (a1 : Arr 10 (Arr 10 Int)) (hq1 : CA w qa1 ((carr 10 (carr 10 (ci .i16))).enc a1)) (pa1 : Addr) (hp1 : CA w pa1 [.pointer (some qa1)]) (pa2 : Addr) (a2 : Spot) (hp2 : CA w pa2 (cSpot.enc a2)) (a0 : Spot) (r : Bool) (H : impl_Pasture_way_1.f a1 a2 a0 = some r) :
    CV Tryz.prog 85 [.agg (cSpot.enc a0).toArray, .pointer (some pa1), .pointer (some pa2)].toArray w fun v w' => v = .bool r ∧ Ext w w' := by
  have hS := ((((St.init w no).paramP qa1 ((carr 10 (carr 10 (ci .i16))).enc a1) hq1).paramP pa1 [.pointer (some qa1)] hp1).paramP pa2 (cSpot.enc a2) hp2)
  unfold impl_Pasture_way_1.f at H
  refine CV.body Tryz.func85 rfl Tryz.ntmps85 rfl ?_
  refine CJ.seq ?_
  refine CJ.region ?_
  refine OJ.ef rfl rfl rfl (Ef.box hS rfl rfl (cSpot.enc a0) rfl) ?_
  rintro _ w1 ⟨b1, rfl, hS⟩
  refine OJ.pures tU_ok 1 rfl ?_
  refine OJ.nil (EJ.next ?_)
  refine CJ.seq ?_
  refine CJ.draw [] [0, 1, 3, 4, 2, 5, 6, 7, 8] mixed (by kernel_rfl) hS fun w1 hS => ?_
  refine DJ.st rfl rfl rfl rfl rfl (SR.load rfl rfl (fun w' hx => ld1 tU_ok rfl rfl (CA.ext (hS.ca (i := 1) rfl) hx) rfl)) ?_
  refine DJ.st rfl rfl rfl rfl rfl (SR.load rfl rfl (fun w' hx => ldE tU_ok tI_ok rfl rfl rfl (CA.ext (hS.cells (i := 0) rfl) hx) rfl)) ?_
  refine DJ.st rfl rfl rfl rfl rfl (SR.load rfl rfl (fun w' hx => ld1 tU_ok rfl rfl (CA.ext (hS.ca (i := 1) rfl) hx) rfl)) ?_
  refine DJ.st rfl rfl rfl rfl rfl (SR.load rfl rfl (fun w' hx => ldE tU_ok tI_ok rfl rfl rfl (CA.ext (hS.ca (i := 2) rfl) hx) rfl)) ?_
  obtain ⟨t2, ht2, H⟩ := pbind H
  refine DJ.callF rfl rfl rfl rfl rfl rfl rfl hb47 rfl (impl_steps_at.c _ _ a1 (hS.ca (i := 0) rfl) a0 _ ht2) (by rintro v w' ⟨rfl, hs⟩; exact hs) ?_
  rintro _ w1 ⟨rfl, hs⟩
  replace hS := hS.grow hs
  obtain ⟨t3, ht3, H⟩ := pbind H
  refine DJ.callF rfl rfl rfl rfl rfl rfl rfl hb47 rfl (impl_steps_at.c _ _ a1 (hS.ca (i := 0) rfl) a2 _ ht3) (by rintro v w' ⟨rfl, hs⟩; exact hs) ?_
  rintro _ w1 ⟨rfl, hs⟩
  replace hS := hS.grow hs
  refine DJ.pures tU_ok 3 rfl ?_
  refine DJ.nil (EJ.next ?_)
  refine CJ.ret (?_)
  obtain rfl := Option.some.inj H
  exact EJ.fin rfl (.tmp rfl .nil) ⟨rfl, hS.ext⟩

def slices_MinFunc_impl_Spot_impl_Spot.l1 (a0 : List Spot) (a1 : Spot → Spot → Option Int) : Nat → Spot → Int → Option Spot
  | 0, _, _ => none
  | k + 1, y5, y6 => if y6 < (a0.length : Int) then ((getI a0 y6).bind fun t7 => (a1 t7 y5).bind fun t8 => if t8 < 0 then ((getI a0 y6).bind fun t9 => slices_MinFunc_impl_Spot_impl_Spot.l1 a0 a1 k t9 (IntKind.i64.wrap (y6 + 1))) else (slices_MinFunc_impl_Spot_impl_Spot.l1 a0 a1 k y5 (IntKind.i64.wrap (y6 + 1)))) else (some y5)
def slices_MinFunc_impl_Spot_impl_Spot.f (k : Nat) (a0 : List Spot) (a1 : Spot → Spot → Option Int) : Option Spot := if (a0.length : Int) < 1 then none else ((getI a0 0).bind fun t2 => (slices_MinFunc_impl_Spot_impl_Spot.l1 a0 a1 k t2 1).bind fun y4 => some y4)
theorem slices_MinFunc_impl_Spot_impl_Spot.c (k : Nat) (w : World) (Aa0 : Option Addr) (ca0 : Nat) (a0 : List Spot) (hr0 : Rd cSpot w Aa0 a0) (hc0 : a0.length ≤ ca0) (na1 : Nat) (fsa1 capa1 : Array Value) (hb1 : hasBody Tryz.prog na1) (a1 : Spot → Spot → Option Int) (hf1 : ∀ (z0 : Spot) (z1 : Spot) (r : Int), a1 z0 z1 = some r → ∀ w', Chg no w w' → CV Tryz.prog na1 (fsa1 ++ [.agg (cSpot.enc z0).toArray, .agg (cSpot.enc z1).toArray].toArray ++ capa1) w' fun v w'' => v = .int .i64 r ∧ Ext w' w'') (r : Spot) (H : slices_MinFunc_impl_Spot_impl_Spot.f k a0 a1 = some r) :
    CV Tryz.prog 83 [.slice Aa0 a0.length ca0, .func (.func na1) fsa1 capa1].toArray w fun v w' => v = .agg (cSpot.enc r).toArray ∧ Ext w w' := by
  have hS := ((St.init w no).param cSpot Aa0 ca0 a0 hr0 hc0)
  unfold slices_MinFunc_impl_Spot_impl_Spot.f at H
  refine CV.body Tryz.func83 rfl Tryz.ntmps83 rfl ?_
  refine CJ.seq ?_
  refine CJ.region ?_
  refine OJ.ef rfl rfl rfl (Ef.alloc hS tI_ok rfl rfl (cSpot.enc (⟨0, 0⟩ : Spot)) rfl) ?_
  rintro _ w1 ⟨b1, rfl, hS⟩
  refine OJ.nil (EJ.next ?_)
  refine CJ.seq ?_
  refine CJ.seq ?_
  refine CJ.region ?_
  refine OJ.pures tU_ok 3 rfl ?_
  refine OJ.nil (EJ.next ?_)
  refine CJ.cond rfl (fun hb => ?_) (fun hb => ?_)
  · replace H := pif_t (of_decide_eq_true hb) H
    cases H
  · replace H := pif_f (of_decide_eq_false hb) H
    refine CJ.skip (EJ.next ?_)
    refine CJ.seq ?_
    refine CJ.region ?_
    refine OJ.pures tU_ok 1 rfl ?_
    obtain ⟨t2, ht2, H⟩ := pbind H
    obtain ⟨ad2, e2⟩ := (hS.rd' (i := 0) rfl).some' ht2
    refine OJ.st rfl rfl rfl (SR.idxS tU_ok tI_ok rfl rfl rfl rfl e2 rfl (getI_some ht2).1) ?_
    refine OJ.st rfl rfl rfl (SR.load rfl rfl (fun w' hx => ldE tU_ok tI_ok rfl rfl rfl (CA.ext ((hS.rd' (i := 0) rfl).at_ e2 ht2) hx) rfl)) ?_
    refine OJ.ef rfl rfl rfl (Ef.alloc hS tI_ok rfl rfl (cSpot.enc (⟨0, 0⟩ : Spot)) rfl) ?_
    rintro _ w1 ⟨b3, rfl, hS⟩
    refine OJ.es rfl rfl (Es.store tI_ok hS (i := 1) rfl rfl rfl rfl rfl rfl (vs := cSpot.enc t2) rfl (cSpot.len _) (cSpot.one _) (Nat.le_of_ble_eq_true rfl) (cSpot.enc t2) rfl) ?_
    intro w1 hS
    refine OJ.nil (EJ.next ?_)
    refine CJ.seq ?_
    refine CJ.seq ?_
    refine CJ.region ?_
    refine OJ.pures tU_ok 1 rfl ?_
    refine OJ.nil (EJ.next ?_)
    obtain ⟨j391, H, K391⟩ := pbind H
    refine CJ.cut1 (fun F w1 => ∃ (y4 : Spot) , (some y4 : Option Spot) = some j391 ∧ F = [(4, .pointer (some ⟨b1, 0, none⟩)), (5, .pointer (some ⟨b3, 0, none⟩))] ∧ St w no w1 [box b1 (cSpot.enc (⟨0, 0⟩ : Spot)) 46, box b3 (cSpot.enc y4) 46] [roC cSpot Aa0 ca0 a0]) ?_ ?_
    · skip
      refine CJ.block ?_
      refine CJ.loop (fun k F w1 => ∃ (y5 : Spot) (y6 : Int), F = [(0, .slice Aa0 a0.length ca0), (1, .func (.func na1) fsa1 capa1), (4, .pointer (some ⟨b1, 0, none⟩)), (5, .pointer (some ⟨b3, 0, none⟩)), (6, .int .i64 y6)] ∧ St w no w1 [box b1 (cSpot.enc (⟨0, 0⟩ : Spot)) 46, box b3 (cSpot.enc y5) 46] [roC cSpot Aa0 ca0 a0] ∧ slices_MinFunc_impl_Spot_impl_Spot.l1 a0 a1 k y5 y6 = some j391) k (F' := [(0, .slice Aa0 a0.length ca0), (1, .func (.func na1) fsa1 capa1), (4, .pointer (some ⟨b1, 0, none⟩)), (5, .pointer (some ⟨b3, 0, none⟩)), (6, .int .i64 1)]) ⟨rfl, rfl, rfl, rfl, rfl, trivial⟩ ⟨t2, 1, rfl, hS.pick [0, 1] [0] rfl, H⟩ ?_
      rintro k F w1 ⟨y5, y6, rfl, hS, H⟩
      cases k with
      | zero => rw [slices_MinFunc_impl_Spot_impl_Spot.l1] at H; cases H
      | succ k =>
        rw [slices_MinFunc_impl_Spot_impl_Spot.l1] at H
        refine CJ.seq ?_
        refine CJ.seq ?_
        refine CJ.region ?_
        refine OJ.pures tU_ok 4 rfl ?_
        refine OJ.nil (EJ.next ?_)
        refine CJ.cond rfl (fun hb => ?_) (fun hb => ?_)
        · replace H := pif_t (of_decide_eq_true hb) H
          refine CJ.skip (EJ.next ?_)
          refine CJ.seq ?_
          refine CJ.block ?_
          refine CJ.seq ?_
          refine CJ.draw [] [0, 1, 2, 3, 4, 5, 6, 7] mixed (by kernel_rfl) hS fun w1 hS => ?_
          refine DJ.pures tU_ok 3 rfl ?_
          obtain ⟨t7, ht7, H⟩ := pbind H
          obtain ⟨ad7, e7⟩ := (hS.rd' (i := 0) rfl).some' ht7
          refine DJ.st rfl rfl rfl rfl rfl (SR.idxS tU_ok tI_ok rfl rfl rfl rfl e7 rfl (getI_some ht7).1) ?_
          refine DJ.st rfl rfl rfl rfl rfl (SR.load rfl rfl (fun w' hx => ldE tU_ok tI_ok rfl rfl rfl (CA.ext ((hS.rd' (i := 0) rfl).at_ e7 ht7) hx) rfl)) ?_
          refine DJ.st rfl rfl rfl rfl rfl (SR.load rfl rfl (fun w' hx => ldE tU_ok tI_ok rfl rfl rfl (CA.ext (hS.cells (i := 1) rfl) hx) rfl)) ?_
          obtain ⟨t8, ht8, H⟩ := pbind H
          refine DJ.call rfl rfl rfl rfl rfl rfl rfl rfl hb1 rfl (hf1 t7 y5 _ ht8 _ hS.chg) (by rintro v w' ⟨rfl, hs⟩; exact hs) ?_
          rintro _ w1 ⟨rfl, hs⟩
          replace hS := hS.grow hs
          refine DJ.pures tU_ok 1 rfl ?_
          refine DJ.nil (EJ.next ?_)
          refine CJ.cond rfl (fun hb => ?_) (fun hb => ?_)
          · replace H := pif_t (of_decide_eq_true hb) H
            refine CJ.region ?_
            refine OJ.pures tU_ok 2 rfl ?_
            obtain ⟨t9, ht9, H⟩ := pbind H
            obtain ⟨ad9, e9⟩ := (hS.rd' (i := 0) rfl).some' ht9
            refine OJ.st rfl rfl rfl (SR.idxS tU_ok tI_ok rfl rfl rfl rfl e9 rfl (getI_some ht9).1) ?_
            refine OJ.st rfl rfl rfl (SR.load rfl rfl (fun w' hx => ldE tU_ok tI_ok rfl rfl rfl (CA.ext ((hS.rd' (i := 0) rfl).at_ e9 ht9) hx) rfl)) ?_
            refine OJ.es rfl rfl (Es.store tI_ok hS (i := 1) rfl rfl rfl rfl rfl rfl (vs := cSpot.enc t9) rfl (cSpot.len _) (cSpot.one _) (Nat.le_of_ble_eq_true rfl) (cSpot.enc t9) rfl) ?_
            intro w1 hS
            refine OJ.nil (EJ.blk (EJ.next ?_))
            refine CJ.region ?_
            refine OJ.pures tU_ok 3 rfl ?_
            refine OJ.nil ?_
            exact EJ.round k (F' := [(0, .slice Aa0 a0.length ca0), (1, .func (.func na1) fsa1 capa1), (4, .pointer (some ⟨b1, 0, none⟩)), (5, .pointer (some ⟨b3, 0, none⟩)), (6, .int .i64 (IntKind.i64.wrap (y6 + 1)))]) ⟨rfl, rfl, rfl, rfl, rfl, trivial⟩ (Nat.lt_succ_self _) ⟨t9, (IntKind.i64.wrap (y6 + 1)), rfl, hS.pick [0, 1] [0] rfl, H⟩
          · replace H := pif_f (of_decide_eq_false hb) H
            refine CJ.skip (EJ.blk (EJ.next ?_))
            refine CJ.region ?_
            refine OJ.pures tU_ok 3 rfl ?_
            refine OJ.nil ?_
            exact EJ.round k (F' := [(0, .slice Aa0 a0.length ca0), (1, .func (.func na1) fsa1 capa1), (4, .pointer (some ⟨b1, 0, none⟩)), (5, .pointer (some ⟨b3, 0, none⟩)), (6, .int .i64 (IntKind.i64.wrap (y6 + 1)))]) ⟨rfl, rfl, rfl, rfl, rfl, trivial⟩ (Nat.lt_succ_self _) ⟨y5, (IntKind.i64.wrap (y6 + 1)), rfl, hS.pick [0, 1] [0] rfl, H⟩
        · replace H := pif_f (of_decide_eq_false hb) H
          refine CJ.exit (EJ.skE (EJ.skE (EJ.hit (?_))))
          exact EJ.meet (F' := [(4, .pointer (some ⟨b1, 0, none⟩)), (5, .pointer (some ⟨b3, 0, none⟩))]) ⟨rfl, rfl, trivial⟩ ⟨y5, H, rfl, hS.pick [0, 1] [0] rfl⟩
    · rintro F w1 ⟨y4, he, rfl, hS⟩
      obtain rfl := Option.some.inj he
      have H := K391
      refine EJ.next ?_
      refine CJ.seq ?_
      refine CJ.region ?_
      refine OJ.st rfl rfl rfl (SR.load rfl rfl (fun w' hx => ldE tU_ok tI_ok rfl rfl rfl (CA.ext (hS.cells (i := 1) rfl) hx) rfl)) ?_
      refine OJ.es rfl rfl (Es.store tI_ok hS (i := 0) rfl rfl rfl rfl rfl rfl (vs := cSpot.enc y4) rfl (cSpot.len _) (cSpot.one _) (Nat.le_of_ble_eq_true rfl) (cSpot.enc y4) rfl) ?_
      intro w1 hS
      refine OJ.nil (EJ.next ?_)
      refine CJ.ret (?_)
      obtain rfl := Option.some.inj H
      exact EJ.fin rfl (.cell rfl (ldE tU_ok tI_ok rfl rfl rfl (hS.cells (i := 0) rfl) rfl) .nil) ⟨rfl, hS.ext⟩

def impl_Pasture_way.l1 (a0 : Pasture) (a2 : Arr 10 (Arr 10 Int)) : Nat → Spot → (List Spot) → Option (List Spot)
  | 0, _, _ => none
  | k + 1, y8, y9 => (impl_steps_at.f a2 y8).bind fun t12 => if 0 < t12 then ((impl_Pasture_beside.f k a0 y8).bind fun t13 => (slices_DeleteFunc_impl_Spot_impl_Spot.f k t13 (impl_Pasture_way_1.f a2 y8)).bind fun t16 => (slices_MinFunc_impl_Spot_impl_Spot.f k t16 impl_compareSpots.f).bind fun t19 => (chk (y9.length + ([t19] : List Spot).length ≤ 4294967296)).bind fun u21 => impl_Pasture_way.l1 a0 a2 k t19 (y9 ++ ([t19] : List Spot))) else (some y9)
def impl_Pasture_way.f (k : Nat) (a0 : Pasture) (a1 : Spot) (a2 : Arr 10 (Arr 10 Int)) : Option (List Spot) := (impl_Pasture_way.l1 a0 a2 k a1 ([a1] : List Spot)).bind fun y5 => some y5
theorem impl_Pasture_way.c (k : Nat) (w : World) (a0 : Pasture) (a1 : Spot) (pa2 : Addr) (a2 : Arr 10 (Arr 10 Int)) (hp2 : CA w pa2 ((carr 10 (carr 10 (ci .i16))).enc a2)) (r : List Spot) (H : impl_Pasture_way.f k a0 a1 a2 = some r) :
    CV Tryz.prog 48 [.agg (cPasture.enc a0).toArray, .agg (cSpot.enc a1).toArray, .pointer (some pa2)].toArray w fun v w' => ∃ (A0 : Option Addr) (c0 : Nat), v = .slice A0 r.length c0 ∧ St w no w' [rowC cSpot A0 c0 46 r] [] := by
  have hS := ((St.init w no).paramP pa2 ((carr 10 (carr 10 (ci .i16))).enc a2) hp2)
  unfold impl_Pasture_way.f at H
  refine CV.body Tryz.func48 rfl Tryz.ntmps48 rfl ?_
  refine CJ.seq ?_
  refine CJ.region ?_
  refine OJ.ef rfl rfl rfl (Ef.box hS rfl rfl (cPasture.enc a0) rfl) ?_
  rintro _ w1 ⟨b1, rfl, hS⟩
  refine OJ.ef rfl rfl rfl (Ef.box hS rfl rfl (cSpot.enc a1) rfl) ?_
  rintro _ w1 ⟨b2, rfl, hS⟩
  refine OJ.ef rfl rfl rfl (Ef.box hS rfl rfl ([.pointer (some pa2)]) rfl) ?_
  rintro _ w1 ⟨b3, rfl, hS⟩
  refine OJ.pures tU_ok 1 rfl ?_
  refine OJ.nil (EJ.next ?_)
  refine CJ.seq ?_
  refine CJ.region ?_
  refine OJ.st rfl rfl rfl (SR.load rfl rfl (fun w' hx => ldE tU_ok tI_ok rfl rfl rfl (CA.ext (hS.cells (i := 1) rfl) hx) rfl)) ?_
  refine OJ.ef rfl rfl rfl (Ef.lit tU_ok tI_ok hS (C := cSpot) rfl rfl rfl rfl rfl rfl ([a1] : List Spot) rfl rfl rfl rfl) ?_
  rintro _ w1 ⟨A4, rfl, hS⟩
  refine OJ.pures tU_ok 1 rfl ?_
  refine OJ.nil (EJ.next ?_)
  obtain ⟨j388, H, K388⟩ := pbind H
  refine CJ.cut (fun F w1 => ∃ (y5 : List Spot) (A6 : Option Addr) (c7 : Nat), (some y5 : Option (List Spot)) = some j388 ∧ F = [(7, .slice A6 y5.length c7)] ∧ St w no w1 [rowC cSpot A6 c7 46 y5] [roP pa2 ((carr 10 (carr 10 (ci .i16))).enc a2)]) ?_ ?_
  · skip
    refine CJ.block ?_
    refine CJ.loop (fun k F w1 => ∃ (y8 : Spot) (y9 : List Spot) (A10 : Option Addr) (c11 : Nat), F = [(3, .pointer (some ⟨b1, 0, none⟩)), (4, .pointer (some ⟨b2, 0, none⟩)), (5, .pointer (some ⟨b3, 0, none⟩)), (7, .slice A10 y9.length c11)] ∧ St w no w1 [box b1 (cPasture.enc a0) 31, box b2 (cSpot.enc y8) 46, box b3 ([.pointer (some pa2)]) 85, rowC cSpot A10 c11 46 y9] [roP pa2 ((carr 10 (carr 10 (ci .i16))).enc a2)] ∧ impl_Pasture_way.l1 a0 a2 k y8 y9 = some j388) k (F' := [(3, .pointer (some ⟨b1, 0, none⟩)), (4, .pointer (some ⟨b2, 0, none⟩)), (5, .pointer (some ⟨b3, 0, none⟩)), (7, .slice A4 ([a1] : List Spot).length (([a1] : List Spot).length))]) ⟨rfl, rfl, rfl, rfl, trivial⟩ ⟨a1, ([a1] : List Spot), A4, (([a1] : List Spot).length), rfl, hS.pick [0, 1, 2, 3] [0] rfl, H⟩ ?_
    rintro k F w1 ⟨y8, y9, A10, c11, rfl, hS, H⟩
    cases k with
    | zero => rw [impl_Pasture_way.l1] at H; cases H
    | succ k =>
      rw [impl_Pasture_way.l1] at H
      refine CJ.seq ?_
      refine CJ.seq ?_
      refine CJ.region ?_
      refine OJ.st rfl rfl rfl (SR.load rfl rfl (fun w' hx => ld1 tU_ok rfl rfl (CA.ext (hS.cells (i := 2) rfl) hx) rfl)) ?_
      refine OJ.st rfl rfl rfl (SR.load rfl rfl (fun w' hx => ldE tU_ok tI_ok rfl rfl rfl (CA.ext (hS.cells (i := 1) rfl) hx) rfl)) ?_
      obtain ⟨t12, ht12, H⟩ := pbind H
      refine OJ.callF rfl rfl rfl rfl rfl hb47 rfl (impl_steps_at.c _ _ a2 (hS.ca (i := 0) rfl) y8 _ ht12) ?_
      rintro _ w1 ⟨rfl, hs⟩
      replace hS := hS.grow hs
      refine OJ.pures tU_ok 1 rfl ?_
      refine OJ.nil (EJ.next ?_)
      refine CJ.cond rfl (fun hb => ?_) (fun hb => ?_)
      · replace H := pif_t (of_decide_eq_true hb) H
        refine CJ.skip (EJ.next ?_)
        refine CJ.block ?_
        refine CJ.seq ?_
        refine CJ.region ?_
        refine OJ.st rfl rfl rfl (SR.load rfl rfl (fun w' hx => ldE tU_ok tI_ok rfl rfl rfl (CA.ext (hS.cells (i := 0) rfl) hx) rfl)) ?_
        refine OJ.st rfl rfl rfl (SR.load rfl rfl (fun w' hx => ldE tU_ok tI_ok rfl rfl rfl (CA.ext (hS.cells (i := 1) rfl) hx) rfl)) ?_
        obtain ⟨t13, ht13, H⟩ := pbind H
        refine OJ.callF rfl rfl rfl rfl rfl hb53 rfl (impl_Pasture_beside.c k _ a0 y8 _ ht13) ?_
        rintro _ w1 ⟨A14, c15, rfl, hs⟩
        replace hS := hS.addN hs
        refine OJ.pures tU_ok 1 rfl ?_
        obtain ⟨t16, ht16, H⟩ := pbind H
        refine OJ.callF rfl rfl rfl rfl rfl hb84 rfl (slices_DeleteFunc_impl_Spot_impl_Spot.c k _ A14 c15 t13 85 #[] #[.pointer (some ⟨b3, 0, none⟩), .pointer (some ⟨b2, 0, none⟩)] hb85 (impl_Pasture_way_1.f a2 y8) (fun z0 r h w' hx => CV.cast (impl_Pasture_way_1.c w' pa2 a2 (roP.ca (hS.stayR [4] hx (j := 0) rfl)) ⟨b3, 0, none⟩ (box.ca (hS.stayL [4] hx (j := 2) rfl rfl)) ⟨b2, 0, none⟩ y8 (box.ca (hS.stayL [4] hx (j := 1) rfl rfl))  z0 r h) (by simp)) ((hS.subs [4] [] [] rfl).pick [0] [] rfl) _ ht16) ?_
        rintro _ w1 ⟨A17, c18, rfl, hs⟩
        replace hS := hS.back' [] [4] rfl rfl [] [rowC cSpot A17 c18 46 t16] [] hs trivial (fun _ h => by cases h) (.inr rfl)
        have hS : St w no w1 [box b1 (cPasture.enc a0) 31, box b2 (cSpot.enc y8) 46, box b3 ([.pointer (some pa2)]) 85, rowC cSpot A10 c11 46 y9, gone, rowC cSpot A17 c18 46 t16] [roP pa2 ((carr 10 (carr 10 (ci .i16))).enc a2)] := hS
        have hS : St w no w1 [box b1 (cPasture.enc a0) 31, box b2 (cSpot.enc y8) 46, box b3 ([.pointer (some pa2)]) 85, rowC cSpot A10 c11 46 y9, gone, rowC cSpot A17 c18 46 t16] [roP pa2 ((carr 10 (carr 10 (ci .i16))).enc a2)] := hS
        obtain ⟨t19, ht19, H⟩ := pbind H
        refine OJ.callF rfl rfl rfl rfl rfl hb83 rfl (slices_MinFunc_impl_Spot_impl_Spot.c k _ A17 c18 t16 (hS.rd (i := 5) rfl) (hS.le (i := 5) rfl) 86 #[] #[] hb86 impl_compareSpots.f (fun z0 z1 r h w' hx => CV.cast (impl_compareSpots.c w'   z0 z1 r h) (by simp)) _ ht19) ?_
        rintro _ w1 ⟨rfl, hs⟩
        replace hS := hS.grow hs
        refine OJ.es rfl rfl (Es.store tI_ok hS (i := 1) rfl rfl rfl rfl rfl rfl (vs := cSpot.enc t19) rfl (cSpot.len _) (cSpot.one _) (Nat.le_of_ble_eq_true rfl) (cSpot.enc t19) rfl) ?_
        intro w1 hS
        refine OJ.nil (EJ.next ?_)
        refine CJ.region ?_
        refine OJ.pures tU_ok 1 rfl ?_
        refine OJ.st rfl rfl rfl (SR.load rfl rfl (fun w' hx => ldE tU_ok tI_ok rfl rfl rfl (CA.ext (hS.cells (i := 1) rfl) hx) rfl)) ?_
        refine OJ.ef rfl rfl rfl (Ef.lit tU_ok tI_ok hS (C := cSpot) rfl rfl rfl rfl rfl rfl ([t19] : List Spot) rfl rfl rfl rfl) ?_
        rintro _ w1 ⟨A20, rfl, hS⟩
        obtain ⟨u21, hu21, H⟩ := pbind H
        refine OJ.ew rfl rfl rfl (Ew.append tU_ok tI_ok (C := cSpot) (xs := y9) (ys := ([t19] : List Spot)) hS (i := 3) rfl rfl rfl rfl rfl rfl rfl rfl rfl rfl rfl rfl rfl (hS.rd (i := 6) rfl) (chk_some hu21)) ?_
        rintro _ w1 ⟨A22, c23, rfl, hS⟩
        refine OJ.pures tU_ok 1 rfl ?_
        refine OJ.nil (EJ.blk (?_))
        exact EJ.round k (F' := [(3, .pointer (some ⟨b1, 0, none⟩)), (4, .pointer (some ⟨b2, 0, none⟩)), (5, .pointer (some ⟨b3, 0, none⟩)), (7, .slice A22 (y9 ++ ([t19] : List Spot)).length c23)]) ⟨rfl, rfl, rfl, rfl, trivial⟩ (Nat.lt_succ_self _) ⟨t19, (y9 ++ ([t19] : List Spot)), A22, c23, rfl, hS.pick [0, 1, 2, 3] [0] rfl, H⟩
      · replace H := pif_f (of_decide_eq_false hb) H
        refine CJ.exit (EJ.skE (EJ.skE (EJ.hit (?_))))
        exact EJ.meet (F' := [(7, .slice A10 y9.length c11)]) ⟨rfl, trivial⟩ ⟨y9, A10, c11, H, rfl, hS.pick [3] [0] rfl⟩
  · rintro F w1 ⟨y5, A6, c7, he, rfl, hS⟩
    obtain rfl := Option.some.inj he
    have H := K388
    refine CJ.seq ?_
    refine CJ.region ?_
    refine OJ.pures tU_ok 2 rfl ?_
    refine OJ.nil (EJ.next ?_)
    refine CJ.ret (?_)
    obtain rfl := Option.some.inj H
    exact EJ.fin rfl (.tmp rfl .nil) ⟨A6, c7, rfl, hS.pick [0] [] rfl⟩

def impl_WayBetween.f (k : Nat) (a0 : Pasture) (a1 : Spot) (a2 : Spot) : Option (List Spot × Int) := (impl_StepsBetween.f k a0 a1 a2).bind fun t4 => if t4.2 ≠ 0 then (some ([], t4.2)) else ((impl_Pasture_far.f k a0 ([a2] : List Spot)).bind fun t6 => (impl_Pasture_way.f k a0 a1 t6).bind fun t8 => some (t8, 0))
theorem impl_WayBetween.c (k : Nat) (w : World) (a0 : Pasture) (a1 : Spot) (a2 : Spot) (r : List Spot × Int) (H : impl_WayBetween.f k a0 a1 a2 = some r) :
    CV Tryz.prog 22 [.agg (cPasture.enc a0).toArray, .agg (cSpot.enc a1).toArray, .agg (cSpot.enc a2).toArray].toArray w fun v w' => ∃ (A0 : Option Addr) (c0 : Nat), v = .tuple #[.slice A0 r.1.length c0, .int .i64 r.2] ∧ St w no w' [rowC cSpot A0 c0 46 r.1] [] := by
  have hS := (St.init w no)
  unfold impl_WayBetween.f at H
  refine CV.body Tryz.func22 rfl Tryz.ntmps22 rfl ?_
  refine CJ.seq ?_
  refine CJ.region ?_
  refine OJ.ef rfl rfl rfl (Ef.box hS rfl rfl (cPasture.enc a0) rfl) ?_
  rintro _ w1 ⟨b1, rfl, hS⟩
  refine OJ.ef rfl rfl rfl (Ef.box hS rfl rfl (cSpot.enc a1) rfl) ?_
  rintro _ w1 ⟨b2, rfl, hS⟩
  refine OJ.ef rfl rfl rfl (Ef.box hS rfl rfl (cSpot.enc a2) rfl) ?_
  rintro _ w1 ⟨b3, rfl, hS⟩
  refine OJ.pures tU_ok 2 rfl ?_
  refine OJ.nil (EJ.next ?_)
  refine CJ.seq ?_
  refine CJ.seq ?_
  refine CJ.region ?_
  refine OJ.st rfl rfl rfl (SR.load rfl rfl (fun w' hx => ldE tU_ok tI_ok rfl rfl rfl (CA.ext (hS.cells (i := 0) rfl) hx) rfl)) ?_
  refine OJ.st rfl rfl rfl (SR.load rfl rfl (fun w' hx => ldE tU_ok tI_ok rfl rfl rfl (CA.ext (hS.cells (i := 1) rfl) hx) rfl)) ?_
  refine OJ.st rfl rfl rfl (SR.load rfl rfl (fun w' hx => ldE tU_ok tI_ok rfl rfl rfl (CA.ext (hS.cells (i := 2) rfl) hx) rfl)) ?_
  obtain ⟨t4, ht4, H⟩ := pbind H
  refine OJ.callF rfl rfl rfl rfl rfl hb21 rfl (impl_StepsBetween.c k _ a0 a1 a2 _ ht4) ?_
  rintro _ w1 ⟨rfl, hs⟩
  replace hS := hS.grow hs
  refine OJ.pures tU_ok 5 rfl ?_
  refine OJ.nil (EJ.next ?_)
  refine CJ.seq ?_
  refine CJ.region ?_
  refine OJ.pures tU_ok 2 rfl ?_
  refine OJ.nil (EJ.next ?_)
  refine CJ.cond rfl (fun hb => ?_) (fun hb => ?_)
  · replace H := pif_t (of_decide_eq_true hb) H
    refine CJ.seq ?_
    refine CJ.region ?_
    refine OJ.pures tU_ok 3 rfl ?_
    refine OJ.nil (EJ.next ?_)
    refine CJ.ret (EJ.skR (?_))
    replace hS := hS.addNil cSpot 46 none
    obtain rfl := Option.some.inj H
    exact EJ.fin rfl (.tmp rfl (.tmp rfl .nil)) ⟨none, 0, rfl, hS.pick [3] [] rfl⟩
  · replace H := pif_f (of_decide_eq_false hb) H
    refine CJ.skip (EJ.next ?_)
    refine CJ.seq ?_
    refine CJ.region ?_
    refine OJ.st rfl rfl rfl (SR.load rfl rfl (fun w' hx => ldE tU_ok tI_ok rfl rfl rfl (CA.ext (hS.cells (i := 0) rfl) hx) rfl)) ?_
    refine OJ.st rfl rfl rfl (SR.load rfl rfl (fun w' hx => ldE tU_ok tI_ok rfl rfl rfl (CA.ext (hS.cells (i := 2) rfl) hx) rfl)) ?_
    refine OJ.ef rfl rfl rfl (Ef.lit tU_ok tI_ok hS (C := cSpot) rfl rfl rfl rfl rfl rfl ([a2] : List Spot) rfl rfl rfl rfl) ?_
    rintro _ w1 ⟨A5, rfl, hS⟩
    obtain ⟨t6, ht6, H⟩ := pbind H
    refine OJ.callF rfl rfl rfl rfl rfl hb46 rfl (impl_Pasture_far.c k _ a0 A5 (([a2] : List Spot).length) ([a2] : List Spot) (hS.rd (i := 3) rfl) (hS.le (i := 3) rfl) _ ht6) ?_
    rintro _ w1 ⟨rfl, hs⟩
    replace hS := hS.grow hs
    refine OJ.ef rfl rfl rfl (Ef.alloc hS tI_ok rfl rfl ((carr 10 (carr 10 (ci .i16))).enc (Arr.mk' (Arr.mk' 0 : Arr 10 Int) : Arr 10 (Arr 10 Int))) (by kernel_rfl)) ?_
    rintro _ w1 ⟨b7, rfl, hS⟩
    refine OJ.es rfl rfl (Es.put tI_ok hS (i := 4) rfl rfl rfl rfl rfl (vs := (carr 10 (carr 10 (ci .i16))).enc t6) rfl ((carr 10 (carr 10 (ci .i16))).len _) ((carr 10 (carr 10 (ci .i16))).one _) (Put.all (carr 10 (carr 10 (ci .i16))) (Arr.mk' (Arr.mk' 0 : Arr 10 Int) : Arr 10 (Arr 10 Int)) t6) (by (try simp only [add_lit, Nat.add_assoc, Nat.zero_add, Nat.add_zero]) <;> rfl)) ?_
    intro w1 hS
    refine OJ.nil (EJ.next ?_)
    refine CJ.seq ?_
    refine CJ.region ?_
    refine OJ.st rfl rfl rfl (SR.load rfl rfl (fun w' hx => ldE tU_ok tI_ok rfl rfl rfl (CA.ext (hS.cells (i := 0) rfl) hx) rfl)) ?_
    refine OJ.st rfl rfl rfl (SR.load rfl rfl (fun w' hx => ldE tU_ok tI_ok rfl rfl rfl (CA.ext (hS.cells (i := 1) rfl) hx) rfl)) ?_
    obtain ⟨t8, ht8, H⟩ := pbind H
    refine OJ.callF rfl rfl rfl rfl rfl hb48 rfl (impl_Pasture_way.c k _ a0 a1 _ t6 (hS.cells (i := 4) rfl) _ ht8) ?_
    rintro _ w1 ⟨A9, c10, rfl, hs⟩
    replace hS := hS.addN hs
    have hS : St w no w1 [box b1 (cPasture.enc a0) 31, box b2 (cSpot.enc a1) 46, box b3 (cSpot.enc a2) 46, rowC cSpot A5 (([a2] : List Spot).length) 46 ([a2] : List Spot), box b7 ((carr 10 (carr 10 (ci .i16))).enc t6) 81, rowC cSpot A9 c10 46 t8] [] := hS
    refine OJ.pures tU_ok 2 rfl ?_
    refine OJ.nil (EJ.next ?_)
    refine CJ.ret (?_)
    obtain rfl := Option.some.inj H
    exact EJ.fin rfl (.tmp rfl (.tmp rfl .nil)) ⟨A9, c10, rfl, hS.pick [5] [] rfl⟩

def spec_l01Asked.f (k : Nat) (a0 : Pasture) (a1 : Spot) (a2 : Bool) : Option Int := (spec_l01Ok.f k a0).bind fun t2 => if (!t2) = true then (some 1) else ((spec_l01Is.f a0 a1).bind fun t3 => if (!t3) = true then (some 2) else (if (!a2) = true then (some 2) else (some 0)))
theorem spec_l01Asked.c (k : Nat) (w : World) (pa0 : Addr) (a0 : Pasture) (hp0 : CA w pa0 (cPasture.enc a0)) (a1 : Spot) (a2 : Bool) (r : Int) (H : spec_l01Asked.f k a0 a1 a2 = some r) :
    CV Tryz.prog 49 [.pointer (some pa0), .agg (cSpot.enc a1).toArray, .bool a2].toArray w fun v w' => v = .int .i64 r ∧ Ext w w' := by
  have hS := ((St.init w no).paramP pa0 (cPasture.enc a0) hp0)
  unfold spec_l01Asked.f at H
  refine CV.body Tryz.func49 rfl Tryz.ntmps49 rfl ?_
  refine CJ.seq ?_
  refine CJ.region ?_
  refine OJ.ef rfl rfl rfl (Ef.box hS rfl rfl (cSpot.enc a1) rfl) ?_
  rintro _ w1 ⟨b1, rfl, hS⟩
  refine OJ.pures tU_ok 1 rfl ?_
  refine OJ.nil (EJ.next ?_)
  refine CJ.seq ?_
  refine CJ.seq ?_
  refine CJ.region ?_
  refine OJ.pures tU_ok 1 rfl ?_
  obtain ⟨t2, ht2, H⟩ := pbind H
  refine OJ.callF rfl rfl rfl rfl rfl hb31 rfl (spec_l01Ok.c k _ _ a0 (hS.ca (i := 0) rfl) _ ht2) ?_
  rintro _ w1 ⟨rfl, hs⟩
  replace hS := hS.grow hs
  refine OJ.pures tU_ok 1 rfl ?_
  refine OJ.nil (EJ.next ?_)
  refine CJ.cond rfl (fun hb => ?_) (fun hb => ?_)
  · replace H := pif_t hb H
    refine CJ.seq ?_
    refine CJ.region ?_
    refine OJ.pures tU_ok 1 rfl ?_
    refine OJ.nil (EJ.next ?_)
    refine CJ.ret (EJ.skR (?_))
    obtain rfl := Option.some.inj H
    exact EJ.fin rfl (.tmp rfl .nil) ⟨rfl, hS.ext⟩
  · replace H := pifb_f hb H
    refine CJ.skip (EJ.next ?_)
    refine CJ.seq ?_
    refine CJ.seq ?_
    refine CJ.region ?_
    refine OJ.pures tU_ok 1 rfl ?_
    refine OJ.st rfl rfl rfl (SR.load rfl rfl (fun w' hx => ldE tU_ok tI_ok rfl rfl rfl (CA.ext (hS.cells (i := 0) rfl) hx) rfl)) ?_
    obtain ⟨t3, ht3, H⟩ := pbind H
    refine OJ.callF rfl rfl rfl rfl rfl hb50 rfl (spec_l01Is.c _ _ a0 (hS.ca (i := 0) rfl) a1 _ ht3) ?_
    rintro _ w1 ⟨rfl, hs⟩
    replace hS := hS.grow hs
    refine OJ.pures tU_ok 2 rfl ?_
    refine OJ.split (t := 14) rfl (fun hb => ?_) (fun hb => ?_)
    · replace H := pif_t hb H
      refine OJ.pures tU_ok 3 rfl ?_
      refine OJ.nil (EJ.next ?_)
      refine CJ.condT rfl ?_
      refine CJ.seq ?_
      refine CJ.region ?_
      refine OJ.pures tU_ok 1 rfl ?_
      refine OJ.nil (EJ.next ?_)
      refine CJ.ret (EJ.skR (?_))
      obtain rfl := Option.some.inj H
      exact EJ.fin rfl (.tmp rfl .nil) ⟨rfl, hS.ext⟩
    · replace H := pifb_f hb H
      refine OJ.pures tU_ok 3 rfl ?_
      refine OJ.nil (EJ.next ?_)
      refine CJ.cond rfl (fun hb => ?_) (fun hb => ?_)
      · replace H := pif_t hb H
        refine CJ.seq ?_
        refine CJ.region ?_
        refine OJ.pures tU_ok 1 rfl ?_
        refine OJ.nil (EJ.next ?_)
        refine CJ.ret (EJ.skR (?_))
        obtain rfl := Option.some.inj H
        exact EJ.fin rfl (.tmp rfl .nil) ⟨rfl, hS.ext⟩
      · replace H := pifb_f hb H
        refine CJ.skip (EJ.next ?_)
        refine CJ.seq ?_
        refine CJ.region ?_
        refine OJ.pures tU_ok 1 rfl ?_
        refine OJ.nil (EJ.next ?_)
        refine CJ.ret (?_)
        obtain rfl := Option.some.inj H
        exact EJ.fin rfl (.tmp rfl .nil) ⟨rfl, hS.ext⟩

def spec_WayBetween.l2 (t7 : Arr 10 (Arr 10 Int)) (y20 : Spot) (t26 : List Spot) : Nat → Int → Int → Option Int
  | 0, _, _ => none
  | k + 1, y30, y31 => if y31 < (t26.length : Int) then ((getI t26 y31).bind fun t32 => (getI t26 y31).bind fun t33 => (getI t7.l t32.Y).bind fun t34 => (getI t34.l t33.X).bind fun t35 => (getI t7.l y20.Y).bind fun t36 => (getI t36.l y20.X).bind fun t37 => if t35 = (IntKind.i64.wrap (t37 - 1)) then (if y30 < 0 then (spec_WayBetween.l2 t7 y20 t26 k y31 (IntKind.i64.wrap (y31 + 1))) else ((getI t26 y31).bind fun t38 => (getI t26 y30).bind fun t39 => (spec_l01Before.f t38 t39).bind fun t40 => if t40 = true then (spec_WayBetween.l2 t7 y20 t26 k y31 (IntKind.i64.wrap (y31 + 1))) else (spec_WayBetween.l2 t7 y20 t26 k y30 (IntKind.i64.wrap (y31 + 1))))) else (spec_WayBetween.l2 t7 y20 t26 k y30 (IntKind.i64.wrap (y31 + 1)))) else (some y30)
def spec_WayBetween.l1 (a0 : Pasture) (a2 : Spot) (t7 : Arr 10 (Arr 10 Int)) : Nat → (List Spot) → Spot → Option (List Spot)
  | 0, _, _ => none
  | k + 1, y17, y20 => if y20 ≠ a2 then (((spec_l01Beside.f k a0 y20).bind fun t26 => (spec_WayBetween.l2 t7 y20 t26 k (-1) 0).bind fun y29 => (getI t26 y29).bind fun t41 => (chk (y17.length + ([t41] : List Spot).length ≤ 4294967296)).bind fun u43 => some (y17 ++ ([t41] : List Spot), t41)).bind fun (y22, y25) => spec_WayBetween.l1 a0 a2 t7 k y22 y25) else (some y17)
def spec_WayBetween.f (k : Nat) (a0 : Pasture) (a1 : Spot) (a2 : Spot) : Option (List Spot × Int) := (spec_l01Is.f a0 a2).bind fun t4 => (spec_l01Asked.f k a0 a1 t4).bind fun t5 => if t5 ≠ 0 then (some (([] : List Spot), t5)) else ((spec_l01Steps.f k a0 a2).bind fun t7 => (getI t7.l a1.Y).bind fun t9 => (getI t9.l a1.X).bind fun t10 => if t10 = 0 then (some (([] : List Spot), 6)) else ((spec_WayBetween.l1 a0 a2 t7 k ([a1] : List Spot) a1).bind fun y14 => some (y14, 0)))
theorem spec_WayBetween.c (k : Nat) (w : World) (a0 : Pasture) (a1 : Spot) (a2 : Spot) (r : List Spot × Int) (H : spec_WayBetween.f k a0 a1 a2 = some r) :
    CV Tryz.prog 23 [.agg (cPasture.enc a0).toArray, .agg (cSpot.enc a1).toArray, .agg (cSpot.enc a2).toArray].toArray w fun v w' => ∃ (A0 : Option Addr) (c0 : Nat), v = .tuple #[.slice A0 r.1.length c0, .int .i64 r.2] ∧ St w no w' [rowC cSpot A0 c0 46 r.1] [] := by
  have hS := (St.init w no)
  unfold spec_WayBetween.f at H
  refine CV.body Tryz.func23 rfl Tryz.ntmps23 rfl ?_
  refine CJ.seq ?_
  refine CJ.region ?_
  refine OJ.ef rfl rfl rfl (Ef.box hS rfl rfl (cPasture.enc a0) rfl) ?_
  rintro _ w1 ⟨b1, rfl, hS⟩
  refine OJ.ef rfl rfl rfl (Ef.box hS rfl rfl (cSpot.enc a1) rfl) ?_
  rintro _ w1 ⟨b2, rfl, hS⟩
  refine OJ.ef rfl rfl rfl (Ef.box hS rfl rfl (cSpot.enc a2) rfl) ?_
  rintro _ w1 ⟨b3, rfl, hS⟩
  refine OJ.pures tU_ok 2 rfl ?_
  refine OJ.nil (EJ.next ?_)
  refine CJ.seq ?_
  refine CJ.seq ?_
  refine CJ.draw [] [0, 1, 2, 3, 4] mixed (by kernel_rfl) hS fun w1 hS => ?_
  refine DJ.st rfl rfl rfl rfl rfl (SR.load rfl rfl (fun w' hx => ldE tU_ok tI_ok rfl rfl rfl (CA.ext (hS.cells (i := 1) rfl) hx) rfl)) ?_
  refine DJ.st rfl rfl rfl rfl rfl (SR.load rfl rfl (fun w' hx => ldE tU_ok tI_ok rfl rfl rfl (CA.ext (hS.cells (i := 2) rfl) hx) rfl)) ?_
  obtain ⟨t4, ht4, H⟩ := pbind H
  refine DJ.callF rfl rfl rfl rfl rfl rfl rfl hb50 rfl (spec_l01Is.c _ _ a0 (hS.cells (i := 0) rfl) a2 _ ht4) (by rintro v w' ⟨rfl, hs⟩; exact hs) ?_
  rintro _ w1 ⟨rfl, hs⟩
  replace hS := hS.grow hs
  obtain ⟨t5, ht5, H⟩ := pbind H
  refine DJ.callF rfl rfl rfl rfl rfl rfl rfl hb49 rfl (spec_l01Asked.c k _ _ a0 (hS.cells (i := 0) rfl) a1 t4 _ ht5) (by rintro v w' ⟨rfl, hs⟩; exact hs) ?_
  rintro _ w1 ⟨rfl, hs⟩
  replace hS := hS.grow hs
  refine DJ.pures tU_ok 1 rfl ?_
  refine DJ.nil (EJ.next ?_)
  refine CJ.seq ?_
  refine CJ.region ?_
  refine OJ.pures tU_ok 2 rfl ?_
  refine OJ.nil (EJ.next ?_)
  refine CJ.cond rfl (fun hb => ?_) (fun hb => ?_)
  · replace H := pif_t (of_decide_eq_true hb) H
    refine CJ.seq ?_
    refine CJ.region ?_
    refine OJ.ef rfl rfl rfl (Ef.lit tU_ok tI_ok hS (C := cSpot) rfl rfl rfl rfl rfl rfl ([] : List Spot) rfl rfl rfl rfl) ?_
    rintro _ w1 ⟨A6, rfl, hS⟩
    refine OJ.pures tU_ok 3 rfl ?_
    refine OJ.nil (EJ.next ?_)
    refine CJ.ret (EJ.skR (?_))
    obtain rfl := Option.some.inj H
    exact EJ.fin rfl (.tmp rfl (.tmp rfl .nil)) ⟨A6, (([] : List Spot).length), rfl, hS.pick [3] [] rfl⟩
  · replace H := pif_f (of_decide_eq_false hb) H
    refine CJ.skip (EJ.next ?_)
    refine CJ.seq ?_
    refine CJ.region ?_
    refine OJ.st rfl rfl rfl (SR.load rfl rfl (fun w' hx => ldE tU_ok tI_ok rfl rfl rfl (CA.ext (hS.cells (i := 2) rfl) hx) rfl)) ?_
    obtain ⟨t7, ht7, H⟩ := pbind H
    refine OJ.callF rfl rfl rfl rfl rfl hb51 rfl (spec_l01Steps.c k _ _ a0 (hS.cells (i := 0) rfl) a2 _ ht7) ?_
    rintro _ w1 ⟨rfl, hs⟩
    replace hS := hS.grow hs
    refine OJ.ef rfl rfl rfl (Ef.alloc hS tI_ok rfl rfl ((carr 10 (carr 10 (ci .i64))).enc (Arr.mk' (Arr.mk' 0 : Arr 10 Int) : Arr 10 (Arr 10 Int))) (by kernel_rfl)) ?_
    rintro _ w1 ⟨b8, rfl, hS⟩
    refine OJ.es rfl rfl (Es.put tI_ok hS (i := 3) rfl rfl rfl rfl rfl (vs := (carr 10 (carr 10 (ci .i64))).enc t7) rfl ((carr 10 (carr 10 (ci .i64))).len _) ((carr 10 (carr 10 (ci .i64))).one _) (Put.all (carr 10 (carr 10 (ci .i64))) (Arr.mk' (Arr.mk' 0 : Arr 10 Int) : Arr 10 (Arr 10 Int)) t7) (by (try simp only [add_lit, Nat.add_assoc, Nat.zero_add, Nat.add_zero]) <;> rfl)) ?_
    intro w1 hS
    refine OJ.nil (EJ.next ?_)
    refine CJ.seq ?_
    refine CJ.seq ?_
    refine CJ.draw [] [0, 1, 2, 3, 4, 5, 6, 7] mixed (by kernel_rfl) hS fun w1 hS => ?_
    refine DJ.st rfl rfl rfl rfl rfl (SR.fieldAddr tU_ok tI_ok rfl rfl rfl rfl rfl rfl) ?_
    refine DJ.st rfl rfl rfl rfl rfl (SR.load rfl rfl (fun w' hx => ld1 tU_ok rfl rfl (CA.ext (CA.sub (hS.cells (i := 1) rfl) 1) hx) rfl)) ?_
    refine DJ.st rfl rfl rfl rfl rfl (SR.fieldAddr tU_ok tI_ok rfl rfl rfl rfl rfl rfl) ?_
    refine DJ.st rfl rfl rfl rfl rfl (SR.load rfl rfl (fun w' hx => ld1 tU_ok rfl rfl (CA.ext (CA.sub (hS.cells (i := 1) rfl) 0) hx) rfl)) ?_
    obtain ⟨t9, ht9, H⟩ := pbind H
    refine DJ.st rfl rfl rfl rfl rfl (SR.idxA tU_ok tI_ok rfl rfl rfl rfl rfl (Arr.lt ht9)) ?_
    obtain ⟨t10, ht10, H⟩ := pbind H
    refine DJ.st rfl rfl rfl rfl rfl (SR.idxA tU_ok tI_ok rfl rfl rfl rfl rfl (Arr.lt ht10)) ?_
    refine DJ.st rfl rfl rfl rfl rfl (SR.load rfl rfl (fun w' hx => ld1 tU_ok rfl rfl (CA.ext (CA.idx (CA.idx (hS.cells (i := 3) rfl) ht9) ht10) hx) rfl)) ?_
    refine DJ.pures tU_ok 1 rfl ?_
    refine DJ.nil (EJ.next ?_)
    refine CJ.cond rfl (fun hb => ?_) (fun hb => ?_)
    · replace H := pif_t (of_decide_eq_true hb) H
      refine CJ.seq ?_
      refine CJ.region ?_
      refine OJ.ef rfl rfl rfl (Ef.lit tU_ok tI_ok hS (C := cSpot) rfl rfl rfl rfl rfl rfl ([] : List Spot) rfl rfl rfl rfl) ?_
      rintro _ w1 ⟨A11, rfl, hS⟩
      refine OJ.pures tU_ok 2 rfl ?_
      refine OJ.nil (EJ.next ?_)
      refine CJ.ret (EJ.skR (?_))
      obtain rfl := Option.some.inj H
      exact EJ.fin rfl (.tmp rfl (.tmp rfl .nil)) ⟨A11, (([] : List Spot).length), rfl, hS.pick [4] [] rfl⟩
    · replace H := pif_f (of_decide_eq_false hb) H
      refine CJ.skip (EJ.next ?_)
      refine CJ.seq ?_
      refine CJ.region ?_
      refine OJ.st rfl rfl rfl (SR.load rfl rfl (fun w' hx => ldE tU_ok tI_ok rfl rfl rfl (CA.ext (hS.cells (i := 1) rfl) hx) rfl)) ?_
      refine OJ.ef rfl rfl rfl (Ef.lit tU_ok tI_ok hS (C := cSpot) rfl rfl rfl rfl rfl rfl ([a1] : List Spot) rfl rfl rfl rfl) ?_
      rintro _ w1 ⟨A12, rfl, hS⟩
      refine OJ.pures tU_ok 1 rfl ?_
      refine OJ.nil (EJ.next ?_)
      refine CJ.seq ?_
      refine CJ.seq ?_
      refine CJ.region ?_
      refine OJ.st rfl rfl rfl (SR.load rfl rfl (fun w' hx => ldE tU_ok tI_ok rfl rfl rfl (CA.ext (hS.cells (i := 1) rfl) hx) rfl)) ?_
      refine OJ.ef rfl rfl rfl (Ef.alloc hS tI_ok rfl rfl (cSpot.enc (⟨0, 0⟩ : Spot)) rfl) ?_
      rintro _ w1 ⟨b13, rfl, hS⟩
      refine OJ.es rfl rfl (Es.store tI_ok hS (i := 5) rfl rfl rfl rfl rfl rfl (vs := cSpot.enc a1) rfl (cSpot.len _) (cSpot.one _) (Nat.le_of_ble_eq_true rfl) (cSpot.enc a1) rfl) ?_
      intro w1 hS
      refine OJ.nil (EJ.next ?_)
      obtain ⟨j392, H, K392⟩ := pbind H
      refine CJ.cut1 (fun F w1 => ∃ (y14 : List Spot) (A15 : Option Addr) (c16 : Nat), (some y14 : Option (List Spot)) = some j392 ∧ F = [(10, .slice A15 y14.length c16)] ∧ St w no w1 [rowC cSpot A15 c16 46 y14] []) ?_ ?_
      · skip
        refine CJ.block ?_
        refine CJ.loop (fun k F w1 => ∃ (y17 : List Spot) (y20 : Spot) (A18 : Option Addr) (c19 : Nat) (b21 : Nat), F = [(3, .pointer (some ⟨b1, 0, none⟩)), (5, .pointer (some ⟨b3, 0, none⟩)), (9, .pointer (some ⟨b8, 0, none⟩)), (10, .slice A18 y17.length c19), (11, .pointer (some ⟨b21, 0, none⟩))] ∧ St w no w1 [box b1 (cPasture.enc a0) 31, box b3 (cSpot.enc a2) 46, box b8 ((carr 10 (carr 10 (ci .i64))).enc t7) 64, rowC cSpot A18 c19 46 y17, box b21 (cSpot.enc y20) 46] [] ∧ spec_WayBetween.l1 a0 a2 t7 k y17 y20 = some j392) k (F' := [(3, .pointer (some ⟨b1, 0, none⟩)), (5, .pointer (some ⟨b3, 0, none⟩)), (9, .pointer (some ⟨b8, 0, none⟩)), (10, .slice A12 ([a1] : List Spot).length (([a1] : List Spot).length)), (11, .pointer (some ⟨b13, 0, none⟩))]) ⟨rfl, rfl, rfl, rfl, rfl, trivial⟩ ⟨([a1] : List Spot), a1, A12, (([a1] : List Spot).length), b13, rfl, hS.pick [0, 2, 3, 4, 5] [] rfl, H⟩ ?_
        rintro k F w1 ⟨y17, y20, A18, c19, b21, rfl, hS, H⟩
        cases k with
        | zero => rw [spec_WayBetween.l1] at H; cases H
        | succ k =>
          rw [spec_WayBetween.l1] at H
          refine CJ.seq ?_
          refine CJ.seq ?_
          refine CJ.region ?_
          refine OJ.st rfl rfl rfl (SR.load rfl rfl (fun w' hx => ldE tU_ok tI_ok rfl rfl rfl (CA.ext (hS.cells (i := 4) rfl) hx) rfl)) ?_
          refine OJ.st rfl rfl rfl (SR.load rfl rfl (fun w' hx => ldE tU_ok tI_ok rfl rfl rfl (CA.ext (hS.cells (i := 1) rfl) hx) rfl)) ?_
          refine OJ.st rfl rfl rfl (SR.neS eqT46 eqG46 rfl rfl rfl (rfl : _ = (cSpot.enc y20).toArray) (rfl : _ = (cSpot.enc a2).toArray)) ?_
          refine OJ.nil (EJ.next ?_)
          refine CJ.cond rfl (fun hb => ?_) (fun hb => ?_)
          · replace H := pif_t (of_decide_eq_true hb) H
            refine CJ.skip (EJ.next ?_)
            obtain ⟨j399, H, K399⟩ := pbind H
            refine CJ.cut (fun F w1 => ∃ (y22 : List Spot) (y25 : Spot) (A23 : Option Addr) (c24 : Nat), (some (y22, y25) : Option ((List Spot) × Spot)) = some j399 ∧ F = [(3, .pointer (some ⟨b1, 0, none⟩)), (5, .pointer (some ⟨b3, 0, none⟩)), (9, .pointer (some ⟨b8, 0, none⟩)), (10, .slice A23 y22.length c24), (11, .pointer (some ⟨b21, 0, none⟩))] ∧ St w no w1 [box b1 (cPasture.enc a0) 31, box b3 (cSpot.enc a2) 46, box b8 ((carr 10 (carr 10 (ci .i64))).enc t7) 64, rowC cSpot A23 c24 46 y22, box b21 (cSpot.enc y25) 46] []) ?_ ?_
            · skip
              refine CJ.block ?_
              refine CJ.seq ?_
              refine CJ.region ?_
              refine OJ.st rfl rfl rfl (SR.load rfl rfl (fun w' hx => ldE tU_ok tI_ok rfl rfl rfl (CA.ext (hS.cells (i := 4) rfl) hx) rfl)) ?_
              obtain ⟨t26, ht26, H⟩ := pbind H
              refine OJ.callF rfl rfl rfl rfl rfl hb52 rfl (spec_l01Beside.c k _ _ a0 (hS.cells (i := 0) rfl) y20 _ ht26) ?_
              rintro _ w1 ⟨A27, c28, rfl, hs⟩
              replace hS := hS.addN hs
              have hS : St w no w1 [box b1 (cPasture.enc a0) 31, box b3 (cSpot.enc a2) 46, box b8 ((carr 10 (carr 10 (ci .i64))).enc t7) 64, rowC cSpot A18 c19 46 y17, box b21 (cSpot.enc y20) 46, rowC cSpot A27 c28 46 t26] [] := hS
              refine OJ.pures tU_ok 1 rfl ?_
              refine OJ.nil (EJ.next ?_)
              refine CJ.seq ?_
              refine CJ.region ?_
              refine OJ.pures tU_ok 1 rfl ?_
              refine OJ.nil (EJ.next ?_)
              refine CJ.seq ?_
              refine CJ.seq ?_
              refine CJ.region ?_
              refine OJ.pures tU_ok 1 rfl ?_
              refine OJ.nil (EJ.next ?_)
              obtain ⟨j401, H, K401⟩ := pbind H
              refine CJ.cut1 (fun F w1 => ∃ (y29 : Int) , (some y29 : Option Int) = some j401 ∧ F = [(3, .pointer (some ⟨b1, 0, none⟩)), (5, .pointer (some ⟨b3, 0, none⟩)), (9, .pointer (some ⟨b8, 0, none⟩)), (10, .slice A18 y17.length c19), (11, .pointer (some ⟨b21, 0, none⟩)), (12, .slice A27 t26.length c28), (13, .int .i64 y29)] ∧ St w no w1 [box b1 (cPasture.enc a0) 31, box b3 (cSpot.enc a2) 46, box b8 ((carr 10 (carr 10 (ci .i64))).enc t7) 64, rowC cSpot A18 c19 46 y17, box b21 (cSpot.enc y20) 46, rowC cSpot A27 c28 46 t26] []) ?_ ?_
              · skip
                refine CJ.block ?_
                refine CJ.loop (fun k F w1 => ∃ (y30 : Int) (y31 : Int), F = [(3, .pointer (some ⟨b1, 0, none⟩)), (5, .pointer (some ⟨b3, 0, none⟩)), (9, .pointer (some ⟨b8, 0, none⟩)), (10, .slice A18 y17.length c19), (11, .pointer (some ⟨b21, 0, none⟩)), (12, .slice A27 t26.length c28), (13, .int .i64 y30), (14, .int .i64 y31)] ∧ St w no w1 [box b1 (cPasture.enc a0) 31, box b3 (cSpot.enc a2) 46, box b8 ((carr 10 (carr 10 (ci .i64))).enc t7) 64, rowC cSpot A18 c19 46 y17, box b21 (cSpot.enc y20) 46, rowC cSpot A27 c28 46 t26] [] ∧ spec_WayBetween.l2 t7 y20 t26 k y30 y31 = some j401) k (F' := [(3, .pointer (some ⟨b1, 0, none⟩)), (5, .pointer (some ⟨b3, 0, none⟩)), (9, .pointer (some ⟨b8, 0, none⟩)), (10, .slice A18 y17.length c19), (11, .pointer (some ⟨b21, 0, none⟩)), (12, .slice A27 t26.length c28), (13, .int .i64 (-1)), (14, .int .i64 0)]) ⟨rfl, rfl, rfl, rfl, rfl, rfl, rfl, rfl, trivial⟩ ⟨(-1), 0, rfl, hS.pick [0, 1, 2, 3, 4, 5] [] rfl, H⟩ ?_
                rintro k F w1 ⟨y30, y31, rfl, hS, H⟩
                cases k with
                | zero => rw [spec_WayBetween.l2] at H; cases H
                | succ k =>
                  rw [spec_WayBetween.l2] at H
                  refine CJ.seq ?_
                  refine CJ.seq ?_
                  refine CJ.region ?_
                  refine OJ.pures tU_ok 4 rfl ?_
                  refine OJ.nil (EJ.next ?_)
                  refine CJ.cond rfl (fun hb => ?_) (fun hb => ?_)
                  · replace H := pif_t (of_decide_eq_true hb) H
                    refine CJ.skip (EJ.next ?_)
                    refine CJ.seq ?_
                    refine CJ.block ?_
                    refine CJ.seq ?_
                    refine CJ.draw [] [0, 1, 2, 3, 4, 5, 6, 7, 8, 9, 10, 11, 12, 13, 14, 15, 16, 17, 18, 19, 20, 21, 22] mixed (by kernel_rfl) hS fun w1 hS => ?_
                    refine DJ.pures tU_ok 2 rfl ?_
                    obtain ⟨t32, ht32, H⟩ := pbind H
                    obtain ⟨ad32, e32⟩ := (hS.rd (i := 5) rfl).some' ht32
                    refine DJ.st rfl rfl rfl rfl rfl (SR.idxS tU_ok tI_ok rfl rfl rfl rfl e32 rfl (getI_some ht32).1) ?_
                    refine DJ.st rfl rfl rfl rfl rfl (SR.fieldAddr tU_ok tI_ok rfl rfl rfl rfl rfl rfl) ?_
                    refine DJ.st rfl rfl rfl rfl rfl (SR.load rfl rfl (fun w' hx => ld1 tU_ok rfl rfl (CA.ext (CA.sub ((hS.rd (i := 5) rfl).at_ e32 ht32) 1) hx) rfl)) ?_
                    refine DJ.pures tU_ok 2 rfl ?_
                    obtain ⟨t33, ht33, H⟩ := pbind H
                    obtain ⟨ad33, e33⟩ := (hS.rd (i := 5) rfl).some' ht33
                    refine DJ.st rfl rfl rfl rfl rfl (SR.idxS tU_ok tI_ok rfl rfl rfl rfl e33 rfl (getI_some ht33).1) ?_
                    refine DJ.st rfl rfl rfl rfl rfl (SR.fieldAddr tU_ok tI_ok rfl rfl rfl rfl rfl rfl) ?_
                    refine DJ.st rfl rfl rfl rfl rfl (SR.load rfl rfl (fun w' hx => ld1 tU_ok rfl rfl (CA.ext (CA.sub ((hS.rd (i := 5) rfl).at_ e33 ht33) 0) hx) rfl)) ?_
                    obtain ⟨t34, ht34, H⟩ := pbind H
                    refine DJ.st rfl rfl rfl rfl rfl (SR.idxA tU_ok tI_ok rfl rfl rfl rfl rfl (Arr.lt ht34)) ?_
                    obtain ⟨t35, ht35, H⟩ := pbind H
                    refine DJ.st rfl rfl rfl rfl rfl (SR.idxA tU_ok tI_ok rfl rfl rfl rfl rfl (Arr.lt ht35)) ?_
                    refine DJ.st rfl rfl rfl rfl rfl (SR.load rfl rfl (fun w' hx => ld1 tU_ok rfl rfl (CA.ext (CA.idx (CA.idx (hS.cells (i := 2) rfl) ht34) ht35) hx) rfl)) ?_
                    refine DJ.st rfl rfl rfl rfl rfl (SR.fieldAddr tU_ok tI_ok rfl rfl rfl rfl rfl rfl) ?_
                    refine DJ.st rfl rfl rfl rfl rfl (SR.load rfl rfl (fun w' hx => ld1 tU_ok rfl rfl (CA.ext (CA.sub (hS.cells (i := 4) rfl) 1) hx) rfl)) ?_
                    refine DJ.st rfl rfl rfl rfl rfl (SR.fieldAddr tU_ok tI_ok rfl rfl rfl rfl rfl rfl) ?_
                    refine DJ.st rfl rfl rfl rfl rfl (SR.load rfl rfl (fun w' hx => ld1 tU_ok rfl rfl (CA.ext (CA.sub (hS.cells (i := 4) rfl) 0) hx) rfl)) ?_
                    obtain ⟨t36, ht36, H⟩ := pbind H
                    refine DJ.st rfl rfl rfl rfl rfl (SR.idxA tU_ok tI_ok rfl rfl rfl rfl rfl (Arr.lt ht36)) ?_
                    obtain ⟨t37, ht37, H⟩ := pbind H
                    refine DJ.st rfl rfl rfl rfl rfl (SR.idxA tU_ok tI_ok rfl rfl rfl rfl rfl (Arr.lt ht37)) ?_
                    refine DJ.st rfl rfl rfl rfl rfl (SR.load rfl rfl (fun w' hx => ld1 tU_ok rfl rfl (CA.ext (CA.idx (CA.idx (hS.cells (i := 2) rfl) ht36) ht37) hx) rfl)) ?_
                    refine DJ.pures tU_ok 3 rfl ?_
                    refine DJ.nil (EJ.next ?_)
                    refine CJ.seq ?_
                    refine CJ.draw [] [0, 1, 2, 3, 4, 5, 6, 7, 8, 9, 10, 11, 12, 13, 14, 15] mixed (by kernel_rfl) hS fun w1 hS => ?_
                    refine DJ.pures tU_ok 2 rfl ?_
                    refine DJ.split (t := 72) rfl (fun hb => ?_) (fun hb => ?_)
                    · replace H := pif_t (of_decide_eq_true hb) H
                      refine DJ.pures tU_ok 3 rfl ?_
                      refine DJ.split (t := 75) rfl (fun hb => ?_) (fun hb => ?_)
                      · replace H := pif_t (of_decide_eq_true hb) H
                        refine DJ.pures tU_ok 11 rfl ?_
                        refine DJ.nil (EJ.next ?_)
                        refine CJ.condT rfl ?_
                        refine CJ.region ?_
                        refine OJ.pures tU_ok 2 rfl ?_
                        refine OJ.nil (EJ.blk (EJ.next ?_))
                        refine CJ.region ?_
                        refine OJ.pures tU_ok 3 rfl ?_
                        refine OJ.nil ?_
                        exact EJ.round k (F' := [(3, .pointer (some ⟨b1, 0, none⟩)), (5, .pointer (some ⟨b3, 0, none⟩)), (9, .pointer (some ⟨b8, 0, none⟩)), (10, .slice A18 y17.length c19), (11, .pointer (some ⟨b21, 0, none⟩)), (12, .slice A27 t26.length c28), (13, .int .i64 y31), (14, .int .i64 (IntKind.i64.wrap (y31 + 1)))]) ⟨rfl, rfl, rfl, rfl, rfl, rfl, rfl, rfl, trivial⟩ (Nat.lt_succ_self _) ⟨y31, (IntKind.i64.wrap (y31 + 1)), rfl, hS.pick [0, 1, 2, 3, 4, 5] [] rfl, H⟩
                      · replace H := pif_f (of_decide_eq_false hb) H
                        refine DJ.pures tU_ok 2 rfl ?_
                        obtain ⟨t38, ht38, H⟩ := pbind H
                        obtain ⟨ad38, e38⟩ := (hS.rd (i := 5) rfl).some' ht38
                        refine DJ.st rfl rfl rfl rfl rfl (SR.idxS tU_ok tI_ok rfl rfl rfl rfl e38 rfl (getI_some ht38).1) ?_
                        refine DJ.st rfl rfl rfl rfl rfl (SR.load rfl rfl (fun w' hx => ldE tU_ok tI_ok rfl rfl rfl (CA.ext ((hS.rd (i := 5) rfl).at_ e38 ht38) hx) rfl)) ?_
                        refine DJ.pures tU_ok 2 rfl ?_
                        obtain ⟨t39, ht39, H⟩ := pbind H
                        obtain ⟨ad39, e39⟩ := (hS.rd (i := 5) rfl).some' ht39
                        refine DJ.st rfl rfl rfl rfl rfl (SR.idxS tU_ok tI_ok rfl rfl rfl rfl e39 rfl (getI_some ht39).1) ?_
                        refine DJ.st rfl rfl rfl rfl rfl (SR.load rfl rfl (fun w' hx => ldE tU_ok tI_ok rfl rfl rfl (CA.ext ((hS.rd (i := 5) rfl).at_ e39 ht39) hx) rfl)) ?_
                        obtain ⟨t40, ht40, H⟩ := pbind H
                        refine DJ.callF rfl rfl rfl rfl rfl rfl rfl hb43 rfl (spec_l01Before.c _ t38 t39 _ ht40) (by rintro v w' ⟨rfl, hs⟩; exact hs) ?_
                        rintro _ w1 ⟨rfl, hs⟩
                        replace hS := hS.grow hs
                        refine DJ.pures tU_ok 2 rfl ?_
                        refine DJ.nil (EJ.next ?_)
                        refine CJ.cond rfl (fun hb => ?_) (fun hb => ?_)
                        · replace H := pif_t hb H
                          refine CJ.region ?_
                          refine OJ.pures tU_ok 2 rfl ?_
                          refine OJ.nil (EJ.blk (EJ.next ?_))
                          refine CJ.region ?_
                          refine OJ.pures tU_ok 3 rfl ?_
                          refine OJ.nil ?_
                          exact EJ.round k (F' := [(3, .pointer (some ⟨b1, 0, none⟩)), (5, .pointer (some ⟨b3, 0, none⟩)), (9, .pointer (some ⟨b8, 0, none⟩)), (10, .slice A18 y17.length c19), (11, .pointer (some ⟨b21, 0, none⟩)), (12, .slice A27 t26.length c28), (13, .int .i64 y31), (14, .int .i64 (IntKind.i64.wrap (y31 + 1)))]) ⟨rfl, rfl, rfl, rfl, rfl, rfl, rfl, rfl, trivial⟩ (Nat.lt_succ_self _) ⟨y31, (IntKind.i64.wrap (y31 + 1)), rfl, hS.pick [0, 1, 2, 3, 4, 5] [] rfl, H⟩
                        · replace H := pifb_f hb H
                          refine CJ.skip (EJ.blk (EJ.next ?_))
                          refine CJ.region ?_
                          refine OJ.pures tU_ok 3 rfl ?_
                          refine OJ.nil ?_
                          exact EJ.round k (F' := [(3, .pointer (some ⟨b1, 0, none⟩)), (5, .pointer (some ⟨b3, 0, none⟩)), (9, .pointer (some ⟨b8, 0, none⟩)), (10, .slice A18 y17.length c19), (11, .pointer (some ⟨b21, 0, none⟩)), (12, .slice A27 t26.length c28), (13, .int .i64 y30), (14, .int .i64 (IntKind.i64.wrap (y31 + 1)))]) ⟨rfl, rfl, rfl, rfl, rfl, rfl, rfl, rfl, trivial⟩ (Nat.lt_succ_self _) ⟨y30, (IntKind.i64.wrap (y31 + 1)), rfl, hS.pick [0, 1, 2, 3, 4, 5] [] rfl, H⟩
                    · replace H := pif_f (of_decide_eq_false hb) H
                      refine DJ.pures tU_ok 14 rfl ?_
                      refine DJ.nil (EJ.next ?_)
                      refine CJ.condF rfl ?_
                      refine CJ.skip (EJ.blk (EJ.next ?_))
                      refine CJ.region ?_
                      refine OJ.pures tU_ok 3 rfl ?_
                      refine OJ.nil ?_
                      exact EJ.round k (F' := [(3, .pointer (some ⟨b1, 0, none⟩)), (5, .pointer (some ⟨b3, 0, none⟩)), (9, .pointer (some ⟨b8, 0, none⟩)), (10, .slice A18 y17.length c19), (11, .pointer (some ⟨b21, 0, none⟩)), (12, .slice A27 t26.length c28), (13, .int .i64 y30), (14, .int .i64 (IntKind.i64.wrap (y31 + 1)))]) ⟨rfl, rfl, rfl, rfl, rfl, rfl, rfl, rfl, trivial⟩ (Nat.lt_succ_self _) ⟨y30, (IntKind.i64.wrap (y31 + 1)), rfl, hS.pick [0, 1, 2, 3, 4, 5] [] rfl, H⟩
                  · replace H := pif_f (of_decide_eq_false hb) H
                    refine CJ.exit (EJ.skE (EJ.skE (EJ.hit (?_))))
                    exact EJ.meet (F' := [(3, .pointer (some ⟨b1, 0, none⟩)), (5, .pointer (some ⟨b3, 0, none⟩)), (9, .pointer (some ⟨b8, 0, none⟩)), (10, .slice A18 y17.length c19), (11, .pointer (some ⟨b21, 0, none⟩)), (12, .slice A27 t26.length c28), (13, .int .i64 y30)]) ⟨rfl, rfl, rfl, rfl, rfl, rfl, rfl, trivial⟩ ⟨y30, H, rfl, hS.pick [0, 1, 2, 3, 4, 5] [] rfl⟩
              · rintro F w1 ⟨y29, he, rfl, hS⟩
                obtain rfl := Option.some.inj he
                have H := K401
                refine EJ.next ?_
                refine CJ.seq ?_
                refine CJ.region ?_
                refine OJ.pures tU_ok 2 rfl ?_
                obtain ⟨t41, ht41, H⟩ := pbind H
                obtain ⟨ad41, e41⟩ := (hS.rd (i := 5) rfl).some' ht41
                refine OJ.st rfl rfl rfl (SR.idxS tU_ok tI_ok rfl rfl rfl rfl e41 rfl (getI_some ht41).1) ?_
                refine OJ.st rfl rfl rfl (SR.load rfl rfl (fun w' hx => ldE tU_ok tI_ok rfl rfl rfl (CA.ext ((hS.rd (i := 5) rfl).at_ e41 ht41) hx) rfl)) ?_
                refine OJ.es rfl rfl (Es.store tI_ok hS (i := 4) rfl rfl rfl rfl rfl rfl (vs := cSpot.enc t41) rfl (cSpot.len _) (cSpot.one _) (Nat.le_of_ble_eq_true rfl) (cSpot.enc t41) rfl) ?_
                intro w1 hS
                refine OJ.nil (EJ.next ?_)
                refine CJ.region ?_
                refine OJ.pures tU_ok 1 rfl ?_
                refine OJ.st rfl rfl rfl (SR.load rfl rfl (fun w' hx => ldE tU_ok tI_ok rfl rfl rfl (CA.ext (hS.cells (i := 4) rfl) hx) rfl)) ?_
                refine OJ.ef rfl rfl rfl (Ef.lit tU_ok tI_ok hS (C := cSpot) rfl rfl rfl rfl rfl rfl ([t41] : List Spot) rfl rfl rfl rfl) ?_
                rintro _ w1 ⟨A42, rfl, hS⟩
                obtain ⟨u43, hu43, H⟩ := pbind H
                refine OJ.ew rfl rfl rfl (Ew.append tU_ok tI_ok (C := cSpot) (xs := y17) (ys := ([t41] : List Spot)) hS (i := 3) rfl rfl rfl rfl rfl rfl rfl rfl rfl rfl rfl rfl rfl (hS.rd (i := 6) rfl) (chk_some hu43)) ?_
                rintro _ w1 ⟨A44, c45, rfl, hS⟩
                refine OJ.pures tU_ok 1 rfl ?_
                refine OJ.nil (EJ.blk (?_))
                exact EJ.meet (F' := [(3, .pointer (some ⟨b1, 0, none⟩)), (5, .pointer (some ⟨b3, 0, none⟩)), (9, .pointer (some ⟨b8, 0, none⟩)), (10, .slice A44 (y17 ++ ([t41] : List Spot)).length c45), (11, .pointer (some ⟨b21, 0, none⟩))]) ⟨rfl, rfl, rfl, rfl, rfl, trivial⟩ ⟨(y17 ++ ([t41] : List Spot)), t41, A44, c45, H, rfl, hS.pick [0, 1, 2, 3, 4] [] rfl⟩
            · rintro F w1 ⟨y22, y25, A23, c24, he, rfl, hS⟩
              obtain rfl := Option.some.inj he
              have H := K399
              refine CJ.seq ?_
              refine CJ.region ?_
              refine OJ.st rfl rfl rfl (SR.load rfl rfl (fun w' hx => ldE tU_ok tI_ok rfl rfl rfl (CA.ext (hS.cells (i := 4) rfl) hx) rfl)) ?_
              refine OJ.nil (EJ.next ?_)
              refine CJ.region ?_
              refine OJ.ef rfl rfl rfl (Ef.alloc hS tI_ok rfl rfl (cSpot.enc (⟨0, 0⟩ : Spot)) rfl) ?_
              rintro _ w1 ⟨b46, rfl, hS⟩
              refine OJ.es rfl rfl (Es.store tI_ok hS (i := 5) rfl rfl rfl rfl rfl rfl (vs := cSpot.enc y25) rfl (cSpot.len _) (cSpot.one _) (Nat.le_of_ble_eq_true rfl) (cSpot.enc y25) rfl) ?_
              intro w1 hS
              refine OJ.nil ?_
              exact EJ.round k (F' := [(3, .pointer (some ⟨b1, 0, none⟩)), (5, .pointer (some ⟨b3, 0, none⟩)), (9, .pointer (some ⟨b8, 0, none⟩)), (10, .slice A23 y22.length c24), (11, .pointer (some ⟨b46, 0, none⟩))]) ⟨rfl, rfl, rfl, rfl, rfl, trivial⟩ (Nat.lt_succ_self _) ⟨y22, y25, A23, c24, b46, rfl, hS.pick [0, 1, 2, 3, 5] [] rfl, H⟩
          · replace H := pif_f (of_decide_eq_false hb) H
            refine CJ.exit (EJ.skE (EJ.skE (EJ.hit (?_))))
            exact EJ.meet (F' := [(10, .slice A18 y17.length c19)]) ⟨rfl, trivial⟩ ⟨y17, A18, c19, H, rfl, hS.pick [3] [] rfl⟩
      · rintro F w1 ⟨y14, A15, c16, he, rfl, hS⟩
        obtain rfl := Option.some.inj he
        have H := K392
        refine EJ.next ?_
        refine CJ.seq ?_
        refine CJ.region ?_
        refine OJ.pures tU_ok 3 rfl ?_
        refine OJ.nil (EJ.next ?_)
        refine CJ.ret (?_)
        obtain rfl := Option.some.inj H
        exact EJ.fin rfl (.tmp rfl (.tmp rfl .nil)) ⟨A15, c16, rfl, hS.pick [0] [] rfl⟩

def impl_BesideOf.f (k : Nat) (a0 : Pasture) (a1 : Spot) : Option (List Spot × Int) := (impl_cellCode.f k a0 ([a1] : List Spot)).bind fun t4 => if t4 ≠ 0 then (some ([], t4)) else ((impl_Pasture_beside.f k a0 a1).bind fun t5 => some (t5, 0))
theorem impl_BesideOf.c (k : Nat) (w : World) (a0 : Pasture) (a1 : Spot) (r : List Spot × Int) (H : impl_BesideOf.f k a0 a1 = some r) :
    CV Tryz.prog 24 [.agg (cPasture.enc a0).toArray, .agg (cSpot.enc a1).toArray].toArray w fun v w' => ∃ (A0 : Option Addr) (c0 : Nat), v = .tuple #[.slice A0 r.1.length c0, .int .i64 r.2] ∧ St w no w' [rowC cSpot A0 c0 46 r.1] [] := by
  have hS := (St.init w no)
  unfold impl_BesideOf.f at H
  refine CV.body Tryz.func24 rfl Tryz.ntmps24 rfl ?_
  refine CJ.seq ?_
  refine CJ.region ?_
  refine OJ.ef rfl rfl rfl (Ef.box hS rfl rfl (cPasture.enc a0) rfl) ?_
  rintro _ w1 ⟨b1, rfl, hS⟩
  refine OJ.ef rfl rfl rfl (Ef.box hS rfl rfl (cSpot.enc a1) rfl) ?_
  rintro _ w1 ⟨b2, rfl, hS⟩
  refine OJ.pures tU_ok 2 rfl ?_
  refine OJ.nil (EJ.next ?_)
  refine CJ.seq ?_
  refine CJ.seq ?_
  refine CJ.region ?_
  refine OJ.st rfl rfl rfl (SR.load rfl rfl (fun w' hx => ldE tU_ok tI_ok rfl rfl rfl (CA.ext (hS.cells (i := 0) rfl) hx) rfl)) ?_
  refine OJ.st rfl rfl rfl (SR.load rfl rfl (fun w' hx => ldE tU_ok tI_ok rfl rfl rfl (CA.ext (hS.cells (i := 1) rfl) hx) rfl)) ?_
  refine OJ.ef rfl rfl rfl (Ef.lit tU_ok tI_ok hS (C := cSpot) rfl rfl rfl rfl rfl rfl ([a1] : List Spot) rfl rfl rfl rfl) ?_
  rintro _ w1 ⟨A3, rfl, hS⟩
  obtain ⟨t4, ht4, H⟩ := pbind H
  refine OJ.callF rfl rfl rfl rfl rfl hb39 rfl (impl_cellCode.c k _ a0 A3 (([a1] : List Spot).length) ([a1] : List Spot) (hS.rd (i := 2) rfl) (hS.le (i := 2) rfl) _ ht4) ?_
  rintro _ w1 ⟨rfl, hs⟩
  replace hS := hS.grow hs
  refine OJ.pures tU_ok 1 rfl ?_
  refine OJ.nil (EJ.next ?_)
  refine CJ.seq ?_
  refine CJ.region ?_
  refine OJ.pures tU_ok 2 rfl ?_
  refine OJ.nil (EJ.next ?_)
  refine CJ.cond rfl (fun hb => ?_) (fun hb => ?_)
  · replace H := pif_t (of_decide_eq_true hb) H
    refine CJ.seq ?_
    refine CJ.region ?_
    refine OJ.pures tU_ok 3 rfl ?_
    refine OJ.nil (EJ.next ?_)
    refine CJ.ret (EJ.skR (?_))
    replace hS := hS.addNil cSpot 46 none
    obtain rfl := Option.some.inj H
    exact EJ.fin rfl (.tmp rfl (.tmp rfl .nil)) ⟨none, 0, rfl, hS.pick [3] [] rfl⟩
  · replace H := pif_f (of_decide_eq_false hb) H
    refine CJ.skip (EJ.next ?_)
    refine CJ.seq ?_
    refine CJ.region ?_
    refine OJ.st rfl rfl rfl (SR.load rfl rfl (fun w' hx => ldE tU_ok tI_ok rfl rfl rfl (CA.ext (hS.cells (i := 0) rfl) hx) rfl)) ?_
    refine OJ.st rfl rfl rfl (SR.load rfl rfl (fun w' hx => ldE tU_ok tI_ok rfl rfl rfl (CA.ext (hS.cells (i := 1) rfl) hx) rfl)) ?_
    obtain ⟨t5, ht5, H⟩ := pbind H
    refine OJ.callF rfl rfl rfl rfl rfl hb53 rfl (impl_Pasture_beside.c k _ a0 a1 _ ht5) ?_
    rintro _ w1 ⟨A6, c7, rfl, hs⟩
    replace hS := hS.addN hs
    refine OJ.pures tU_ok 2 rfl ?_
    refine OJ.nil (EJ.next ?_)
    refine CJ.ret (?_)
    obtain rfl := Option.some.inj H
    exact EJ.fin rfl (.tmp rfl (.tmp rfl .nil)) ⟨A6, c7, rfl, hS.pick [3] [] rfl⟩

def spec_HasSpot.l1 (a0 : List Spot) (a1 : Spot) : Nat → Int → Option (Bool ⊕ Unit)
  | 0, _ => none
  | k + 1, y2 => if y2 < (a0.length : Int) then ((getI a0 y2).bind fun t3 => if t3 = a1 then (some (Sum.inl true)) else (spec_HasSpot.l1 a0 a1 k (IntKind.i64.wrap (y2 + 1)))) else (some (Sum.inr ()))
def spec_HasSpot.f (k : Nat) (a0 : List Spot) (a1 : Spot) : Option Bool := (spec_HasSpot.l1 a0 a1 k 0).bind fun s406 => match s406 with | .inl r => some r | .inr _ => some false
theorem spec_HasSpot.c (k : Nat) (w : World) (Aa0 : Option Addr) (ca0 : Nat) (a0 : List Spot) (hr0 : Rd cSpot w Aa0 a0) (hc0 : a0.length ≤ ca0) (a1 : Spot) (r : Bool) (H : spec_HasSpot.f k a0 a1 = some r) :
    CV Tryz.prog 25 [.slice Aa0 a0.length ca0, .agg (cSpot.enc a1).toArray].toArray w fun v w' => v = .bool r ∧ Ext w w' := by
  have hS := ((St.init w no).param cSpot Aa0 ca0 a0 hr0 hc0)
  unfold spec_HasSpot.f at H
  refine CV.body Tryz.func25 rfl Tryz.ntmps25 rfl ?_
  refine CJ.seq ?_
  refine CJ.region ?_
  refine OJ.ef rfl rfl rfl (Ef.box hS rfl rfl (cSpot.enc a1) rfl) ?_
  rintro _ w1 ⟨b1, rfl, hS⟩
  refine OJ.pures tU_ok 1 rfl ?_
  refine OJ.nil (EJ.next ?_)
  refine CJ.seq ?_
  refine CJ.seq ?_
  refine CJ.region ?_
  refine OJ.pures tU_ok 1 rfl ?_
  refine OJ.nil (EJ.next ?_)
  obtain ⟨j406, H, K406⟩ := pbind H
  refine CJ.cut1 (fun F w1 => (some (Sum.inr ()) : Option (Bool ⊕ Unit)) = some j406 ∧ F = [] ∧ St w no w1 [] [roC cSpot Aa0 ca0 a0]) ?_ ?_
  · skip
    refine CJ.block ?_
    refine CJ.loop (fun k F w1 => ∃ (y2 : Int), F = [(0, .slice Aa0 a0.length ca0), (3, .pointer (some ⟨b1, 0, none⟩)), (5, .int .i64 y2)] ∧ St w no w1 [box b1 (cSpot.enc a1) 46] [roC cSpot Aa0 ca0 a0] ∧ spec_HasSpot.l1 a0 a1 k y2 = some j406) k (F' := [(0, .slice Aa0 a0.length ca0), (3, .pointer (some ⟨b1, 0, none⟩)), (5, .int .i64 0)]) ⟨rfl, rfl, rfl, trivial⟩ ⟨0, rfl, hS.pick [0] [0] rfl, H⟩ ?_
    rintro k F w1 ⟨y2, rfl, hS, H⟩
    cases k with
    | zero => rw [spec_HasSpot.l1] at H; cases H
    | succ k =>
      rw [spec_HasSpot.l1] at H
      refine CJ.seq ?_
      refine CJ.seq ?_
      refine CJ.region ?_
      refine OJ.pures tU_ok 4 rfl ?_
      refine OJ.nil (EJ.next ?_)
      refine CJ.cond rfl (fun hb => ?_) (fun hb => ?_)
      · replace H := pif_t (of_decide_eq_true hb) H
        refine CJ.skip (EJ.next ?_)
        refine CJ.seq ?_
        refine CJ.block ?_
        refine CJ.seq ?_
        refine CJ.draw [] [0, 1, 2, 3, 4, 5] mixed (by kernel_rfl) hS fun w1 hS => ?_
        refine DJ.pures tU_ok 2 rfl ?_
        obtain ⟨t3, ht3, H⟩ := pbind H
        obtain ⟨ad3, e3⟩ := (hS.rd' (i := 0) rfl).some' ht3
        refine DJ.st rfl rfl rfl rfl rfl (SR.idxS tU_ok tI_ok rfl rfl rfl rfl e3 rfl (getI_some ht3).1) ?_
        refine DJ.st rfl rfl rfl rfl rfl (SR.load rfl rfl (fun w' hx => ldE tU_ok tI_ok rfl rfl rfl (CA.ext ((hS.rd' (i := 0) rfl).at_ e3 ht3) hx) rfl)) ?_
        refine DJ.st rfl rfl rfl rfl rfl (SR.load rfl rfl (fun w' hx => ldE tU_ok tI_ok rfl rfl rfl (CA.ext (hS.cells (i := 0) rfl) hx) rfl)) ?_
        refine DJ.st rfl rfl rfl rfl rfl (SR.eqS eqT46 eqG46 rfl rfl rfl (rfl : _ = (cSpot.enc t3).toArray) (rfl : _ = (cSpot.enc a1).toArray)) ?_
        refine DJ.nil (EJ.next ?_)
        refine CJ.cond rfl (fun hb => ?_) (fun hb => ?_)
        · replace H := pif_t (of_decide_eq_true hb) H
          refine CJ.seq ?_
          refine CJ.region ?_
          refine OJ.pures tU_ok 1 rfl ?_
          refine OJ.nil (EJ.next ?_)
          refine CJ.ret (EJ.bkR (EJ.skR (EJ.skR (EJ.bkR (EJ.skR (EJ.skR (?_)))))))
          first | (obtain rfl := Option.some.inj H; have H := K406) | (obtain ⟨q406, H2, e406⟩ := pbind H; obtain rfl := Option.some.inj e406; obtain rfl := Option.some.inj K406; have H := H2)
          obtain rfl := Option.some.inj H
          exact EJ.fin rfl (.tmp rfl .nil) ⟨rfl, hS.ext⟩
        · replace H := pif_f (of_decide_eq_false hb) H
          refine CJ.skip (EJ.blk (EJ.next ?_))
          refine CJ.region ?_
          refine OJ.pures tU_ok 3 rfl ?_
          refine OJ.nil ?_
          exact EJ.round k (F' := [(0, .slice Aa0 a0.length ca0), (3, .pointer (some ⟨b1, 0, none⟩)), (5, .int .i64 (IntKind.i64.wrap (y2 + 1)))]) ⟨rfl, rfl, rfl, trivial⟩ (Nat.lt_succ_self _) ⟨(IntKind.i64.wrap (y2 + 1)), rfl, hS.pick [0] [0] rfl, H⟩
      · replace H := pif_f (of_decide_eq_false hb) H
        refine CJ.exit (EJ.skE (EJ.skE (EJ.hit (?_))))
        exact EJ.meet (F' := []) trivial ⟨H, rfl, hS.pick [] [0] rfl⟩
  · rintro F w1 ⟨he, rfl, hS⟩
    obtain rfl := Option.some.inj he
    have H := K406
    refine EJ.next ?_
    refine CJ.seq ?_
    refine CJ.region ?_
    refine OJ.pures tU_ok 1 rfl ?_
    refine OJ.nil (EJ.next ?_)
    refine CJ.ret (?_)
    obtain rfl := Option.some.inj H
    exact EJ.fin rfl (.tmp rfl .nil) ⟨rfl, hS.ext⟩

def spec_BesideOf.f (k : Nat) (a0 : Pasture) (a1 : Spot) : Option (List Spot × Int) := (spec_l01Asked.f k a0 a1 true).bind fun t3 => if t3 ≠ 0 then (some (([] : List Spot), t3)) else ((spec_l01Beside.f k a0 a1).bind fun t5 => some (t5, 0))
theorem spec_BesideOf.c (k : Nat) (w : World) (a0 : Pasture) (a1 : Spot) (r : List Spot × Int) (H : spec_BesideOf.f k a0 a1 = some r) :
    CV Tryz.prog 26 [.agg (cPasture.enc a0).toArray, .agg (cSpot.enc a1).toArray].toArray w fun v w' => ∃ (A0 : Option Addr) (c0 : Nat), v = .tuple #[.slice A0 r.1.length c0, .int .i64 r.2] ∧ St w no w' [rowC cSpot A0 c0 46 r.1] [] := by
  have hS := (St.init w no)
  unfold spec_BesideOf.f at H
  refine CV.body Tryz.func26 rfl Tryz.ntmps26 rfl ?_
  refine CJ.seq ?_
  refine CJ.region ?_
  refine OJ.ef rfl rfl rfl (Ef.box hS rfl rfl (cPasture.enc a0) rfl) ?_
  rintro _ w1 ⟨b1, rfl, hS⟩
  refine OJ.ef rfl rfl rfl (Ef.box hS rfl rfl (cSpot.enc a1) rfl) ?_
  rintro _ w1 ⟨b2, rfl, hS⟩
  refine OJ.pures tU_ok 2 rfl ?_
  refine OJ.nil (EJ.next ?_)
  refine CJ.seq ?_
  refine CJ.seq ?_
  refine CJ.region ?_
  refine OJ.st rfl rfl rfl (SR.load rfl rfl (fun w' hx => ldE tU_ok tI_ok rfl rfl rfl (CA.ext (hS.cells (i := 1) rfl) hx) rfl)) ?_
  obtain ⟨t3, ht3, H⟩ := pbind H
  refine OJ.callF rfl rfl rfl rfl rfl hb49 rfl (spec_l01Asked.c k _ _ a0 (hS.cells (i := 0) rfl) a1 true _ ht3) ?_
  rintro _ w1 ⟨rfl, hs⟩
  replace hS := hS.grow hs
  refine OJ.pures tU_ok 1 rfl ?_
  refine OJ.nil (EJ.next ?_)
  refine CJ.seq ?_
  refine CJ.region ?_
  refine OJ.pures tU_ok 2 rfl ?_
  refine OJ.nil (EJ.next ?_)
  refine CJ.cond rfl (fun hb => ?_) (fun hb => ?_)
  · replace H := pif_t (of_decide_eq_true hb) H
    refine CJ.seq ?_
    refine CJ.region ?_
    refine OJ.ef rfl rfl rfl (Ef.lit tU_ok tI_ok hS (C := cSpot) rfl rfl rfl rfl rfl rfl ([] : List Spot) rfl rfl rfl rfl) ?_
    rintro _ w1 ⟨A4, rfl, hS⟩
    refine OJ.pures tU_ok 3 rfl ?_
    refine OJ.nil (EJ.next ?_)
    refine CJ.ret (EJ.skR (?_))
    obtain rfl := Option.some.inj H
    exact EJ.fin rfl (.tmp rfl (.tmp rfl .nil)) ⟨A4, (([] : List Spot).length), rfl, hS.pick [2] [] rfl⟩
  · replace H := pif_f (of_decide_eq_false hb) H
    refine CJ.skip (EJ.next ?_)
    refine CJ.seq ?_
    refine CJ.region ?_
    refine OJ.st rfl rfl rfl (SR.load rfl rfl (fun w' hx => ldE tU_ok tI_ok rfl rfl rfl (CA.ext (hS.cells (i := 1) rfl) hx) rfl)) ?_
    obtain ⟨t5, ht5, H⟩ := pbind H
    refine OJ.callF rfl rfl rfl rfl rfl hb52 rfl (spec_l01Beside.c k _ _ a0 (hS.cells (i := 0) rfl) a1 _ ht5) ?_
    rintro _ w1 ⟨A6, c7, rfl, hs⟩
    replace hS := hS.addN hs
    refine OJ.pures tU_ok 2 rfl ?_
    refine OJ.nil (EJ.next ?_)
    refine CJ.ret (?_)
    obtain rfl := Option.some.inj H
    exact EJ.fin rfl (.tmp rfl (.tmp rfl .nil)) ⟨A6, c7, rfl, hS.pick [2] [] rfl⟩

def laws_FnYards.l2 (t10 : List (List Spot) × Int) (y35 : Int) : Nat → Int → Option (((Bool ⊕ (Int × Int × Int)) ⊕ (Int × Int × Int)) ⊕ Unit)
  | 0, _ => none
  | k + 1, y53 => (getI t10.1 y35).bind fun t54 => if y53 < (t54.length : Int) then ((getI t10.1 y35).bind fun t55 => (getI t55 y53).bind fun t56 => (getI t10.1 y35).bind fun t57 => (getI t57 (IntKind.i64.wrap (y53 - 1))).bind fun t58 => (spec_Behind.f t56 t58).bind fun t59 => if (!t59) = true then (some (Sum.inl (Sum.inl (Sum.inl false)))) else (laws_FnYards.l2 t10 y35 k (IntKind.i64.wrap (y53 + 1)))) else (some (Sum.inr ()))
def laws_FnYards.l1 (t4 : Pasture) (t10 : List (List Spot) × Int) : Nat → Int → Int → Int → Int → Option (Bool ⊕ (Int × Int × Int))
  | 0, _, _, _, _ => none
  | k + 1, y32, y33, y34, y35 => if y35 < (t10.1.length : Int) then (((getI t10.1 y35).bind fun t39 => if (t39.length : Int) = 0 then (some (Sum.inl (Sum.inl false))) else ((getI t10.1 y35).bind fun t40 => (impl_GrassOf.f k t4 t40).bind fun t41 => (getI t10.1 y35).bind fun t42 => (impl_SidesOf.f k t4 t42).bind fun t43 => (getI t10.1 y35).bind fun t44 => (getI t10.1 y35).bind fun t45 => (getI t44 (IntKind.i64.wrap ((t45.length : Int) - 1))).bind fun t46 => (impl_YardOf.f k t4 t46).bind fun t47 => (if t41.2 ≠ 0 then (some true) else (if t43.2 ≠ 0 then (some true) else (if t47.2 ≠ 0 then (some true) else ((getI t10.1 y35).bind fun t51 => (spec_SameSpots.f k t47.1 t51).bind fun t52 => some (!t52))))).bind fun y50 => if y50 = true then (some (Sum.inl (Sum.inl false))) else ((laws_FnYards.l2 t10 y35 k 1).bind fun s386 => match s386 with | .inl r => some r | .inr _ => (getI t10.1 y35).bind fun t60 => some (Sum.inr (IntKind.i64.wrap (y32 + (t60.length : Int)), IntKind.i64.wrap (y33 + t41.1), IntKind.i64.wrap (y34 + t43.1)))))).bind fun s382 => match s382 with | .inl r => some r | .inr (y36, y37, y38) => laws_FnYards.l1 t4 t10 k y36 y37 y38 (IntKind.i64.wrap (y35 + 1))) else (some (Sum.inr (y32, y33, y34)))
def laws_FnYards.l3 (t4 : Pasture) (t88 : List Spot × Int) : Nat → Int → Option (Bool ⊕ Unit)
  | 0, _ => none
  | k + 1, y98 => if y98 < (t88.1.length : Int) then ((getI t88.1 (IntKind.i64.wrap (y98 - 1))).bind fun t99 => (impl_BesideOf.f k t4 t99).bind fun t100 => if t100.2 ≠ 0 then (some (Sum.inl false)) else ((getI t88.1 y98).bind fun t103 => (spec_HasSpot.f k t100.1 t103).bind fun t104 => if (!t104) = true then (some (Sum.inl false)) else (laws_FnYards.l3 t4 t88 k (IntKind.i64.wrap (y98 + 1))))) else (some (Sum.inr ()))
def laws_FnYards.l4 (t4 : Pasture) (t69 : Spot) (t84 : Int × Int) (t105 : List Spot × Int) : Nat → Int → Option (Bool ⊕ Unit)
  | 0, _ => none
  | k + 1, y108 => if y108 < (t105.1.length : Int) then ((getI t105.1 y108).bind fun t109 => (impl_StepsBetween.f k t4 t109 t69).bind fun t110 => if t105.2 ≠ 0 then (some (Sum.inl false)) else (if t110.2 ≠ 0 then (some (Sum.inl false)) else (if t110.1 < (IntKind.i64.wrap (t84.1 - 1)) then (some (Sum.inl false)) else (if (IntKind.i64.wrap (t84.1 + 1)) < t110.1 then (some (Sum.inl false)) else (laws_FnYards.l4 t4 t69 t84 t105 k (IntKind.i64.wrap (y108 + 1))))))) else (some (Sum.inr ()))
def laws_FnYards.f (k : Nat) (a0 : List Int) (a1 : List Int) : Option Bool := ((laws_f6big.f a0).bind fun t2 => if t2 = true then (some true) else ((laws_f6big.f a1).bind fun t3 => some t3)).bind fun y1 => if y1 = true then (some true) else ((spec_P6Pasture.f k a0).bind fun t4 => (impl_YardsOf.f k t4).bind fun t6 => (spec_YardsOf.f k t4).bind fun t10 => (impl_IdleHurdles.f k t4).bind fun t14 => (impl_DropIdle.f k t4).bind fun t15 => (spec_DropIdle.f k t4).bind fun t17 => (spec_CountHurdles.f k t4).bind fun t19 => (spec_CountHurdles.f k t17.1).bind fun t20 => (impl_YardsOf.f k t17.1).bind fun t21 => (impl_IdleHurdles.f k t17.1).bind fun t25 => (if t6.2 ≠ t10.2 then (some true) else (if t6.2 ≠ 0 then (some true) else ((spec_SameYards.f k t6.1 t10.1).bind fun t27 => if (!t27) = true then (some true) else (if t14.2 ≠ 0 then (some true) else (if t15.2 ≠ t17.2 then (some true) else (if t15.2 ≠ 0 then (some true) else (if t15.1 ≠ t17.1 then (some true) else (if t19.2 ≠ 0 then (some true) else (if t20.2 ≠ 0 then (some true) else (if t14.1 ≠ (IntKind.i64.wrap (t19.1 - t20.1)) then (some true) else (if t21.2 ≠ 0 then (some true) else ((spec_SameYards.f k t21.1 t10.1).bind fun t28 => if (!t28) = true then (some true) else (if t25.2 ≠ 0 then (some true) else (some (decide (t25.1 ≠ 0)))))))))))))))).bind fun y26 => if y26 = true then (some false) else ((laws_FnYards.l1 t4 t10 k 0 0 0 0).bind fun s330 => match s330 with | .inl r => some r | .inr (y29, y30, y31) => (impl_GrassIn.f k t4).bind fun t61 => (if y29 ≠ (IntKind.i64.wrap ((IntKind.i64.wrap t4.Wide) * (IntKind.i64.wrap t4.High))) then (some true) else (if t61.2 ≠ 0 then (some true) else (if y30 ≠ t61.1 then (some true) else (some (decide (y31 ≠ (IntKind.i64.wrap (2 * t20.1)))))))).bind fun y62 => if y62 = true then (some false) else ((spec_P6Spot.f a1 t4).bind fun t63 => (chk (([7] : List Int).length + a1.length ≤ 4294967296)).bind fun u66 => (spec_P6Spot.f (([7] : List Int) ++ a1) t4).bind fun t69 => (impl_SameYard.f k t4 t63 t69).bind fun t83 => (impl_StepsBetween.f k t4 t63 t69).bind fun t84 => (impl_WayBetween.f k t4 t63 t69).bind fun t85 => (spec_WayBetween.f k t4 t63 t69).bind fun t88 => (impl_StepsBetween.f k t4 t69 t63).bind fun t91 => (if t83.2 ≠ 0 then (some true) else (if t85.2 ≠ t88.2 then (some true) else ((spec_SameSpots.f k t85.1 t88.1).bind fun t93 => if (!t93) = true then (some true) else (if t84.2 ≠ t85.2 then (some true) else (if t91.2 ≠ t84.2 then (some true) else (if t91.1 ≠ t84.1 then (some true) else (some (decide (t83.1 ≠ (decide (t84.2 = 0))))))))))).bind fun y92 => if y92 = true then (some false) else (if t84.2 ≠ 0 then ((if t84.2 = 6 then (some (decide (t84.1 = 0))) else (some false)).bind fun y94 => some y94) else ((if (t88.1.length : Int) ≠ (IntKind.i64.wrap (t84.1 + 1)) then (some true) else ((getI t88.1 0).bind fun t96 => if t96 ≠ t63 then (some true) else ((getI t88.1 (IntKind.i64.wrap ((t88.1.length : Int) - 1))).bind fun t97 => some (decide (t97 ≠ t69))))).bind fun y95 => if y95 = true then (some false) else ((laws_FnYards.l3 t4 t88 k 1).bind fun s405 => match s405 with | .inl r => some r | .inr _ => (spec_BesideOf.f k t4 t63).bind fun t105 => (laws_FnYards.l4 t4 t69 t84 t105 k 0).bind fun s407 => match s407 with | .inl r => some r | .inr _ => some true))))))
theorem laws_FnYards.c (k : Nat) (w : World) (Aa0 : Option Addr) (ca0 : Nat) (a0 : List Int) (hr0 : Rd (ci .u8) w Aa0 a0) (hc0 : a0.length ≤ ca0) (Aa1 : Option Addr) (ca1 : Nat) (a1 : List Int) (hr1 : Rd (ci .u8) w Aa1 a1) (hc1 : a1.length ≤ ca1) (r : Bool) (H : laws_FnYards.f k a0 a1 = some r) :
    CV Tryz.prog 3 [.slice Aa0 a0.length ca0, .slice Aa1 a1.length ca1].toArray w fun v w' => v = .bool r ∧ Ext w w' := by
  have hS := (((St.init w no).param (ci .u8) Aa0 ca0 a0 hr0 hc0).param (ci .u8) Aa1 ca1 a1 hr1 hc1)
  unfold laws_FnYards.f at H
  refine CV.body Tryz.func3 rfl Tryz.ntmps3 rfl ?_
  refine CJ.seq ?_
  refine CJ.region ?_
  refine OJ.pures tU_ok 1 rfl ?_
  refine OJ.nil (EJ.next ?_)
  refine CJ.seq ?_
  obtain ⟨j1, H, K1⟩ := pbind H
  refine CJ.cut (fun F w1 => ∃ (y1 : Bool) , (some y1 : Option Bool) = some j1 ∧ F = [(0, .slice Aa0 a0.length ca0), (1, .slice Aa1 a1.length ca1), (62, .bool y1)] ∧ St w no w1 [] [roC (ci .u8) Aa0 ca0 a0, roC (ci .u8) Aa1 ca1 a1]) ?_ ?_
  · skip
    refine CJ.region ?_
    refine OJ.pures tU_ok 1 rfl ?_
    obtain ⟨t2, ht2, H⟩ := pbind H
    refine OJ.callF rfl rfl rfl rfl rfl hb4 rfl (laws_f6big.c _ Aa0 ca0 a0 (hS.rd' (i := 0) rfl) (hS.le' (i := 0) rfl) _ ht2) ?_
    rintro _ w1 ⟨rfl, hs⟩
    replace hS := hS.grow hs
    refine OJ.pures tU_ok 1 rfl ?_
    refine OJ.split (t := 59) rfl (fun hb => ?_) (fun hb => ?_)
    · replace H := pif_t hb H
      refine OJ.pures tU_ok 3 rfl ?_
      refine OJ.nil ?_
      exact EJ.meet (F' := [(0, .slice Aa0 a0.length ca0), (1, .slice Aa1 a1.length ca1), (62, .bool true)]) ⟨rfl, rfl, rfl, trivial⟩ ⟨true, H, rfl, hS.pick [] [0, 1] rfl⟩
    · replace H := pifb_f hb H
      refine OJ.pures tU_ok 1 rfl ?_
      obtain ⟨t3, ht3, H⟩ := pbind H
      refine OJ.callF rfl rfl rfl rfl rfl hb4 rfl (laws_f6big.c _ Aa1 ca1 a1 (hS.rd' (i := 1) rfl) (hS.le' (i := 1) rfl) _ ht3) ?_
      rintro _ w1 ⟨rfl, hs⟩
      replace hS := hS.grow hs
      refine OJ.pures tU_ok 1 rfl ?_
      refine OJ.nil ?_
      exact EJ.meet (F' := [(0, .slice Aa0 a0.length ca0), (1, .slice Aa1 a1.length ca1), (62, .bool t3)]) ⟨rfl, rfl, rfl, trivial⟩ ⟨t3, H, rfl, hS.pick [] [0, 1] rfl⟩
  · rintro F w1 ⟨y1, he, rfl, hS⟩
    obtain rfl := Option.some.inj he
    have H := K1
    refine CJ.cond rfl (fun hb => ?_) (fun hb => ?_)
    · replace H := pif_t hb H
      refine CJ.seq ?_
      refine CJ.region ?_
      refine OJ.pures tU_ok 1 rfl ?_
      refine OJ.nil (EJ.next ?_)
      refine CJ.ret (EJ.skR (?_))
      obtain rfl := Option.some.inj H
      exact EJ.fin rfl (.tmp rfl .nil) ⟨rfl, hS.ext⟩
    · replace H := pifb_f hb H
      refine CJ.skip (EJ.next ?_)
      refine CJ.seq ?_
      refine CJ.region ?_
      refine OJ.pures tU_ok 1 rfl ?_
      obtain ⟨t4, ht4, H⟩ := pbind H
      refine OJ.callF rfl rfl rfl rfl rfl hb5 rfl (spec_P6Pasture.c k _ Aa0 ca0 a0 (hS.rd' (i := 0) rfl) (hS.le' (i := 0) rfl) _ ht4) ?_
      rintro _ w1 ⟨rfl, hs⟩
      replace hS := hS.grow hs
      refine OJ.ef rfl rfl rfl (Ef.alloc hS tI_ok rfl rfl (cPasture.enc (⟨0, 0, (Arr.mk' (Arr.mk' 0 : Arr 10 Int) : Arr 10 (Arr 10 Int)), (Arr.mk' 0 : Arr 10 Int), (Arr.mk' 0 : Arr 10 Int)⟩ : Pasture)) (by kernel_rfl)) ?_
      rintro _ w1 ⟨b5, rfl, hS⟩
      refine OJ.es rfl rfl (Es.put tI_ok hS (i := 0) rfl rfl rfl rfl rfl (vs := cPasture.enc t4) rfl (cPasture.len _) (cPasture.one _) (Put.all cPasture (⟨0, 0, (Arr.mk' (Arr.mk' 0 : Arr 10 Int) : Arr 10 (Arr 10 Int)), (Arr.mk' 0 : Arr 10 Int), (Arr.mk' 0 : Arr 10 Int)⟩ : Pasture) t4) (by (try simp only [add_lit, Nat.add_assoc, Nat.zero_add, Nat.add_zero]) <;> rfl)) ?_
      intro w1 hS
      refine OJ.nil (EJ.next ?_)
      refine CJ.seq ?_
      refine CJ.region ?_
      refine OJ.st rfl rfl rfl (SR.load rfl rfl (fun w' hx => ldE tU_ok tI_ok rfl rfl rfl (CA.ext (hS.cells (i := 0) rfl) hx) rfl)) ?_
      obtain ⟨t6, ht6, H⟩ := pbind H
      refine OJ.callF rfl rfl rfl rfl rfl hb6 rfl (impl_YardsOf.c k _ t4 _ ht6) ?_
      rintro _ w1 ⟨A7, c8, D9, rfl, hs⟩
      replace hS := hS.addN hs
      refine OJ.pures tU_ok 5 rfl ?_
      refine OJ.nil (EJ.next ?_)
      refine CJ.seq ?_
      refine CJ.region ?_
      refine OJ.st rfl rfl rfl (SR.load rfl rfl (fun w' hx => ldE tU_ok tI_ok rfl rfl rfl (CA.ext (hS.cells (i := 0) rfl) hx) rfl)) ?_
      obtain ⟨t10, ht10, H⟩ := pbind H
      refine OJ.callF rfl rfl rfl rfl rfl hb7 rfl (spec_YardsOf.c k _ t4 _ ht10) ?_
      rintro _ w1 ⟨A11, c12, D13, rfl, hs⟩
      replace hS := hS.addN hs
      refine OJ.pures tU_ok 5 rfl ?_
      refine OJ.nil (EJ.next ?_)
      refine CJ.seq ?_
      refine CJ.region ?_
      refine OJ.st rfl rfl rfl (SR.load rfl rfl (fun w' hx => ldE tU_ok tI_ok rfl rfl rfl (CA.ext (hS.cells (i := 0) rfl) hx) rfl)) ?_
      obtain ⟨t14, ht14, H⟩ := pbind H
      refine OJ.callF rfl rfl rfl rfl rfl hb8 rfl (impl_IdleHurdles.c k _ t4 _ ht14) ?_
      rintro _ w1 ⟨rfl, hs⟩
      replace hS := hS.grow hs
      refine OJ.pures tU_ok 5 rfl ?_
      refine OJ.nil (EJ.next ?_)
      refine CJ.seq ?_
      refine CJ.region ?_
      refine OJ.st rfl rfl rfl (SR.load rfl rfl (fun w' hx => ldE tU_ok tI_ok rfl rfl rfl (CA.ext (hS.cells (i := 0) rfl) hx) rfl)) ?_
      obtain ⟨t15, ht15, H⟩ := pbind H
      refine OJ.callF rfl rfl rfl rfl rfl hb9 rfl (impl_DropIdle.c k _ t4 _ ht15) ?_
      rintro _ w1 ⟨rfl, hs⟩
      replace hS := hS.grow hs
      refine OJ.pures tU_ok 3 rfl ?_
      refine OJ.ef rfl rfl rfl (Ef.alloc hS tI_ok rfl rfl (cPasture.enc (⟨0, 0, (Arr.mk' (Arr.mk' 0 : Arr 10 Int) : Arr 10 (Arr 10 Int)), (Arr.mk' 0 : Arr 10 Int), (Arr.mk' 0 : Arr 10 Int)⟩ : Pasture)) (by kernel_rfl)) ?_
      rintro _ w1 ⟨b16, rfl, hS⟩
      refine OJ.es rfl rfl (Es.put tI_ok hS (i := 3) rfl rfl rfl rfl rfl (vs := cPasture.enc t15.1) rfl (cPasture.len _) (cPasture.one _) (Put.all cPasture (⟨0, 0, (Arr.mk' (Arr.mk' 0 : Arr 10 Int) : Arr 10 (Arr 10 Int)), (Arr.mk' 0 : Arr 10 Int), (Arr.mk' 0 : Arr 10 Int)⟩ : Pasture) t15.1) (by (try simp only [add_lit, Nat.add_assoc, Nat.zero_add, Nat.add_zero]) <;> rfl)) ?_
      intro w1 hS
      refine OJ.pures tU_ok 1 rfl ?_
      refine OJ.nil (EJ.next ?_)
      refine CJ.seq ?_
      refine CJ.region ?_
      refine OJ.st rfl rfl rfl (SR.load rfl rfl (fun w' hx => ldE tU_ok tI_ok rfl rfl rfl (CA.ext (hS.cells (i := 0) rfl) hx) rfl)) ?_
      obtain ⟨t17, ht17, H⟩ := pbind H
      refine OJ.callF rfl rfl rfl rfl rfl hb10 rfl (spec_DropIdle.c k _ t4 _ ht17) ?_
      rintro _ w1 ⟨rfl, hs⟩
      replace hS := hS.grow hs
      refine OJ.pures tU_ok 3 rfl ?_
      refine OJ.ef rfl rfl rfl (Ef.alloc hS tI_ok rfl rfl (cPasture.enc (⟨0, 0, (Arr.mk' (Arr.mk' 0 : Arr 10 Int) : Arr 10 (Arr 10 Int)), (Arr.mk' 0 : Arr 10 Int), (Arr.mk' 0 : Arr 10 Int)⟩ : Pasture)) (by kernel_rfl)) ?_
      rintro _ w1 ⟨b18, rfl, hS⟩
      refine OJ.es rfl rfl (Es.put tI_ok hS (i := 4) rfl rfl rfl rfl rfl (vs := cPasture.enc t17.1) rfl (cPasture.len _) (cPasture.one _) (Put.all cPasture (⟨0, 0, (Arr.mk' (Arr.mk' 0 : Arr 10 Int) : Arr 10 (Arr 10 Int)), (Arr.mk' 0 : Arr 10 Int), (Arr.mk' 0 : Arr 10 Int)⟩ : Pasture) t17.1) (by (try simp only [add_lit, Nat.add_assoc, Nat.zero_add, Nat.add_zero]) <;> rfl)) ?_
      intro w1 hS
      refine OJ.pures tU_ok 1 rfl ?_
      refine OJ.nil (EJ.next ?_)
      refine CJ.seq ?_
      refine CJ.region ?_
      refine OJ.st rfl rfl rfl (SR.load rfl rfl (fun w' hx => ldE tU_ok tI_ok rfl rfl rfl (CA.ext (hS.cells (i := 0) rfl) hx) rfl)) ?_
      obtain ⟨t19, ht19, H⟩ := pbind H
      refine OJ.callF rfl rfl rfl rfl rfl hb11 rfl (spec_CountHurdles.c k _ t4 _ ht19) ?_
      rintro _ w1 ⟨rfl, hs⟩
      replace hS := hS.grow hs
      refine OJ.pures tU_ok 5 rfl ?_
      refine OJ.nil (EJ.next ?_)
      refine CJ.seq ?_
      refine CJ.region ?_
      refine OJ.st rfl rfl rfl (SR.load rfl rfl (fun w' hx => ldE tU_ok tI_ok rfl rfl rfl (CA.ext (hS.cells (i := 4) rfl) hx) rfl)) ?_
      obtain ⟨t20, ht20, H⟩ := pbind H
      refine OJ.callF rfl rfl rfl rfl rfl hb11 rfl (spec_CountHurdles.c k _ t17.1 _ ht20) ?_
      rintro _ w1 ⟨rfl, hs⟩
      replace hS := hS.grow hs
      refine OJ.pures tU_ok 5 rfl ?_
      refine OJ.nil (EJ.next ?_)
      refine CJ.seq ?_
      refine CJ.region ?_
      refine OJ.st rfl rfl rfl (SR.load rfl rfl (fun w' hx => ldE tU_ok tI_ok rfl rfl rfl (CA.ext (hS.cells (i := 4) rfl) hx) rfl)) ?_
      obtain ⟨t21, ht21, H⟩ := pbind H
      refine OJ.callF rfl rfl rfl rfl rfl hb6 rfl (impl_YardsOf.c k _ t17.1 _ ht21) ?_
      rintro _ w1 ⟨A22, c23, D24, rfl, hs⟩
      replace hS := hS.addN hs
      have hS : St w no w1 [box b5 (cPasture.enc t4) 31, rowsC cSpot A7 c8 41 46 D9 t6.1, rowsC cSpot A11 c12 41 46 D13 t10.1, box b16 (cPasture.enc t15.1) 31, box b18 (cPasture.enc t17.1) 31, rowsC cSpot A22 c23 41 46 D24 t21.1] [roC (ci .u8) Aa0 ca0 a0, roC (ci .u8) Aa1 ca1 a1] := hS
      refine OJ.pures tU_ok 5 rfl ?_
      refine OJ.nil (EJ.next ?_)
      refine CJ.seq ?_
      refine CJ.region ?_
      refine OJ.st rfl rfl rfl (SR.load rfl rfl (fun w' hx => ldE tU_ok tI_ok rfl rfl rfl (CA.ext (hS.cells (i := 4) rfl) hx) rfl)) ?_
      obtain ⟨t25, ht25, H⟩ := pbind H
      refine OJ.callF rfl rfl rfl rfl rfl hb8 rfl (impl_IdleHurdles.c k _ t17.1 _ ht25) ?_
      rintro _ w1 ⟨rfl, hs⟩
      replace hS := hS.grow hs
      refine OJ.pures tU_ok 5 rfl ?_
      refine OJ.nil (EJ.next ?_)
      refine CJ.seq ?_
      obtain ⟨j327, H, K327⟩ := pbind H
      refine CJ.cut (fun F w1 => ∃ (y26 : Bool) , (some y26 : Option Bool) = some j327 ∧ F = [(1, .slice Aa1 a1.length ca1), (5, .pointer (some ⟨b5, 0, none⟩)), (8, .slice A11 t10.1.length c12), (18, .int .i64 t20.1), (173, .bool y26)] ∧ St w no w1 [box b5 (cPasture.enc t4) 31, rowsC cSpot A11 c12 41 46 D13 t10.1] [roC (ci .u8) Aa0 ca0 a0, roC (ci .u8) Aa1 ca1 a1]) ?_ ?_
      · skip
        refine CJ.region ?_
        refine OJ.pures tU_ok 4 rfl ?_
        refine OJ.split (t := 113) rfl (fun hb => ?_) (fun hb => ?_)
        · replace H := pif_t (of_decide_eq_true hb) H
          refine OJ.pures tU_ok 60 rfl ?_
          refine OJ.nil ?_
          exact EJ.meet (F' := [(1, .slice Aa1 a1.length ca1), (5, .pointer (some ⟨b5, 0, none⟩)), (8, .slice A11 t10.1.length c12), (18, .int .i64 t20.1), (173, .bool true)]) ⟨rfl, rfl, rfl, rfl, rfl, trivial⟩ ⟨true, H, rfl, hS.pick [0, 2] [0, 1] rfl⟩
        · replace H := pif_f (of_decide_eq_false hb) H
          refine OJ.pures tU_ok 4 rfl ?_
          refine OJ.split (t := 117) rfl (fun hb => ?_) (fun hb => ?_)
          · replace H := pif_t (of_decide_eq_true hb) H
            refine OJ.pures tU_ok 56 rfl ?_
            refine OJ.nil ?_
            exact EJ.meet (F' := [(1, .slice Aa1 a1.length ca1), (5, .pointer (some ⟨b5, 0, none⟩)), (8, .slice A11 t10.1.length c12), (18, .int .i64 t20.1), (173, .bool true)]) ⟨rfl, rfl, rfl, rfl, rfl, trivial⟩ ⟨true, H, rfl, hS.pick [0, 2] [0, 1] rfl⟩
          · replace H := pif_f (of_decide_eq_false hb) H
            refine OJ.pures tU_ok 2 rfl ?_
            obtain ⟨t27, ht27, H⟩ := pbind H
            refine OJ.callF rfl rfl rfl rfl rfl hb12 rfl (spec_SameYards.c k _ A7 c8 D9 t6.1 (hS.rowsRo (i := 1) rfl) A11 c12 D13 t10.1 (hS.rowsRo (i := 2) rfl) _ ht27) ?_
            rintro _ w1 ⟨rfl, hs⟩
            replace hS := hS.grow hs
            refine OJ.pures tU_ok 3 rfl ?_
            refine OJ.split (t := 123) rfl (fun hb => ?_) (fun hb => ?_)
            · replace H := pif_t hb H
              refine OJ.pures tU_ok 50 rfl ?_
              refine OJ.nil ?_
              exact EJ.meet (F' := [(1, .slice Aa1 a1.length ca1), (5, .pointer (some ⟨b5, 0, none⟩)), (8, .slice A11 t10.1.length c12), (18, .int .i64 t20.1), (173, .bool true)]) ⟨rfl, rfl, rfl, rfl, rfl, trivial⟩ ⟨true, H, rfl, hS.pick [0, 2] [0, 1] rfl⟩
            · replace H := pifb_f hb H
              refine OJ.pures tU_ok 4 rfl ?_
              refine OJ.split (t := 127) rfl (fun hb => ?_) (fun hb => ?_)
              · replace H := pif_t (of_decide_eq_true hb) H
                refine OJ.pures tU_ok 46 rfl ?_
                refine OJ.nil ?_
                exact EJ.meet (F' := [(1, .slice Aa1 a1.length ca1), (5, .pointer (some ⟨b5, 0, none⟩)), (8, .slice A11 t10.1.length c12), (18, .int .i64 t20.1), (173, .bool true)]) ⟨rfl, rfl, rfl, rfl, rfl, trivial⟩ ⟨true, H, rfl, hS.pick [0, 2] [0, 1] rfl⟩
              · replace H := pif_f (of_decide_eq_false hb) H
                refine OJ.pures tU_ok 5 rfl ?_
                refine OJ.split (t := 132) rfl (fun hb => ?_) (fun hb => ?_)
                · replace H := pif_t (of_decide_eq_true hb) H
                  refine OJ.pures tU_ok 41 rfl ?_
                  refine OJ.nil ?_
                  exact EJ.meet (F' := [(1, .slice Aa1 a1.length ca1), (5, .pointer (some ⟨b5, 0, none⟩)), (8, .slice A11 t10.1.length c12), (18, .int .i64 t20.1), (173, .bool true)]) ⟨rfl, rfl, rfl, rfl, rfl, trivial⟩ ⟨true, H, rfl, hS.pick [0, 2] [0, 1] rfl⟩
                · replace H := pif_f (of_decide_eq_false hb) H
                  refine OJ.pures tU_ok 4 rfl ?_
                  refine OJ.split (t := 136) rfl (fun hb => ?_) (fun hb => ?_)
                  · replace H := pif_t (of_decide_eq_true hb) H
                    refine OJ.pures tU_ok 37 rfl ?_
                    refine OJ.nil ?_
                    exact EJ.meet (F' := [(1, .slice Aa1 a1.length ca1), (5, .pointer (some ⟨b5, 0, none⟩)), (8, .slice A11 t10.1.length c12), (18, .int .i64 t20.1), (173, .bool true)]) ⟨rfl, rfl, rfl, rfl, rfl, trivial⟩ ⟨true, H, rfl, hS.pick [0, 2] [0, 1] rfl⟩
                  · replace H := pif_f (of_decide_eq_false hb) H
                    refine OJ.st rfl rfl rfl (SR.load rfl rfl (fun w' hx => ldE tU_ok tI_ok rfl rfl rfl (CA.ext (hS.cells (i := 3) rfl) hx) rfl)) ?_
                    refine OJ.st rfl rfl rfl (SR.load rfl rfl (fun w' hx => ldE tU_ok tI_ok rfl rfl rfl (CA.ext (hS.cells (i := 4) rfl) hx) rfl)) ?_
                    refine OJ.st rfl rfl rfl (SR.neS eqT31 eqG31 rfl rfl rfl (rfl : _ = (cPasture.enc t15.1).toArray) (rfl : _ = (cPasture.enc t17.1).toArray)) ?_
                    refine OJ.pures tU_ok 2 rfl ?_
                    refine OJ.split (t := 141) rfl (fun hb => ?_) (fun hb => ?_)
                    · replace H := pif_t (of_decide_eq_true hb) H
                      refine OJ.pures tU_ok 32 rfl ?_
                      refine OJ.nil ?_
                      exact EJ.meet (F' := [(1, .slice Aa1 a1.length ca1), (5, .pointer (some ⟨b5, 0, none⟩)), (8, .slice A11 t10.1.length c12), (18, .int .i64 t20.1), (173, .bool true)]) ⟨rfl, rfl, rfl, rfl, rfl, trivial⟩ ⟨true, H, rfl, hS.pick [0, 2] [0, 1] rfl⟩
                    · replace H := pif_f (of_decide_eq_false hb) H
                      refine OJ.pures tU_ok 4 rfl ?_
                      refine OJ.split (t := 145) rfl (fun hb => ?_) (fun hb => ?_)
                      · replace H := pif_t (of_decide_eq_true hb) H
                        refine OJ.pures tU_ok 28 rfl ?_
                        refine OJ.nil ?_
                        exact EJ.meet (F' := [(1, .slice Aa1 a1.length ca1), (5, .pointer (some ⟨b5, 0, none⟩)), (8, .slice A11 t10.1.length c12), (18, .int .i64 t20.1), (173, .bool true)]) ⟨rfl, rfl, rfl, rfl, rfl, trivial⟩ ⟨true, H, rfl, hS.pick [0, 2] [0, 1] rfl⟩
                      · replace H := pif_f (of_decide_eq_false hb) H
                        refine OJ.pures tU_ok 4 rfl ?_
                        refine OJ.split (t := 149) rfl (fun hb => ?_) (fun hb => ?_)
                        · replace H := pif_t (of_decide_eq_true hb) H
                          refine OJ.pures tU_ok 24 rfl ?_
                          refine OJ.nil ?_
                          exact EJ.meet (F' := [(1, .slice Aa1 a1.length ca1), (5, .pointer (some ⟨b5, 0, none⟩)), (8, .slice A11 t10.1.length c12), (18, .int .i64 t20.1), (173, .bool true)]) ⟨rfl, rfl, rfl, rfl, rfl, trivial⟩ ⟨true, H, rfl, hS.pick [0, 2] [0, 1] rfl⟩
                        · replace H := pif_f (of_decide_eq_false hb) H
                          refine OJ.pures tU_ok 7 rfl ?_
                          refine OJ.split (t := 156) rfl (fun hb => ?_) (fun hb => ?_)
                          · replace H := pif_t (of_decide_eq_true hb) H
                            refine OJ.pures tU_ok 17 rfl ?_
                            refine OJ.nil ?_
                            exact EJ.meet (F' := [(1, .slice Aa1 a1.length ca1), (5, .pointer (some ⟨b5, 0, none⟩)), (8, .slice A11 t10.1.length c12), (18, .int .i64 t20.1), (173, .bool true)]) ⟨rfl, rfl, rfl, rfl, rfl, trivial⟩ ⟨true, H, rfl, hS.pick [0, 2] [0, 1] rfl⟩
                          · replace H := pif_f (of_decide_eq_false hb) H
                            refine OJ.pures tU_ok 4 rfl ?_
                            refine OJ.split (t := 160) rfl (fun hb => ?_) (fun hb => ?_)
                            · replace H := pif_t (of_decide_eq_true hb) H
                              refine OJ.pures tU_ok 13 rfl ?_
                              refine OJ.nil ?_
                              exact EJ.meet (F' := [(1, .slice Aa1 a1.length ca1), (5, .pointer (some ⟨b5, 0, none⟩)), (8, .slice A11 t10.1.length c12), (18, .int .i64 t20.1), (173, .bool true)]) ⟨rfl, rfl, rfl, rfl, rfl, trivial⟩ ⟨true, H, rfl, hS.pick [0, 2] [0, 1] rfl⟩
                            · replace H := pif_f (of_decide_eq_false hb) H
                              refine OJ.pures tU_ok 2 rfl ?_
                              obtain ⟨t28, ht28, H⟩ := pbind H
                              refine OJ.callF rfl rfl rfl rfl rfl hb12 rfl (spec_SameYards.c k _ A22 c23 D24 t21.1 (hS.rowsRo (i := 5) rfl) A11 c12 D13 t10.1 (hS.rowsRo (i := 2) rfl) _ ht28) ?_
                              rintro _ w1 ⟨rfl, hs⟩
                              replace hS := hS.grow hs
                              refine OJ.pures tU_ok 3 rfl ?_
                              refine OJ.split (t := 166) rfl (fun hb => ?_) (fun hb => ?_)
                              · replace H := pif_t hb H
                                refine OJ.pures tU_ok 7 rfl ?_
                                refine OJ.nil ?_
                                exact EJ.meet (F' := [(1, .slice Aa1 a1.length ca1), (5, .pointer (some ⟨b5, 0, none⟩)), (8, .slice A11 t10.1.length c12), (18, .int .i64 t20.1), (173, .bool true)]) ⟨rfl, rfl, rfl, rfl, rfl, trivial⟩ ⟨true, H, rfl, hS.pick [0, 2] [0, 1] rfl⟩
                              · replace H := pifb_f hb H
                                refine OJ.pures tU_ok 4 rfl ?_
                                refine OJ.split (t := 170) rfl (fun hb => ?_) (fun hb => ?_)
                                · replace H := pif_t (of_decide_eq_true hb) H
                                  refine OJ.pures tU_ok 3 rfl ?_
                                  refine OJ.nil ?_
                                  exact EJ.meet (F' := [(1, .slice Aa1 a1.length ca1), (5, .pointer (some ⟨b5, 0, none⟩)), (8, .slice A11 t10.1.length c12), (18, .int .i64 t20.1), (173, .bool true)]) ⟨rfl, rfl, rfl, rfl, rfl, trivial⟩ ⟨true, H, rfl, hS.pick [0, 2] [0, 1] rfl⟩
                                · replace H := pif_f (of_decide_eq_false hb) H
                                  refine OJ.pures tU_ok 3 rfl ?_
                                  refine OJ.nil ?_
                                  exact EJ.meet (F' := [(1, .slice Aa1 a1.length ca1), (5, .pointer (some ⟨b5, 0, none⟩)), (8, .slice A11 t10.1.length c12), (18, .int .i64 t20.1), (173, .bool (decide (t25.1 ≠ 0)))]) ⟨rfl, rfl, rfl, rfl, rfl, trivial⟩ ⟨(decide (t25.1 ≠ 0)), H, rfl, hS.pick [0, 2] [0, 1] rfl⟩
      · rintro F w1 ⟨y26, he, rfl, hS⟩
        obtain rfl := Option.some.inj he
        have H := K327
        refine CJ.cond rfl (fun hb => ?_) (fun hb => ?_)
        · replace H := pif_t hb H
          refine CJ.seq ?_
          refine CJ.region ?_
          refine OJ.pures tU_ok 1 rfl ?_
          refine OJ.nil (EJ.next ?_)
          refine CJ.ret (EJ.skR (?_))
          obtain rfl := Option.some.inj H
          exact EJ.fin rfl (.tmp rfl .nil) ⟨rfl, hS.ext⟩
        · replace H := pifb_f hb H
          refine CJ.skip (EJ.next ?_)
          refine CJ.seq ?_
          refine CJ.region ?_
          refine OJ.pures tU_ok 1 rfl ?_
          refine OJ.nil (EJ.next ?_)
          refine CJ.seq ?_
          refine CJ.region ?_
          refine OJ.pures tU_ok 1 rfl ?_
          refine OJ.nil (EJ.next ?_)
          refine CJ.seq ?_
          refine CJ.region ?_
          refine OJ.pures tU_ok 1 rfl ?_
          refine OJ.nil (EJ.next ?_)
          refine CJ.seq ?_
          refine CJ.seq ?_
          refine CJ.region ?_
          refine OJ.pures tU_ok 1 rfl ?_
          refine OJ.nil (EJ.next ?_)
          obtain ⟨j330, H, K330⟩ := pbind H
          refine CJ.cut1 (fun F w1 => ∃ (y29 : Int) (y30 : Int) (y31 : Int) , (some (Sum.inr (y29, y30, y31)) : Option (Bool ⊕ (Int × Int × Int))) = some j330 ∧ F = [(1, .slice Aa1 a1.length ca1), (5, .pointer (some ⟨b5, 0, none⟩)), (18, .int .i64 t20.1), (24, .int .i64 y29), (25, .int .i64 y30), (26, .int .i64 y31)] ∧ St w no w1 [box b5 (cPasture.enc t4) 31] [roC (ci .u8) Aa0 ca0 a0, roC (ci .u8) Aa1 ca1 a1]) ?_ ?_
          · skip
            refine CJ.block ?_
            refine CJ.loop (fun k F w1 => ∃ (y32 : Int) (y33 : Int) (y34 : Int) (y35 : Int), F = [(1, .slice Aa1 a1.length ca1), (5, .pointer (some ⟨b5, 0, none⟩)), (8, .slice A11 t10.1.length c12), (18, .int .i64 t20.1), (24, .int .i64 y32), (25, .int .i64 y33), (26, .int .i64 y34), (27, .int .i64 y35)] ∧ St w no w1 [box b5 (cPasture.enc t4) 31, rowsC cSpot A11 c12 41 46 D13 t10.1] [roC (ci .u8) Aa0 ca0 a0, roC (ci .u8) Aa1 ca1 a1] ∧ laws_FnYards.l1 t4 t10 k y32 y33 y34 y35 = some j330) k (F' := [(1, .slice Aa1 a1.length ca1), (5, .pointer (some ⟨b5, 0, none⟩)), (8, .slice A11 t10.1.length c12), (18, .int .i64 t20.1), (24, .int .i64 0), (25, .int .i64 0), (26, .int .i64 0), (27, .int .i64 0)]) ⟨rfl, rfl, rfl, rfl, rfl, rfl, rfl, rfl, trivial⟩ ⟨0, 0, 0, 0, rfl, hS.pick [0, 1] [0, 1] rfl, H⟩ ?_
            rintro k F w1 ⟨y32, y33, y34, y35, rfl, hS, H⟩
            cases k with
            | zero => rw [laws_FnYards.l1] at H; cases H
            | succ k =>
              rw [laws_FnYards.l1] at H
              refine CJ.seq ?_
              refine CJ.seq ?_
              refine CJ.region ?_
              refine OJ.pures tU_ok 4 rfl ?_
              refine OJ.nil (EJ.next ?_)
              refine CJ.cond rfl (fun hb => ?_) (fun hb => ?_)
              · replace H := pif_t (of_decide_eq_true hb) H
                refine CJ.skip (EJ.next ?_)
                obtain ⟨j382, H, K382⟩ := pbind H
                refine CJ.cut (fun F w1 => ∃ (y36 : Int) (y37 : Int) (y38 : Int) , (some (Sum.inr (y36, y37, y38)) : Option ((Bool ⊕ (Int × Int × Int)) ⊕ (Int × Int × Int))) = some j382 ∧ F = [(1, .slice Aa1 a1.length ca1), (5, .pointer (some ⟨b5, 0, none⟩)), (8, .slice A11 t10.1.length c12), (18, .int .i64 t20.1), (24, .int .i64 y36), (25, .int .i64 y37), (26, .int .i64 y38), (27, .int .i64 y35)] ∧ St w no w1 [box b5 (cPasture.enc t4) 31, rowsC cSpot A11 c12 41 46 D13 t10.1] [roC (ci .u8) Aa0 ca0 a0, roC (ci .u8) Aa1 ca1 a1]) ?_ ?_
                · skip
                  refine CJ.block ?_
                  refine CJ.seq ?_
                  refine CJ.seq ?_
                  refine CJ.region ?_
                  refine OJ.pures tU_ok 2 rfl ?_
                  obtain ⟨t39, ht39, H⟩ := pbind H
                  obtain ⟨Ae39, ce39, g39, d39, hx39⟩ := ros_el (hS.rowsRo (i := 1) rfl) ht39
                  obtain ⟨ad39, e39⟩ := (ros_rd (hS.rowsRo (i := 1) rfl)).some' g39
                  refine OJ.st rfl rfl rfl (SR.idxS tU_ok tI_ok rfl rfl rfl rfl e39 rfl (getI_some ht39).1) ?_
                  refine OJ.st rfl rfl rfl (SR.load rfl rfl (fun w' hx => ld1 tU_ok rfl rfl (CA.ext ((ros_rd (hS.rowsRo (i := 1) rfl)).at_ e39 g39) hx) rfl)) ?_
                  refine OJ.pures tU_ok 2 rfl ?_
                  refine OJ.nil (EJ.next ?_)
                  refine CJ.cond rfl (fun hb => ?_) (fun hb => ?_)
                  · replace H := pif_t (of_decide_eq_true hb) H
                    refine CJ.seq ?_
                    refine CJ.region ?_
                    refine OJ.pures tU_ok 1 rfl ?_
                    refine OJ.nil (EJ.next ?_)
                    refine CJ.ret (EJ.skR (EJ.bkR (EJ.skR (EJ.skR (EJ.bkR (EJ.skR (EJ.skR (?_))))))))
                    first | (obtain rfl := Option.some.inj H; have H := K382) | (obtain ⟨q382, H2, e382⟩ := pbind H; obtain rfl := Option.some.inj e382; obtain rfl := Option.some.inj K382; have H := H2)
                    first | (obtain rfl := Option.some.inj H; have H := K330) | (obtain ⟨q330, H2, e330⟩ := pbind H; obtain rfl := Option.some.inj e330; obtain rfl := Option.some.inj K330; have H := H2)
                    obtain rfl := Option.some.inj H
                    exact EJ.fin rfl (.tmp rfl .nil) ⟨rfl, hS.ext⟩
                  · replace H := pif_f (of_decide_eq_false hb) H
                    refine CJ.skip (EJ.next ?_)
                    refine CJ.seq ?_
                    refine CJ.draw [] [0, 1, 2, 3, 4, 5, 6, 7, 8, 9, 10] mixed (by kernel_rfl) hS fun w1 hS => ?_
                    refine DJ.st rfl rfl rfl rfl rfl (SR.load rfl rfl (fun w' hx => ldE tU_ok tI_ok rfl rfl rfl (CA.ext (hS.cells (i := 0) rfl) hx) rfl)) ?_
                    refine DJ.pures tU_ok 2 rfl ?_
                    obtain ⟨t40, ht40, H⟩ := pbind H
                    obtain ⟨Ae40, ce40, g40, d40, hx40⟩ := ros_el (hS.rowsRo (i := 1) rfl) ht40
                    obtain ⟨ad40, e40⟩ := (ros_rd (hS.rowsRo (i := 1) rfl)).some' g40
                    refine DJ.st rfl rfl rfl rfl rfl (SR.idxS tU_ok tI_ok rfl rfl rfl rfl e40 rfl (getI_some ht40).1) ?_
                    refine DJ.st rfl rfl rfl rfl rfl (SR.load rfl rfl (fun w' hx => ld1 tU_ok rfl rfl (CA.ext ((ros_rd (hS.rowsRo (i := 1) rfl)).at_ e40 g40) hx) rfl)) ?_
                    obtain ⟨t41, ht41, H⟩ := pbind H
                    refine DJ.callF rfl rfl rfl rfl rfl rfl rfl hb13 rfl (impl_GrassOf.c k _ t4 Ae40 ce40 t40 (ros_sub (hS.rowsRo (i := 1) rfl) d40 hx40) (ros_subLe (hS.rowsRo (i := 1) rfl) d40 hx40) _ ht41) (by rintro v w' ⟨rfl, hs⟩; exact hs) ?_
                    rintro _ w1 ⟨rfl, hs⟩
                    replace hS := hS.grow hs
                    refine DJ.pures tU_ok 5 rfl ?_
                    refine DJ.nil (EJ.next ?_)
                    refine CJ.seq ?_
                    refine CJ.draw [] [0, 1, 2, 3, 4, 5, 6, 7, 8, 9, 10] mixed (by kernel_rfl) hS fun w1 hS => ?_
                    refine DJ.st rfl rfl rfl rfl rfl (SR.load rfl rfl (fun w' hx => ldE tU_ok tI_ok rfl rfl rfl (CA.ext (hS.cells (i := 0) rfl) hx) rfl)) ?_
                    refine DJ.pures tU_ok 2 rfl ?_
                    obtain ⟨t42, ht42, H⟩ := pbind H
                    obtain ⟨Ae42, ce42, g42, d42, hx42⟩ := ros_el (hS.rowsRo (i := 1) rfl) ht42
                    obtain ⟨ad42, e42⟩ := (ros_rd (hS.rowsRo (i := 1) rfl)).some' g42
                    refine DJ.st rfl rfl rfl rfl rfl (SR.idxS tU_ok tI_ok rfl rfl rfl rfl e42 rfl (getI_some ht42).1) ?_
                    refine DJ.st rfl rfl rfl rfl rfl (SR.load rfl rfl (fun w' hx => ld1 tU_ok rfl rfl (CA.ext ((ros_rd (hS.rowsRo (i := 1) rfl)).at_ e42 g42) hx) rfl)) ?_
                    obtain ⟨t43, ht43, H⟩ := pbind H
                    refine DJ.callF rfl rfl rfl rfl rfl rfl rfl hb14 rfl (impl_SidesOf.c k _ t4 Ae42 ce42 t42 (ros_sub (hS.rowsRo (i := 1) rfl) d42 hx42) (ros_subLe (hS.rowsRo (i := 1) rfl) d42 hx42) _ ht43) (by rintro v w' ⟨rfl, hs⟩; exact hs) ?_
                    rintro _ w1 ⟨rfl, hs⟩
                    replace hS := hS.grow hs
                    refine DJ.pures tU_ok 5 rfl ?_
                    refine DJ.nil (EJ.next ?_)
                    refine CJ.seq ?_
                    refine CJ.draw [] [0, 1, 2, 3, 4, 5, 6, 7, 8, 9, 10, 11, 12, 13, 14, 15, 16, 17, 18] mixed (by kernel_rfl) hS fun w1 hS => ?_
                    refine DJ.st rfl rfl rfl rfl rfl (SR.load rfl rfl (fun w' hx => ldE tU_ok tI_ok rfl rfl rfl (CA.ext (hS.cells (i := 0) rfl) hx) rfl)) ?_
                    refine DJ.pures tU_ok 2 rfl ?_
                    obtain ⟨t44, ht44, H⟩ := pbind H
                    obtain ⟨Ae44, ce44, g44, d44, hx44⟩ := ros_el (hS.rowsRo (i := 1) rfl) ht44
                    obtain ⟨ad44, e44⟩ := (ros_rd (hS.rowsRo (i := 1) rfl)).some' g44
                    refine DJ.st rfl rfl rfl rfl rfl (SR.idxS tU_ok tI_ok rfl rfl rfl rfl e44 rfl (getI_some ht44).1) ?_
                    refine DJ.st rfl rfl rfl rfl rfl (SR.load rfl rfl (fun w' hx => ld1 tU_ok rfl rfl (CA.ext ((ros_rd (hS.rowsRo (i := 1) rfl)).at_ e44 g44) hx) rfl)) ?_
                    refine DJ.pures tU_ok 2 rfl ?_
                    obtain ⟨t45, ht45, H⟩ := pbind H
                    obtain ⟨Ae45, ce45, g45, d45, hx45⟩ := ros_el (hS.rowsRo (i := 1) rfl) ht45
                    obtain ⟨ad45, e45⟩ := (ros_rd (hS.rowsRo (i := 1) rfl)).some' g45
                    refine DJ.st rfl rfl rfl rfl rfl (SR.idxS tU_ok tI_ok rfl rfl rfl rfl e45 rfl (getI_some ht45).1) ?_
                    refine DJ.st rfl rfl rfl rfl rfl (SR.load rfl rfl (fun w' hx => ld1 tU_ok rfl rfl (CA.ext ((ros_rd (hS.rowsRo (i := 1) rfl)).at_ e45 g45) hx) rfl)) ?_
                    refine DJ.pures tU_ok 2 rfl ?_
                    obtain ⟨t46, ht46, H⟩ := pbind H
                    obtain ⟨ad46, e46⟩ := ((ros_sub (hS.rowsRo (i := 1) rfl) d44 hx44)).some' ht46
                    refine DJ.st rfl rfl rfl rfl rfl (SR.idxS tU_ok tI_ok rfl rfl rfl rfl e46 rfl (getI_some ht46).1) ?_
                    refine DJ.st rfl rfl rfl rfl rfl (SR.load rfl rfl (fun w' hx => ldE tU_ok tI_ok rfl rfl rfl (CA.ext ((ros_sub (hS.rowsRo (i := 1) rfl) d44 hx44).at_ e46 ht46) hx) rfl)) ?_
                    obtain ⟨t47, ht47, H⟩ := pbind H
                    refine DJ.callF rfl rfl rfl rfl rfl rfl rfl hb15 rfl (impl_YardOf.c k _ t4 t46 _ ht47) (by rintro v w' ⟨A48, c49, rfl, hs⟩; exact hs.ext) ?_
                    rintro _ w1 ⟨A48, c49, rfl, hs⟩
                    replace hS := hS.addN hs
                    refine DJ.pures tU_ok 5 rfl ?_
                    refine DJ.nil (EJ.next ?_)
                    refine CJ.seq ?_
                    obtain ⟨j385, H, K385⟩ := pbind H
                    refine CJ.cut (fun F w1 => ∃ (y50 : Bool) , (some y50 : Option Bool) = some j385 ∧ F = [(1, .slice Aa1 a1.length ca1), (5, .pointer (some ⟨b5, 0, none⟩)), (8, .slice A11 t10.1.length c12), (18, .int .i64 t20.1), (24, .int .i64 y32), (25, .int .i64 y33), (26, .int .i64 y34), (27, .int .i64 y35), (28, .int .i64 t41.1), (30, .int .i64 t43.1), (239, .bool y50)] ∧ St w no w1 [box b5 (cPasture.enc t4) 31, rowsC cSpot A11 c12 41 46 D13 t10.1] [roC (ci .u8) Aa0 ca0 a0, roC (ci .u8) Aa1 ca1 a1]) ?_ ?_
                    · skip
                      refine CJ.region ?_
                      refine OJ.pures tU_ok 3 rfl ?_
                      refine OJ.split (t := 223) rfl (fun hb => ?_) (fun hb => ?_)
                      · replace H := pif_t (of_decide_eq_true hb) H
                        refine OJ.pures tU_ok 16 rfl ?_
                        refine OJ.nil ?_
                        exact EJ.meet (F' := [(1, .slice Aa1 a1.length ca1), (5, .pointer (some ⟨b5, 0, none⟩)), (8, .slice A11 t10.1.length c12), (18, .int .i64 t20.1), (24, .int .i64 y32), (25, .int .i64 y33), (26, .int .i64 y34), (27, .int .i64 y35), (28, .int .i64 t41.1), (30, .int .i64 t43.1), (239, .bool true)]) ⟨rfl, rfl, rfl, rfl, rfl, rfl, rfl, rfl, rfl, rfl, rfl, trivial⟩ ⟨true, H, rfl, hS.pick [0, 1] [0, 1] rfl⟩
                      · replace H := pif_f (of_decide_eq_false hb) H
                        refine OJ.pures tU_ok 4 rfl ?_
                        refine OJ.split (t := 227) rfl (fun hb => ?_) (fun hb => ?_)
                        · replace H := pif_t (of_decide_eq_true hb) H
                          refine OJ.pures tU_ok 12 rfl ?_
                          refine OJ.nil ?_
                          exact EJ.meet (F' := [(1, .slice Aa1 a1.length ca1), (5, .pointer (some ⟨b5, 0, none⟩)), (8, .slice A11 t10.1.length c12), (18, .int .i64 t20.1), (24, .int .i64 y32), (25, .int .i64 y33), (26, .int .i64 y34), (27, .int .i64 y35), (28, .int .i64 t41.1), (30, .int .i64 t43.1), (239, .bool true)]) ⟨rfl, rfl, rfl, rfl, rfl, rfl, rfl, rfl, rfl, rfl, rfl, trivial⟩ ⟨true, H, rfl, hS.pick [0, 1] [0, 1] rfl⟩
                        · replace H := pif_f (of_decide_eq_false hb) H
                          refine OJ.pures tU_ok 4 rfl ?_
                          refine OJ.split (t := 231) rfl (fun hb => ?_) (fun hb => ?_)
                          · replace H := pif_t (of_decide_eq_true hb) H
                            refine OJ.pures tU_ok 8 rfl ?_
                            refine OJ.nil ?_
                            exact EJ.meet (F' := [(1, .slice Aa1 a1.length ca1), (5, .pointer (some ⟨b5, 0, none⟩)), (8, .slice A11 t10.1.length c12), (18, .int .i64 t20.1), (24, .int .i64 y32), (25, .int .i64 y33), (26, .int .i64 y34), (27, .int .i64 y35), (28, .int .i64 t41.1), (30, .int .i64 t43.1), (239, .bool true)]) ⟨rfl, rfl, rfl, rfl, rfl, rfl, rfl, rfl, rfl, rfl, rfl, trivial⟩ ⟨true, H, rfl, hS.pick [0, 1] [0, 1] rfl⟩
                          · replace H := pif_f (of_decide_eq_false hb) H
                            refine OJ.pures tU_ok 3 rfl ?_
                            obtain ⟨t51, ht51, H⟩ := pbind H
                            obtain ⟨Ae51, ce51, g51, d51, hx51⟩ := ros_el (hS.rowsRo (i := 1) rfl) ht51
                            obtain ⟨ad51, e51⟩ := (ros_rd (hS.rowsRo (i := 1) rfl)).some' g51
                            refine OJ.st rfl rfl rfl (SR.idxS tU_ok tI_ok rfl rfl rfl rfl e51 rfl (getI_some ht51).1) ?_
                            refine OJ.st rfl rfl rfl (SR.load rfl rfl (fun w' hx => ld1 tU_ok rfl rfl (CA.ext ((ros_rd (hS.rowsRo (i := 1) rfl)).at_ e51 g51) hx) rfl)) ?_
                            obtain ⟨t52, ht52, H⟩ := pbind H
                            refine OJ.callF rfl rfl rfl rfl rfl hb16 rfl (spec_SameSpots.c k _ A48 c49 t47.1 (hS.rd (i := 2) rfl) (hS.le (i := 2) rfl) Ae51 ce51 t51 (ros_sub (hS.rowsRo (i := 1) rfl) d51 hx51) (ros_subLe (hS.rowsRo (i := 1) rfl) d51 hx51) _ ht52) ?_
                            rintro _ w1 ⟨rfl, hs⟩
                            replace hS := hS.grow hs
                            refine OJ.pures tU_ok 2 rfl ?_
                            refine OJ.nil ?_
                            exact EJ.meet (F' := [(1, .slice Aa1 a1.length ca1), (5, .pointer (some ⟨b5, 0, none⟩)), (8, .slice A11 t10.1.length c12), (18, .int .i64 t20.1), (24, .int .i64 y32), (25, .int .i64 y33), (26, .int .i64 y34), (27, .int .i64 y35), (28, .int .i64 t41.1), (30, .int .i64 t43.1), (239, .bool (!t52))]) ⟨rfl, rfl, rfl, rfl, rfl, rfl, rfl, rfl, rfl, rfl, rfl, trivial⟩ ⟨(!t52), H, rfl, hS.pick [0, 1] [0, 1] rfl⟩
                    · rintro F w1 ⟨y50, he, rfl, hS⟩
                      obtain rfl := Option.some.inj he
                      have H := K385
                      refine CJ.cond rfl (fun hb => ?_) (fun hb => ?_)
                      · replace H := pif_t hb H
                        refine CJ.seq ?_
                        refine CJ.region ?_
                        refine OJ.pures tU_ok 1 rfl ?_
                        refine OJ.nil (EJ.next ?_)
                        refine CJ.ret (EJ.skR (EJ.bkR (EJ.skR (EJ.skR (EJ.bkR (EJ.skR (EJ.skR (?_))))))))
                        first | (obtain rfl := Option.some.inj H; have H := K382) | (obtain ⟨q382, H2, e382⟩ := pbind H; obtain rfl := Option.some.inj e382; obtain rfl := Option.some.inj K382; have H := H2)
                        first | (obtain rfl := Option.some.inj H; have H := K330) | (obtain ⟨q330, H2, e330⟩ := pbind H; obtain rfl := Option.some.inj e330; obtain rfl := Option.some.inj K330; have H := H2)
                        obtain rfl := Option.some.inj H
                        exact EJ.fin rfl (.tmp rfl .nil) ⟨rfl, hS.ext⟩
                      · replace H := pifb_f hb H
                        refine CJ.skip (EJ.next ?_)
                        refine CJ.seq ?_
                        refine CJ.seq ?_
                        refine CJ.region ?_
                        refine OJ.pures tU_ok 1 rfl ?_
                        refine OJ.nil (EJ.next ?_)
                        obtain ⟨j386, H, K386⟩ := pbind H
                        refine CJ.cut1 (fun F w1 => (some (Sum.inr ()) : Option (((Bool ⊕ (Int × Int × Int)) ⊕ (Int × Int × Int)) ⊕ Unit)) = some j386 ∧ F = [(1, .slice Aa1 a1.length ca1), (5, .pointer (some ⟨b5, 0, none⟩)), (8, .slice A11 t10.1.length c12), (18, .int .i64 t20.1), (24, .int .i64 y32), (25, .int .i64 y33), (26, .int .i64 y34), (27, .int .i64 y35), (28, .int .i64 t41.1), (30, .int .i64 t43.1)] ∧ St w no w1 [box b5 (cPasture.enc t4) 31, rowsC cSpot A11 c12 41 46 D13 t10.1] [roC (ci .u8) Aa0 ca0 a0, roC (ci .u8) Aa1 ca1 a1]) ?_ ?_
                        · skip
                          refine CJ.block ?_
                          refine CJ.loop (fun k F w1 => ∃ (y53 : Int), F = [(1, .slice Aa1 a1.length ca1), (5, .pointer (some ⟨b5, 0, none⟩)), (8, .slice A11 t10.1.length c12), (18, .int .i64 t20.1), (24, .int .i64 y32), (25, .int .i64 y33), (26, .int .i64 y34), (27, .int .i64 y35), (28, .int .i64 t41.1), (30, .int .i64 t43.1), (34, .int .i64 y53)] ∧ St w no w1 [box b5 (cPasture.enc t4) 31, rowsC cSpot A11 c12 41 46 D13 t10.1] [roC (ci .u8) Aa0 ca0 a0, roC (ci .u8) Aa1 ca1 a1] ∧ laws_FnYards.l2 t10 y35 k y53 = some j386) k (F' := [(1, .slice Aa1 a1.length ca1), (5, .pointer (some ⟨b5, 0, none⟩)), (8, .slice A11 t10.1.length c12), (18, .int .i64 t20.1), (24, .int .i64 y32), (25, .int .i64 y33), (26, .int .i64 y34), (27, .int .i64 y35), (28, .int .i64 t41.1), (30, .int .i64 t43.1), (34, .int .i64 1)]) ⟨rfl, rfl, rfl, rfl, rfl, rfl, rfl, rfl, rfl, rfl, rfl, trivial⟩ ⟨1, rfl, hS.pick [0, 1] [0, 1] rfl, H⟩ ?_
                          rintro k F w1 ⟨y53, rfl, hS, H⟩
                          cases k with
                          | zero => rw [laws_FnYards.l2] at H; cases H
                          | succ k =>
                            rw [laws_FnYards.l2] at H
                            refine CJ.seq ?_
                            refine CJ.seq ?_
                            refine CJ.region ?_
                            refine OJ.pures tU_ok 3 rfl ?_
                            obtain ⟨t54, ht54, H⟩ := pbind H
                            obtain ⟨Ae54, ce54, g54, d54, hx54⟩ := ros_el (hS.rowsRo (i := 1) rfl) ht54
                            obtain ⟨ad54, e54⟩ := (ros_rd (hS.rowsRo (i := 1) rfl)).some' g54
                            refine OJ.st rfl rfl rfl (SR.idxS tU_ok tI_ok rfl rfl rfl rfl e54 rfl (getI_some ht54).1) ?_
                            refine OJ.st rfl rfl rfl (SR.load rfl rfl (fun w' hx => ld1 tU_ok rfl rfl (CA.ext ((ros_rd (hS.rowsRo (i := 1) rfl)).at_ e54 g54) hx) rfl)) ?_
                            refine OJ.pures tU_ok 2 rfl ?_
                            refine OJ.nil (EJ.next ?_)
                            refine CJ.cond rfl (fun hb => ?_) (fun hb => ?_)
                            · replace H := pif_t (of_decide_eq_true hb) H
                              refine CJ.skip (EJ.next ?_)
                              refine CJ.seq ?_
                              refine CJ.block ?_
                              refine CJ.seq ?_
                              refine CJ.draw [] [0, 1, 2, 3, 4, 5, 6, 7, 8, 9, 10, 11, 12, 13, 14, 15, 16] mixed (by kernel_rfl) hS fun w1 hS => ?_
                              refine DJ.pures tU_ok 2 rfl ?_
                              obtain ⟨t55, ht55, H⟩ := pbind H
                              obtain ⟨Ae55, ce55, g55, d55, hx55⟩ := ros_el (hS.rowsRo (i := 1) rfl) ht55
                              obtain ⟨ad55, e55⟩ := (ros_rd (hS.rowsRo (i := 1) rfl)).some' g55
                              refine DJ.st rfl rfl rfl rfl rfl (SR.idxS tU_ok tI_ok rfl rfl rfl rfl e55 rfl (getI_some ht55).1) ?_
                              refine DJ.st rfl rfl rfl rfl rfl (SR.load rfl rfl (fun w' hx => ld1 tU_ok rfl rfl (CA.ext ((ros_rd (hS.rowsRo (i := 1) rfl)).at_ e55 g55) hx) rfl)) ?_
                              refine DJ.pures tU_ok 1 rfl ?_
                              obtain ⟨t56, ht56, H⟩ := pbind H
                              obtain ⟨ad56, e56⟩ := ((ros_sub (hS.rowsRo (i := 1) rfl) d55 hx55)).some' ht56
                              refine DJ.st rfl rfl rfl rfl rfl (SR.idxS tU_ok tI_ok rfl rfl rfl rfl e56 rfl (getI_some ht56).1) ?_
                              refine DJ.st rfl rfl rfl rfl rfl (SR.load rfl rfl (fun w' hx => ldE tU_ok tI_ok rfl rfl rfl (CA.ext ((ros_sub (hS.rowsRo (i := 1) rfl) d55 hx55).at_ e56 ht56) hx) rfl)) ?_
                              refine DJ.pures tU_ok 2 rfl ?_
                              obtain ⟨t57, ht57, H⟩ := pbind H
                              obtain ⟨Ae57, ce57, g57, d57, hx57⟩ := ros_el (hS.rowsRo (i := 1) rfl) ht57
                              obtain ⟨ad57, e57⟩ := (ros_rd (hS.rowsRo (i := 1) rfl)).some' g57
                              refine DJ.st rfl rfl rfl rfl rfl (SR.idxS tU_ok tI_ok rfl rfl rfl rfl e57 rfl (getI_some ht57).1) ?_
                              refine DJ.st rfl rfl rfl rfl rfl (SR.load rfl rfl (fun w' hx => ld1 tU_ok rfl rfl (CA.ext ((ros_rd (hS.rowsRo (i := 1) rfl)).at_ e57 g57) hx) rfl)) ?_
                              refine DJ.pures tU_ok 2 rfl ?_
                              obtain ⟨t58, ht58, H⟩ := pbind H
                              obtain ⟨ad58, e58⟩ := ((ros_sub (hS.rowsRo (i := 1) rfl) d57 hx57)).some' ht58
                              refine DJ.st rfl rfl rfl rfl rfl (SR.idxS tU_ok tI_ok rfl rfl rfl rfl e58 rfl (getI_some ht58).1) ?_
                              refine DJ.st rfl rfl rfl rfl rfl (SR.load rfl rfl (fun w' hx => ldE tU_ok tI_ok rfl rfl rfl (CA.ext ((ros_sub (hS.rowsRo (i := 1) rfl) d57 hx57).at_ e58 ht58) hx) rfl)) ?_
                              obtain ⟨t59, ht59, H⟩ := pbind H
                              refine DJ.callF rfl rfl rfl rfl rfl rfl rfl hb17 rfl (spec_Behind.c _ t56 t58 _ ht59) (by rintro v w' ⟨rfl, hs⟩; exact hs) ?_
                              rintro _ w1 ⟨rfl, hs⟩
                              replace hS := hS.grow hs
                              refine DJ.pures tU_ok 1 rfl ?_
                              refine DJ.nil (EJ.next ?_)
                              refine CJ.cond rfl (fun hb => ?_) (fun hb => ?_)
                              · replace H := pif_t hb H
                                refine CJ.seq ?_
                                refine CJ.region ?_
                                refine OJ.pures tU_ok 1 rfl ?_
                                refine OJ.nil (EJ.next ?_)
                                refine CJ.ret (EJ.bkR (EJ.skR (EJ.skR (EJ.bkR (EJ.skR (EJ.skR (EJ.bkR (EJ.skR (EJ.skR (EJ.bkR (EJ.skR (EJ.skR (?_)))))))))))))
                                first | (obtain rfl := Option.some.inj H; have H := K386) | (obtain ⟨q386, H2, e386⟩ := pbind H; obtain rfl := Option.some.inj e386; obtain rfl := Option.some.inj K386; have H := H2)
                                first | (obtain rfl := Option.some.inj H; have H := K382) | (obtain ⟨q382, H2, e382⟩ := pbind H; obtain rfl := Option.some.inj e382; obtain rfl := Option.some.inj K382; have H := H2)
                                first | (obtain rfl := Option.some.inj H; have H := K330) | (obtain ⟨q330, H2, e330⟩ := pbind H; obtain rfl := Option.some.inj e330; obtain rfl := Option.some.inj K330; have H := H2)
                                obtain rfl := Option.some.inj H
                                exact EJ.fin rfl (.tmp rfl .nil) ⟨rfl, hS.ext⟩
                              · replace H := pifb_f hb H
                                refine CJ.skip (EJ.blk (EJ.next ?_))
                                refine CJ.region ?_
                                refine OJ.pures tU_ok 3 rfl ?_
                                refine OJ.nil ?_
                                exact EJ.round k (F' := [(1, .slice Aa1 a1.length ca1), (5, .pointer (some ⟨b5, 0, none⟩)), (8, .slice A11 t10.1.length c12), (18, .int .i64 t20.1), (24, .int .i64 y32), (25, .int .i64 y33), (26, .int .i64 y34), (27, .int .i64 y35), (28, .int .i64 t41.1), (30, .int .i64 t43.1), (34, .int .i64 (IntKind.i64.wrap (y53 + 1)))]) ⟨rfl, rfl, rfl, rfl, rfl, rfl, rfl, rfl, rfl, rfl, rfl, trivial⟩ (Nat.lt_succ_self _) ⟨(IntKind.i64.wrap (y53 + 1)), rfl, hS.pick [0, 1] [0, 1] rfl, H⟩
                            · replace H := pif_f (of_decide_eq_false hb) H
                              refine CJ.exit (EJ.skE (EJ.skE (EJ.hit (?_))))
                              exact EJ.meet (F' := [(1, .slice Aa1 a1.length ca1), (5, .pointer (some ⟨b5, 0, none⟩)), (8, .slice A11 t10.1.length c12), (18, .int .i64 t20.1), (24, .int .i64 y32), (25, .int .i64 y33), (26, .int .i64 y34), (27, .int .i64 y35), (28, .int .i64 t41.1), (30, .int .i64 t43.1)]) ⟨rfl, rfl, rfl, rfl, rfl, rfl, rfl, rfl, rfl, rfl, trivial⟩ ⟨H, rfl, hS.pick [0, 1] [0, 1] rfl⟩
                        · rintro F w1 ⟨he, rfl, hS⟩
                          obtain rfl := Option.some.inj he
                          have H := K386
                          refine EJ.next ?_
                          refine CJ.seq ?_
                          refine CJ.region ?_
                          refine OJ.pures tU_ok 3 rfl ?_
                          obtain ⟨t60, ht60, H⟩ := pbind H
                          obtain ⟨Ae60, ce60, g60, d60, hx60⟩ := ros_el (hS.rowsRo (i := 1) rfl) ht60
                          obtain ⟨ad60, e60⟩ := (ros_rd (hS.rowsRo (i := 1) rfl)).some' g60
                          refine OJ.st rfl rfl rfl (SR.idxS tU_ok tI_ok rfl rfl rfl rfl e60 rfl (getI_some ht60).1) ?_
                          refine OJ.st rfl rfl rfl (SR.load rfl rfl (fun w' hx => ld1 tU_ok rfl rfl (CA.ext ((ros_rd (hS.rowsRo (i := 1) rfl)).at_ e60 g60) hx) rfl)) ?_
                          refine OJ.pures tU_ok 3 rfl ?_
                          refine OJ.nil (EJ.next ?_)
                          refine CJ.seq ?_
                          refine CJ.region ?_
                          refine OJ.pures tU_ok 4 rfl ?_
                          refine OJ.nil (EJ.next ?_)
                          refine CJ.region ?_
                          refine OJ.pures tU_ok 4 rfl ?_
                          refine OJ.nil (EJ.blk (?_))
                          exact EJ.meet (F' := [(1, .slice Aa1 a1.length ca1), (5, .pointer (some ⟨b5, 0, none⟩)), (8, .slice A11 t10.1.length c12), (18, .int .i64 t20.1), (24, .int .i64 (IntKind.i64.wrap (y32 + (t60.length : Int)))), (25, .int .i64 (IntKind.i64.wrap (y33 + t41.1))), (26, .int .i64 (IntKind.i64.wrap (y34 + t43.1))), (27, .int .i64 y35)]) ⟨rfl, rfl, rfl, rfl, rfl, rfl, rfl, rfl, trivial⟩ ⟨(IntKind.i64.wrap (y32 + (t60.length : Int))), (IntKind.i64.wrap (y33 + t41.1)), (IntKind.i64.wrap (y34 + t43.1)), H, rfl, hS.pick [0, 1] [0, 1] rfl⟩
                · rintro F w1 ⟨y36, y37, y38, he, rfl, hS⟩
                  obtain rfl := Option.some.inj he
                  have H := K382
                  refine CJ.region ?_
                  refine OJ.pures tU_ok 3 rfl ?_
                  refine OJ.nil ?_
                  exact EJ.round k (F' := [(1, .slice Aa1 a1.length ca1), (5, .pointer (some ⟨b5, 0, none⟩)), (8, .slice A11 t10.1.length c12), (18, .int .i64 t20.1), (24, .int .i64 y36), (25, .int .i64 y37), (26, .int .i64 y38), (27, .int .i64 (IntKind.i64.wrap (y35 + 1)))]) ⟨rfl, rfl, rfl, rfl, rfl, rfl, rfl, rfl, trivial⟩ (Nat.lt_succ_self _) ⟨y36, y37, y38, (IntKind.i64.wrap (y35 + 1)), rfl, hS.pick [0, 1] [0, 1] rfl, H⟩
              · replace H := pif_f (of_decide_eq_false hb) H
                refine CJ.exit (EJ.skE (EJ.skE (EJ.hit (?_))))
                exact EJ.meet (F' := [(1, .slice Aa1 a1.length ca1), (5, .pointer (some ⟨b5, 0, none⟩)), (18, .int .i64 t20.1), (24, .int .i64 y32), (25, .int .i64 y33), (26, .int .i64 y34)]) ⟨rfl, rfl, rfl, rfl, rfl, rfl, trivial⟩ ⟨y32, y33, y34, H, rfl, hS.pick [0] [0, 1] rfl⟩
          · rintro F w1 ⟨y29, y30, y31, he, rfl, hS⟩
            obtain rfl := Option.some.inj he
            have H := K330
            refine EJ.next ?_
            refine CJ.seq ?_
            refine CJ.region ?_
            refine OJ.st rfl rfl rfl (SR.load rfl rfl (fun w' hx => ldE tU_ok tI_ok rfl rfl rfl (CA.ext (hS.cells (i := 0) rfl) hx) rfl)) ?_
            obtain ⟨t61, ht61, H⟩ := pbind H
            refine OJ.callF rfl rfl rfl rfl rfl hb18 rfl (impl_GrassIn.c k _ t4 _ ht61) ?_
            rintro _ w1 ⟨rfl, hs⟩
            replace hS := hS.grow hs
            refine OJ.pures tU_ok 5 rfl ?_
            refine OJ.nil (EJ.next ?_)
            refine CJ.seq ?_
            obtain ⟨j387, H, K387⟩ := pbind H
            refine CJ.cut (fun F w1 => ∃ (y62 : Bool) , (some y62 : Option Bool) = some j387 ∧ F = [(1, .slice Aa1 a1.length ca1), (5, .pointer (some ⟨b5, 0, none⟩)), (307, .bool y62)] ∧ St w no w1 [box b5 (cPasture.enc t4) 31] [roC (ci .u8) Aa0 ca0 a0, roC (ci .u8) Aa1 ca1 a1]) ?_ ?_
            · skip
              refine CJ.region ?_
              refine OJ.pures tU_ok 1 rfl ?_
              refine OJ.st rfl rfl rfl (SR.fieldAddr tU_ok tI_ok rfl rfl rfl rfl rfl rfl) ?_
              refine OJ.st rfl rfl rfl (SR.load rfl rfl (fun w' hx => ld1 tU_ok rfl rfl (CA.ext (CA.fld (hS.cells (i := 0) rfl) (mid_part (fe_Pasture_0 _) (fl_Pasture_0 _) ((ci .i8).len _))) hx) rfl)) ?_
              refine OJ.pures tU_ok 1 rfl ?_
              refine OJ.st rfl rfl rfl (SR.fieldAddr tU_ok tI_ok rfl rfl rfl rfl rfl rfl) ?_
              refine OJ.st rfl rfl rfl (SR.load rfl rfl (fun w' hx => ld1 tU_ok rfl rfl (CA.ext (CA.fld (hS.cells (i := 0) rfl) (mid_part (fe_Pasture_1 _) (fl_Pasture_1 _) ((ci .i8).len _))) hx) rfl)) ?_
              refine OJ.pures tU_ok 4 rfl ?_
              refine OJ.split (t := 293) rfl (fun hb => ?_) (fun hb => ?_)
              · replace H := pif_t (of_decide_eq_true hb) H
                refine OJ.pures tU_ok 14 rfl ?_
                refine OJ.nil ?_
                exact EJ.meet (F' := [(1, .slice Aa1 a1.length ca1), (5, .pointer (some ⟨b5, 0, none⟩)), (307, .bool true)]) ⟨rfl, rfl, rfl, trivial⟩ ⟨true, H, rfl, hS.pick [0] [0, 1] rfl⟩
              · replace H := pif_f (of_decide_eq_false hb) H
                refine OJ.pures tU_ok 4 rfl ?_
                refine OJ.split (t := 297) rfl (fun hb => ?_) (fun hb => ?_)
                · replace H := pif_t (of_decide_eq_true hb) H
                  refine OJ.pures tU_ok 10 rfl ?_
                  refine OJ.nil ?_
                  exact EJ.meet (F' := [(1, .slice Aa1 a1.length ca1), (5, .pointer (some ⟨b5, 0, none⟩)), (307, .bool true)]) ⟨rfl, rfl, rfl, trivial⟩ ⟨true, H, rfl, hS.pick [0] [0, 1] rfl⟩
                · replace H := pif_f (of_decide_eq_false hb) H
                  refine OJ.pures tU_ok 5 rfl ?_
                  refine OJ.split (t := 302) rfl (fun hb => ?_) (fun hb => ?_)
                  · replace H := pif_t (of_decide_eq_true hb) H
                    refine OJ.pures tU_ok 5 rfl ?_
                    refine OJ.nil ?_
                    exact EJ.meet (F' := [(1, .slice Aa1 a1.length ca1), (5, .pointer (some ⟨b5, 0, none⟩)), (307, .bool true)]) ⟨rfl, rfl, rfl, trivial⟩ ⟨true, H, rfl, hS.pick [0] [0, 1] rfl⟩
                  · replace H := pif_f (of_decide_eq_false hb) H
                    refine OJ.pures tU_ok 5 rfl ?_
                    refine OJ.nil ?_
                    exact EJ.meet (F' := [(1, .slice Aa1 a1.length ca1), (5, .pointer (some ⟨b5, 0, none⟩)), (307, .bool (decide (y31 ≠ (IntKind.i64.wrap (2 * t20.1)))))]) ⟨rfl, rfl, rfl, trivial⟩ ⟨(decide (y31 ≠ (IntKind.i64.wrap (2 * t20.1)))), H, rfl, hS.pick [0] [0, 1] rfl⟩
            · rintro F w1 ⟨y62, he, rfl, hS⟩
              obtain rfl := Option.some.inj he
              have H := K387
              refine CJ.cond rfl (fun hb => ?_) (fun hb => ?_)
              · replace H := pif_t hb H
                refine CJ.seq ?_
                refine CJ.region ?_
                refine OJ.pures tU_ok 1 rfl ?_
                refine OJ.nil (EJ.next ?_)
                refine CJ.ret (EJ.skR (?_))
                obtain rfl := Option.some.inj H
                exact EJ.fin rfl (.tmp rfl .nil) ⟨rfl, hS.ext⟩
              · replace H := pifb_f hb H
                refine CJ.skip (EJ.next ?_)
                refine CJ.seq ?_
                refine CJ.region ?_
                refine OJ.pures tU_ok 1 rfl ?_
                refine OJ.st rfl rfl rfl (SR.load rfl rfl (fun w' hx => ldE tU_ok tI_ok rfl rfl rfl (CA.ext (hS.cells (i := 0) rfl) hx) rfl)) ?_
                obtain ⟨t63, ht63, H⟩ := pbind H
                refine OJ.callF rfl rfl rfl rfl rfl hb19 rfl (spec_P6Spot.c _ Aa1 ca1 a1 (hS.rd' (i := 1) rfl) (hS.le' (i := 1) rfl) t4 _ ht63) ?_
                rintro _ w1 ⟨rfl, hs⟩
                replace hS := hS.grow hs
                refine OJ.ef rfl rfl rfl (Ef.alloc hS tI_ok rfl rfl (cSpot.enc (⟨0, 0⟩ : Spot)) rfl) ?_
                rintro _ w1 ⟨b64, rfl, hS⟩
                refine OJ.es rfl rfl (Es.store tI_ok hS (i := 1) rfl rfl rfl rfl rfl rfl (vs := cSpot.enc t63) rfl (cSpot.len _) (cSpot.one _) (Nat.le_of_ble_eq_true rfl) (cSpot.enc t63) rfl) ?_
                intro w1 hS
                refine OJ.nil (EJ.next ?_)
                refine CJ.seq ?_
                obtain ⟨u66, hu66, H⟩ := pbind H
                obtain ⟨t69, ht69, H⟩ := pbind H
                refine CJ.cut1 (fun F w1 => ∃ (A67 : Option Addr) (c68 : Nat) (b70 : Nat), F = [(5, .pointer (some ⟨b5, 0, none⟩)), (37, .pointer (some ⟨b64, 0, none⟩)), (38, .pointer (some ⟨b70, 0, none⟩))] ∧ St w no w1 [box b5 (cPasture.enc t4) 31, box b64 (cSpot.enc t63) 46, rowC (ci .u8) A67 c68 5 (([7] : List Int) ++ a1), box b70 (cSpot.enc t69) 46] [roC (ci .u8) Aa0 ca0 a0, roC (ci .u8) Aa1 ca1 a1]) ?_ ?_
                · skip
                  refine CJ.drawT [] [0, 2, 4, 5, 6] (.one 1 (.one 3 (.br (.alt 0 (.br (.alt 2 (.br (.alt 4 (.one 5 (.one 6 (.fin))) (.alt 5 (.one 4 (.one 6 (.fin))) (.stop)))) (.alt 5 (.one 2 (.one 4 (.one 6 (.fin)))) (.stop)))) (.alt 5 (.one 0 (.one 2 (.one 4 (.one 6 (.fin))))) (.stop)))))) mixed (by kernel_rfl) hS [0] fun w1 hS hY hV => ?_
                  refine TJ.pures tU_ok 1 rfl ?_
                  refine TJ.st hY rfl rfl rfl rfl rfl (fun w2 hY => SR.load rfl rfl (fun w' hx => ldE tU_ok tI_ok rfl rfl rfl (CA.ext ((hV w2 hY).cellsR (i := 2) rfl) hx) rfl)) ?_
                  refine TJ.br ?_
                  refine TJ.alt ?_ ?_
                  · skip
                    refine TJ.ef hY rfl rfl rfl rfl rfl (Ef.lit tU_ok tI_ok hS (C := (ci .u8)) rfl rfl rfl rfl rfl rfl ([7] : List Int) rfl rfl rfl rfl) ?_
                    rintro _ w1 hY ⟨A71, rfl, hS⟩
                    refine TJ.br ?_
                    refine TJ.alt ?_ ?_
                    · skip
                      have hO := hS
                      refine TJ.ew rfl rfl rfl rfl rfl (Ew.append tU_ok tI_ok (C := (ci .u8)) (xs := ([7] : List Int)) (ys := a1) (hS.inn [0]) (i := 2) rfl rfl rfl rfl rfl rfl rfl rfl rfl rfl rfl rfl rfl (hS.rd' (i := 1) rfl) (chk_some hu66)) (by rintro _ w1 ⟨A72, c73, rfl, hS⟩; exact hY.wr (hO.inY [0] 2 rfl rfl) hS.chg) ?_
                      rintro _ w1 hY ⟨A72, c73, rfl, hS⟩
                      have hS : St w no w1 [box b5 (cPasture.enc t4) 31, box b64 (cSpot.enc t63) 46, rowC (ci .u8) A72 c73 5 (([7] : List Int) ++ a1)] [roC (ci .u8) Aa0 ca0 a0, roC (ci .u8) Aa1 ca1 a1] := hO.out [0] hS
                      refine TJ.br ?_
                      refine TJ.alt ?_ ?_
                      · skip
                        refine TJ.callF hY rfl rfl rfl rfl rfl rfl rfl hb19 rfl (spec_P6Spot.c _ A72 c73 (([7] : List Int) ++ a1) (hS.rd (i := 2) rfl) (hS.le (i := 2) rfl) t4 _ ht69) (by rintro v w' ⟨rfl, hs⟩; exact hs) ?_
                        rintro _ w1 hY ⟨rfl, hs⟩
                        replace hS := hS.grow hs
                        refine TJ.ef hY rfl rfl rfl rfl rfl (Ef.alloc hS tI_ok rfl rfl (cSpot.enc (⟨0, 0⟩ : Spot)) rfl) ?_
                        rintro _ w1 hY ⟨b74, rfl, hS⟩
                        have hO := hS
                        refine TJ.es rfl rfl rfl rfl (Es.store tI_ok (hS.inn [0]) (i := 3) rfl rfl rfl rfl rfl rfl (vs := cSpot.enc t69) rfl (cSpot.len _) (cSpot.one _) (Nat.le_of_ble_eq_true rfl) (cSpot.enc t69) rfl) (by intro w1 hS; exact hY.wr (hO.inY [0] 2 rfl rfl) hS.chg) ?_
                        intro w1 hY hS
                        have hS : St w no w1 [box b5 (cPasture.enc t4) 31, box b64 (cSpot.enc t63) 46, rowC (ci .u8) A72 c73 5 (([7] : List Int) ++ a1), box b74 (cSpot.enc t69) 46] [roC (ci .u8) Aa0 ca0 a0, roC (ci .u8) Aa1 ca1 a1] := hO.out [0] hS
                        refine TJ.nil ?_
                        exact EJ.meet (F' := [(5, .pointer (some ⟨b5, 0, none⟩)), (37, .pointer (some ⟨b64, 0, none⟩)), (38, .pointer (some ⟨b74, 0, none⟩))]) ⟨rfl, rfl, rfl, trivial⟩ ⟨A72, c73, b74, rfl, hS.pick [0, 1, 2, 3] [0, 1] rfl⟩
                      refine TJ.alt ?_ ?_
                      · skip
                        refine TJ.ef hY rfl rfl rfl rfl rfl (Ef.alloc hS tI_ok rfl rfl (cSpot.enc (⟨0, 0⟩ : Spot)) rfl) ?_
                        rintro _ w1 hY ⟨b75, rfl, hS⟩
                        refine TJ.callF hY rfl rfl rfl rfl rfl rfl rfl hb19 rfl (spec_P6Spot.c _ A72 c73 (([7] : List Int) ++ a1) (hS.rd (i := 2) rfl) (hS.le (i := 2) rfl) t4 _ ht69) (by rintro v w' ⟨rfl, hs⟩; exact hs) ?_
                        rintro _ w1 hY ⟨rfl, hs⟩
                        replace hS := hS.grow hs
                        have hO := hS
                        refine TJ.es rfl rfl rfl rfl (Es.store tI_ok (hS.inn [0]) (i := 3) rfl rfl rfl rfl rfl rfl (vs := cSpot.enc t69) rfl (cSpot.len _) (cSpot.one _) (Nat.le_of_ble_eq_true rfl) (cSpot.enc t69) rfl) (by intro w1 hS; exact hY.wr (hO.inY [0] 2 rfl rfl) hS.chg) ?_
                        intro w1 hY hS
                        have hS : St w no w1 [box b5 (cPasture.enc t4) 31, box b64 (cSpot.enc t63) 46, rowC (ci .u8) A72 c73 5 (([7] : List Int) ++ a1), box b75 (cSpot.enc t69) 46] [roC (ci .u8) Aa0 ca0 a0, roC (ci .u8) Aa1 ca1 a1] := hO.out [0] hS
                        refine TJ.nil ?_
                        exact EJ.meet (F' := [(5, .pointer (some ⟨b5, 0, none⟩)), (37, .pointer (some ⟨b64, 0, none⟩)), (38, .pointer (some ⟨b75, 0, none⟩))]) ⟨rfl, rfl, rfl, trivial⟩ ⟨A72, c73, b75, rfl, hS.pick [0, 1, 2, 3] [0, 1] rfl⟩
                      exact TJ.stop
                    refine TJ.alt ?_ ?_
                    · skip
                      refine TJ.ef hY rfl rfl rfl rfl rfl (Ef.alloc hS tI_ok rfl rfl (cSpot.enc (⟨0, 0⟩ : Spot)) rfl) ?_
                      rintro _ w1 hY ⟨b76, rfl, hS⟩
                      have hO := hS
                      refine TJ.ew rfl rfl rfl rfl rfl (Ew.append tU_ok tI_ok (C := (ci .u8)) (xs := ([7] : List Int)) (ys := a1) (hS.inn [0]) (i := 2) rfl rfl rfl rfl rfl rfl rfl rfl rfl rfl rfl rfl rfl (hS.rd' (i := 1) rfl) (chk_some hu66)) (by rintro _ w1 ⟨A77, c78, rfl, hS⟩; exact hY.wr (hO.inY [0] 2 rfl rfl) hS.chg) ?_
                      rintro _ w1 hY ⟨A77, c78, rfl, hS⟩
                      have hS : St w no w1 [box b5 (cPasture.enc t4) 31, box b64 (cSpot.enc t63) 46, rowC (ci .u8) A77 c78 5 (([7] : List Int) ++ a1), box b76 (cSpot.enc (⟨0, 0⟩ : Spot)) 46] [roC (ci .u8) Aa0 ca0 a0, roC (ci .u8) Aa1 ca1 a1] := hO.out [0] hS
                      refine TJ.callF hY rfl rfl rfl rfl rfl rfl rfl hb19 rfl (spec_P6Spot.c _ A77 c78 (([7] : List Int) ++ a1) (hS.rd (i := 2) rfl) (hS.le (i := 2) rfl) t4 _ ht69) (by rintro v w' ⟨rfl, hs⟩; exact hs) ?_
                      rintro _ w1 hY ⟨rfl, hs⟩
                      replace hS := hS.grow hs
                      have hO := hS
                      refine TJ.es rfl rfl rfl rfl (Es.store tI_ok (hS.inn [0]) (i := 3) rfl rfl rfl rfl rfl rfl (vs := cSpot.enc t69) rfl (cSpot.len _) (cSpot.one _) (Nat.le_of_ble_eq_true rfl) (cSpot.enc t69) rfl) (by intro w1 hS; exact hY.wr (hO.inY [0] 2 rfl rfl) hS.chg) ?_
                      intro w1 hY hS
                      have hS : St w no w1 [box b5 (cPasture.enc t4) 31, box b64 (cSpot.enc t63) 46, rowC (ci .u8) A77 c78 5 (([7] : List Int) ++ a1), box b76 (cSpot.enc t69) 46] [roC (ci .u8) Aa0 ca0 a0, roC (ci .u8) Aa1 ca1 a1] := hO.out [0] hS
                      refine TJ.nil ?_
                      exact EJ.meet (F' := [(5, .pointer (some ⟨b5, 0, none⟩)), (37, .pointer (some ⟨b64, 0, none⟩)), (38, .pointer (some ⟨b76, 0, none⟩))]) ⟨rfl, rfl, rfl, trivial⟩ ⟨A77, c78, b76, rfl, hS.pick [0, 1, 2, 3] [0, 1] rfl⟩
                    exact TJ.stop
                  refine TJ.alt ?_ ?_
                  · skip
                    refine TJ.ef hY rfl rfl rfl rfl rfl (Ef.alloc hS tI_ok rfl rfl (cSpot.enc (⟨0, 0⟩ : Spot)) rfl) ?_
                    rintro _ w1 hY ⟨b79, rfl, hS⟩
                    refine TJ.ef hY rfl rfl rfl rfl rfl (Ef.lit tU_ok tI_ok hS (C := (ci .u8)) rfl rfl rfl rfl rfl rfl ([7] : List Int) rfl rfl rfl rfl) ?_
                    rintro _ w1 hY ⟨A80, rfl, hS⟩
                    have hO := hS
                    refine TJ.ew rfl rfl rfl rfl rfl (Ew.append tU_ok tI_ok (C := (ci .u8)) (xs := ([7] : List Int)) (ys := a1) (hS.inn [0]) (i := 3) rfl rfl rfl rfl rfl rfl rfl rfl rfl rfl rfl rfl rfl (hS.rd' (i := 1) rfl) (chk_some hu66)) (by rintro _ w1 ⟨A81, c82, rfl, hS⟩; exact hY.wr (hO.inY [0] 2 rfl rfl) hS.chg) ?_
                    rintro _ w1 hY ⟨A81, c82, rfl, hS⟩
                    have hS : St w no w1 [box b5 (cPasture.enc t4) 31, box b64 (cSpot.enc t63) 46, box b79 (cSpot.enc (⟨0, 0⟩ : Spot)) 46, rowC (ci .u8) A81 c82 5 (([7] : List Int) ++ a1)] [roC (ci .u8) Aa0 ca0 a0, roC (ci .u8) Aa1 ca1 a1] := hO.out [0] hS
                    refine TJ.callF hY rfl rfl rfl rfl rfl rfl rfl hb19 rfl (spec_P6Spot.c _ A81 c82 (([7] : List Int) ++ a1) (hS.rd (i := 3) rfl) (hS.le (i := 3) rfl) t4 _ ht69) (by rintro v w' ⟨rfl, hs⟩; exact hs) ?_
                    rintro _ w1 hY ⟨rfl, hs⟩
                    replace hS := hS.grow hs
                    have hO := hS
                    refine TJ.es rfl rfl rfl rfl (Es.store tI_ok (hS.inn [0]) (i := 2) rfl rfl rfl rfl rfl rfl (vs := cSpot.enc t69) rfl (cSpot.len _) (cSpot.one _) (Nat.le_of_ble_eq_true rfl) (cSpot.enc t69) rfl) (by intro w1 hS; exact hY.wr (hO.inY [0] 2 rfl rfl) hS.chg) ?_
                    intro w1 hY hS
                    have hS : St w no w1 [box b5 (cPasture.enc t4) 31, box b64 (cSpot.enc t63) 46, box b79 (cSpot.enc t69) 46, rowC (ci .u8) A81 c82 5 (([7] : List Int) ++ a1)] [roC (ci .u8) Aa0 ca0 a0, roC (ci .u8) Aa1 ca1 a1] := hO.out [0] hS
                    refine TJ.nil ?_
                    exact EJ.meet (F' := [(5, .pointer (some ⟨b5, 0, none⟩)), (37, .pointer (some ⟨b64, 0, none⟩)), (38, .pointer (some ⟨b79, 0, none⟩))]) ⟨rfl, rfl, rfl, trivial⟩ ⟨A81, c82, b79, rfl, hS.pick [0, 1, 3, 2] [0, 1] rfl⟩
                  exact TJ.stop
                · rintro F w1 ⟨A67, c68, b70, rfl, hS⟩
                  refine EJ.next ?_
                  refine CJ.seq ?_
                  refine CJ.region ?_
                  refine OJ.st rfl rfl rfl (SR.load rfl rfl (fun w' hx => ldE tU_ok tI_ok rfl rfl rfl (CA.ext (hS.cells (i := 0) rfl) hx) rfl)) ?_
                  refine OJ.st rfl rfl rfl (SR.load rfl rfl (fun w' hx => ldE tU_ok tI_ok rfl rfl rfl (CA.ext (hS.cells (i := 1) rfl) hx) rfl)) ?_
                  refine OJ.st rfl rfl rfl (SR.load rfl rfl (fun w' hx => ldE tU_ok tI_ok rfl rfl rfl (CA.ext (hS.cells (i := 3) rfl) hx) rfl)) ?_
                  obtain ⟨t83, ht83, H⟩ := pbind H
                  refine OJ.callF rfl rfl rfl rfl rfl hb20 rfl (impl_SameYard.c k _ t4 t63 t69 _ ht83) ?_
                  rintro _ w1 ⟨rfl, hs⟩
                  replace hS := hS.grow hs
                  refine OJ.pures tU_ok 5 rfl ?_
                  refine OJ.nil (EJ.next ?_)
                  refine CJ.seq ?_
                  refine CJ.region ?_
                  refine OJ.st rfl rfl rfl (SR.load rfl rfl (fun w' hx => ldE tU_ok tI_ok rfl rfl rfl (CA.ext (hS.cells (i := 0) rfl) hx) rfl)) ?_
                  refine OJ.st rfl rfl rfl (SR.load rfl rfl (fun w' hx => ldE tU_ok tI_ok rfl rfl rfl (CA.ext (hS.cells (i := 1) rfl) hx) rfl)) ?_
                  refine OJ.st rfl rfl rfl (SR.load rfl rfl (fun w' hx => ldE tU_ok tI_ok rfl rfl rfl (CA.ext (hS.cells (i := 3) rfl) hx) rfl)) ?_
                  obtain ⟨t84, ht84, H⟩ := pbind H
                  refine OJ.callF rfl rfl rfl rfl rfl hb21 rfl (impl_StepsBetween.c k _ t4 t63 t69 _ ht84) ?_
                  rintro _ w1 ⟨rfl, hs⟩
                  replace hS := hS.grow hs
                  refine OJ.pures tU_ok 5 rfl ?_
                  refine OJ.nil (EJ.next ?_)
                  refine CJ.seq ?_
                  refine CJ.region ?_
                  refine OJ.st rfl rfl rfl (SR.load rfl rfl (fun w' hx => ldE tU_ok tI_ok rfl rfl rfl (CA.ext (hS.cells (i := 0) rfl) hx) rfl)) ?_
                  refine OJ.st rfl rfl rfl (SR.load rfl rfl (fun w' hx => ldE tU_ok tI_ok rfl rfl rfl (CA.ext (hS.cells (i := 1) rfl) hx) rfl)) ?_
                  refine OJ.st rfl rfl rfl (SR.load rfl rfl (fun w' hx => ldE tU_ok tI_ok rfl rfl rfl (CA.ext (hS.cells (i := 3) rfl) hx) rfl)) ?_
                  obtain ⟨t85, ht85, H⟩ := pbind H
                  refine OJ.callF rfl rfl rfl rfl rfl hb22 rfl (impl_WayBetween.c k _ t4 t63 t69 _ ht85) ?_
                  rintro _ w1 ⟨A86, c87, rfl, hs⟩
                  replace hS := hS.addN hs
                  refine OJ.pures tU_ok 5 rfl ?_
                  refine OJ.nil (EJ.next ?_)
                  refine CJ.seq ?_
                  refine CJ.region ?_
                  refine OJ.st rfl rfl rfl (SR.load rfl rfl (fun w' hx => ldE tU_ok tI_ok rfl rfl rfl (CA.ext (hS.cells (i := 0) rfl) hx) rfl)) ?_
                  refine OJ.st rfl rfl rfl (SR.load rfl rfl (fun w' hx => ldE tU_ok tI_ok rfl rfl rfl (CA.ext (hS.cells (i := 1) rfl) hx) rfl)) ?_
                  refine OJ.st rfl rfl rfl (SR.load rfl rfl (fun w' hx => ldE tU_ok tI_ok rfl rfl rfl (CA.ext (hS.cells (i := 3) rfl) hx) rfl)) ?_
                  obtain ⟨t88, ht88, H⟩ := pbind H
                  refine OJ.callF rfl rfl rfl rfl rfl hb23 rfl (spec_WayBetween.c k _ t4 t63 t69 _ ht88) ?_
                  rintro _ w1 ⟨A89, c90, rfl, hs⟩
                  replace hS := hS.addN hs
                  have hS : St w no w1 [box b5 (cPasture.enc t4) 31, box b64 (cSpot.enc t63) 46, rowC (ci .u8) A67 c68 5 (([7] : List Int) ++ a1), box b70 (cSpot.enc t69) 46, rowC cSpot A86 c87 46 t85.1, rowC cSpot A89 c90 46 t88.1] [roC (ci .u8) Aa0 ca0 a0, roC (ci .u8) Aa1 ca1 a1] := hS
                  refine OJ.pures tU_ok 5 rfl ?_
                  refine OJ.nil (EJ.next ?_)
                  refine CJ.seq ?_
                  refine CJ.region ?_
                  refine OJ.st rfl rfl rfl (SR.load rfl rfl (fun w' hx => ldE tU_ok tI_ok rfl rfl rfl (CA.ext (hS.cells (i := 0) rfl) hx) rfl)) ?_
                  refine OJ.st rfl rfl rfl (SR.load rfl rfl (fun w' hx => ldE tU_ok tI_ok rfl rfl rfl (CA.ext (hS.cells (i := 3) rfl) hx) rfl)) ?_
                  refine OJ.st rfl rfl rfl (SR.load rfl rfl (fun w' hx => ldE tU_ok tI_ok rfl rfl rfl (CA.ext (hS.cells (i := 1) rfl) hx) rfl)) ?_
                  obtain ⟨t91, ht91, H⟩ := pbind H
                  refine OJ.callF rfl rfl rfl rfl rfl hb21 rfl (impl_StepsBetween.c k _ t4 t69 t63 _ ht91) ?_
                  rintro _ w1 ⟨rfl, hs⟩
                  replace hS := hS.grow hs
                  refine OJ.pures tU_ok 5 rfl ?_
                  refine OJ.nil (EJ.next ?_)
                  refine CJ.seq ?_
                  obtain ⟨j402, H, K402⟩ := pbind H
                  refine CJ.cut (fun F w1 => ∃ (y92 : Bool) , (some y92 : Option Bool) = some j402 ∧ F = [(5, .pointer (some ⟨b5, 0, none⟩)), (37, .pointer (some ⟨b64, 0, none⟩)), (38, .pointer (some ⟨b70, 0, none⟩)), (41, .int .i64 t84.1), (42, .int .i64 t84.2), (45, .slice A89 t88.1.length c90), (384, .bool y92)] ∧ St w no w1 [box b5 (cPasture.enc t4) 31, box b64 (cSpot.enc t63) 46, box b70 (cSpot.enc t69) 46, rowC cSpot A89 c90 46 t88.1] [roC (ci .u8) Aa0 ca0 a0, roC (ci .u8) Aa1 ca1 a1]) ?_ ?_
                  · skip
                    refine CJ.region ?_
                    refine OJ.pures tU_ok 3 rfl ?_
                    refine OJ.split (t := 353) rfl (fun hb => ?_) (fun hb => ?_)
                    · replace H := pif_t (of_decide_eq_true hb) H
                      refine OJ.pures tU_ok 31 rfl ?_
                      refine OJ.nil ?_
                      exact EJ.meet (F' := [(5, .pointer (some ⟨b5, 0, none⟩)), (37, .pointer (some ⟨b64, 0, none⟩)), (38, .pointer (some ⟨b70, 0, none⟩)), (41, .int .i64 t84.1), (42, .int .i64 t84.2), (45, .slice A89 t88.1.length c90), (384, .bool true)]) ⟨rfl, rfl, rfl, rfl, rfl, rfl, rfl, trivial⟩ ⟨true, H, rfl, hS.pick [0, 1, 3, 5] [0, 1] rfl⟩
                    · replace H := pif_f (of_decide_eq_false hb) H
                      refine OJ.pures tU_ok 5 rfl ?_
                      refine OJ.split (t := 358) rfl (fun hb => ?_) (fun hb => ?_)
                      · replace H := pif_t (of_decide_eq_true hb) H
                        refine OJ.pures tU_ok 26 rfl ?_
                        refine OJ.nil ?_
                        exact EJ.meet (F' := [(5, .pointer (some ⟨b5, 0, none⟩)), (37, .pointer (some ⟨b64, 0, none⟩)), (38, .pointer (some ⟨b70, 0, none⟩)), (41, .int .i64 t84.1), (42, .int .i64 t84.2), (45, .slice A89 t88.1.length c90), (384, .bool true)]) ⟨rfl, rfl, rfl, rfl, rfl, rfl, rfl, trivial⟩ ⟨true, H, rfl, hS.pick [0, 1, 3, 5] [0, 1] rfl⟩
                      · replace H := pif_f (of_decide_eq_false hb) H
                        refine OJ.pures tU_ok 2 rfl ?_
                        obtain ⟨t93, ht93, H⟩ := pbind H
                        refine OJ.callF rfl rfl rfl rfl rfl hb16 rfl (spec_SameSpots.c k _ A86 c87 t85.1 (hS.rd (i := 4) rfl) (hS.le (i := 4) rfl) A89 c90 t88.1 (hS.rd (i := 5) rfl) (hS.le (i := 5) rfl) _ ht93) ?_
                        rintro _ w1 ⟨rfl, hs⟩
                        replace hS := hS.grow hs
                        refine OJ.pures tU_ok 3 rfl ?_
                        refine OJ.split (t := 364) rfl (fun hb => ?_) (fun hb => ?_)
                        · replace H := pif_t hb H
                          refine OJ.pures tU_ok 20 rfl ?_
                          refine OJ.nil ?_
                          exact EJ.meet (F' := [(5, .pointer (some ⟨b5, 0, none⟩)), (37, .pointer (some ⟨b64, 0, none⟩)), (38, .pointer (some ⟨b70, 0, none⟩)), (41, .int .i64 t84.1), (42, .int .i64 t84.2), (45, .slice A89 t88.1.length c90), (384, .bool true)]) ⟨rfl, rfl, rfl, rfl, rfl, rfl, rfl, trivial⟩ ⟨true, H, rfl, hS.pick [0, 1, 3, 5] [0, 1] rfl⟩
                        · replace H := pifb_f hb H
                          refine OJ.pures tU_ok 5 rfl ?_
                          refine OJ.split (t := 369) rfl (fun hb => ?_) (fun hb => ?_)
                          · replace H := pif_t (of_decide_eq_true hb) H
                            refine OJ.pures tU_ok 15 rfl ?_
                            refine OJ.nil ?_
                            exact EJ.meet (F' := [(5, .pointer (some ⟨b5, 0, none⟩)), (37, .pointer (some ⟨b64, 0, none⟩)), (38, .pointer (some ⟨b70, 0, none⟩)), (41, .int .i64 t84.1), (42, .int .i64 t84.2), (45, .slice A89 t88.1.length c90), (384, .bool true)]) ⟨rfl, rfl, rfl, rfl, rfl, rfl, rfl, trivial⟩ ⟨true, H, rfl, hS.pick [0, 1, 3, 5] [0, 1] rfl⟩
                          · replace H := pif_f (of_decide_eq_false hb) H
                            refine OJ.pures tU_ok 5 rfl ?_
                            refine OJ.split (t := 374) rfl (fun hb => ?_) (fun hb => ?_)
                            · replace H := pif_t (of_decide_eq_true hb) H
                              refine OJ.pures tU_ok 10 rfl ?_
                              refine OJ.nil ?_
                              exact EJ.meet (F' := [(5, .pointer (some ⟨b5, 0, none⟩)), (37, .pointer (some ⟨b64, 0, none⟩)), (38, .pointer (some ⟨b70, 0, none⟩)), (41, .int .i64 t84.1), (42, .int .i64 t84.2), (45, .slice A89 t88.1.length c90), (384, .bool true)]) ⟨rfl, rfl, rfl, rfl, rfl, rfl, rfl, trivial⟩ ⟨true, H, rfl, hS.pick [0, 1, 3, 5] [0, 1] rfl⟩
                            · replace H := pif_f (of_decide_eq_false hb) H
                              refine OJ.pures tU_ok 5 rfl ?_
                              refine OJ.split (t := 379) rfl (fun hb => ?_) (fun hb => ?_)
                              · replace H := pif_t (of_decide_eq_true hb) H
                                refine OJ.pures tU_ok 5 rfl ?_
                                refine OJ.nil ?_
                                exact EJ.meet (F' := [(5, .pointer (some ⟨b5, 0, none⟩)), (37, .pointer (some ⟨b64, 0, none⟩)), (38, .pointer (some ⟨b70, 0, none⟩)), (41, .int .i64 t84.1), (42, .int .i64 t84.2), (45, .slice A89 t88.1.length c90), (384, .bool true)]) ⟨rfl, rfl, rfl, rfl, rfl, rfl, rfl, trivial⟩ ⟨true, H, rfl, hS.pick [0, 1, 3, 5] [0, 1] rfl⟩
                              · replace H := pif_f (of_decide_eq_false hb) H
                                refine OJ.pures tU_ok 3 rfl ?_
                                refine OJ.st rfl rfl rfl (SR.neB tU_ok rfl rfl rfl rfl) ?_
                                refine OJ.pures tU_ok 1 rfl ?_
                                refine OJ.nil ?_
                                exact EJ.meet (F' := [(5, .pointer (some ⟨b5, 0, none⟩)), (37, .pointer (some ⟨b64, 0, none⟩)), (38, .pointer (some ⟨b70, 0, none⟩)), (41, .int .i64 t84.1), (42, .int .i64 t84.2), (45, .slice A89 t88.1.length c90), (384, .bool (decide (t83.1 ≠ (decide (t84.2 = 0)))))]) ⟨rfl, rfl, rfl, rfl, rfl, rfl, rfl, trivial⟩ ⟨(decide (t83.1 ≠ (decide (t84.2 = 0)))), H, rfl, hS.pick [0, 1, 3, 5] [0, 1] rfl⟩
                  · rintro F w1 ⟨y92, he, rfl, hS⟩
                    obtain rfl := Option.some.inj he
                    have H := K402
                    refine CJ.cond rfl (fun hb => ?_) (fun hb => ?_)
                    · replace H := pif_t hb H
                      refine CJ.seq ?_
                      refine CJ.region ?_
                      refine OJ.pures tU_ok 1 rfl ?_
                      refine OJ.nil (EJ.next ?_)
                      refine CJ.ret (EJ.skR (?_))
                      obtain rfl := Option.some.inj H
                      exact EJ.fin rfl (.tmp rfl .nil) ⟨rfl, hS.ext⟩
                    · replace H := pifb_f hb H
                      refine CJ.skip (EJ.next ?_)
                      refine CJ.seq ?_
                      refine CJ.seq ?_
                      refine CJ.region ?_
                      refine OJ.pures tU_ok 2 rfl ?_
                      refine OJ.nil (EJ.next ?_)
                      refine CJ.cond rfl (fun hb => ?_) (fun hb => ?_)
                      · replace H := pif_t (of_decide_eq_true hb) H
                        obtain ⟨j403, H, K403⟩ := pbind H
                        refine CJ.cut (fun F w1 => ∃ (y94 : Bool) , (some y94 : Option Bool) = some j403 ∧ F = [(4, .bool y94)] ∧ St w no w1 [] [roC (ci .u8) Aa0 ca0 a0, roC (ci .u8) Aa1 ca1 a1]) ?_ ?_
                        · skip
                          refine CJ.region ?_
                          refine OJ.pures tU_ok 3 rfl ?_
                          refine OJ.split (t := 389) rfl (fun hb => ?_) (fun hb => ?_)
                          · replace H := pif_t (of_decide_eq_true hb) H
                            refine OJ.pures tU_ok 4 rfl ?_
                            refine OJ.nil ?_
                            exact EJ.meet (F' := [(4, .bool (decide (t84.1 = 0)))]) ⟨rfl, trivial⟩ ⟨(decide (t84.1 = 0)), H, rfl, hS.pick [] [0, 1] rfl⟩
                          · replace H := pif_f (of_decide_eq_false hb) H
                            refine OJ.pures tU_ok 4 rfl ?_
                            refine OJ.nil ?_
                            exact EJ.meet (F' := [(4, .bool false)]) ⟨rfl, trivial⟩ ⟨false, H, rfl, hS.pick [] [0, 1] rfl⟩
                        · rintro F w1 ⟨y94, he, rfl, hS⟩
                          obtain rfl := Option.some.inj he
                          have H := K403
                          refine CJ.ret (EJ.skR (?_))
                          obtain rfl := Option.some.inj H
                          exact EJ.fin rfl (.tmp rfl .nil) ⟨rfl, hS.ext⟩
                      · replace H := pif_f (of_decide_eq_false hb) H
                        refine CJ.skip (EJ.next ?_)
                        refine CJ.seq ?_
                        obtain ⟨j404, H, K404⟩ := pbind H
                        refine CJ.cut (fun F w1 => ∃ (y95 : Bool) , (some y95 : Option Bool) = some j404 ∧ F = [(5, .pointer (some ⟨b5, 0, none⟩)), (37, .pointer (some ⟨b64, 0, none⟩)), (38, .pointer (some ⟨b70, 0, none⟩)), (41, .int .i64 t84.1), (45, .slice A89 t88.1.length c90), (414, .bool y95)] ∧ St w no w1 [box b5 (cPasture.enc t4) 31, box b64 (cSpot.enc t63) 46, box b70 (cSpot.enc t69) 46, rowC cSpot A89 c90 46 t88.1] [roC (ci .u8) Aa0 ca0 a0, roC (ci .u8) Aa1 ca1 a1]) ?_ ?_
                        · skip
                          refine CJ.draw [] [0, 1, 2, 3, 4, 5, 6, 7, 8, 9, 10, 11, 12, 13, 14, 15, 16, 17, 18, 19, 20, 21] mixed (by kernel_rfl) hS fun w1 hS => ?_
                          refine DJ.pures tU_ok 6 rfl ?_
                          refine DJ.split (t := 398) rfl (fun hb => ?_) (fun hb => ?_)
                          · replace H := pif_t (of_decide_eq_true hb) H
                            refine DJ.pures tU_ok 16 rfl ?_
                            refine DJ.nil ?_
                            exact EJ.meet (F' := [(5, .pointer (some ⟨b5, 0, none⟩)), (37, .pointer (some ⟨b64, 0, none⟩)), (38, .pointer (some ⟨b70, 0, none⟩)), (41, .int .i64 t84.1), (45, .slice A89 t88.1.length c90), (414, .bool true)]) ⟨rfl, rfl, rfl, rfl, rfl, rfl, trivial⟩ ⟨true, H, rfl, hS.pick [0, 1, 2, 3] [0, 1] rfl⟩
                          · replace H := pif_f (of_decide_eq_false hb) H
                            refine DJ.pures tU_ok 1 rfl ?_
                            obtain ⟨t96, ht96, H⟩ := pbind H
                            obtain ⟨ad96, e96⟩ := (hS.rd (i := 3) rfl).some' ht96
                            refine DJ.st rfl rfl rfl rfl rfl (SR.idxS tU_ok tI_ok rfl rfl rfl rfl e96 rfl (getI_some ht96).1) ?_
                            refine DJ.st rfl rfl rfl rfl rfl (SR.load rfl rfl (fun w' hx => ldE tU_ok tI_ok rfl rfl rfl (CA.ext ((hS.rd (i := 3) rfl).at_ e96 ht96) hx) rfl)) ?_
                            refine DJ.st rfl rfl rfl rfl rfl (SR.load rfl rfl (fun w' hx => ldE tU_ok tI_ok rfl rfl rfl (CA.ext (hS.cells (i := 1) rfl) hx) rfl)) ?_
                            refine DJ.st rfl rfl rfl rfl rfl (SR.neS eqT46 eqG46 rfl rfl rfl (rfl : _ = (cSpot.enc t96).toArray) (rfl : _ = (cSpot.enc t63).toArray)) ?_
                            refine DJ.pures tU_ok 2 rfl ?_
                            refine DJ.split (t := 405) rfl (fun hb => ?_) (fun hb => ?_)
                            · replace H := pif_t (of_decide_eq_true hb) H
                              refine DJ.pures tU_ok 9 rfl ?_
                              refine DJ.nil ?_
                              exact EJ.meet (F' := [(5, .pointer (some ⟨b5, 0, none⟩)), (37, .pointer (some ⟨b64, 0, none⟩)), (38, .pointer (some ⟨b70, 0, none⟩)), (41, .int .i64 t84.1), (45, .slice A89 t88.1.length c90), (414, .bool true)]) ⟨rfl, rfl, rfl, rfl, rfl, rfl, trivial⟩ ⟨true, H, rfl, hS.pick [0, 1, 2, 3] [0, 1] rfl⟩
                            · replace H := pif_f (of_decide_eq_false hb) H
                              refine DJ.pures tU_ok 4 rfl ?_
                              obtain ⟨t97, ht97, H⟩ := pbind H
                              obtain ⟨ad97, e97⟩ := (hS.rd (i := 3) rfl).some' ht97
                              refine DJ.st rfl rfl rfl rfl rfl (SR.idxS tU_ok tI_ok rfl rfl rfl rfl e97 rfl (getI_some ht97).1) ?_
                              refine DJ.st rfl rfl rfl rfl rfl (SR.load rfl rfl (fun w' hx => ldE tU_ok tI_ok rfl rfl rfl (CA.ext ((hS.rd (i := 3) rfl).at_ e97 ht97) hx) rfl)) ?_
                              refine DJ.st rfl rfl rfl rfl rfl (SR.load rfl rfl (fun w' hx => ldE tU_ok tI_ok rfl rfl rfl (CA.ext (hS.cells (i := 2) rfl) hx) rfl)) ?_
                              refine DJ.st rfl rfl rfl rfl rfl (SR.neS eqT46 eqG46 rfl rfl rfl (rfl : _ = (cSpot.enc t97).toArray) (rfl : _ = (cSpot.enc t69).toArray)) ?_
                              refine DJ.pures tU_ok 1 rfl ?_
                              refine DJ.nil ?_
                              exact EJ.meet (F' := [(5, .pointer (some ⟨b5, 0, none⟩)), (37, .pointer (some ⟨b64, 0, none⟩)), (38, .pointer (some ⟨b70, 0, none⟩)), (41, .int .i64 t84.1), (45, .slice A89 t88.1.length c90), (414, .bool (decide (t97 ≠ t69)))]) ⟨rfl, rfl, rfl, rfl, rfl, rfl, trivial⟩ ⟨(decide (t97 ≠ t69)), H, rfl, hS.pick [0, 1, 2, 3] [0, 1] rfl⟩
                        · rintro F w1 ⟨y95, he, rfl, hS⟩
                          obtain rfl := Option.some.inj he
                          have H := K404
                          refine CJ.cond rfl (fun hb => ?_) (fun hb => ?_)
                          · replace H := pif_t hb H
                            refine CJ.seq ?_
                            refine CJ.region ?_
                            refine OJ.pures tU_ok 1 rfl ?_
                            refine OJ.nil (EJ.next ?_)
                            refine CJ.ret (EJ.skR (?_))
                            obtain rfl := Option.some.inj H
                            exact EJ.fin rfl (.tmp rfl .nil) ⟨rfl, hS.ext⟩
                          · replace H := pifb_f hb H
                            refine CJ.skip (EJ.next ?_)
                            refine CJ.seq ?_
                            refine CJ.seq ?_
                            refine CJ.region ?_
                            refine OJ.pures tU_ok 1 rfl ?_
                            refine OJ.nil (EJ.next ?_)
                            obtain ⟨j405, H, K405⟩ := pbind H
                            refine CJ.cut1 (fun F w1 => (some (Sum.inr ()) : Option (Bool ⊕ Unit)) = some j405 ∧ F = [(5, .pointer (some ⟨b5, 0, none⟩)), (37, .pointer (some ⟨b64, 0, none⟩)), (38, .pointer (some ⟨b70, 0, none⟩)), (41, .int .i64 t84.1)] ∧ St w no w1 [box b5 (cPasture.enc t4) 31, box b64 (cSpot.enc t63) 46, box b70 (cSpot.enc t69) 46] [roC (ci .u8) Aa0 ca0 a0, roC (ci .u8) Aa1 ca1 a1]) ?_ ?_
                            · skip
                              refine CJ.block ?_
                              refine CJ.loop (fun k F w1 => ∃ (y98 : Int), F = [(5, .pointer (some ⟨b5, 0, none⟩)), (37, .pointer (some ⟨b64, 0, none⟩)), (38, .pointer (some ⟨b70, 0, none⟩)), (41, .int .i64 t84.1), (45, .slice A89 t88.1.length c90), (49, .int .i64 y98)] ∧ St w no w1 [box b5 (cPasture.enc t4) 31, box b64 (cSpot.enc t63) 46, box b70 (cSpot.enc t69) 46, rowC cSpot A89 c90 46 t88.1] [roC (ci .u8) Aa0 ca0 a0, roC (ci .u8) Aa1 ca1 a1] ∧ laws_FnYards.l3 t4 t88 k y98 = some j405) k (F' := [(5, .pointer (some ⟨b5, 0, none⟩)), (37, .pointer (some ⟨b64, 0, none⟩)), (38, .pointer (some ⟨b70, 0, none⟩)), (41, .int .i64 t84.1), (45, .slice A89 t88.1.length c90), (49, .int .i64 1)]) ⟨rfl, rfl, rfl, rfl, rfl, rfl, trivial⟩ ⟨1, rfl, hS.pick [0, 1, 2, 3] [0, 1] rfl, H⟩ ?_
                              rintro k F w1 ⟨y98, rfl, hS, H⟩
                              cases k with
                              | zero => rw [laws_FnYards.l3] at H; cases H
                              | succ k =>
                                rw [laws_FnYards.l3] at H
                                refine CJ.seq ?_
                                refine CJ.seq ?_
                                refine CJ.region ?_
                                refine OJ.pures tU_ok 4 rfl ?_
                                refine OJ.nil (EJ.next ?_)
                                refine CJ.cond rfl (fun hb => ?_) (fun hb => ?_)
                                · replace H := pif_t (of_decide_eq_true hb) H
                                  refine CJ.skip (EJ.next ?_)
                                  refine CJ.seq ?_
                                  refine CJ.block ?_
                                  refine CJ.seq ?_
                                  refine CJ.draw [] [0, 1, 2, 3, 4, 5, 6, 7, 8, 9, 10, 11] mixed (by kernel_rfl) hS fun w1 hS => ?_
                                  refine DJ.st rfl rfl rfl rfl rfl (SR.load rfl rfl (fun w' hx => ldE tU_ok tI_ok rfl rfl rfl (CA.ext (hS.cells (i := 0) rfl) hx) rfl)) ?_
                                  refine DJ.pures tU_ok 3 rfl ?_
                                  obtain ⟨t99, ht99, H⟩ := pbind H
                                  obtain ⟨ad99, e99⟩ := (hS.rd (i := 3) rfl).some' ht99
                                  refine DJ.st rfl rfl rfl rfl rfl (SR.idxS tU_ok tI_ok rfl rfl rfl rfl e99 rfl (getI_some ht99).1) ?_
                                  refine DJ.st rfl rfl rfl rfl rfl (SR.load rfl rfl (fun w' hx => ldE tU_ok tI_ok rfl rfl rfl (CA.ext ((hS.rd (i := 3) rfl).at_ e99 ht99) hx) rfl)) ?_
                                  obtain ⟨t100, ht100, H⟩ := pbind H
                                  refine DJ.callF rfl rfl rfl rfl rfl rfl rfl hb24 rfl (impl_BesideOf.c k _ t4 t99 _ ht100) (by rintro v w' ⟨A101, c102, rfl, hs⟩; exact hs.ext) ?_
                                  rintro _ w1 ⟨A101, c102, rfl, hs⟩
                                  replace hS := hS.addN hs
                                  refine DJ.pures tU_ok 5 rfl ?_
                                  refine DJ.nil (EJ.next ?_)
                                  refine CJ.seq ?_
                                  refine CJ.region ?_
                                  refine OJ.pures tU_ok 3 rfl ?_
                                  refine OJ.split (t := 433) rfl (fun hb => ?_) (fun hb => ?_)
                                  · replace H := pif_t (of_decide_eq_true hb) H
                                    refine OJ.pures tU_ok 8 rfl ?_
                                    refine OJ.nil (EJ.next ?_)
                                    refine CJ.condT rfl ?_
                                    refine CJ.seq ?_
                                    refine CJ.region ?_
                                    refine OJ.pures tU_ok 1 rfl ?_
                                    refine OJ.nil (EJ.next ?_)
                                    refine CJ.ret (EJ.bkR (EJ.skR (EJ.skR (EJ.bkR (EJ.skR (EJ.skR (?_)))))))
                                    first | (obtain rfl := Option.some.inj H; have H := K405) | (obtain ⟨q405, H2, e405⟩ := pbind H; obtain rfl := Option.some.inj e405; obtain rfl := Option.some.inj K405; have H := H2)
                                    obtain rfl := Option.some.inj H
                                    exact EJ.fin rfl (.tmp rfl .nil) ⟨rfl, hS.ext⟩
                                  · replace H := pif_f (of_decide_eq_false hb) H
                                    refine OJ.pures tU_ok 3 rfl ?_
                                    obtain ⟨t103, ht103, H⟩ := pbind H
                                    obtain ⟨ad103, e103⟩ := (hS.rd (i := 3) rfl).some' ht103
                                    refine OJ.st rfl rfl rfl (SR.idxS tU_ok tI_ok rfl rfl rfl rfl e103 rfl (getI_some ht103).1) ?_
                                    refine OJ.st rfl rfl rfl (SR.load rfl rfl (fun w' hx => ldE tU_ok tI_ok rfl rfl rfl (CA.ext ((hS.rd (i := 3) rfl).at_ e103 ht103) hx) rfl)) ?_
                                    obtain ⟨t104, ht104, H⟩ := pbind H
                                    refine OJ.callF rfl rfl rfl rfl rfl hb25 rfl (spec_HasSpot.c k _ A101 c102 t100.1 (hS.rd (i := 4) rfl) (hS.le (i := 4) rfl) t103 _ ht104) ?_
                                    rintro _ w1 ⟨rfl, hs⟩
                                    replace hS := hS.grow hs
                                    refine OJ.pures tU_ok 2 rfl ?_
                                    refine OJ.nil (EJ.next ?_)
                                    refine CJ.cond rfl (fun hb => ?_) (fun hb => ?_)
                                    · replace H := pif_t hb H
                                      refine CJ.seq ?_
                                      refine CJ.region ?_
                                      refine OJ.pures tU_ok 1 rfl ?_
                                      refine OJ.nil (EJ.next ?_)
                                      refine CJ.ret (EJ.bkR (EJ.skR (EJ.skR (EJ.bkR (EJ.skR (EJ.skR (?_)))))))
                                      first | (obtain rfl := Option.some.inj H; have H := K405) | (obtain ⟨q405, H2, e405⟩ := pbind H; obtain rfl := Option.some.inj e405; obtain rfl := Option.some.inj K405; have H := H2)
                                      obtain rfl := Option.some.inj H
                                      exact EJ.fin rfl (.tmp rfl .nil) ⟨rfl, hS.ext⟩
                                    · replace H := pifb_f hb H
                                      refine CJ.skip (EJ.blk (EJ.next ?_))
                                      refine CJ.region ?_
                                      refine OJ.pures tU_ok 3 rfl ?_
                                      refine OJ.nil ?_
                                      exact EJ.round k (F' := [(5, .pointer (some ⟨b5, 0, none⟩)), (37, .pointer (some ⟨b64, 0, none⟩)), (38, .pointer (some ⟨b70, 0, none⟩)), (41, .int .i64 t84.1), (45, .slice A89 t88.1.length c90), (49, .int .i64 (IntKind.i64.wrap (y98 + 1)))]) ⟨rfl, rfl, rfl, rfl, rfl, rfl, trivial⟩ (Nat.lt_succ_self _) ⟨(IntKind.i64.wrap (y98 + 1)), rfl, hS.pick [0, 1, 2, 3] [0, 1] rfl, H⟩
                                · replace H := pif_f (of_decide_eq_false hb) H
                                  refine CJ.exit (EJ.skE (EJ.skE (EJ.hit (?_))))
                                  exact EJ.meet (F' := [(5, .pointer (some ⟨b5, 0, none⟩)), (37, .pointer (some ⟨b64, 0, none⟩)), (38, .pointer (some ⟨b70, 0, none⟩)), (41, .int .i64 t84.1)]) ⟨rfl, rfl, rfl, rfl, trivial⟩ ⟨H, rfl, hS.pick [0, 1, 2] [0, 1] rfl⟩
                            · rintro F w1 ⟨he, rfl, hS⟩
                              obtain rfl := Option.some.inj he
                              have H := K405
                              refine EJ.next ?_
                              refine CJ.seq ?_
                              refine CJ.region ?_
                              refine OJ.st rfl rfl rfl (SR.load rfl rfl (fun w' hx => ldE tU_ok tI_ok rfl rfl rfl (CA.ext (hS.cells (i := 0) rfl) hx) rfl)) ?_
                              refine OJ.st rfl rfl rfl (SR.load rfl rfl (fun w' hx => ldE tU_ok tI_ok rfl rfl rfl (CA.ext (hS.cells (i := 1) rfl) hx) rfl)) ?_
                              obtain ⟨t105, ht105, H⟩ := pbind H
                              refine OJ.callF rfl rfl rfl rfl rfl hb26 rfl (spec_BesideOf.c k _ t4 t63 _ ht105) ?_
                              rintro _ w1 ⟨A106, c107, rfl, hs⟩
                              replace hS := hS.addN hs
                              refine OJ.pures tU_ok 5 rfl ?_
                              refine OJ.nil (EJ.next ?_)
                              refine CJ.seq ?_
                              refine CJ.seq ?_
                              refine CJ.region ?_
                              refine OJ.pures tU_ok 1 rfl ?_
                              refine OJ.nil (EJ.next ?_)
                              obtain ⟨j407, H, K407⟩ := pbind H
                              refine CJ.cut1 (fun F w1 => (some (Sum.inr ()) : Option (Bool ⊕ Unit)) = some j407 ∧ F = [] ∧ St w no w1 [] [roC (ci .u8) Aa0 ca0 a0, roC (ci .u8) Aa1 ca1 a1]) ?_ ?_
                              · skip
                                refine CJ.block ?_
                                refine CJ.loop (fun k F w1 => ∃ (y108 : Int), F = [(5, .pointer (some ⟨b5, 0, none⟩)), (38, .pointer (some ⟨b70, 0, none⟩)), (41, .int .i64 t84.1), (52, .slice A106 t105.1.length c107), (53, .int .i64 t105.2), (54, .int .i64 y108)] ∧ St w no w1 [box b5 (cPasture.enc t4) 31, box b70 (cSpot.enc t69) 46, rowC cSpot A106 c107 46 t105.1] [roC (ci .u8) Aa0 ca0 a0, roC (ci .u8) Aa1 ca1 a1] ∧ laws_FnYards.l4 t4 t69 t84 t105 k y108 = some j407) k (F' := [(5, .pointer (some ⟨b5, 0, none⟩)), (38, .pointer (some ⟨b70, 0, none⟩)), (41, .int .i64 t84.1), (52, .slice A106 t105.1.length c107), (53, .int .i64 t105.2), (54, .int .i64 0)]) ⟨rfl, rfl, rfl, rfl, rfl, rfl, trivial⟩ ⟨0, rfl, hS.pick [0, 2, 3] [0, 1] rfl, H⟩ ?_
                                rintro k F w1 ⟨y108, rfl, hS, H⟩
                                cases k with
                                | zero => rw [laws_FnYards.l4] at H; cases H
                                | succ k =>
                                  rw [laws_FnYards.l4] at H
                                  refine CJ.seq ?_
                                  refine CJ.seq ?_
                                  refine CJ.region ?_
                                  refine OJ.pures tU_ok 4 rfl ?_
                                  refine OJ.nil (EJ.next ?_)
                                  refine CJ.cond rfl (fun hb => ?_) (fun hb => ?_)
                                  · replace H := pif_t (of_decide_eq_true hb) H
                                    refine CJ.skip (EJ.next ?_)
                                    refine CJ.seq ?_
                                    refine CJ.block ?_
                                    refine CJ.seq ?_
                                    refine CJ.draw [] [0, 1, 2, 3, 4, 5, 6, 7, 8, 9, 10, 11] mixed (by kernel_rfl) hS fun w1 hS => ?_
                                    refine DJ.st rfl rfl rfl rfl rfl (SR.load rfl rfl (fun w' hx => ldE tU_ok tI_ok rfl rfl rfl (CA.ext (hS.cells (i := 0) rfl) hx) rfl)) ?_
                                    refine DJ.pures tU_ok 2 rfl ?_
                                    obtain ⟨t109, ht109, H⟩ := pbind H
                                    obtain ⟨ad109, e109⟩ := (hS.rd (i := 2) rfl).some' ht109
                                    refine DJ.st rfl rfl rfl rfl rfl (SR.idxS tU_ok tI_ok rfl rfl rfl rfl e109 rfl (getI_some ht109).1) ?_
                                    refine DJ.st rfl rfl rfl rfl rfl (SR.load rfl rfl (fun w' hx => ldE tU_ok tI_ok rfl rfl rfl (CA.ext ((hS.rd (i := 2) rfl).at_ e109 ht109) hx) rfl)) ?_
                                    refine DJ.st rfl rfl rfl rfl rfl (SR.load rfl rfl (fun w' hx => ldE tU_ok tI_ok rfl rfl rfl (CA.ext (hS.cells (i := 1) rfl) hx) rfl)) ?_
                                    obtain ⟨t110, ht110, H⟩ := pbind H
                                    refine DJ.callF rfl rfl rfl rfl rfl rfl rfl hb21 rfl (impl_StepsBetween.c k _ t4 t109 t69 _ ht110) (by rintro v w' ⟨rfl, hs⟩; exact hs) ?_
                                    rintro _ w1 ⟨rfl, hs⟩
                                    replace hS := hS.grow hs
                                    refine DJ.pures tU_ok 5 rfl ?_
                                    refine DJ.nil (EJ.next ?_)
                                    refine CJ.seq ?_
                                    refine CJ.region ?_
                                    refine OJ.pures tU_ok 3 rfl ?_
                                    refine OJ.split (t := 466) rfl (fun hb => ?_) (fun hb => ?_)
                                    · replace H := pif_t (of_decide_eq_true hb) H
                                      refine OJ.pures tU_ok 15 rfl ?_
                                      refine OJ.nil (EJ.next ?_)
                                      refine CJ.condT rfl ?_
                                      refine CJ.seq ?_
                                      refine CJ.region ?_
                                      refine OJ.pures tU_ok 1 rfl ?_
                                      refine OJ.nil (EJ.next ?_)
                                      refine CJ.ret (EJ.bkR (EJ.skR (EJ.skR (EJ.bkR (EJ.skR (EJ.skR (?_)))))))
                                      first | (obtain rfl := Option.some.inj H; have H := K407) | (obtain ⟨q407, H2, e407⟩ := pbind H; obtain rfl := Option.some.inj e407; obtain rfl := Option.some.inj K407; have H := H2)
                                      obtain rfl := Option.some.inj H
                                      exact EJ.fin rfl (.tmp rfl .nil) ⟨rfl, hS.ext⟩
                                    · replace H := pif_f (of_decide_eq_false hb) H
                                      refine OJ.pures tU_ok 4 rfl ?_
                                      refine OJ.split (t := 470) rfl (fun hb => ?_) (fun hb => ?_)
                                      · replace H := pif_t (of_decide_eq_true hb) H
                                        refine OJ.pures tU_ok 11 rfl ?_
                                        refine OJ.nil (EJ.next ?_)
                                        refine CJ.condT rfl ?_
                                        refine CJ.seq ?_
                                        refine CJ.region ?_
                                        refine OJ.pures tU_ok 1 rfl ?_
                                        refine OJ.nil (EJ.next ?_)
                                        refine CJ.ret (EJ.bkR (EJ.skR (EJ.skR (EJ.bkR (EJ.skR (EJ.skR (?_)))))))
                                        first | (obtain rfl := Option.some.inj H; have H := K407) | (obtain ⟨q407, H2, e407⟩ := pbind H; obtain rfl := Option.some.inj e407; obtain rfl := Option.some.inj K407; have H := H2)
                                        obtain rfl := Option.some.inj H
                                        exact EJ.fin rfl (.tmp rfl .nil) ⟨rfl, hS.ext⟩
                                      · replace H := pif_f (of_decide_eq_false hb) H
                                        refine OJ.pures tU_ok 6 rfl ?_
                                        refine OJ.split (t := 476) rfl (fun hb => ?_) (fun hb => ?_)
                                        · replace H := pif_t (of_decide_eq_true hb) H
                                          refine OJ.pures tU_ok 5 rfl ?_
                                          refine OJ.nil (EJ.next ?_)
                                          refine CJ.condT rfl ?_
                                          refine CJ.seq ?_
                                          refine CJ.region ?_
                                          refine OJ.pures tU_ok 1 rfl ?_
                                          refine OJ.nil (EJ.next ?_)
                                          refine CJ.ret (EJ.bkR (EJ.skR (EJ.skR (EJ.bkR (EJ.skR (EJ.skR (?_)))))))
                                          first | (obtain rfl := Option.some.inj H; have H := K407) | (obtain ⟨q407, H2, e407⟩ := pbind H; obtain rfl := Option.some.inj e407; obtain rfl := Option.some.inj K407; have H := H2)
                                          obtain rfl := Option.some.inj H
                                          exact EJ.fin rfl (.tmp rfl .nil) ⟨rfl, hS.ext⟩
                                        · replace H := pif_f (of_decide_eq_false hb) H
                                          refine OJ.pures tU_ok 5 rfl ?_
                                          refine OJ.nil (EJ.next ?_)
                                          refine CJ.cond rfl (fun hb => ?_) (fun hb => ?_)
                                          · replace H := pif_t (of_decide_eq_true hb) H
                                            refine CJ.seq ?_
                                            refine CJ.region ?_
                                            refine OJ.pures tU_ok 1 rfl ?_
                                            refine OJ.nil (EJ.next ?_)
                                            refine CJ.ret (EJ.bkR (EJ.skR (EJ.skR (EJ.bkR (EJ.skR (EJ.skR (?_)))))))
                                            first | (obtain rfl := Option.some.inj H; have H := K407) | (obtain ⟨q407, H2, e407⟩ := pbind H; obtain rfl := Option.some.inj e407; obtain rfl := Option.some.inj K407; have H := H2)
                                            obtain rfl := Option.some.inj H
                                            exact EJ.fin rfl (.tmp rfl .nil) ⟨rfl, hS.ext⟩
                                          · replace H := pif_f (of_decide_eq_false hb) H
                                            refine CJ.skip (EJ.blk (EJ.next ?_))
                                            refine CJ.region ?_
                                            refine OJ.pures tU_ok 3 rfl ?_
                                            refine OJ.nil ?_
                                            exact EJ.round k (F' := [(5, .pointer (some ⟨b5, 0, none⟩)), (38, .pointer (some ⟨b70, 0, none⟩)), (41, .int .i64 t84.1), (52, .slice A106 t105.1.length c107), (53, .int .i64 t105.2), (54, .int .i64 (IntKind.i64.wrap (y108 + 1)))]) ⟨rfl, rfl, rfl, rfl, rfl, rfl, trivial⟩ (Nat.lt_succ_self _) ⟨(IntKind.i64.wrap (y108 + 1)), rfl, hS.pick [0, 1, 2] [0, 1] rfl, H⟩
                                  · replace H := pif_f (of_decide_eq_false hb) H
                                    refine CJ.exit (EJ.skE (EJ.skE (EJ.hit (?_))))
                                    exact EJ.meet (F' := []) trivial ⟨H, rfl, hS.pick [] [0, 1] rfl⟩
                              · rintro F w1 ⟨he, rfl, hS⟩
                                obtain rfl := Option.some.inj he
                                have H := K407
                                refine EJ.next ?_
                                refine CJ.seq ?_
                                refine CJ.region ?_
                                refine OJ.pures tU_ok 1 rfl ?_
                                refine OJ.nil (EJ.next ?_)
                                refine CJ.ret (?_)
                                obtain rfl := Option.some.inj H
                                exact EJ.fin rfl (.tmp rfl .nil) ⟨rfl, hS.ext⟩
end Go.Proofs.YtggfhnipkecpmaaGreat
