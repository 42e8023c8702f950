/-
  What the functions come to.
-/
import Derived.Test.YthlljmjaaljdnaaDoorGP0
namespace Go.Proofs.YthlljmjaaljdnaaDoor
open G
set_option linter.unusedVariables false
set_option linter.unusedSimpArgs false
set_option maxRecDepth 100000
set_option maxHeartbeats 4000000
def laws_eqInt16A10A10.l1 (a0 : Arr 10 (Arr 10 Int)) (a1 : Arr 10 (Arr 10 Int)) : Nat → Int → Option (Bool ⊕ Unit)
  | 0, _ => none
  | k + 1, y3 => if y3 < 10 then ((getI a0.l y3).bind fun t4 => (getI a1.l y3).bind fun t5 => (laws_eqInt16A10.f k t4 t5).bind fun t6 => if (!t6) = true then (some (Sum.inl false)) else (laws_eqInt16A10A10.l1 a0 a1 k (IntKind.i64.wrap (y3 + 1)))) else (some (Sum.inr ()))
def laws_eqInt16A10A10.f (k : Nat) (a0 : Arr 10 (Arr 10 Int)) (a1 : Arr 10 (Arr 10 Int)) : Option Bool := (laws_eqInt16A10A10.l1 a0 a1 k 0).bind fun s118 => match s118 with | .inl r => some r | .inr _ => some true
theorem laws_eqInt16A10A10.c (k : Nat) (w : World) (a0 : Arr 10 (Arr 10 Int)) (a1 : Arr 10 (Arr 10 Int)) (r : Bool) (H : laws_eqInt16A10A10.f k a0 a1 = some r) :
    CV Tryd.prog 18 [.agg ((carr 10 (carr 10 (ci .i16))).enc a0).toArray, .agg ((carr 10 (carr 10 (ci .i16))).enc a1).toArray].toArray w fun v w' => v = .bool r ∧ Ext w w' := by
  have hS := (St.init w no)
  unfold laws_eqInt16A10A10.f at H
  refine CV.body Tryd.func18 rfl Tryd.ntmps18 rfl ?_
  refine CJ.seq ?_
  refine CJ.region ?_
  refine OJ.ef rfl rfl rfl (Ef.box hS rfl rfl ((carr 10 (carr 10 (ci .i16))).enc a0) rfl) ?_
  rintro _ w1 ⟨b1, rfl, hS⟩
  refine OJ.ef rfl rfl rfl (Ef.box hS rfl rfl ((carr 10 (carr 10 (ci .i16))).enc a1) rfl) ?_
  rintro _ w1 ⟨b2, rfl, hS⟩
  refine OJ.pures tU_ok 1 rfl ?_
  refine OJ.nil (EJ.next ?_)
  refine CJ.seq ?_
  refine CJ.seq ?_
  refine CJ.region ?_
  refine OJ.pures tU_ok 1 rfl ?_
  refine OJ.nil (EJ.next ?_)
  obtain ⟨j118, H, K118⟩ := pbind H
  refine CJ.cut1 (fun F w1 => (some (Sum.inr ()) : Option (Bool ⊕ Unit)) = some j118 ∧ F = [] ∧ St w no w1 [] []) ?_ ?_
  · skip
    refine CJ.block ?_
    refine CJ.loop (fun k F w1 => ∃ (y3 : Int), F = [(2, .pointer (some ⟨b1, 0, none⟩)), (3, .pointer (some ⟨b2, 0, none⟩)), (5, .int .i64 y3)] ∧ St w no w1 [box b1 ((carr 10 (carr 10 (ci .i16))).enc a0) 25, box b2 ((carr 10 (carr 10 (ci .i16))).enc a1) 25] [] ∧ laws_eqInt16A10A10.l1 a0 a1 k y3 = some j118) k (F' := [(2, .pointer (some ⟨b1, 0, none⟩)), (3, .pointer (some ⟨b2, 0, none⟩)), (5, .int .i64 0)]) ⟨rfl, rfl, rfl, trivial⟩ ⟨0, rfl, hS.pick [0, 1] [] rfl, H⟩ ?_
    rintro k F w1 ⟨y3, rfl, hS, H⟩
    cases k with
    | zero => rw [laws_eqInt16A10A10.l1] at H; cases H
    | succ k =>
      rw [laws_eqInt16A10A10.l1] at H
      refine CJ.seq ?_
      refine CJ.seq ?_
      refine CJ.region ?_
      refine OJ.pures tU_ok 2 rfl ?_
      refine OJ.nil (EJ.next ?_)
      refine CJ.cond rfl (fun hb => ?_) (fun hb => ?_)
      · replace H := pif_t (of_decide_eq_true hb) H
        refine CJ.skip (EJ.next ?_)
        refine CJ.seq ?_
        refine CJ.block ?_
        refine CJ.seq ?_
        refine CJ.draw [] [0, 1, 2, 3, 4, 5, 6, 7] mixed (by kernel_rfl) hS fun w1 hS => ?_
        refine DJ.pures tU_ok 1 rfl ?_
        obtain ⟨t4, ht4, H⟩ := pbind H
        refine DJ.st rfl rfl rfl rfl rfl (SR.idxA tU_ok tI_ok rfl rfl rfl rfl rfl (Arr.lt ht4)) ?_
        refine DJ.st rfl rfl rfl rfl rfl (SR.load rfl rfl (fun w' hx => ldE tU_ok tI_ok rfl rfl rfl (CA.ext (CA.idx (hS.cells (i := 0) rfl) ht4) hx) rfl)) ?_
        refine DJ.pures tU_ok 1 rfl ?_
        obtain ⟨t5, ht5, H⟩ := pbind H
        refine DJ.st rfl rfl rfl rfl rfl (SR.idxA tU_ok tI_ok rfl rfl rfl rfl rfl (Arr.lt ht5)) ?_
        refine DJ.st rfl rfl rfl rfl rfl (SR.load rfl rfl (fun w' hx => ldE tU_ok tI_ok rfl rfl rfl (CA.ext (CA.idx (hS.cells (i := 1) rfl) ht5) hx) rfl)) ?_
        obtain ⟨t6, ht6, H⟩ := pbind H
        refine DJ.callF rfl rfl rfl rfl rfl rfl rfl hb35 rfl (laws_eqInt16A10.c k _ t4 t5 _ ht6) (by rintro v w' ⟨rfl, hs⟩; exact hs) ?_
        rintro _ w1 ⟨rfl, hs⟩
        replace hS := hS.grow hs
        refine DJ.pures tU_ok 1 rfl ?_
        refine DJ.nil (EJ.next ?_)
        refine CJ.cond rfl (fun hb => ?_) (fun hb => ?_)
        · replace H := pif_t hb H
          refine CJ.seq ?_
          refine CJ.region ?_
          refine OJ.pures tU_ok 1 rfl ?_
          refine OJ.nil (EJ.next ?_)
          refine CJ.ret (EJ.bkR (EJ.skR (EJ.skR (EJ.bkR (EJ.skR (EJ.skR (?_)))))))
          first | (obtain rfl := Option.some.inj H; have H := K118) | (obtain ⟨q118, H2, e118⟩ := pbind H; obtain rfl := Option.some.inj e118; obtain rfl := Option.some.inj K118; have H := H2)
          obtain rfl := Option.some.inj H
          exact EJ.fin rfl (.tmp rfl .nil) ⟨rfl, hS.ext⟩
        · replace H := pifb_f hb H
          refine CJ.skip (EJ.blk (EJ.next ?_))
          refine CJ.region ?_
          refine OJ.pures tU_ok 3 rfl ?_
          refine OJ.nil ?_
          exact EJ.round k (F' := [(2, .pointer (some ⟨b1, 0, none⟩)), (3, .pointer (some ⟨b2, 0, none⟩)), (5, .int .i64 (IntKind.i64.wrap (y3 + 1)))]) ⟨rfl, rfl, rfl, trivial⟩ (Nat.lt_succ_self _) ⟨(IntKind.i64.wrap (y3 + 1)), rfl, hS.pick [0, 1] [] rfl, H⟩
      · replace H := pif_f (of_decide_eq_false hb) H
        refine CJ.exit (EJ.skE (EJ.skE (EJ.hit (?_))))
        exact EJ.meet (F' := []) trivial ⟨H, rfl, hS.pick [] [] rfl⟩
  · rintro F w1 ⟨he, rfl, hS⟩
    obtain rfl := Option.some.inj he
    have H := K118
    refine EJ.next ?_
    refine CJ.seq ?_
    refine CJ.region ?_
    refine OJ.pures tU_ok 1 rfl ?_
    refine OJ.nil (EJ.next ?_)
    refine CJ.ret (?_)
    obtain rfl := Option.some.inj H
    exact EJ.fin rfl (.tmp rfl .nil) ⟨rfl, hS.ext⟩

def laws_eqUint16A10.l1 (a0 : Arr 10 Int) (a1 : Arr 10 Int) : Nat → Int → Option (Bool ⊕ Unit)
  | 0, _ => none
  | k + 1, y3 => if y3 < 10 then ((getI a0.l y3).bind fun t4 => (getI a1.l y3).bind fun t5 => if t4 ≠ t5 then (some (Sum.inl false)) else (laws_eqUint16A10.l1 a0 a1 k (IntKind.i64.wrap (y3 + 1)))) else (some (Sum.inr ()))
def laws_eqUint16A10.f (k : Nat) (a0 : Arr 10 Int) (a1 : Arr 10 Int) : Option Bool := (laws_eqUint16A10.l1 a0 a1 k 0).bind fun s120 => match s120 with | .inl r => some r | .inr _ => some true
theorem laws_eqUint16A10.c (k : Nat) (w : World) (a0 : Arr 10 Int) (a1 : Arr 10 Int) (r : Bool) (H : laws_eqUint16A10.f k a0 a1 = some r) :
    CV Tryd.prog 19 [.agg ((carr 10 (ci .u16)).enc a0).toArray, .agg ((carr 10 (ci .u16)).enc a1).toArray].toArray w fun v w' => v = .bool r ∧ Ext w w' := by
  have hS := (St.init w no)
  unfold laws_eqUint16A10.f at H
  refine CV.body Tryd.func19 rfl Tryd.ntmps19 rfl ?_
  refine CJ.seq ?_
  refine CJ.region ?_
  refine OJ.ef rfl rfl rfl (Ef.box hS rfl rfl ((carr 10 (ci .u16)).enc a0) rfl) ?_
  rintro _ w1 ⟨b1, rfl, hS⟩
  refine OJ.ef rfl rfl rfl (Ef.box hS rfl rfl ((carr 10 (ci .u16)).enc a1) rfl) ?_
  rintro _ w1 ⟨b2, rfl, hS⟩
  refine OJ.pures tU_ok 1 rfl ?_
  refine OJ.nil (EJ.next ?_)
  refine CJ.seq ?_
  refine CJ.seq ?_
  refine CJ.region ?_
  refine OJ.pures tU_ok 1 rfl ?_
  refine OJ.nil (EJ.next ?_)
  obtain ⟨j120, H, K120⟩ := pbind H
  refine CJ.cut1 (fun F w1 => (some (Sum.inr ()) : Option (Bool ⊕ Unit)) = some j120 ∧ F = [] ∧ St w no w1 [] []) ?_ ?_
  · skip
    refine CJ.block ?_
    refine CJ.loop (fun k F w1 => ∃ (y3 : Int), F = [(2, .pointer (some ⟨b1, 0, none⟩)), (3, .pointer (some ⟨b2, 0, none⟩)), (5, .int .i64 y3)] ∧ St w no w1 [box b1 ((carr 10 (ci .u16)).enc a0) 27, box b2 ((carr 10 (ci .u16)).enc a1) 27] [] ∧ laws_eqUint16A10.l1 a0 a1 k y3 = some j120) k (F' := [(2, .pointer (some ⟨b1, 0, none⟩)), (3, .pointer (some ⟨b2, 0, none⟩)), (5, .int .i64 0)]) ⟨rfl, rfl, rfl, trivial⟩ ⟨0, rfl, hS.pick [0, 1] [] rfl, H⟩ ?_
    rintro k F w1 ⟨y3, rfl, hS, H⟩
    cases k with
    | zero => rw [laws_eqUint16A10.l1] at H; cases H
    | succ k =>
      rw [laws_eqUint16A10.l1] at H
      refine CJ.seq ?_
      refine CJ.seq ?_
      refine CJ.region ?_
      refine OJ.pures tU_ok 2 rfl ?_
      refine OJ.nil (EJ.next ?_)
      refine CJ.cond rfl (fun hb => ?_) (fun hb => ?_)
      · replace H := pif_t (of_decide_eq_true hb) H
        refine CJ.skip (EJ.next ?_)
        refine CJ.seq ?_
        refine CJ.block ?_
        refine CJ.seq ?_
        refine CJ.draw [] [0, 1, 2, 3, 4, 5, 6] mixed (by kernel_rfl) hS fun w1 hS => ?_
        refine DJ.pures tU_ok 1 rfl ?_
        obtain ⟨t4, ht4, H⟩ := pbind H
        refine DJ.st rfl rfl rfl rfl rfl (SR.idxA tU_ok tI_ok rfl rfl rfl rfl rfl (Arr.lt ht4)) ?_
        refine DJ.st rfl rfl rfl rfl rfl (SR.load rfl rfl (fun w' hx => ld1 tU_ok rfl rfl (CA.ext (CA.idx (hS.cells (i := 0) rfl) ht4) hx) rfl)) ?_
        refine DJ.pures tU_ok 1 rfl ?_
        obtain ⟨t5, ht5, H⟩ := pbind H
        refine DJ.st rfl rfl rfl rfl rfl (SR.idxA tU_ok tI_ok rfl rfl rfl rfl rfl (Arr.lt ht5)) ?_
        refine DJ.st rfl rfl rfl rfl rfl (SR.load rfl rfl (fun w' hx => ld1 tU_ok rfl rfl (CA.ext (CA.idx (hS.cells (i := 1) rfl) ht5) hx) rfl)) ?_
        refine DJ.pures tU_ok 1 rfl ?_
        refine DJ.nil (EJ.next ?_)
        refine CJ.cond rfl (fun hb => ?_) (fun hb => ?_)
        · replace H := pif_t (of_decide_eq_true hb) H
          refine CJ.seq ?_
          refine CJ.region ?_
          refine OJ.pures tU_ok 1 rfl ?_
          refine OJ.nil (EJ.next ?_)
          refine CJ.ret (EJ.bkR (EJ.skR (EJ.skR (EJ.bkR (EJ.skR (EJ.skR (?_)))))))
          first | (obtain rfl := Option.some.inj H; have H := K120) | (obtain ⟨q120, H2, e120⟩ := pbind H; obtain rfl := Option.some.inj e120; obtain rfl := Option.some.inj K120; have H := H2)
          obtain rfl := Option.some.inj H
          exact EJ.fin rfl (.tmp rfl .nil) ⟨rfl, hS.ext⟩
        · replace H := pif_f (of_decide_eq_false hb) H
          refine CJ.skip (EJ.blk (EJ.next ?_))
          refine CJ.region ?_
          refine OJ.pures tU_ok 3 rfl ?_
          refine OJ.nil ?_
          exact EJ.round k (F' := [(2, .pointer (some ⟨b1, 0, none⟩)), (3, .pointer (some ⟨b2, 0, none⟩)), (5, .int .i64 (IntKind.i64.wrap (y3 + 1)))]) ⟨rfl, rfl, rfl, trivial⟩ (Nat.lt_succ_self _) ⟨(IntKind.i64.wrap (y3 + 1)), rfl, hS.pick [0, 1] [] rfl, H⟩
      · replace H := pif_f (of_decide_eq_false hb) H
        refine CJ.exit (EJ.skE (EJ.skE (EJ.hit (?_))))
        exact EJ.meet (F' := []) trivial ⟨H, rfl, hS.pick [] [] rfl⟩
  · rintro F w1 ⟨he, rfl, hS⟩
    obtain rfl := Option.some.inj he
    have H := K120
    refine EJ.next ?_
    refine CJ.seq ?_
    refine CJ.region ?_
    refine OJ.pures tU_ok 1 rfl ?_
    refine OJ.nil (EJ.next ?_)
    refine CJ.ret (?_)
    obtain rfl := Option.some.inj H
    exact EJ.fin rfl (.tmp rfl .nil) ⟨rfl, hS.ext⟩

def laws_eqPasture.f (k : Nat) (a0 : Pasture) (a1 : Pasture) : Option Bool := if a0.Wide ≠ a1.Wide then (some false) else (if a0.High ≠ a1.High then (some false) else ((laws_eqInt16A10A10.f k a0.Grass a1.Grass).bind fun t3 => if (!t3) = true then (some false) else ((laws_eqUint16A10.f k a0.East a1.East).bind fun t4 => if (!t4) = true then (some false) else ((laws_eqUint16A10.f k a0.South a1.South).bind fun t5 => if (!t5) = true then (some false) else (some true)))))
theorem laws_eqPasture.c (k : Nat) (w : World) (a0 : Pasture) (a1 : Pasture) (r : Bool) (H : laws_eqPasture.f k a0 a1 = some r) :
    CV Tryd.prog 6 [.agg (cPasture.enc a0).toArray, .agg (cPasture.enc a1).toArray].toArray w fun v w' => v = .bool r ∧ Ext w w' := by
  have hS := (St.init w no)
  unfold laws_eqPasture.f at H
  refine CV.body Tryd.func6 rfl Tryd.ntmps6 rfl ?_
  refine CJ.seq ?_
  refine CJ.region ?_
  refine OJ.ef rfl rfl rfl (Ef.box hS rfl rfl (cPasture.enc a0) rfl) ?_
  rintro _ w1 ⟨b1, rfl, hS⟩
  refine OJ.ef rfl rfl rfl (Ef.box hS rfl rfl (cPasture.enc a1) rfl) ?_
  rintro _ w1 ⟨b2, rfl, hS⟩
  refine OJ.pures tU_ok 1 rfl ?_
  refine OJ.nil (EJ.next ?_)
  refine CJ.seq ?_
  refine CJ.seq ?_
  refine CJ.region ?_
  refine OJ.st rfl rfl rfl (SR.fieldAddr tU_ok tI_ok rfl rfl rfl rfl rfl rfl) ?_
  refine OJ.st rfl rfl rfl (SR.load rfl rfl (fun w' hx => ld1 tU_ok rfl rfl (CA.ext (CA.fld (hS.cells (i := 0) rfl) (mid_part (fe_Pasture_0 _) (fl_Pasture_0 _) ((ci .i8).len _))) hx) rfl)) ?_
  refine OJ.st rfl rfl rfl (SR.fieldAddr tU_ok tI_ok rfl rfl rfl rfl rfl rfl) ?_
  refine OJ.st rfl rfl rfl (SR.load rfl rfl (fun w' hx => ld1 tU_ok rfl rfl (CA.ext (CA.fld (hS.cells (i := 1) rfl) (mid_part (fe_Pasture_0 _) (fl_Pasture_0 _) ((ci .i8).len _))) hx) rfl)) ?_
  refine OJ.pures tU_ok 1 rfl ?_
  refine OJ.nil (EJ.next ?_)
  refine CJ.cond rfl (fun hb => ?_) (fun hb => ?_)
  · replace H := pif_t (of_decide_eq_true hb) H
    refine CJ.seq ?_
    refine CJ.region ?_
    refine OJ.pures tU_ok 1 rfl ?_
    refine OJ.nil (EJ.next ?_)
    refine CJ.ret (EJ.skR (?_))
    obtain rfl := Option.some.inj H
    exact EJ.fin rfl (.tmp rfl .nil) ⟨rfl, hS.ext⟩
  · replace H := pif_f (of_decide_eq_false hb) H
    refine CJ.skip (EJ.next ?_)
    refine CJ.seq ?_
    refine CJ.seq ?_
    refine CJ.region ?_
    refine OJ.st rfl rfl rfl (SR.fieldAddr tU_ok tI_ok rfl rfl rfl rfl rfl rfl) ?_
    refine OJ.st rfl rfl rfl (SR.load rfl rfl (fun w' hx => ld1 tU_ok rfl rfl (CA.ext (CA.fld (hS.cells (i := 0) rfl) (mid_part (fe_Pasture_1 _) (fl_Pasture_1 _) ((ci .i8).len _))) hx) rfl)) ?_
    refine OJ.st rfl rfl rfl (SR.fieldAddr tU_ok tI_ok rfl rfl rfl rfl rfl rfl) ?_
    refine OJ.st rfl rfl rfl (SR.load rfl rfl (fun w' hx => ld1 tU_ok rfl rfl (CA.ext (CA.fld (hS.cells (i := 1) rfl) (mid_part (fe_Pasture_1 _) (fl_Pasture_1 _) ((ci .i8).len _))) hx) rfl)) ?_
    refine OJ.pures tU_ok 1 rfl ?_
    refine OJ.nil (EJ.next ?_)
    refine CJ.cond rfl (fun hb => ?_) (fun hb => ?_)
    · replace H := pif_t (of_decide_eq_true hb) H
      refine CJ.seq ?_
      refine CJ.region ?_
      refine OJ.pures tU_ok 1 rfl ?_
      refine OJ.nil (EJ.next ?_)
      refine CJ.ret (EJ.skR (?_))
      obtain rfl := Option.some.inj H
      exact EJ.fin rfl (.tmp rfl .nil) ⟨rfl, hS.ext⟩
    · replace H := pif_f (of_decide_eq_false hb) H
      refine CJ.skip (EJ.next ?_)
      refine CJ.seq ?_
      refine CJ.seq ?_
      refine CJ.region ?_
      refine OJ.st rfl rfl rfl (SR.fieldAddr tU_ok tI_ok rfl rfl rfl rfl rfl rfl) ?_
      refine OJ.st rfl rfl rfl (SR.load rfl rfl (fun w' hx => ldE tU_ok tI_ok rfl rfl rfl (CA.ext (CA.fld (hS.cells (i := 0) rfl) (mid_part (fe_Pasture_2 _) (fl_Pasture_2 _) ((carr 10 (carr 10 (ci .i16))).len _))) hx) rfl)) ?_
      refine OJ.st rfl rfl rfl (SR.fieldAddr tU_ok tI_ok rfl rfl rfl rfl rfl rfl) ?_
      refine OJ.st rfl rfl rfl (SR.load rfl rfl (fun w' hx => ldE tU_ok tI_ok rfl rfl rfl (CA.ext (CA.fld (hS.cells (i := 1) rfl) (mid_part (fe_Pasture_2 _) (fl_Pasture_2 _) ((carr 10 (carr 10 (ci .i16))).len _))) hx) rfl)) ?_
      obtain ⟨t3, ht3, H⟩ := pbind H
      refine OJ.callF rfl rfl rfl rfl rfl hb18 rfl (laws_eqInt16A10A10.c k _ a0.Grass a1.Grass _ ht3) ?_
      rintro _ w1 ⟨rfl, hs⟩
      replace hS := hS.grow hs
      refine OJ.pures tU_ok 1 rfl ?_
      refine OJ.nil (EJ.next ?_)
      refine CJ.cond rfl (fun hb => ?_) (fun hb => ?_)
      · replace H := pif_t hb H
        refine CJ.seq ?_
        refine CJ.region ?_
        refine OJ.pures tU_ok 1 rfl ?_
        refine OJ.nil (EJ.next ?_)
        refine CJ.ret (EJ.skR (?_))
        obtain rfl := Option.some.inj H
        exact EJ.fin rfl (.tmp rfl .nil) ⟨rfl, hS.ext⟩
      · replace H := pifb_f hb H
        refine CJ.skip (EJ.next ?_)
        refine CJ.seq ?_
        refine CJ.seq ?_
        refine CJ.region ?_
        refine OJ.st rfl rfl rfl (SR.fieldAddr tU_ok tI_ok rfl rfl rfl rfl rfl rfl) ?_
        refine OJ.st rfl rfl rfl (SR.load rfl rfl (fun w' hx => ldE tU_ok tI_ok rfl rfl rfl (CA.ext (CA.fld (hS.cells (i := 0) rfl) (mid_part (fe_Pasture_3 _) (fl_Pasture_3 _) ((carr 10 (ci .u16)).len _))) hx) rfl)) ?_
        refine OJ.st rfl rfl rfl (SR.fieldAddr tU_ok tI_ok rfl rfl rfl rfl rfl rfl) ?_
        refine OJ.st rfl rfl rfl (SR.load rfl rfl (fun w' hx => ldE tU_ok tI_ok rfl rfl rfl (CA.ext (CA.fld (hS.cells (i := 1) rfl) (mid_part (fe_Pasture_3 _) (fl_Pasture_3 _) ((carr 10 (ci .u16)).len _))) hx) rfl)) ?_
        obtain ⟨t4, ht4, H⟩ := pbind H
        refine OJ.callF rfl rfl rfl rfl rfl hb19 rfl (laws_eqUint16A10.c k _ a0.East a1.East _ ht4) ?_
        rintro _ w1 ⟨rfl, hs⟩
        replace hS := hS.grow hs
        refine OJ.pures tU_ok 1 rfl ?_
        refine OJ.nil (EJ.next ?_)
        refine CJ.cond rfl (fun hb => ?_) (fun hb => ?_)
        · replace H := pif_t hb H
          refine CJ.seq ?_
          refine CJ.region ?_
          refine OJ.pures tU_ok 1 rfl ?_
          refine OJ.nil (EJ.next ?_)
          refine CJ.ret (EJ.skR (?_))
          obtain rfl := Option.some.inj H
          exact EJ.fin rfl (.tmp rfl .nil) ⟨rfl, hS.ext⟩
        · replace H := pifb_f hb H
          refine CJ.skip (EJ.next ?_)
          refine CJ.seq ?_
          refine CJ.seq ?_
          refine CJ.region ?_
          refine OJ.st rfl rfl rfl (SR.fieldAddr tU_ok tI_ok rfl rfl rfl rfl rfl rfl) ?_
          refine OJ.st rfl rfl rfl (SR.load rfl rfl (fun w' hx => ldE tU_ok tI_ok rfl rfl rfl (CA.ext (CA.fld (hS.cells (i := 0) rfl) (mid_part (fe_Pasture_4 _) (fl_Pasture_4 _) ((carr 10 (ci .u16)).len _))) hx) rfl)) ?_
          refine OJ.st rfl rfl rfl (SR.fieldAddr tU_ok tI_ok rfl rfl rfl rfl rfl rfl) ?_
          refine OJ.st rfl rfl rfl (SR.load rfl rfl (fun w' hx => ldE tU_ok tI_ok rfl rfl rfl (CA.ext (CA.fld (hS.cells (i := 1) rfl) (mid_part (fe_Pasture_4 _) (fl_Pasture_4 _) ((carr 10 (ci .u16)).len _))) hx) rfl)) ?_
          obtain ⟨t5, ht5, H⟩ := pbind H
          refine OJ.callF rfl rfl rfl rfl rfl hb19 rfl (laws_eqUint16A10.c k _ a0.South a1.South _ ht5) ?_
          rintro _ w1 ⟨rfl, hs⟩
          replace hS := hS.grow hs
          refine OJ.pures tU_ok 1 rfl ?_
          refine OJ.nil (EJ.next ?_)
          refine CJ.cond rfl (fun hb => ?_) (fun hb => ?_)
          · replace H := pif_t hb H
            refine CJ.seq ?_
            refine CJ.region ?_
            refine OJ.pures tU_ok 1 rfl ?_
            refine OJ.nil (EJ.next ?_)
            refine CJ.ret (EJ.skR (?_))
            obtain rfl := Option.some.inj H
            exact EJ.fin rfl (.tmp rfl .nil) ⟨rfl, hS.ext⟩
          · replace H := pifb_f hb H
            refine CJ.skip (EJ.next ?_)
            refine CJ.seq ?_
            refine CJ.region ?_
            refine OJ.pures tU_ok 1 rfl ?_
            refine OJ.nil (EJ.next ?_)
            refine CJ.ret (?_)
            obtain rfl := Option.some.inj H
            exact EJ.fin rfl (.tmp rfl .nil) ⟨rfl, hS.ext⟩

def laws_FnExactReadPasture.f (k : Nat) (a0 : ByteArray) : Option Bool := if 1048576 < (a0.size : Int) then (some true) else ((spec_ReadPasture.f k a0).bind fun t1 => (impl_ReadPasture.f k a0).bind fun t3 => (laws_eqPasture.f k t3.1 t1.1).bind fun t5 => if (!t5) = true then (some false) else (if t3.2 ≠ t1.2 then (some false) else (some true)))
theorem laws_FnExactReadPasture.c (k : Nat) (w : World) (a0 : ByteArray) (hT : (envC Tryd.prog 0).holds w) (r : Bool) (H : laws_FnExactReadPasture.f k a0 = some r) :
    CV Tryd.prog 3 [.string a0].toArray w fun v w' => v = .bool r ∧ Ext w w' := by
  have hS := ((St.init w no).paramT (envC Tryd.prog 0) hT)
  unfold laws_FnExactReadPasture.f at H
  refine CV.body Tryd.func3 rfl Tryd.ntmps3 rfl ?_
  refine CJ.seq ?_
  refine CJ.region ?_
  refine OJ.pures tU_ok 1 rfl ?_
  refine OJ.nil (EJ.next ?_)
  refine CJ.seq ?_
  refine CJ.seq ?_
  refine CJ.region ?_
  refine OJ.pures tU_ok 3 rfl ?_
  refine OJ.nil (EJ.next ?_)
  refine CJ.cond rfl (fun hb => ?_) (fun hb => ?_)
  · replace H := pif_t (of_decide_eq_true hb) H
    refine CJ.seq ?_
    refine CJ.region ?_
    refine OJ.pures tU_ok 1 rfl ?_
    refine OJ.nil (EJ.next ?_)
    refine CJ.ret (EJ.skR (?_))
    obtain rfl := Option.some.inj H
    exact EJ.fin rfl (.tmp rfl .nil) ⟨rfl, hS.ext⟩
  · replace H := pif_f (of_decide_eq_false hb) H
    refine CJ.skip (EJ.next ?_)
    refine CJ.seq ?_
    refine CJ.region ?_
    refine OJ.pures tU_ok 1 rfl ?_
    obtain ⟨t1, ht1, H⟩ := pbind H
    refine OJ.callF rfl rfl rfl rfl rfl hb4 rfl (spec_ReadPasture.c k _ a0 _ ht1) ?_
    rintro _ w1 ⟨rfl, hs⟩
    replace hS := hS.grow hs
    refine OJ.pures tU_ok 3 rfl ?_
    refine OJ.ef rfl rfl rfl (Ef.alloc hS tI_ok rfl rfl (cPasture.enc (⟨0, 0, (Arr.mk' (Arr.mk' 0 : Arr 10 Int) : Arr 10 (Arr 10 Int)), (Arr.mk' 0 : Arr 10 Int), (Arr.mk' 0 : Arr 10 Int)⟩ : Pasture)) (by kernel_rfl)) ?_
    rintro _ w1 ⟨b2, rfl, hS⟩
    refine OJ.es rfl rfl (Es.put tI_ok hS (i := 0) rfl rfl rfl rfl rfl (vs := cPasture.enc t1.1) rfl (cPasture.len _) (cPasture.one _) (Put.all cPasture (⟨0, 0, (Arr.mk' (Arr.mk' 0 : Arr 10 Int) : Arr 10 (Arr 10 Int)), (Arr.mk' 0 : Arr 10 Int), (Arr.mk' 0 : Arr 10 Int)⟩ : Pasture) t1.1) (by (try simp only [add_lit, Nat.add_assoc, Nat.zero_add, Nat.add_zero]) <;> rfl)) ?_
    intro w1 hS
    refine OJ.pures tU_ok 1 rfl ?_
    refine OJ.nil (EJ.next ?_)
    refine CJ.seq ?_
    refine CJ.region ?_
    refine OJ.pures tU_ok 1 rfl ?_
    obtain ⟨t3, ht3, H⟩ := pbind H
    refine OJ.callF rfl rfl rfl rfl rfl hb5 rfl (impl_ReadPasture.c k _ a0 (hS.ro (i := 0) rfl) _ ht3) ?_
    rintro _ w1 ⟨rfl, hs⟩
    replace hS := hS.grow hs
    refine OJ.pures tU_ok 3 rfl ?_
    refine OJ.ef rfl rfl rfl (Ef.alloc hS tI_ok rfl rfl (cPasture.enc (⟨0, 0, (Arr.mk' (Arr.mk' 0 : Arr 10 Int) : Arr 10 (Arr 10 Int)), (Arr.mk' 0 : Arr 10 Int), (Arr.mk' 0 : Arr 10 Int)⟩ : Pasture)) (by kernel_rfl)) ?_
    rintro _ w1 ⟨b4, rfl, hS⟩
    refine OJ.es rfl rfl (Es.put tI_ok hS (i := 1) rfl rfl rfl rfl rfl (vs := cPasture.enc t3.1) rfl (cPasture.len _) (cPasture.one _) (Put.all cPasture (⟨0, 0, (Arr.mk' (Arr.mk' 0 : Arr 10 Int) : Arr 10 (Arr 10 Int)), (Arr.mk' 0 : Arr 10 Int), (Arr.mk' 0 : Arr 10 Int)⟩ : Pasture) t3.1) (by (try simp only [add_lit, Nat.add_assoc, Nat.zero_add, Nat.add_zero]) <;> rfl)) ?_
    intro w1 hS
    refine OJ.pures tU_ok 1 rfl ?_
    refine OJ.nil (EJ.next ?_)
    refine CJ.seq ?_
    refine CJ.seq ?_
    refine CJ.region ?_
    refine OJ.st rfl rfl rfl (SR.load rfl rfl (fun w' hx => ldE tU_ok tI_ok rfl rfl rfl (CA.ext (hS.cells (i := 1) rfl) hx) rfl)) ?_
    refine OJ.st rfl rfl rfl (SR.load rfl rfl (fun w' hx => ldE tU_ok tI_ok rfl rfl rfl (CA.ext (hS.cells (i := 0) rfl) hx) rfl)) ?_
    obtain ⟨t5, ht5, H⟩ := pbind H
    refine OJ.callF rfl rfl rfl rfl rfl hb6 rfl (laws_eqPasture.c k _ t3.1 t1.1 _ ht5) ?_
    rintro _ w1 ⟨rfl, hs⟩
    replace hS := hS.grow hs
    refine OJ.pures tU_ok 2 rfl ?_
    refine OJ.split (t := 24) rfl (fun hb => ?_) (fun hb => ?_)
    · replace H := pif_t hb H
      refine OJ.pures tU_ok 4 rfl ?_
      refine OJ.nil (EJ.next ?_)
      refine CJ.condT rfl ?_
      refine CJ.seq ?_
      refine CJ.region ?_
      refine OJ.pures tU_ok 1 rfl ?_
      refine OJ.nil (EJ.next ?_)
      refine CJ.ret (EJ.skR (?_))
      obtain rfl := Option.some.inj H
      exact EJ.fin rfl (.tmp rfl .nil) ⟨rfl, hS.ext⟩
    · replace H := pifb_f hb H
      refine OJ.pures tU_ok 4 rfl ?_
      refine OJ.nil (EJ.next ?_)
      refine CJ.cond rfl (fun hb => ?_) (fun hb => ?_)
      · replace H := pif_t (of_decide_eq_true hb) H
        refine CJ.seq ?_
        refine CJ.region ?_
        refine OJ.pures tU_ok 1 rfl ?_
        refine OJ.nil (EJ.next ?_)
        refine CJ.ret (EJ.skR (?_))
        obtain rfl := Option.some.inj H
        exact EJ.fin rfl (.tmp rfl .nil) ⟨rfl, hS.ext⟩
      · replace H := pif_f (of_decide_eq_false hb) H
        refine CJ.skip (EJ.next ?_)
        refine CJ.seq ?_
        refine CJ.region ?_
        refine OJ.pures tU_ok 1 rfl ?_
        refine OJ.nil (EJ.next ?_)
        refine CJ.ret (?_)
        obtain rfl := Option.some.inj H
        exact EJ.fin rfl (.tmp rfl .nil) ⟨rfl, hS.ext⟩
end Go.Proofs.YthlljmjaaljdnaaDoor
