/-
  What the functions come to.
-/
import Derived.Test.YtdbppckimfhgeaaGreatDoorGP1
namespace Go.Proofs.YtdbppckimfhgeaaGreatDoor
open G
set_option linter.unusedVariables false
set_option linter.unusedSimpArgs false
set_option maxRecDepth 100000
set_option maxHeartbeats 4000000
def impl_firstOf.l1 (a0 : List Int) : Nat → Int → Option (Int ⊕ Unit)
  | 0, _ => none
  | k + 1, y1 => if y1 < (a0.length : Int) then ((getI a0 y1).bind fun t2 => if t2 ≠ 0 then (some (Sum.inl t2)) else (impl_firstOf.l1 a0 k (IntKind.i64.wrap (y1 + 1)))) else (some (Sum.inr ()))
def impl_firstOf.f (k : Nat) (a0 : List Int) : Option Int := (impl_firstOf.l1 a0 k 0).bind fun s200 => match s200 with | .inl r => some r | .inr _ => some 0
theorem impl_firstOf.c (k : Nat) (w : World) (Aa0 : Option Addr) (ca0 : Nat) (a0 : List Int) (hr0 : Rd (ci .i64) w Aa0 a0) (hc0 : a0.length ≤ ca0) (r : Int) (H : impl_firstOf.f k a0 = some r) :
    CV Tryz.prog 47 [.slice Aa0 a0.length ca0].toArray w fun v w' => v = .int .i64 r ∧ Ext w w' := by
  have hS := ((St.init w no).param (ci .i64) Aa0 ca0 a0 hr0 hc0)
  unfold impl_firstOf.f at H
  refine CV.body Tryz.func47 rfl Tryz.ntmps47 rfl ?_
  refine CJ.seq ?_
  refine CJ.region ?_
  refine OJ.pures tU_ok 1 rfl ?_
  refine OJ.nil (EJ.next ?_)
  refine CJ.seq ?_
  refine CJ.seq ?_
  refine CJ.region ?_
  refine OJ.pures tU_ok 3 rfl ?_
  refine OJ.nil (EJ.next ?_)
  obtain ⟨j200, H, K200⟩ := pbind H
  refine CJ.cut1 (fun F w1 => (some (Sum.inr ()) : Option (Int ⊕ Unit)) = some j200 ∧ F = [] ∧ St w no w1 [] [roC (ci .i64) Aa0 ca0 a0]) ?_ ?_
  · skip
    refine CJ.block ?_
    refine CJ.loop (fun k F w1 => ∃ (y1 : Int), F = [(5, .slice Aa0 a0.length ca0), (6, .int .i64 (a0.length : Int)), (7, .int .i64 y1)] ∧ St w no w1 [] [roC (ci .i64) Aa0 ca0 a0] ∧ impl_firstOf.l1 a0 k y1 = some j200) k (F' := [(5, .slice Aa0 a0.length ca0), (6, .int .i64 (a0.length : Int)), (7, .int .i64 0)]) ⟨rfl, rfl, rfl, trivial⟩ ⟨0, rfl, hS.pick [] [0] rfl, H⟩ ?_
    rintro k F w1 ⟨y1, rfl, hS, H⟩
    cases k with
    | zero => rw [impl_firstOf.l1] at H; cases H
    | succ k =>
      rw [impl_firstOf.l1] at H
      refine CJ.seq ?_
      refine CJ.region ?_
      refine OJ.pures tU_ok 1 rfl ?_
      refine OJ.nil (EJ.next ?_)
      refine CJ.seq ?_
      refine CJ.cond rfl (fun hb => ?_) (fun hb => ?_)
      · replace H := pif_t (of_decide_eq_true hb) H
        refine CJ.skip (EJ.next ?_)
        refine CJ.seq ?_
        refine CJ.block ?_
        refine CJ.seq ?_
        refine CJ.region ?_
        obtain ⟨t2, ht2, H⟩ := pbind H
        obtain ⟨ad2, e2⟩ := (hS.rd' (i := 0) rfl).some' ht2
        refine OJ.st rfl rfl rfl (SR.idxS tU_ok tI_ok rfl rfl rfl rfl e2 rfl (getI_some ht2).1) ?_
        refine OJ.st rfl rfl rfl (SR.load rfl rfl (fun w' hx => ld1 tU_ok rfl rfl (CA.ext ((hS.rd' (i := 0) rfl).at_ e2 ht2) hx) rfl)) ?_
        refine OJ.pures tU_ok 1 rfl ?_
        refine OJ.nil (EJ.next ?_)
        refine CJ.seq ?_
        refine CJ.region ?_
        refine OJ.pures tU_ok 2 rfl ?_
        refine OJ.nil (EJ.next ?_)
        refine CJ.cond rfl (fun hb => ?_) (fun hb => ?_)
        · replace H := pif_t (of_decide_eq_true hb) H
          refine CJ.seq ?_
          refine CJ.region ?_
          refine OJ.pures tU_ok 2 rfl ?_
          refine OJ.nil (EJ.next ?_)
          refine CJ.ret (EJ.bkR (EJ.skR (EJ.skR (EJ.bkR (EJ.skR (EJ.skR (?_)))))))
          first | (obtain rfl := Option.some.inj H; have H := K200) | (obtain ⟨q200, H2, e200⟩ := pbind H; obtain rfl := Option.some.inj e200; obtain rfl := Option.some.inj K200; have H := H2)
          obtain rfl := Option.some.inj H
          exact EJ.fin rfl (.tmp rfl .nil) ⟨rfl, hS.ext⟩
        · replace H := pif_f (of_decide_eq_false hb) H
          refine CJ.skip (EJ.blk (EJ.next ?_))
          refine CJ.region ?_
          refine OJ.pures tU_ok 2 rfl ?_
          refine OJ.nil ?_
          exact EJ.round k (F' := [(5, .slice Aa0 a0.length ca0), (6, .int .i64 (a0.length : Int)), (7, .int .i64 (IntKind.i64.wrap (y1 + 1)))]) ⟨rfl, rfl, rfl, trivial⟩ (Nat.lt_succ_self _) ⟨(IntKind.i64.wrap (y1 + 1)), rfl, hS.pick [] [0] rfl, H⟩
      · replace H := pif_f (of_decide_eq_false hb) H
        refine CJ.exit (EJ.skE (EJ.skE (EJ.hit (?_))))
        exact EJ.meet (F' := []) trivial ⟨H, rfl, hS.pick [] [0] rfl⟩
  · rintro F w1 ⟨he, rfl, hS⟩
    obtain rfl := Option.some.inj he
    have H := K200
    refine EJ.next ?_
    refine CJ.seq ?_
    refine CJ.region ?_
    refine OJ.pures tU_ok 1 rfl ?_
    refine OJ.nil (EJ.next ?_)
    refine CJ.ret (?_)
    obtain rfl := Option.some.inj H
    exact EJ.fin rfl (.tmp rfl .nil) ⟨rfl, hS.ext⟩

def impl_Pasture_yard_1.f (a1 : Arr 10 (Arr 10 Int)) (a0 : Spot) : Option Bool := (impl_steps_at.f a1 a0).bind fun t2 => some (decide (0 ≤ t2))
theorem impl_Pasture_yard_1.c (w : World) (pa1 : Addr) (a1 : Arr 10 (Arr 10 Int)) (hp1 : CA w pa1 ((carr 10 (carr 10 (ci .i16))).enc a1)) (a0 : Spot) (r : Bool) (H : impl_Pasture_yard_1.f a1 a0 = some r) :
    CV Tryz.prog 119 [.agg (cSpot.enc a0).toArray, .pointer (some pa1)].toArray w fun v w' => v = .bool r ∧ Ext w w' := by
  have hS := ((St.init w no).paramP pa1 ((carr 10 (carr 10 (ci .i16))).enc a1) hp1)
  unfold impl_Pasture_yard_1.f at H
  refine CV.body Tryz.func119 rfl Tryz.ntmps119 rfl ?_
  refine CJ.seq ?_
  refine CJ.region ?_
  refine OJ.ef rfl rfl rfl (Ef.box hS rfl rfl (cSpot.enc a0) rfl) ?_
  rintro _ w1 ⟨b1, rfl, hS⟩
  refine OJ.pures tU_ok 1 rfl ?_
  refine OJ.nil (EJ.next ?_)
  refine CJ.seq ?_
  refine CJ.region ?_
  refine OJ.st rfl rfl rfl (SR.load rfl rfl (fun w' hx => ldE tU_ok tI_ok rfl rfl rfl (CA.ext (hS.cells (i := 0) rfl) hx) rfl)) ?_
  obtain ⟨t2, ht2, H⟩ := pbind H
  refine OJ.callF rfl rfl rfl rfl rfl hb77 rfl (impl_steps_at.c _ _ a1 (hS.ca (i := 0) rfl) a0 _ ht2) ?_
  rintro _ w1 ⟨rfl, hs⟩
  replace hS := hS.grow hs
  refine OJ.pures tU_ok 2 rfl ?_
  refine OJ.nil (EJ.next ?_)
  refine CJ.ret (?_)
  obtain rfl := Option.some.inj H
  exact EJ.fin rfl (.tmp rfl .nil) ⟨rfl, hS.ext⟩

def impl_Pasture_yard.f (k : Nat) (a0 : Pasture) (a1 : Spot) : Option (List Spot) := (impl_Pasture_far.f k a0 ([a1] : List Spot)).bind fun t4 => (impl_Pasture_cells.f k a0 (impl_Pasture_yard_1.f t4)).bind fun t6 => some t6
theorem impl_Pasture_yard.c (k : Nat) (w : World) (a0 : Pasture) (a1 : Spot) (r : List Spot) (H : impl_Pasture_yard.f k a0 a1 = some r) :
    CV Tryz.prog 94 [.agg (cPasture.enc a0).toArray, .agg (cSpot.enc a1).toArray].toArray w fun v w' => ∃ (A0 : Option Addr) (c0 : Nat), v = .slice A0 r.length c0 ∧ St w no w' [rowC cSpot A0 c0 66 r] [] := by
  have hS := (St.init w no)
  unfold impl_Pasture_yard.f at H
  refine CV.body Tryz.func94 rfl Tryz.ntmps94 rfl ?_
  refine CJ.seq ?_
  refine CJ.region ?_
  refine OJ.ef rfl rfl rfl (Ef.box hS rfl rfl (cPasture.enc a0) rfl) ?_
  rintro _ w1 ⟨b1, rfl, hS⟩
  refine OJ.ef rfl rfl rfl (Ef.box hS rfl rfl (cSpot.enc a1) rfl) ?_
  rintro _ w1 ⟨b2, rfl, hS⟩
  refine OJ.pures tU_ok 1 rfl ?_
  refine OJ.nil (EJ.next ?_)
  refine CJ.seq ?_
  refine CJ.region ?_
  refine OJ.st rfl rfl rfl (SR.load rfl rfl (fun w' hx => ldE tU_ok tI_ok rfl rfl rfl (CA.ext (hS.cells (i := 0) rfl) hx) rfl)) ?_
  refine OJ.st rfl rfl rfl (SR.load rfl rfl (fun w' hx => ldE tU_ok tI_ok rfl rfl rfl (CA.ext (hS.cells (i := 1) rfl) hx) rfl)) ?_
  refine OJ.ef rfl rfl rfl (Ef.lit tU_ok tI_ok hS (C := cSpot) rfl rfl rfl rfl rfl rfl ([a1] : List Spot) rfl rfl rfl rfl) ?_
  rintro _ w1 ⟨A3, rfl, hS⟩
  obtain ⟨t4, ht4, H⟩ := pbind H
  refine OJ.callF rfl rfl rfl rfl rfl hb76 rfl (impl_Pasture_far.c k _ a0 A3 (([a1] : List Spot).length) ([a1] : List Spot) (hS.rd (i := 2) rfl) (hS.le (i := 2) rfl) _ ht4) ?_
  rintro _ w1 ⟨rfl, hs⟩
  replace hS := hS.grow hs
  refine OJ.ef rfl rfl rfl (Ef.alloc hS tI_ok rfl rfl ((carr 10 (carr 10 (ci .i16))).enc (Arr.mk' (Arr.mk' 0 : Arr 10 Int) : Arr 10 (Arr 10 Int))) (by kernel_rfl)) ?_
  rintro _ w1 ⟨b5, rfl, hS⟩
  refine OJ.es rfl rfl (Es.put tI_ok hS (i := 3) rfl rfl rfl rfl rfl (vs := (carr 10 (carr 10 (ci .i16))).enc t4) rfl ((carr 10 (carr 10 (ci .i16))).len _) ((carr 10 (carr 10 (ci .i16))).one _) (Put.all (carr 10 (carr 10 (ci .i16))) (Arr.mk' (Arr.mk' 0 : Arr 10 Int) : Arr 10 (Arr 10 Int)) t4) (by (try simp only [add_lit, Nat.add_assoc, Nat.zero_add, Nat.add_zero]) <;> rfl)) ?_
  intro w1 hS
  refine OJ.nil (EJ.next ?_)
  refine CJ.seq ?_
  refine CJ.region ?_
  refine OJ.st rfl rfl rfl (SR.load rfl rfl (fun w' hx => ldE tU_ok tI_ok rfl rfl rfl (CA.ext (hS.cells (i := 0) rfl) hx) rfl)) ?_
  refine OJ.pures tU_ok 1 rfl ?_
  obtain ⟨t6, ht6, H⟩ := pbind H
  refine OJ.callF rfl rfl rfl rfl rfl hb98 rfl (impl_Pasture_cells.c k _ a0 119 #[] #[.pointer (some ⟨b5, 0, none⟩)] hb119 (impl_Pasture_yard_1.f t4) (fun z0 r h w' hx => CV.cast (impl_Pasture_yard_1.c w' ⟨b5, 0, none⟩ t4 (CA.ext (hS.cells (i := 3) rfl) hx)  z0 r h) (by simp)) _ ht6) ?_
  rintro _ w1 ⟨A7, c8, rfl, hs⟩
  replace hS := hS.addN hs
  refine OJ.pures tU_ok 1 rfl ?_
  refine OJ.nil (EJ.next ?_)
  refine CJ.ret (?_)
  obtain rfl := Option.some.inj H
  exact EJ.fin rfl (.tmp rfl .nil) ⟨A7, c8, rfl, hS.pick [4] [] rfl⟩

def impl_Pasture_yards.l2 (t24 : List Spot) : Nat → (List Spot) → Int → Option (List Spot)
  | 0, _, _ => none
  | k + 1, y28, y29 => if y29 < (t24.length : Int) then ((getI t24 y29).bind fun t30 => impl_Pasture_yards.l2 t24 k (addS y28 t30) (IntKind.i64.wrap (y29 + 1))) else (some y28)
def impl_Pasture_yards.l1 (a0 : Pasture) (t4 : List Spot) : Nat → (List (List Spot)) → (List Spot) → Int → Option (List (List Spot))
  | 0, _, _, _ => none
  | k + 1, y11, y15, y16 => if y16 < (t4.length : Int) then (((getI t4 y16).bind fun t22 => if t22 ∈ y15 then (some (y11, y15)) else ((impl_Pasture_yard.f k a0 t22).bind fun t24 => (impl_Pasture_yards.l2 t24 k y15 0).bind fun y27 => (chk (y11.length + [t24].length ≤ 4294967296)).bind fun u33 => some (y11 ++ [t24], y27))).bind fun (y17, y21) => impl_Pasture_yards.l1 a0 t4 k y17 y21 (IntKind.i64.wrap (y16 + 1))) else (some y11)
def impl_Pasture_yards.f (k : Nat) (a0 : Pasture) : Option (List (List Spot)) := (impl_Pasture_all.f k a0).bind fun t4 => (impl_Pasture_yards.l1 a0 t4 k ([] : List (List Spot)) ([] : List Spot) 0).bind fun y7 => some y7
theorem impl_Pasture_yards.c (k : Nat) (w : World) (a0 : Pasture) (r : List (List Spot)) (H : impl_Pasture_yards.f k a0 = some r) :
    CV Tryz.prog 51 [.agg (cPasture.enc a0).toArray].toArray w fun v w' => ∃ (A0 : Option Addr) (c0 : Nat) (D0 : List SH), v = .slice A0 r.length c0 ∧ St w no w' [rowsC cSpot A0 c0 100 66 D0 r] [] := by
  have hS := (St.init w no)
  unfold impl_Pasture_yards.f at H
  refine CV.body Tryz.func51 rfl Tryz.ntmps51 rfl ?_
  refine CJ.seq ?_
  refine CJ.region ?_
  refine OJ.ef rfl rfl rfl (Ef.box hS rfl rfl (cPasture.enc a0) rfl) ?_
  rintro _ w1 ⟨b1, rfl, hS⟩
  refine OJ.pures tU_ok 1 rfl ?_
  refine OJ.nil (EJ.next ?_)
  refine CJ.seq ?_
  refine CJ.region ?_
  refine OJ.ef rfl rfl rfl (Ef.litS0 (e := 66) tU_ok tI_ok hS rfl rfl rfl rfl cSpot) ?_
  rintro _ w1 ⟨A2, rfl, hS⟩
  refine OJ.ef rfl rfl rfl (Ef.makeMap hS rfl cSpot) ?_
  rintro _ w1 ⟨b3, rfl, hS⟩
  refine OJ.pures tU_ok 2 rfl ?_
  refine OJ.nil (EJ.next ?_)
  refine CJ.seq ?_
  refine CJ.seq ?_
  refine CJ.region ?_
  refine OJ.st rfl rfl rfl (SR.load rfl rfl (fun w' hx => ldE tU_ok tI_ok rfl rfl rfl (CA.ext (hS.cells (i := 0) rfl) hx) rfl)) ?_
  obtain ⟨t4, ht4, H⟩ := pbind H
  refine OJ.callF rfl rfl rfl rfl rfl hb59 rfl (impl_Pasture_all.c k _ a0 _ ht4) ?_
  rintro _ w1 ⟨A5, c6, rfl, hs⟩
  replace hS := hS.addN hs
  refine OJ.pures tU_ok 2 rfl ?_
  refine OJ.nil (EJ.next ?_)
  obtain ⟨j201, H, K201⟩ := pbind H
  refine CJ.cut1 (fun F w1 => ∃ (y7 : List (List Spot)) (A8 : Option Addr) (c9 : Nat) (D10 : List SH), (some y7 : Option (List (List Spot))) = some j201 ∧ F = [(3, .slice A8 y7.length c9)] ∧ St w no w1 [rowsC cSpot A8 c9 100 66 D10 y7] []) ?_ ?_
  · skip
    refine CJ.block ?_
    refine CJ.loop (fun k F w1 => ∃ (y11 : List (List Spot)) (y15 : List Spot) (y16 : Int) (A12 : Option Addr) (c13 : Nat) (D14 : List SH), F = [(1, .pointer (some ⟨b1, 0, none⟩)), (3, .slice A12 y11.length c13), (4, .map (some b3)), (13, .slice A5 t4.length c6), (14, .int .i64 (t4.length : Int)), (15, .int .i64 y16)] ∧ St w no w1 [box b1 (cPasture.enc a0) 31, rowsC cSpot A12 c13 100 66 D14 y11, mapC cSpot b3 y15, rowC cSpot A5 c6 66 t4] [] ∧ impl_Pasture_yards.l1 a0 t4 k y11 y15 y16 = some j201) k (F' := [(1, .pointer (some ⟨b1, 0, none⟩)), (3, .slice A2 ([] : List (List Spot)).length (([] : List (List Spot)).length)), (4, .map (some b3)), (13, .slice A5 t4.length c6), (14, .int .i64 (t4.length : Int)), (15, .int .i64 0)]) ⟨rfl, rfl, rfl, rfl, rfl, rfl, trivial⟩ ⟨([] : List (List Spot)), ([] : List Spot), 0, A2, (([] : List (List Spot)).length), [], rfl, hS.pick [0, 1, 2, 3] [] rfl, H⟩ ?_
    rintro k F w1 ⟨y11, y15, y16, A12, c13, D14, rfl, hS, H⟩
    cases k with
    | zero => rw [impl_Pasture_yards.l1] at H; cases H
    | succ k =>
      rw [impl_Pasture_yards.l1] at H
      refine CJ.seq ?_
      refine CJ.region ?_
      refine OJ.pures tU_ok 1 rfl ?_
      refine OJ.nil (EJ.next ?_)
      refine CJ.seq ?_
      refine CJ.cond rfl (fun hb => ?_) (fun hb => ?_)
      · replace H := pif_t (of_decide_eq_true hb) H
        refine CJ.skip (EJ.next ?_)
        obtain ⟨j208, H, K208⟩ := pbind H
        refine CJ.cut (fun F w1 => ∃ (y17 : List (List Spot)) (y21 : List Spot) (A18 : Option Addr) (c19 : Nat) (D20 : List SH), (some (y17, y21) : Option ((List (List Spot)) × (List Spot))) = some j208 ∧ F = [(1, .pointer (some ⟨b1, 0, none⟩)), (3, .slice A18 y17.length c19), (4, .map (some b3)), (13, .slice A5 t4.length c6), (14, .int .i64 (t4.length : Int)), (15, .int .i64 y16)] ∧ St w no w1 [box b1 (cPasture.enc a0) 31, rowsC cSpot A18 c19 100 66 D20 y17, mapC cSpot b3 y21, rowC cSpot A5 c6 66 t4] []) ?_ ?_
        · skip
          refine CJ.block ?_
          refine CJ.seq ?_
          refine CJ.region ?_
          obtain ⟨t22, ht22, H⟩ := pbind H
          obtain ⟨ad22, e22⟩ := (hS.rd (i := 3) rfl).some' ht22
          refine OJ.st rfl rfl rfl (SR.idxS tU_ok tI_ok rfl rfl rfl rfl e22 rfl (getI_some ht22).1) ?_
          refine OJ.st rfl rfl rfl (SR.load rfl rfl (fun w' hx => ldE tU_ok tI_ok rfl rfl rfl (CA.ext ((hS.rd (i := 3) rfl).at_ e22 ht22) hx) rfl)) ?_
          refine OJ.ef rfl rfl rfl (Ef.alloc hS tI_ok rfl rfl (cSpot.enc (⟨0, 0⟩ : Spot)) rfl) ?_
          rintro _ w1 ⟨b23, rfl, hS⟩
          refine OJ.es rfl rfl (Es.store tI_ok hS (i := 4) rfl rfl rfl rfl rfl rfl (vs := cSpot.enc t22) rfl (cSpot.len _) (cSpot.one _) (Nat.le_of_ble_eq_true rfl) (cSpot.enc t22) rfl) ?_
          intro w1 hS
          refine OJ.nil (EJ.next ?_)
          refine CJ.seq ?_
          refine CJ.seq ?_
          refine CJ.region ?_
          refine OJ.pures tU_ok 1 rfl ?_
          refine OJ.st rfl rfl rfl (SR.load rfl rfl (fun w' hx => ldE tU_ok tI_ok rfl rfl rfl (CA.ext (hS.cells (i := 4) rfl) hx) rfl)) ?_
          refine OJ.st rfl rfl rfl (SR.lookup key66 (E := 4) (by kernel_rfl) (by kernel_rfl) (zero_of (E := 4) tI_ok rfl rfl) hS (i := 2) rfl rfl rfl rfl) ?_
          refine OJ.nil (EJ.next ?_)
          refine CJ.cond rfl (fun hb => ?_) (fun hb => ?_)
          · replace H := pif_t (of_decide_eq_true hb) H
            refine CJ.exit (EJ.skE (EJ.hit (?_)))
            exact EJ.meet (F' := [(1, .pointer (some ⟨b1, 0, none⟩)), (3, .slice A12 y11.length c13), (4, .map (some b3)), (13, .slice A5 t4.length c6), (14, .int .i64 (t4.length : Int)), (15, .int .i64 y16)]) ⟨rfl, rfl, rfl, rfl, rfl, rfl, trivial⟩ ⟨y11, y15, A12, c13, D14, H, rfl, hS.pick [0, 1, 2, 3] [] rfl⟩
          · replace H := pif_f (of_decide_eq_false hb) H
            refine CJ.skip (EJ.next ?_)
            refine CJ.seq ?_
            refine CJ.region ?_
            refine OJ.st rfl rfl rfl (SR.load rfl rfl (fun w' hx => ldE tU_ok tI_ok rfl rfl rfl (CA.ext (hS.cells (i := 0) rfl) hx) rfl)) ?_
            refine OJ.st rfl rfl rfl (SR.load rfl rfl (fun w' hx => ldE tU_ok tI_ok rfl rfl rfl (CA.ext (hS.cells (i := 4) rfl) hx) rfl)) ?_
            obtain ⟨t24, ht24, H⟩ := pbind H
            refine OJ.callF rfl rfl rfl rfl rfl hb94 rfl (impl_Pasture_yard.c k _ a0 t22 _ ht24) ?_
            rintro _ w1 ⟨A25, c26, rfl, hs⟩
            replace hS := hS.addN hs
            have hS : St w no w1 [box b1 (cPasture.enc a0) 31, rowsC cSpot A12 c13 100 66 D14 y11, mapC cSpot b3 y15, rowC cSpot A5 c6 66 t4, box b23 (cSpot.enc t22) 66, rowC cSpot A25 c26 66 t24] [] := hS
            refine OJ.pures tU_ok 1 rfl ?_
            refine OJ.nil (EJ.next ?_)
            refine CJ.seq ?_
            refine CJ.seq ?_
            refine CJ.region ?_
            refine OJ.pures tU_ok 3 rfl ?_
            refine OJ.nil (EJ.next ?_)
            obtain ⟨j210, H, K210⟩ := pbind H
            refine CJ.cut1 (fun F w1 => ∃ (y27 : List Spot) , (some y27 : Option (List Spot)) = some j210 ∧ F = [(1, .pointer (some ⟨b1, 0, none⟩)), (3, .slice A12 y11.length c13), (4, .map (some b3)), (7, .slice A25 t24.length c26), (13, .slice A5 t4.length c6), (14, .int .i64 (t4.length : Int)), (15, .int .i64 y16)] ∧ St w no w1 [box b1 (cPasture.enc a0) 31, rowsC cSpot A12 c13 100 66 D14 y11, mapC cSpot b3 y27, rowC cSpot A5 c6 66 t4, rowC cSpot A25 c26 66 t24] []) ?_ ?_
            · skip
              refine CJ.block ?_
              refine CJ.loop (fun k F w1 => ∃ (y28 : List Spot) (y29 : Int), F = [(1, .pointer (some ⟨b1, 0, none⟩)), (3, .slice A12 y11.length c13), (4, .map (some b3)), (7, .slice A25 t24.length c26), (13, .slice A5 t4.length c6), (14, .int .i64 (t4.length : Int)), (15, .int .i64 y16), (25, .slice A25 t24.length c26), (26, .int .i64 (t24.length : Int)), (27, .int .i64 y29)] ∧ St w no w1 [box b1 (cPasture.enc a0) 31, rowsC cSpot A12 c13 100 66 D14 y11, mapC cSpot b3 y28, rowC cSpot A5 c6 66 t4, rowC cSpot A25 c26 66 t24] [] ∧ impl_Pasture_yards.l2 t24 k y28 y29 = some j210) k (F' := [(1, .pointer (some ⟨b1, 0, none⟩)), (3, .slice A12 y11.length c13), (4, .map (some b3)), (7, .slice A25 t24.length c26), (13, .slice A5 t4.length c6), (14, .int .i64 (t4.length : Int)), (15, .int .i64 y16), (25, .slice A25 t24.length c26), (26, .int .i64 (t24.length : Int)), (27, .int .i64 0)]) ⟨rfl, rfl, rfl, rfl, rfl, rfl, rfl, rfl, rfl, rfl, trivial⟩ ⟨y15, 0, rfl, hS.pick [0, 1, 2, 3, 5] [] rfl, H⟩ ?_
              rintro k F w1 ⟨y28, y29, rfl, hS, H⟩
              cases k with
              | zero => rw [impl_Pasture_yards.l2] at H; cases H
              | succ k =>
                rw [impl_Pasture_yards.l2] at H
                refine CJ.seq ?_
                refine CJ.region ?_
                refine OJ.pures tU_ok 1 rfl ?_
                refine OJ.nil (EJ.next ?_)
                refine CJ.seq ?_
                refine CJ.cond rfl (fun hb => ?_) (fun hb => ?_)
                · replace H := pif_t (of_decide_eq_true hb) H
                  refine CJ.skip (EJ.next ?_)
                  refine CJ.seq ?_
                  refine CJ.block ?_
                  refine CJ.seq ?_
                  refine CJ.region ?_
                  obtain ⟨t30, ht30, H⟩ := pbind H
                  obtain ⟨ad30, e30⟩ := (hS.rd (i := 4) rfl).some' ht30
                  refine OJ.st rfl rfl rfl (SR.idxS tU_ok tI_ok rfl rfl rfl rfl e30 rfl (getI_some ht30).1) ?_
                  refine OJ.st rfl rfl rfl (SR.load rfl rfl (fun w' hx => ldE tU_ok tI_ok rfl rfl rfl (CA.ext ((hS.rd (i := 4) rfl).at_ e30 ht30) hx) rfl)) ?_
                  refine OJ.ef rfl rfl rfl (Ef.alloc hS tI_ok rfl rfl (cSpot.enc (⟨0, 0⟩ : Spot)) rfl) ?_
                  rintro _ w1 ⟨b31, rfl, hS⟩
                  refine OJ.es rfl rfl (Es.store tI_ok hS (i := 5) rfl rfl rfl rfl rfl rfl (vs := cSpot.enc t30) rfl (cSpot.len _) (cSpot.one _) (Nat.le_of_ble_eq_true rfl) (cSpot.enc t30) rfl) ?_
                  intro w1 hS
                  refine OJ.nil (EJ.next ?_)
                  refine CJ.region ?_
                  refine OJ.pures tU_ok 1 rfl ?_
                  refine OJ.st rfl rfl rfl (SR.load rfl rfl (fun w' hx => ldE tU_ok tI_ok rfl rfl rfl (CA.ext (hS.cells (i := 5) rfl) hx) rfl)) ?_
                  refine OJ.es rfl rfl (Es.mapUpdate key66 (E := 4) (by kernel_rfl) hS (i := 2) rfl rfl rfl rfl rfl) ?_
                  intro w1 hS
                  refine OJ.nil (EJ.blk (EJ.next ?_))
                  refine CJ.region ?_
                  refine OJ.pures tU_ok 2 rfl ?_
                  refine OJ.nil ?_
                  exact EJ.round k (F' := [(1, .pointer (some ⟨b1, 0, none⟩)), (3, .slice A12 y11.length c13), (4, .map (some b3)), (7, .slice A25 t24.length c26), (13, .slice A5 t4.length c6), (14, .int .i64 (t4.length : Int)), (15, .int .i64 y16), (25, .slice A25 t24.length c26), (26, .int .i64 (t24.length : Int)), (27, .int .i64 (IntKind.i64.wrap (y29 + 1)))]) ⟨rfl, rfl, rfl, rfl, rfl, rfl, rfl, rfl, rfl, rfl, trivial⟩ (Nat.lt_succ_self _) ⟨(addS y28 t30), (IntKind.i64.wrap (y29 + 1)), rfl, hS.pick [0, 1, 2, 3, 4] [] rfl, H⟩
                · replace H := pif_f (of_decide_eq_false hb) H
                  refine CJ.exit (EJ.skE (EJ.skE (EJ.hit (?_))))
                  exact EJ.meet (F' := [(1, .pointer (some ⟨b1, 0, none⟩)), (3, .slice A12 y11.length c13), (4, .map (some b3)), (7, .slice A25 t24.length c26), (13, .slice A5 t4.length c6), (14, .int .i64 (t4.length : Int)), (15, .int .i64 y16)]) ⟨rfl, rfl, rfl, rfl, rfl, rfl, rfl, trivial⟩ ⟨y28, H, rfl, hS.pick [0, 1, 2, 3, 4] [] rfl⟩
            · rintro F w1 ⟨y27, he, rfl, hS⟩
              obtain rfl := Option.some.inj he
              have H := K210
              refine EJ.next ?_
              refine CJ.region ?_
              refine OJ.pures tU_ok 2 rfl ?_
              refine OJ.ef rfl rfl rfl (Ef.litS1 (C := cSpot) tU_ok tI_ok hS (k := 4) rfl rfl rfl rfl rfl rfl) ?_
              rintro _ w1 ⟨A32, rfl, hS⟩
              obtain ⟨u33, hu33, H⟩ := pbind H
              have hdl := (hS.rowsRo (i := 1) rfl).1
              have dd36 := subD (D := D14) hdl (show ([(A25, c26)] : List SH)[0]? = _ from rfl)
              have xd36 := subD (D := y11) rfl (show ([t24] : List (List Spot))[0]? = _ from rfl)
              refine OJ.ew rfl rfl rfl (Ew.appendS tU_ok tI_ok hS (i := 1) (j := 5) rfl rfl rfl rfl rfl rfl rfl rfl rfl rfl rfl rfl rfl rfl (chk_some hu33)) ?_
              rintro _ w1 ⟨A34, c35, rfl, hS⟩
              refine OJ.pures tU_ok 1 rfl ?_
              refine OJ.nil (EJ.blk (?_))
              exact EJ.meet (F' := [(1, .pointer (some ⟨b1, 0, none⟩)), (3, .slice A34 (y11 ++ [t24]).length c35), (4, .map (some b3)), (13, .slice A5 t4.length c6), (14, .int .i64 (t4.length : Int)), (15, .int .i64 y16)]) ⟨rfl, rfl, rfl, rfl, rfl, rfl, trivial⟩ ⟨(y11 ++ [t24]), y27, A34, c35, (D14 ++ [(A25, c26)]), H, rfl, hS.pick [0, 1, 2, 3] [] rfl⟩
        · rintro F w1 ⟨y17, y21, A18, c19, D20, he, rfl, hS⟩
          obtain rfl := Option.some.inj he
          have H := K208
          refine CJ.region ?_
          refine OJ.pures tU_ok 2 rfl ?_
          refine OJ.nil ?_
          exact EJ.round k (F' := [(1, .pointer (some ⟨b1, 0, none⟩)), (3, .slice A18 y17.length c19), (4, .map (some b3)), (13, .slice A5 t4.length c6), (14, .int .i64 (t4.length : Int)), (15, .int .i64 (IntKind.i64.wrap (y16 + 1)))]) ⟨rfl, rfl, rfl, rfl, rfl, rfl, trivial⟩ (Nat.lt_succ_self _) ⟨y17, y21, (IntKind.i64.wrap (y16 + 1)), A18, c19, D20, rfl, hS.pick [0, 1, 2, 3] [] rfl, H⟩
      · replace H := pif_f (of_decide_eq_false hb) H
        refine CJ.exit (EJ.skE (EJ.skE (EJ.hit (?_))))
        exact EJ.meet (F' := [(3, .slice A12 y11.length c13)]) ⟨rfl, trivial⟩ ⟨y11, A12, c13, D14, H, rfl, hS.pick [1] [] rfl⟩
  · rintro F w1 ⟨y7, A8, c9, D10, he, rfl, hS⟩
    obtain rfl := Option.some.inj he
    have H := K201
    refine EJ.next ?_
    refine CJ.seq ?_
    refine CJ.region ?_
    refine OJ.pures tU_ok 2 rfl ?_
    refine OJ.nil (EJ.next ?_)
    refine CJ.ret (?_)
    obtain rfl := Option.some.inj H
    exact EJ.fin rfl (.tmp rfl .nil) ⟨A8, c9, D10, rfl, hS.pick [0] [] rfl⟩

def impl_Pasture_grass.f (a0 : Pasture) (a1 : Spot) : Option Int := (getI a0.Grass.l a1.Y).bind fun t3 => (getI t3.l a1.X).bind fun t4 => some (IntKind.i64.wrap t4)
theorem impl_Pasture_grass.c (w : World) (a0 : Pasture) (a1 : Spot) (r : Int) (H : impl_Pasture_grass.f a0 a1 = some r) :
    CV Tryz.prog 95 [.agg (cPasture.enc a0).toArray, .agg (cSpot.enc a1).toArray].toArray w fun v w' => v = .int .i64 r ∧ Ext w w' := by
  have hS := (St.init w no)
  unfold impl_Pasture_grass.f at H
  refine CV.body Tryz.func95 rfl Tryz.ntmps95 rfl ?_
  refine CJ.seq ?_
  refine CJ.region ?_
  refine OJ.ef rfl rfl rfl (Ef.box hS rfl rfl (cPasture.enc a0) rfl) ?_
  rintro _ w1 ⟨b1, rfl, hS⟩
  refine OJ.ef rfl rfl rfl (Ef.box hS rfl rfl (cSpot.enc a1) rfl) ?_
  rintro _ w1 ⟨b2, rfl, hS⟩
  refine OJ.pures tU_ok 1 rfl ?_
  refine OJ.nil (EJ.next ?_)
  refine CJ.seq ?_
  refine CJ.draw [] [0, 1, 2, 3, 4, 5, 6, 7, 8, 9] mixed (by kernel_rfl) hS fun w1 hS => ?_
  refine DJ.st rfl rfl rfl rfl rfl (SR.fieldAddr tU_ok tI_ok rfl rfl rfl rfl rfl rfl) ?_
  refine DJ.st rfl rfl rfl rfl rfl (SR.load rfl rfl (fun w' hx => ld1 tU_ok rfl rfl (CA.ext (CA.sub (hS.cells (i := 1) rfl) 1) hx) rfl)) ?_
  refine DJ.st rfl rfl rfl rfl rfl (SR.fieldAddr tU_ok tI_ok rfl rfl rfl rfl rfl rfl) ?_
  refine DJ.st rfl rfl rfl rfl rfl (SR.load rfl rfl (fun w' hx => ld1 tU_ok rfl rfl (CA.ext (CA.sub (hS.cells (i := 1) rfl) 0) hx) rfl)) ?_
  refine DJ.st rfl rfl rfl rfl rfl (SR.fieldAddr tU_ok tI_ok rfl rfl rfl rfl rfl rfl) ?_
  obtain ⟨t3, ht3, H⟩ := pbind H
  refine DJ.st rfl rfl rfl rfl rfl (SR.idxA tU_ok tI_ok rfl rfl rfl rfl rfl (Arr.lt ht3)) ?_
  obtain ⟨t4, ht4, H⟩ := pbind H
  refine DJ.st rfl rfl rfl rfl rfl (SR.idxA tU_ok tI_ok rfl rfl rfl rfl rfl (Arr.lt ht4)) ?_
  refine DJ.st rfl rfl rfl rfl rfl (SR.load rfl rfl (fun w' hx => ld1 tU_ok rfl rfl (CA.ext (CA.idx (CA.idx (CA.fld (hS.cells (i := 0) rfl) (mid_part (fe_Pasture_2 _) (fl_Pasture_2 _) ((carr 10 (carr 10 (ci .i16))).len _))) ht3) ht4) hx) rfl)) ?_
  refine DJ.pures tU_ok 2 rfl ?_
  refine DJ.nil (EJ.next ?_)
  refine CJ.ret (?_)
  obtain rfl := Option.some.inj H
  exact EJ.fin rfl (.tmp rfl .nil) ⟨rfl, hS.ext⟩

def impl_Pasture_sumOf.l1 (a0 : Pasture) (a1 : List Spot) : Nat → Int → Int → Option Int
  | 0, _, _ => none
  | k + 1, y3, y4 => if y4 < (a1.length : Int) then ((getI a1 y4).bind fun t5 => (impl_Pasture_grass.f a0 t5).bind fun t7 => impl_Pasture_sumOf.l1 a0 a1 k (IntKind.i64.wrap (y3 + t7)) (IntKind.i64.wrap (y4 + 1))) else (some y3)
def impl_Pasture_sumOf.f (k : Nat) (a0 : Pasture) (a1 : List Spot) : Option Int := (impl_Pasture_sumOf.l1 a0 a1 k 0 0).bind fun y2 => some y2
theorem impl_Pasture_sumOf.c (k : Nat) (w : World) (a0 : Pasture) (Aa1 : Option Addr) (ca1 : Nat) (a1 : List Spot) (hr1 : Rd cSpot w Aa1 a1) (hc1 : a1.length ≤ ca1) (r : Int) (H : impl_Pasture_sumOf.f k a0 a1 = some r) :
    CV Tryz.prog 52 [.agg (cPasture.enc a0).toArray, .slice Aa1 a1.length ca1].toArray w fun v w' => v = .int .i64 r ∧ Ext w w' := by
  have hS := ((St.init w no).param cSpot Aa1 ca1 a1 hr1 hc1)
  unfold impl_Pasture_sumOf.f at H
  refine CV.body Tryz.func52 rfl Tryz.ntmps52 rfl ?_
  refine CJ.seq ?_
  refine CJ.region ?_
  refine OJ.ef rfl rfl rfl (Ef.box hS rfl rfl (cPasture.enc a0) rfl) ?_
  rintro _ w1 ⟨b1, rfl, hS⟩
  refine OJ.pures tU_ok 1 rfl ?_
  refine OJ.nil (EJ.next ?_)
  refine CJ.seq ?_
  refine CJ.region ?_
  refine OJ.pures tU_ok 1 rfl ?_
  refine OJ.nil (EJ.next ?_)
  refine CJ.seq ?_
  refine CJ.seq ?_
  refine CJ.region ?_
  refine OJ.pures tU_ok 3 rfl ?_
  refine OJ.nil (EJ.next ?_)
  obtain ⟨j212, H, K212⟩ := pbind H
  refine CJ.cut1 (fun F w1 => ∃ (y2 : Int) , (some y2 : Option Int) = some j212 ∧ F = [(5, .int .i64 y2)] ∧ St w no w1 [] [roC cSpot Aa1 ca1 a1]) ?_ ?_
  · skip
    refine CJ.block ?_
    refine CJ.loop (fun k F w1 => ∃ (y3 : Int) (y4 : Int), F = [(2, .pointer (some ⟨b1, 0, none⟩)), (5, .int .i64 y3), (8, .slice Aa1 a1.length ca1), (9, .int .i64 (a1.length : Int)), (10, .int .i64 y4)] ∧ St w no w1 [box b1 (cPasture.enc a0) 31] [roC cSpot Aa1 ca1 a1] ∧ impl_Pasture_sumOf.l1 a0 a1 k y3 y4 = some j212) k (F' := [(2, .pointer (some ⟨b1, 0, none⟩)), (5, .int .i64 0), (8, .slice Aa1 a1.length ca1), (9, .int .i64 (a1.length : Int)), (10, .int .i64 0)]) ⟨rfl, rfl, rfl, rfl, rfl, trivial⟩ ⟨0, 0, rfl, hS.pick [0] [0] rfl, H⟩ ?_
    rintro k F w1 ⟨y3, y4, rfl, hS, H⟩
    cases k with
    | zero => rw [impl_Pasture_sumOf.l1] at H; cases H
    | succ k =>
      rw [impl_Pasture_sumOf.l1] at H
      refine CJ.seq ?_
      refine CJ.region ?_
      refine OJ.pures tU_ok 1 rfl ?_
      refine OJ.nil (EJ.next ?_)
      refine CJ.seq ?_
      refine CJ.cond rfl (fun hb => ?_) (fun hb => ?_)
      · replace H := pif_t (of_decide_eq_true hb) H
        refine CJ.skip (EJ.next ?_)
        refine CJ.seq ?_
        refine CJ.block ?_
        refine CJ.seq ?_
        refine CJ.region ?_
        obtain ⟨t5, ht5, H⟩ := pbind H
        obtain ⟨ad5, e5⟩ := (hS.rd' (i := 0) rfl).some' ht5
        refine OJ.st rfl rfl rfl (SR.idxS tU_ok tI_ok rfl rfl rfl rfl e5 rfl (getI_some ht5).1) ?_
        refine OJ.st rfl rfl rfl (SR.load rfl rfl (fun w' hx => ldE tU_ok tI_ok rfl rfl rfl (CA.ext ((hS.rd' (i := 0) rfl).at_ e5 ht5) hx) rfl)) ?_
        refine OJ.ef rfl rfl rfl (Ef.alloc hS tI_ok rfl rfl (cSpot.enc (⟨0, 0⟩ : Spot)) rfl) ?_
        rintro _ w1 ⟨b6, rfl, hS⟩
        refine OJ.es rfl rfl (Es.store tI_ok hS (i := 1) rfl rfl rfl rfl rfl rfl (vs := cSpot.enc t5) rfl (cSpot.len _) (cSpot.one _) (Nat.le_of_ble_eq_true rfl) (cSpot.enc t5) rfl) ?_
        intro w1 hS
        refine OJ.nil (EJ.next ?_)
        refine CJ.region ?_
        refine OJ.pures tU_ok 1 rfl ?_
        refine OJ.st rfl rfl rfl (SR.load rfl rfl (fun w' hx => ldE tU_ok tI_ok rfl rfl rfl (CA.ext (hS.cells (i := 0) rfl) hx) rfl)) ?_
        refine OJ.st rfl rfl rfl (SR.load rfl rfl (fun w' hx => ldE tU_ok tI_ok rfl rfl rfl (CA.ext (hS.cells (i := 1) rfl) hx) rfl)) ?_
        obtain ⟨t7, ht7, H⟩ := pbind H
        refine OJ.callF rfl rfl rfl rfl rfl hb95 rfl (impl_Pasture_grass.c _ a0 t5 _ ht7) ?_
        rintro _ w1 ⟨rfl, hs⟩
        replace hS := hS.grow hs
        refine OJ.pures tU_ok 2 rfl ?_
        refine OJ.nil (EJ.blk (EJ.next ?_))
        refine CJ.region ?_
        refine OJ.pures tU_ok 2 rfl ?_
        refine OJ.nil ?_
        exact EJ.round k (F' := [(2, .pointer (some ⟨b1, 0, none⟩)), (5, .int .i64 (IntKind.i64.wrap (y3 + t7))), (8, .slice Aa1 a1.length ca1), (9, .int .i64 (a1.length : Int)), (10, .int .i64 (IntKind.i64.wrap (y4 + 1)))]) ⟨rfl, rfl, rfl, rfl, rfl, trivial⟩ (Nat.lt_succ_self _) ⟨(IntKind.i64.wrap (y3 + t7)), (IntKind.i64.wrap (y4 + 1)), rfl, hS.pick [0] [0] rfl, H⟩
      · replace H := pif_f (of_decide_eq_false hb) H
        refine CJ.exit (EJ.skE (EJ.skE (EJ.hit (?_))))
        exact EJ.meet (F' := [(5, .int .i64 y3)]) ⟨rfl, trivial⟩ ⟨y3, H, rfl, hS.pick [] [0] rfl⟩
  · rintro F w1 ⟨y2, he, rfl, hS⟩
    obtain rfl := Option.some.inj he
    have H := K212
    refine EJ.next ?_
    refine CJ.seq ?_
    refine CJ.region ?_
    refine OJ.pures tU_ok 2 rfl ?_
    refine OJ.nil (EJ.next ?_)
    refine CJ.ret (?_)
    obtain rfl := Option.some.inj H
    exact EJ.fin rfl (.tmp rfl .nil) ⟨rfl, hS.ext⟩

def impl_size_impl_Spot.f (a0 : List Spot) : Option Int := some (a0.length : Int)
theorem impl_size_impl_Spot.c (w : World) (Aa0 : Option Addr) (ca0 : Nat) (a0 : List Spot) (hr0 : Rd cSpot w Aa0 a0) (hc0 : a0.length ≤ ca0) (r : Int) (H : impl_size_impl_Spot.f a0 = some r) :
    CV Tryz.prog 53 [.slice Aa0 a0.length ca0].toArray w fun v w' => v = .int .i64 r ∧ Ext w w' := by
  have hS := ((St.init w no).param cSpot Aa0 ca0 a0 hr0 hc0)
  unfold impl_size_impl_Spot.f at H
  refine CV.body Tryz.func53 rfl Tryz.ntmps53 rfl ?_
  refine CJ.seq ?_
  refine CJ.region ?_
  refine OJ.pures tU_ok 1 rfl ?_
  refine OJ.nil (EJ.next ?_)
  refine CJ.seq ?_
  refine CJ.region ?_
  refine OJ.pures tU_ok 3 rfl ?_
  refine OJ.nil (EJ.next ?_)
  refine CJ.ret (?_)
  obtain rfl := Option.some.inj H
  exact EJ.fin rfl (.tmp rfl .nil) ⟨rfl, hS.ext⟩

def impl_MeadowsOf.l1 (a0 : Pasture) (a1 : Int) (t8 : List (List Spot)) : Nat → (List Meadow) → Int → Option (List Meadow)
  | 0, _, _ => none
  | k + 1, y15, y18 => if y18 < (t8.length : Int) then ((getI t8 y18).bind fun t19 => (impl_Pasture_sumOf.f k a0 t19).bind fun t20 => (impl_size_impl_Spot.f t19).bind fun t21 => (chk (y15.length + ([(⟨IntKind.i16.wrap (if 1000 < t20 then 1000 else t20), IntKind.i16.wrap (if 1000 < (IntKind.i64.wrap (a1 * t21)) then 1000 else (IntKind.i64.wrap (a1 * t21))), 1000⟩ : Meadow)] : List Meadow).length ≤ 4294967296)).bind fun u23 => impl_MeadowsOf.l1 a0 a1 t8 k (y15 ++ ([(⟨IntKind.i16.wrap (if 1000 < t20 then 1000 else t20), IntKind.i16.wrap (if 1000 < (IntKind.i64.wrap (a1 * t21)) then 1000 else (IntKind.i64.wrap (a1 * t21))), 1000⟩ : Meadow)] : List Meadow)) (IntKind.i64.wrap (y18 + 1))) else (some y15)
def impl_MeadowsOf.f (k : Nat) (a0 : Pasture) (a1 : Int) : Option (List Meadow × Int) := (impl_cellCode.f k a0 []).bind fun t2 => (impl_within.f a1 0 1000).bind fun t3 => (impl_unless.f t3 2).bind fun t4 => (impl_firstOf.f k ([t2, t4] : List Int)).bind fun t6 => if t6 ≠ 0 then (some ([], t6)) else ((impl_Pasture_yards.f k a0).bind fun t8 => (impl_MeadowsOf.l1 a0 a1 t8 k ([] : List Meadow) 0).bind fun y12 => if 6 < (y12.length : Int) then (some ([], 3)) else (some (y12, 0)))
theorem impl_MeadowsOf.c (k : Nat) (w : World) (a0 : Pasture) (a1 : Int) (r : List Meadow × Int) (H : impl_MeadowsOf.f k a0 a1 = some r) :
    CV Tryz.prog 18 [.agg (cPasture.enc a0).toArray, .int .i64 a1].toArray w fun v w' => ∃ (A0 : Option Addr) (c0 : Nat), v = .tuple #[.slice A0 r.1.length c0, .int .i64 r.2] ∧ St w no w' [rowC cMeadow A0 c0 57 r.1] [] := by
  have hS := (St.init w no)
  unfold impl_MeadowsOf.f at H
  refine CV.body Tryz.func18 rfl Tryz.ntmps18 rfl ?_
  refine CJ.seq ?_
  refine CJ.region ?_
  refine OJ.ef rfl rfl rfl (Ef.box hS rfl rfl (cPasture.enc a0) rfl) ?_
  rintro _ w1 ⟨b1, rfl, hS⟩
  refine OJ.pures tU_ok 2 rfl ?_
  refine OJ.nil (EJ.next ?_)
  refine CJ.seq ?_
  refine CJ.seq ?_
  refine CJ.region ?_
  refine OJ.st rfl rfl rfl (SR.load rfl rfl (fun w' hx => ldE tU_ok tI_ok rfl rfl rfl (CA.ext (hS.cells (i := 0) rfl) hx) rfl)) ?_
  obtain ⟨t2, ht2, H⟩ := pbind H
  refine OJ.callF rfl rfl rfl rfl rfl hb48 rfl (impl_cellCode.c k _ a0 none 0 [] (Rd.nil cSpot _ _) (Nat.le_refl _) _ ht2) ?_
  rintro _ w1 ⟨rfl, hs⟩
  replace hS := hS.grow hs
  refine OJ.pures tU_ok 1 rfl ?_
  obtain ⟨t3, ht3, H⟩ := pbind H
  refine OJ.callF rfl rfl rfl rfl rfl hb50 rfl (impl_within.c _ a1 0 1000 _ ht3) ?_
  rintro _ w1 ⟨rfl, hs⟩
  replace hS := hS.grow hs
  obtain ⟨t4, ht4, H⟩ := pbind H
  refine OJ.callF rfl rfl rfl rfl rfl hb49 rfl (impl_unless.c _ t3 2 _ ht4) ?_
  rintro _ w1 ⟨rfl, hs⟩
  replace hS := hS.grow hs
  refine OJ.ef rfl rfl rfl (Ef.lit tU_ok tI_ok hS (C := (ci .i64)) rfl rfl rfl rfl rfl rfl ([t2, t4] : List Int) rfl rfl rfl rfl) ?_
  rintro _ w1 ⟨A5, rfl, hS⟩
  obtain ⟨t6, ht6, H⟩ := pbind H
  refine OJ.callF rfl rfl rfl rfl rfl hb47 rfl (impl_firstOf.c k _ A5 (([t2, t4] : List Int).length) ([t2, t4] : List Int) (hS.rd (i := 1) rfl) (hS.le (i := 1) rfl) _ ht6) ?_
  rintro _ w1 ⟨rfl, hs⟩
  replace hS := hS.grow hs
  refine OJ.pures tU_ok 1 rfl ?_
  refine OJ.nil (EJ.next ?_)
  refine CJ.seq ?_
  refine CJ.region ?_
  refine OJ.pures tU_ok 2 rfl ?_
  refine OJ.nil (EJ.next ?_)
  refine CJ.cond rfl (fun hb => ?_) (fun hb => ?_)
  · replace H := pif_t (of_decide_eq_true hb) H
    refine CJ.seq ?_
    refine CJ.region ?_
    refine OJ.pures tU_ok 3 rfl ?_
    refine OJ.nil (EJ.next ?_)
    refine CJ.ret (EJ.skR (?_))
    replace hS := hS.addNil cMeadow 57 none
    obtain rfl := Option.some.inj H
    exact EJ.fin rfl (.tmp rfl (.tmp rfl .nil)) ⟨none, 0, rfl, hS.pick [2] [] rfl⟩
  · replace H := pif_f (of_decide_eq_false hb) H
    refine CJ.skip (EJ.next ?_)
    refine CJ.seq ?_
    refine CJ.region ?_
    refine OJ.ef rfl rfl rfl (Ef.lit tU_ok tI_ok hS (C := cMeadow) rfl rfl rfl rfl rfl rfl ([] : List Meadow) rfl rfl rfl rfl) ?_
    rintro _ w1 ⟨A7, rfl, hS⟩
    refine OJ.pures tU_ok 1 rfl ?_
    refine OJ.nil (EJ.next ?_)
    refine CJ.seq ?_
    refine CJ.seq ?_
    refine CJ.region ?_
    refine OJ.st rfl rfl rfl (SR.load rfl rfl (fun w' hx => ldE tU_ok tI_ok rfl rfl rfl (CA.ext (hS.cells (i := 0) rfl) hx) rfl)) ?_
    obtain ⟨t8, ht8, H⟩ := pbind H
    refine OJ.callF rfl rfl rfl rfl rfl hb51 rfl (impl_Pasture_yards.c k _ a0 _ ht8) ?_
    rintro _ w1 ⟨A9, c10, D11, rfl, hs⟩
    replace hS := hS.addN hs
    refine OJ.pures tU_ok 2 rfl ?_
    refine OJ.nil (EJ.next ?_)
    obtain ⟨j211, H, K211⟩ := pbind H
    refine CJ.cut1 (fun F w1 => ∃ (y12 : List Meadow) (A13 : Option Addr) (c14 : Nat), (some y12 : Option (List Meadow)) = some j211 ∧ F = [(7, .slice A13 y12.length c14)] ∧ St w no w1 [rowC cMeadow A13 c14 57 y12] []) ?_ ?_
    · skip
      refine CJ.block ?_
      refine CJ.loop (fun k F w1 => ∃ (y15 : List Meadow) (y18 : Int) (A16 : Option Addr) (c17 : Nat), F = [(1, .int .i64 a1), (2, .pointer (some ⟨b1, 0, none⟩)), (7, .slice A16 y15.length c17), (22, .slice A9 t8.length c10), (23, .int .i64 (t8.length : Int)), (24, .int .i64 y18)] ∧ St w no w1 [box b1 (cPasture.enc a0) 31, rowC cMeadow A16 c17 57 y15, rowsC cSpot A9 c10 100 66 D11 t8] [] ∧ impl_MeadowsOf.l1 a0 a1 t8 k y15 y18 = some j211) k (F' := [(1, .int .i64 a1), (2, .pointer (some ⟨b1, 0, none⟩)), (7, .slice A7 ([] : List Meadow).length (([] : List Meadow).length)), (22, .slice A9 t8.length c10), (23, .int .i64 (t8.length : Int)), (24, .int .i64 0)]) ⟨rfl, rfl, rfl, rfl, rfl, rfl, trivial⟩ ⟨([] : List Meadow), 0, A7, (([] : List Meadow).length), rfl, hS.pick [0, 2, 3] [] rfl, H⟩ ?_
      rintro k F w1 ⟨y15, y18, A16, c17, rfl, hS, H⟩
      cases k with
      | zero => rw [impl_MeadowsOf.l1] at H; cases H
      | succ k =>
        rw [impl_MeadowsOf.l1] at H
        refine CJ.seq ?_
        refine CJ.region ?_
        refine OJ.pures tU_ok 1 rfl ?_
        refine OJ.nil (EJ.next ?_)
        refine CJ.seq ?_
        refine CJ.cond rfl (fun hb => ?_) (fun hb => ?_)
        · replace H := pif_t (of_decide_eq_true hb) H
          refine CJ.skip (EJ.next ?_)
          refine CJ.seq ?_
          refine CJ.block ?_
          refine CJ.seq ?_
          refine CJ.region ?_
          obtain ⟨t19, ht19, H⟩ := pbind H
          obtain ⟨Ae19, ce19, g19, d19, hx19⟩ := ros_el (hS.rowsRo (i := 2) rfl) ht19
          obtain ⟨ad19, e19⟩ := (ros_rd (hS.rowsRo (i := 2) rfl)).some' g19
          refine OJ.st rfl rfl rfl (SR.idxS tU_ok tI_ok rfl rfl rfl rfl e19 rfl (getI_some ht19).1) ?_
          refine OJ.st rfl rfl rfl (SR.load rfl rfl (fun w' hx => ld1 tU_ok rfl rfl (CA.ext ((ros_rd (hS.rowsRo (i := 2) rfl)).at_ e19 g19) hx) rfl)) ?_
          refine OJ.pures tU_ok 1 rfl ?_
          refine OJ.nil (EJ.next ?_)
          refine CJ.region ?_
          refine OJ.pures tU_ok 1 rfl ?_
          refine OJ.st rfl rfl rfl (SR.load rfl rfl (fun w' hx => ldE tU_ok tI_ok rfl rfl rfl (CA.ext (hS.cells (i := 0) rfl) hx) rfl)) ?_
          refine OJ.pures tU_ok 1 rfl ?_
          obtain ⟨t20, ht20, H⟩ := pbind H
          refine OJ.callF rfl rfl rfl rfl rfl hb52 rfl (impl_Pasture_sumOf.c k _ a0 Ae19 ce19 t19 (ros_sub (hS.rowsRo (i := 2) rfl) d19 hx19) (ros_subLe (hS.rowsRo (i := 2) rfl) d19 hx19) _ ht20) ?_
          rintro _ w1 ⟨rfl, hs⟩
          replace hS := hS.grow hs
          refine OJ.pures tU_ok 4 rfl ?_
          obtain ⟨t21, ht21, H⟩ := pbind H
          refine OJ.callF rfl rfl rfl rfl rfl hb53 rfl (impl_size_impl_Spot.c _ Ae19 ce19 t19 (ros_sub (hS.rowsRo (i := 2) rfl) d19 hx19) (ros_subLe (hS.rowsRo (i := 2) rfl) d19 hx19) _ ht21) ?_
          rintro _ w1 ⟨rfl, hs⟩
          replace hS := hS.grow hs
          refine OJ.pures tU_ok 3 rfl ?_
          refine OJ.st rfl rfl rfl (SR.build (C := cMeadow) tU_ok tI_ok rfl rfl rfl (zs := [.int .i16 0, .int .i16 0, .int .i16 0]) rfl rfl rfl (⟨IntKind.i16.wrap (if 1000 < t20 then 1000 else t20), IntKind.i16.wrap (if 1000 < (IntKind.i64.wrap (a1 * t21)) then 1000 else (IntKind.i64.wrap (a1 * t21))), 1000⟩ : Meadow) rfl) ?_
          refine OJ.ef rfl rfl rfl (Ef.lit tU_ok tI_ok hS (C := cMeadow) rfl rfl rfl rfl rfl rfl ([(⟨IntKind.i16.wrap (if 1000 < t20 then 1000 else t20), IntKind.i16.wrap (if 1000 < (IntKind.i64.wrap (a1 * t21)) then 1000 else (IntKind.i64.wrap (a1 * t21))), 1000⟩ : Meadow)] : List Meadow) rfl rfl rfl rfl) ?_
          rintro _ w1 ⟨A22, rfl, hS⟩
          obtain ⟨u23, hu23, H⟩ := pbind H
          refine OJ.ew rfl rfl rfl (Ew.append tU_ok tI_ok (C := cMeadow) (xs := y15) (ys := ([(⟨IntKind.i16.wrap (if 1000 < t20 then 1000 else t20), IntKind.i16.wrap (if 1000 < (IntKind.i64.wrap (a1 * t21)) then 1000 else (IntKind.i64.wrap (a1 * t21))), 1000⟩ : Meadow)] : List Meadow)) hS (i := 1) rfl rfl rfl rfl rfl rfl rfl rfl rfl rfl rfl rfl rfl (hS.rd (i := 3) rfl) (chk_some hu23)) ?_
          rintro _ w1 ⟨A24, c25, rfl, hS⟩
          refine OJ.pures tU_ok 1 rfl ?_
          refine OJ.nil (EJ.blk (EJ.next ?_))
          refine CJ.region ?_
          refine OJ.pures tU_ok 2 rfl ?_
          refine OJ.nil ?_
          exact EJ.round k (F' := [(1, .int .i64 a1), (2, .pointer (some ⟨b1, 0, none⟩)), (7, .slice A24 (y15 ++ ([(⟨IntKind.i16.wrap (if 1000 < t20 then 1000 else t20), IntKind.i16.wrap (if 1000 < (IntKind.i64.wrap (a1 * t21)) then 1000 else (IntKind.i64.wrap (a1 * t21))), 1000⟩ : Meadow)] : List Meadow)).length c25), (22, .slice A9 t8.length c10), (23, .int .i64 (t8.length : Int)), (24, .int .i64 (IntKind.i64.wrap (y18 + 1)))]) ⟨rfl, rfl, rfl, rfl, rfl, rfl, trivial⟩ (Nat.lt_succ_self _) ⟨(y15 ++ ([(⟨IntKind.i16.wrap (if 1000 < t20 then 1000 else t20), IntKind.i16.wrap (if 1000 < (IntKind.i64.wrap (a1 * t21)) then 1000 else (IntKind.i64.wrap (a1 * t21))), 1000⟩ : Meadow)] : List Meadow)), (IntKind.i64.wrap (y18 + 1)), A24, c25, rfl, hS.pick [0, 1, 2] [] rfl, H⟩
        · replace H := pif_f (of_decide_eq_false hb) H
          refine CJ.exit (EJ.skE (EJ.skE (EJ.hit (?_))))
          exact EJ.meet (F' := [(7, .slice A16 y15.length c17)]) ⟨rfl, trivial⟩ ⟨y15, A16, c17, H, rfl, hS.pick [1] [] rfl⟩
    · rintro F w1 ⟨y12, A13, c14, he, rfl, hS⟩
      obtain rfl := Option.some.inj he
      have H := K211
      refine EJ.next ?_
      refine CJ.seq ?_
      refine CJ.seq ?_
      refine CJ.region ?_
      refine OJ.pures tU_ok 3 rfl ?_
      refine OJ.nil (EJ.next ?_)
      refine CJ.cond rfl (fun hb => ?_) (fun hb => ?_)
      · replace H := pif_t (of_decide_eq_true hb) H
        refine CJ.seq ?_
        refine CJ.region ?_
        refine OJ.pures tU_ok 2 rfl ?_
        refine OJ.nil (EJ.next ?_)
        refine CJ.ret (EJ.skR (?_))
        replace hS := hS.addNil cMeadow 57 none
        obtain rfl := Option.some.inj H
        exact EJ.fin rfl (.tmp rfl (.tmp rfl .nil)) ⟨none, 0, rfl, hS.pick [1] [] rfl⟩
      · replace H := pif_f (of_decide_eq_false hb) H
        refine CJ.skip (EJ.next ?_)
        refine CJ.seq ?_
        refine CJ.region ?_
        refine OJ.pures tU_ok 3 rfl ?_
        refine OJ.nil (EJ.next ?_)
        refine CJ.ret (?_)
        obtain rfl := Option.some.inj H
        exact EJ.fin rfl (.tmp rfl (.tmp rfl .nil)) ⟨A13, c14, rfl, hS.pick [0] [] rfl⟩

def spec_l01Yard.l2 (a0 : Pasture) (t2 : Arr 10 (Arr 10 Int)) (y11 : Int) : Nat → (List Spot) → Int → Option (List Spot)
  | 0, _, _ => none
  | k + 1, y18, y21 => if y21 < a0.Wide then ((getI t2.l y11).bind fun t22 => (getI t22.l y21).bind fun t23 => if 0 < t23 then ((chk (y18.length + ([(⟨y21, y11⟩ : Spot)] : List Spot).length ≤ 4294967296)).bind fun u25 => spec_l01Yard.l2 a0 t2 y11 k (y18 ++ ([(⟨y21, y11⟩ : Spot)] : List Spot)) (IntKind.i8.wrap (y21 + 1))) else (spec_l01Yard.l2 a0 t2 y11 k y18 (IntKind.i8.wrap (y21 + 1)))) else (some y18)
def spec_l01Yard.l1 (a0 : Pasture) (t2 : Arr 10 (Arr 10 Int)) : Nat → (List Spot) → Int → Option (List Spot)
  | 0, _, _ => none
  | k + 1, y8, y11 => if y11 < a0.High then (((spec_l01Yard.l2 a0 t2 y11 k y8 0).bind fun y15 => some y15).bind fun y12 => spec_l01Yard.l1 a0 t2 k y12 (IntKind.i8.wrap (y11 + 1))) else (some y8)
def spec_l01Yard.f (k : Nat) (a0 : Pasture) (a1 : Spot) : Option (List Spot) := (spec_l01Steps.f k a0 a1).bind fun t2 => (spec_l01Yard.l1 a0 t2 k ([] : List Spot) 0).bind fun y5 => some y5
theorem spec_l01Yard.c (k : Nat) (w : World) (pa0 : Addr) (a0 : Pasture) (hp0 : CA w pa0 (cPasture.enc a0)) (a1 : Spot) (r : List Spot) (H : spec_l01Yard.f k a0 a1 = some r) :
    CV Tryz.prog 96 [.pointer (some pa0), .agg (cSpot.enc a1).toArray].toArray w fun v w' => ∃ (A0 : Option Addr) (c0 : Nat), v = .slice A0 r.length c0 ∧ St w no w' [rowC cSpot A0 c0 66 r] [] := by
  have hS := ((St.init w no).paramP pa0 (cPasture.enc a0) hp0)
  unfold spec_l01Yard.f at H
  refine CV.body Tryz.func96 rfl Tryz.ntmps96 rfl ?_
  refine CJ.seq ?_
  refine CJ.region ?_
  refine OJ.ef rfl rfl rfl (Ef.box hS rfl rfl (cSpot.enc a1) rfl) ?_
  rintro _ w1 ⟨b1, rfl, hS⟩
  refine OJ.pures tU_ok 1 rfl ?_
  refine OJ.nil (EJ.next ?_)
  refine CJ.seq ?_
  refine CJ.region ?_
  refine OJ.pures tU_ok 1 rfl ?_
  refine OJ.st rfl rfl rfl (SR.load rfl rfl (fun w' hx => ldE tU_ok tI_ok rfl rfl rfl (CA.ext (hS.cells (i := 0) rfl) hx) rfl)) ?_
  obtain ⟨t2, ht2, H⟩ := pbind H
  refine OJ.callF rfl rfl rfl rfl rfl hb80 rfl (spec_l01Steps.c k _ _ a0 (hS.ca (i := 0) rfl) a1 _ ht2) ?_
  rintro _ w1 ⟨rfl, hs⟩
  replace hS := hS.grow hs
  refine OJ.ef rfl rfl rfl (Ef.alloc hS tI_ok rfl rfl ((carr 10 (carr 10 (ci .i64))).enc (Arr.mk' (Arr.mk' 0 : Arr 10 Int) : Arr 10 (Arr 10 Int))) (by kernel_rfl)) ?_
  rintro _ w1 ⟨b3, rfl, hS⟩
  refine OJ.es rfl rfl (Es.put tI_ok hS (i := 1) rfl rfl rfl rfl rfl (vs := (carr 10 (carr 10 (ci .i64))).enc t2) rfl ((carr 10 (carr 10 (ci .i64))).len _) ((carr 10 (carr 10 (ci .i64))).one _) (Put.all (carr 10 (carr 10 (ci .i64))) (Arr.mk' (Arr.mk' 0 : Arr 10 Int) : Arr 10 (Arr 10 Int)) t2) (by (try simp only [add_lit, Nat.add_assoc, Nat.zero_add, Nat.add_zero]) <;> rfl)) ?_
  intro w1 hS
  refine OJ.nil (EJ.next ?_)
  refine CJ.seq ?_
  refine CJ.region ?_
  refine OJ.ef rfl rfl rfl (Ef.lit tU_ok tI_ok hS (C := cSpot) rfl rfl rfl rfl rfl rfl ([] : List Spot) rfl rfl rfl rfl) ?_
  rintro _ w1 ⟨A4, rfl, hS⟩
  refine OJ.pures tU_ok 1 rfl ?_
  refine OJ.nil (EJ.next ?_)
  refine CJ.seq ?_
  refine CJ.seq ?_
  refine CJ.region ?_
  refine OJ.pures tU_ok 1 rfl ?_
  refine OJ.nil (EJ.next ?_)
  obtain ⟨j217, H, K217⟩ := pbind H
  refine CJ.cut1 (fun F w1 => ∃ (y5 : List Spot) (A6 : Option Addr) (c7 : Nat), (some y5 : Option (List Spot)) = some j217 ∧ F = [(6, .slice A6 y5.length c7)] ∧ St w no w1 [rowC cSpot A6 c7 66 y5] [roP pa0 (cPasture.enc a0)]) ?_ ?_
  · skip
    refine CJ.block ?_
    refine CJ.loop (fun k F w1 => ∃ (y8 : List Spot) (y11 : Int) (A9 : Option Addr) (c10 : Nat), F = [(0, .pointer (some pa0)), (5, .pointer (some ⟨b3, 0, none⟩)), (6, .slice A9 y8.length c10), (7, .int .i8 y11)] ∧ St w no w1 [box b3 ((carr 10 (carr 10 (ci .i64))).enc t2) 105, rowC cSpot A9 c10 66 y8] [roP pa0 (cPasture.enc a0)] ∧ spec_l01Yard.l1 a0 t2 k y8 y11 = some j217) k (F' := [(0, .pointer (some pa0)), (5, .pointer (some ⟨b3, 0, none⟩)), (6, .slice A4 ([] : List Spot).length (([] : List Spot).length)), (7, .int .i8 0)]) ⟨rfl, rfl, rfl, rfl, trivial⟩ ⟨([] : List Spot), 0, A4, (([] : List Spot).length), rfl, hS.pick [1, 2] [0] rfl, H⟩ ?_
    rintro k F w1 ⟨y8, y11, A9, c10, rfl, hS, H⟩
    cases k with
    | zero => rw [spec_l01Yard.l1] at H; cases H
    | succ k =>
      rw [spec_l01Yard.l1] at H
      refine CJ.seq ?_
      refine CJ.seq ?_
      refine CJ.region ?_
      refine OJ.pures tU_ok 3 rfl ?_
      refine OJ.st rfl rfl rfl (SR.fieldAddr tU_ok tI_ok rfl rfl rfl rfl rfl rfl) ?_
      refine OJ.st rfl rfl rfl (SR.load rfl rfl (fun w' hx => ld1 tU_ok rfl rfl (CA.ext (CA.fld (hS.ca (i := 0) rfl) (mid_part (fe_Pasture_1 _) (fl_Pasture_1 _) ((ci .i8).len _))) hx) rfl)) ?_
      refine OJ.pures tU_ok 1 rfl ?_
      refine OJ.nil (EJ.next ?_)
      refine CJ.cond rfl (fun hb => ?_) (fun hb => ?_)
      · replace H := pif_t (of_decide_eq_true hb) H
        refine CJ.skip (EJ.next ?_)
        obtain ⟨j224, H, K224⟩ := pbind H
        refine CJ.cut (fun F w1 => ∃ (y12 : List Spot) (A13 : Option Addr) (c14 : Nat), (some y12 : Option (List Spot)) = some j224 ∧ F = [(0, .pointer (some pa0)), (5, .pointer (some ⟨b3, 0, none⟩)), (6, .slice A13 y12.length c14), (7, .int .i8 y11)] ∧ St w no w1 [box b3 ((carr 10 (carr 10 (ci .i64))).enc t2) 105, rowC cSpot A13 c14 66 y12] [roP pa0 (cPasture.enc a0)]) ?_ ?_
        · skip
          refine CJ.block ?_
          refine CJ.seq ?_
          refine CJ.region ?_
          refine OJ.pures tU_ok 1 rfl ?_
          refine OJ.nil (EJ.next ?_)
          obtain ⟨j226, H, K226⟩ := pbind H
          refine CJ.cut1 (fun F w1 => ∃ (y15 : List Spot) (A16 : Option Addr) (c17 : Nat), (some y15 : Option (List Spot)) = some j226 ∧ F = [(0, .pointer (some pa0)), (5, .pointer (some ⟨b3, 0, none⟩)), (6, .slice A16 y15.length c17), (7, .int .i8 y11)] ∧ St w no w1 [box b3 ((carr 10 (carr 10 (ci .i64))).enc t2) 105, rowC cSpot A16 c17 66 y15] [roP pa0 (cPasture.enc a0)]) ?_ ?_
          · skip
            refine CJ.block ?_
            refine CJ.loop (fun k F w1 => ∃ (y18 : List Spot) (y21 : Int) (A19 : Option Addr) (c20 : Nat), F = [(0, .pointer (some pa0)), (5, .pointer (some ⟨b3, 0, none⟩)), (6, .slice A19 y18.length c20), (7, .int .i8 y11), (8, .int .i8 y21)] ∧ St w no w1 [box b3 ((carr 10 (carr 10 (ci .i64))).enc t2) 105, rowC cSpot A19 c20 66 y18] [roP pa0 (cPasture.enc a0)] ∧ spec_l01Yard.l2 a0 t2 y11 k y18 y21 = some j226) k (F' := [(0, .pointer (some pa0)), (5, .pointer (some ⟨b3, 0, none⟩)), (6, .slice A9 y8.length c10), (7, .int .i8 y11), (8, .int .i8 0)]) ⟨rfl, rfl, rfl, rfl, rfl, trivial⟩ ⟨y8, 0, A9, c10, rfl, hS.pick [0, 1] [0] rfl, H⟩ ?_
            rintro k F w1 ⟨y18, y21, A19, c20, rfl, hS, H⟩
            cases k with
            | zero => rw [spec_l01Yard.l2] at H; cases H
            | succ k =>
              rw [spec_l01Yard.l2] at H
              refine CJ.seq ?_
              refine CJ.seq ?_
              refine CJ.region ?_
              refine OJ.pures tU_ok 3 rfl ?_
              refine OJ.st rfl rfl rfl (SR.fieldAddr tU_ok tI_ok rfl rfl rfl rfl rfl rfl) ?_
              refine OJ.st rfl rfl rfl (SR.load rfl rfl (fun w' hx => ld1 tU_ok rfl rfl (CA.ext (CA.fld (hS.ca (i := 0) rfl) (mid_part (fe_Pasture_0 _) (fl_Pasture_0 _) ((ci .i8).len _))) hx) rfl)) ?_
              refine OJ.pures tU_ok 1 rfl ?_
              refine OJ.nil (EJ.next ?_)
              refine CJ.cond rfl (fun hb => ?_) (fun hb => ?_)
              · replace H := pif_t (of_decide_eq_true hb) H
                refine CJ.skip (EJ.next ?_)
                refine CJ.seq ?_
                refine CJ.block ?_
                refine CJ.seq ?_
                refine CJ.region ?_
                refine OJ.pures tU_ok 2 rfl ?_
                obtain ⟨t22, ht22, H⟩ := pbind H
                refine OJ.st rfl rfl rfl (SR.idxA tU_ok tI_ok rfl rfl rfl rfl rfl (Arr.lt ht22)) ?_
                obtain ⟨t23, ht23, H⟩ := pbind H
                refine OJ.st rfl rfl rfl (SR.idxA tU_ok tI_ok rfl rfl rfl rfl rfl (Arr.lt ht23)) ?_
                refine OJ.st rfl rfl rfl (SR.load rfl rfl (fun w' hx => ld1 tU_ok rfl rfl (CA.ext (CA.idx (CA.idx (hS.cells (i := 0) rfl) ht22) ht23) hx) rfl)) ?_
                refine OJ.pures tU_ok 1 rfl ?_
                refine OJ.nil (EJ.next ?_)
                refine CJ.cond rfl (fun hb => ?_) (fun hb => ?_)
                · replace H := pif_t (of_decide_eq_true hb) H
                  refine CJ.region ?_
                  refine OJ.pures tU_ok 3 rfl ?_
                  refine OJ.st rfl rfl rfl (SR.build (C := cSpot) tU_ok tI_ok rfl rfl rfl (zs := [.int .i8 0, .int .i8 0]) rfl rfl rfl (⟨y21, y11⟩ : Spot) rfl) ?_
                  refine OJ.ef rfl rfl rfl (Ef.lit tU_ok tI_ok hS (C := cSpot) rfl rfl rfl rfl rfl rfl ([(⟨y21, y11⟩ : Spot)] : List Spot) rfl rfl rfl rfl) ?_
                  rintro _ w1 ⟨A24, rfl, hS⟩
                  obtain ⟨u25, hu25, H⟩ := pbind H
                  refine OJ.ew rfl rfl rfl (Ew.append tU_ok tI_ok (C := cSpot) (xs := y18) (ys := ([(⟨y21, y11⟩ : Spot)] : List Spot)) hS (i := 1) rfl rfl rfl rfl rfl rfl rfl rfl rfl rfl rfl rfl rfl (hS.rd (i := 2) rfl) (chk_some hu25)) ?_
                  rintro _ w1 ⟨A26, c27, rfl, hS⟩
                  refine OJ.pures tU_ok 1 rfl ?_
                  refine OJ.nil (EJ.blk (EJ.next ?_))
                  refine CJ.region ?_
                  refine OJ.pures tU_ok 3 rfl ?_
                  refine OJ.nil ?_
                  exact EJ.round k (F' := [(0, .pointer (some pa0)), (5, .pointer (some ⟨b3, 0, none⟩)), (6, .slice A26 (y18 ++ ([(⟨y21, y11⟩ : Spot)] : List Spot)).length c27), (7, .int .i8 y11), (8, .int .i8 (IntKind.i8.wrap (y21 + 1)))]) ⟨rfl, rfl, rfl, rfl, rfl, trivial⟩ (Nat.lt_succ_self _) ⟨(y18 ++ ([(⟨y21, y11⟩ : Spot)] : List Spot)), (IntKind.i8.wrap (y21 + 1)), A26, c27, rfl, hS.pick [0, 1] [0] rfl, H⟩
                · replace H := pif_f (of_decide_eq_false hb) H
                  refine CJ.skip (EJ.blk (EJ.next ?_))
                  refine CJ.region ?_
                  refine OJ.pures tU_ok 3 rfl ?_
                  refine OJ.nil ?_
                  exact EJ.round k (F' := [(0, .pointer (some pa0)), (5, .pointer (some ⟨b3, 0, none⟩)), (6, .slice A19 y18.length c20), (7, .int .i8 y11), (8, .int .i8 (IntKind.i8.wrap (y21 + 1)))]) ⟨rfl, rfl, rfl, rfl, rfl, trivial⟩ (Nat.lt_succ_self _) ⟨y18, (IntKind.i8.wrap (y21 + 1)), A19, c20, rfl, hS.pick [0, 1] [0] rfl, H⟩
              · replace H := pif_f (of_decide_eq_false hb) H
                refine CJ.exit (EJ.skE (EJ.skE (EJ.hit (?_))))
                exact EJ.meet (F' := [(0, .pointer (some pa0)), (5, .pointer (some ⟨b3, 0, none⟩)), (6, .slice A19 y18.length c20), (7, .int .i8 y11)]) ⟨rfl, rfl, rfl, rfl, trivial⟩ ⟨y18, A19, c20, H, rfl, hS.pick [0, 1] [0] rfl⟩
          · rintro F w1 ⟨y15, A16, c17, he, rfl, hS⟩
            obtain rfl := Option.some.inj he
            have H := K226
            refine EJ.blk (?_)
            exact EJ.meet (F' := [(0, .pointer (some pa0)), (5, .pointer (some ⟨b3, 0, none⟩)), (6, .slice A16 y15.length c17), (7, .int .i8 y11)]) ⟨rfl, rfl, rfl, rfl, trivial⟩ ⟨y15, A16, c17, H, rfl, hS.pick [0, 1] [0] rfl⟩
        · rintro F w1 ⟨y12, A13, c14, he, rfl, hS⟩
          obtain rfl := Option.some.inj he
          have H := K224
          refine CJ.region ?_
          refine OJ.pures tU_ok 3 rfl ?_
          refine OJ.nil ?_
          exact EJ.round k (F' := [(0, .pointer (some pa0)), (5, .pointer (some ⟨b3, 0, none⟩)), (6, .slice A13 y12.length c14), (7, .int .i8 (IntKind.i8.wrap (y11 + 1)))]) ⟨rfl, rfl, rfl, rfl, trivial⟩ (Nat.lt_succ_self _) ⟨y12, (IntKind.i8.wrap (y11 + 1)), A13, c14, rfl, hS.pick [0, 1] [0] rfl, H⟩
      · replace H := pif_f (of_decide_eq_false hb) H
        refine CJ.exit (EJ.skE (EJ.skE (EJ.hit (?_))))
        exact EJ.meet (F' := [(6, .slice A9 y8.length c10)]) ⟨rfl, trivial⟩ ⟨y8, A9, c10, H, rfl, hS.pick [1] [0] rfl⟩
  · rintro F w1 ⟨y5, A6, c7, he, rfl, hS⟩
    obtain rfl := Option.some.inj he
    have H := K217
    refine EJ.next ?_
    refine CJ.seq ?_
    refine CJ.region ?_
    refine OJ.pures tU_ok 2 rfl ?_
    refine OJ.nil (EJ.next ?_)
    refine CJ.ret (?_)
    obtain rfl := Option.some.inj H
    exact EJ.fin rfl (.tmp rfl .nil) ⟨A6, c7, rfl, hS.pick [0] [] rfl⟩

def spec_l01Numbers.l3 (y26 : List (List Spot)) (t38 : List Spot) : Nat → (Arr 10 (Arr 10 Int)) → Int → Option (Arr 10 (Arr 10 Int))
  | 0, _, _ => none
  | k + 1, y47, y48 => if y48 < (t38.length : Int) then ((getI t38 y48).bind fun t49 => (getI t38 y48).bind fun t50 => (getI y47.l t49.Y).bind fun t51 => (getI t51.l t50.X).bind fun t52 => spec_l01Numbers.l3 y26 t38 k (aset y47 t49.Y.toNat (aset t51 t50.X.toNat ((y26 ++ [t38]).length : Int))) (IntKind.i64.wrap (y48 + 1))) else (some y47)
def spec_l01Numbers.l2 (a0 : Pasture) (y14 : Int) : Nat → (Arr 10 (Arr 10 Int)) → (List (List Spot)) → Int → Option ((Arr 10 (Arr 10 Int)) × (List (List Spot)))
  | 0, _, _, _ => none
  | k + 1, y25, y26, y30 => if y30 < a0.Wide then (((getI y25.l y14).bind fun t36 => (getI t36.l y30).bind fun t37 => if 0 < t37 then (some (y25, y26)) else ((spec_l01Yard.f k a0 (⟨y30, y14⟩ : Spot)).bind fun t38 => (chk (y26.length + [t38].length ≤ 4294967296)).bind fun u42 => (spec_l01Numbers.l3 y26 t38 k y25 0).bind fun y46 => some (y46, y26 ++ [t38]))).bind fun (y31, y32) => spec_l01Numbers.l2 a0 y14 k y31 y32 (IntKind.i8.wrap (y30 + 1))) else (some (y25, y26))
def spec_l01Numbers.l1 (a0 : Pasture) : Nat → (Arr 10 (Arr 10 Int)) → (List (List Spot)) → Int → Option ((Arr 10 (Arr 10 Int)) × (List (List Spot)))
  | 0, _, _, _ => none
  | k + 1, y9, y10, y14 => if y14 < a0.High then (((spec_l01Numbers.l2 a0 y14 k y9 y10 0).bind fun (y20, y21) => some (y20, y21)).bind fun (y15, y16) => spec_l01Numbers.l1 a0 k y15 y16 (IntKind.i8.wrap (y14 + 1))) else (some (y9, y10))
def spec_l01Numbers.f (k : Nat) (a0 : Pasture) : Option (Arr 10 (Arr 10 Int) × List (List Spot)) := (spec_l01Numbers.l1 a0 k (Arr.mk' (Arr.mk' 0 : Arr 10 Int) : Arr 10 (Arr 10 Int)) ([] : List (List Spot)) 0).bind fun (y4, y5) => some (y4, y5)
theorem spec_l01Numbers.c (k : Nat) (w : World) (pa0 : Addr) (a0 : Pasture) (hp0 : CA w pa0 (cPasture.enc a0)) (r : Arr 10 (Arr 10 Int) × List (List Spot)) (H : spec_l01Numbers.f k a0 = some r) :
    CV Tryz.prog 56 [.pointer (some pa0)].toArray w fun v w' => ∃ (A1 : Option Addr) (c1 : Nat) (D1 : List SH), v = .tuple #[.agg ((carr 10 (carr 10 (ci .i64))).enc r.1).toArray, .slice A1 r.2.length c1] ∧ St w no w' [rowsC cSpot A1 c1 100 66 D1 r.2] [] := by
  have hS := ((St.init w no).paramP pa0 (cPasture.enc a0) hp0)
  unfold spec_l01Numbers.f at H
  refine CV.body Tryz.func56 rfl Tryz.ntmps56 rfl ?_
  refine CJ.seq ?_
  refine CJ.region ?_
  refine OJ.ef rfl rfl rfl (Ef.alloc hS tI_ok rfl rfl ((carr 10 (carr 10 (ci .i64))).enc (Arr.mk' (Arr.mk' 0 : Arr 10 Int) : Arr 10 (Arr 10 Int))) (by kernel_rfl)) ?_
  rintro _ w1 ⟨b1, rfl, hS⟩
  refine OJ.pures tU_ok 1 rfl ?_
  refine OJ.nil (EJ.next ?_)
  refine CJ.seq ?_
  refine CJ.region ?_
  refine OJ.st rfl rfl rfl (SR.buildA tU_ok tI_ok rfl rfl rfl rfl (zs := [.int .i64 0, .int .i64 0, .int .i64 0, .int .i64 0, .int .i64 0, .int .i64 0, .int .i64 0, .int .i64 0, .int .i64 0, .int .i64 0, .int .i64 0, .int .i64 0, .int .i64 0, .int .i64 0, .int .i64 0, .int .i64 0, .int .i64 0, .int .i64 0, .int .i64 0, .int .i64 0, .int .i64 0, .int .i64 0, .int .i64 0, .int .i64 0, .int .i64 0, .int .i64 0, .int .i64 0, .int .i64 0, .int .i64 0, .int .i64 0, .int .i64 0, .int .i64 0, .int .i64 0, .int .i64 0, .int .i64 0, .int .i64 0, .int .i64 0, .int .i64 0, .int .i64 0, .int .i64 0, .int .i64 0, .int .i64 0, .int .i64 0, .int .i64 0, .int .i64 0, .int .i64 0, .int .i64 0, .int .i64 0, .int .i64 0, .int .i64 0, .int .i64 0, .int .i64 0, .int .i64 0, .int .i64 0, .int .i64 0, .int .i64 0, .int .i64 0, .int .i64 0, .int .i64 0, .int .i64 0, .int .i64 0, .int .i64 0, .int .i64 0, .int .i64 0, .int .i64 0, .int .i64 0, .int .i64 0, .int .i64 0, .int .i64 0, .int .i64 0, .int .i64 0, .int .i64 0, .int .i64 0, .int .i64 0, .int .i64 0, .int .i64 0, .int .i64 0, .int .i64 0, .int .i64 0, .int .i64 0, .int .i64 0, .int .i64 0, .int .i64 0, .int .i64 0, .int .i64 0, .int .i64 0, .int .i64 0, .int .i64 0, .int .i64 0, .int .i64 0, .int .i64 0, .int .i64 0, .int .i64 0, .int .i64 0, .int .i64 0, .int .i64 0, .int .i64 0, .int .i64 0, .int .i64 0, .int .i64 0]) rfl rfl ((carr 10 (carr 10 (ci .i64))).enc (Arr.mk' (Arr.mk' 0 : Arr 10 Int) : Arr 10 (Arr 10 Int))) (by kernel_rfl)) ?_
  refine OJ.ef rfl rfl rfl (Ef.alloc hS tI_ok rfl rfl ((carr 10 (carr 10 (ci .i64))).enc (Arr.mk' (Arr.mk' 0 : Arr 10 Int) : Arr 10 (Arr 10 Int))) (by kernel_rfl)) ?_
  rintro _ w1 ⟨b2, rfl, hS⟩
  refine OJ.es rfl rfl (Es.put tI_ok hS (i := 1) rfl rfl rfl rfl rfl (vs := (carr 10 (carr 10 (ci .i64))).enc (Arr.mk' (Arr.mk' 0 : Arr 10 Int) : Arr 10 (Arr 10 Int))) rfl ((carr 10 (carr 10 (ci .i64))).len _) ((carr 10 (carr 10 (ci .i64))).one _) (Put.all (carr 10 (carr 10 (ci .i64))) (Arr.mk' (Arr.mk' 0 : Arr 10 Int) : Arr 10 (Arr 10 Int)) (Arr.mk' (Arr.mk' 0 : Arr 10 Int) : Arr 10 (Arr 10 Int))) (by (try simp only [add_lit, Nat.add_assoc, Nat.zero_add, Nat.add_zero]) <;> rfl)) ?_
  intro w1 hS
  refine OJ.nil (EJ.next ?_)
  refine CJ.seq ?_
  refine CJ.region ?_
  refine OJ.ef rfl rfl rfl (Ef.litS0 (e := 66) tU_ok tI_ok hS rfl rfl rfl rfl cSpot) ?_
  rintro _ w1 ⟨A3, rfl, hS⟩
  refine OJ.pures tU_ok 1 rfl ?_
  refine OJ.nil (EJ.next ?_)
  refine CJ.seq ?_
  refine CJ.seq ?_
  refine CJ.region ?_
  refine OJ.pures tU_ok 1 rfl ?_
  refine OJ.nil (EJ.next ?_)
  obtain ⟨j213, H, K213⟩ := pbind H
  refine CJ.cut1 (fun F w1 => ∃ (y4 : Arr 10 (Arr 10 Int)) (y5 : List (List Spot)) (A6 : Option Addr) (c7 : Nat) (D8 : List SH), (some (y4, y5) : Option ((Arr 10 (Arr 10 Int)) × (List (List Spot)))) = some j213 ∧ F = [(2, .pointer (some ⟨b1, 0, none⟩)), (4, .pointer (some ⟨b2, 0, none⟩)), (5, .slice A6 y5.length c7)] ∧ St w no w1 [box b1 ((carr 10 (carr 10 (ci .i64))).enc (Arr.mk' (Arr.mk' 0 : Arr 10 Int) : Arr 10 (Arr 10 Int))) 105, box b2 ((carr 10 (carr 10 (ci .i64))).enc y4) 105, rowsC cSpot A6 c7 100 66 D8 y5] [roP pa0 (cPasture.enc a0)]) ?_ ?_
  · skip
    refine CJ.block ?_
    refine CJ.loop (fun k F w1 => ∃ (y9 : Arr 10 (Arr 10 Int)) (y10 : List (List Spot)) (y14 : Int) (A11 : Option Addr) (c12 : Nat) (D13 : List SH), F = [(0, .pointer (some pa0)), (2, .pointer (some ⟨b1, 0, none⟩)), (4, .pointer (some ⟨b2, 0, none⟩)), (5, .slice A11 y10.length c12), (6, .int .i8 y14)] ∧ St w no w1 [box b1 ((carr 10 (carr 10 (ci .i64))).enc (Arr.mk' (Arr.mk' 0 : Arr 10 Int) : Arr 10 (Arr 10 Int))) 105, box b2 ((carr 10 (carr 10 (ci .i64))).enc y9) 105, rowsC cSpot A11 c12 100 66 D13 y10] [roP pa0 (cPasture.enc a0)] ∧ spec_l01Numbers.l1 a0 k y9 y10 y14 = some j213) k (F' := [(0, .pointer (some pa0)), (2, .pointer (some ⟨b1, 0, none⟩)), (4, .pointer (some ⟨b2, 0, none⟩)), (5, .slice A3 ([] : List (List Spot)).length (([] : List (List Spot)).length)), (6, .int .i8 0)]) ⟨rfl, rfl, rfl, rfl, rfl, trivial⟩ ⟨(Arr.mk' (Arr.mk' 0 : Arr 10 Int) : Arr 10 (Arr 10 Int)), ([] : List (List Spot)), 0, A3, (([] : List (List Spot)).length), [], rfl, hS.pick [0, 1, 2] [0] rfl, H⟩ ?_
    rintro k F w1 ⟨y9, y10, y14, A11, c12, D13, rfl, hS, H⟩
    cases k with
    | zero => rw [spec_l01Numbers.l1] at H; cases H
    | succ k =>
      rw [spec_l01Numbers.l1] at H
      refine CJ.seq ?_
      refine CJ.seq ?_
      refine CJ.region ?_
      refine OJ.pures tU_ok 3 rfl ?_
      refine OJ.st rfl rfl rfl (SR.fieldAddr tU_ok tI_ok rfl rfl rfl rfl rfl rfl) ?_
      refine OJ.st rfl rfl rfl (SR.load rfl rfl (fun w' hx => ld1 tU_ok rfl rfl (CA.ext (CA.fld (hS.ca (i := 0) rfl) (mid_part (fe_Pasture_1 _) (fl_Pasture_1 _) ((ci .i8).len _))) hx) rfl)) ?_
      refine OJ.pures tU_ok 1 rfl ?_
      refine OJ.nil (EJ.next ?_)
      refine CJ.cond rfl (fun hb => ?_) (fun hb => ?_)
      · replace H := pif_t (of_decide_eq_true hb) H
        refine CJ.skip (EJ.next ?_)
        obtain ⟨j266, H, K266⟩ := pbind H
        refine CJ.cut (fun F w1 => ∃ (y15 : Arr 10 (Arr 10 Int)) (y16 : List (List Spot)) (A17 : Option Addr) (c18 : Nat) (D19 : List SH), (some (y15, y16) : Option ((Arr 10 (Arr 10 Int)) × (List (List Spot)))) = some j266 ∧ F = [(0, .pointer (some pa0)), (2, .pointer (some ⟨b1, 0, none⟩)), (4, .pointer (some ⟨b2, 0, none⟩)), (5, .slice A17 y16.length c18), (6, .int .i8 y14)] ∧ St w no w1 [box b1 ((carr 10 (carr 10 (ci .i64))).enc (Arr.mk' (Arr.mk' 0 : Arr 10 Int) : Arr 10 (Arr 10 Int))) 105, box b2 ((carr 10 (carr 10 (ci .i64))).enc y15) 105, rowsC cSpot A17 c18 100 66 D19 y16] [roP pa0 (cPasture.enc a0)]) ?_ ?_
        · skip
          refine CJ.block ?_
          refine CJ.seq ?_
          refine CJ.region ?_
          refine OJ.pures tU_ok 1 rfl ?_
          refine OJ.nil (EJ.next ?_)
          obtain ⟨j277, H, K277⟩ := pbind H
          refine CJ.cut1 (fun F w1 => ∃ (y20 : Arr 10 (Arr 10 Int)) (y21 : List (List Spot)) (A22 : Option Addr) (c23 : Nat) (D24 : List SH), (some (y20, y21) : Option ((Arr 10 (Arr 10 Int)) × (List (List Spot)))) = some j277 ∧ F = [(0, .pointer (some pa0)), (2, .pointer (some ⟨b1, 0, none⟩)), (4, .pointer (some ⟨b2, 0, none⟩)), (5, .slice A22 y21.length c23), (6, .int .i8 y14)] ∧ St w no w1 [box b1 ((carr 10 (carr 10 (ci .i64))).enc (Arr.mk' (Arr.mk' 0 : Arr 10 Int) : Arr 10 (Arr 10 Int))) 105, box b2 ((carr 10 (carr 10 (ci .i64))).enc y20) 105, rowsC cSpot A22 c23 100 66 D24 y21] [roP pa0 (cPasture.enc a0)]) ?_ ?_
          · skip
            refine CJ.block ?_
            refine CJ.loop (fun k F w1 => ∃ (y25 : Arr 10 (Arr 10 Int)) (y26 : List (List Spot)) (y30 : Int) (A27 : Option Addr) (c28 : Nat) (D29 : List SH), F = [(0, .pointer (some pa0)), (2, .pointer (some ⟨b1, 0, none⟩)), (4, .pointer (some ⟨b2, 0, none⟩)), (5, .slice A27 y26.length c28), (6, .int .i8 y14), (7, .int .i8 y30)] ∧ St w no w1 [box b1 ((carr 10 (carr 10 (ci .i64))).enc (Arr.mk' (Arr.mk' 0 : Arr 10 Int) : Arr 10 (Arr 10 Int))) 105, box b2 ((carr 10 (carr 10 (ci .i64))).enc y25) 105, rowsC cSpot A27 c28 100 66 D29 y26] [roP pa0 (cPasture.enc a0)] ∧ spec_l01Numbers.l2 a0 y14 k y25 y26 y30 = some j277) k (F' := [(0, .pointer (some pa0)), (2, .pointer (some ⟨b1, 0, none⟩)), (4, .pointer (some ⟨b2, 0, none⟩)), (5, .slice A11 y10.length c12), (6, .int .i8 y14), (7, .int .i8 0)]) ⟨rfl, rfl, rfl, rfl, rfl, rfl, trivial⟩ ⟨y9, y10, 0, A11, c12, D13, rfl, hS.pick [0, 1, 2] [0] rfl, H⟩ ?_
            rintro k F w1 ⟨y25, y26, y30, A27, c28, D29, rfl, hS, H⟩
            cases k with
            | zero => rw [spec_l01Numbers.l2] at H; cases H
            | succ k =>
              rw [spec_l01Numbers.l2] at H
              refine CJ.seq ?_
              refine CJ.seq ?_
              refine CJ.region ?_
              refine OJ.pures tU_ok 3 rfl ?_
              refine OJ.st rfl rfl rfl (SR.fieldAddr tU_ok tI_ok rfl rfl rfl rfl rfl rfl) ?_
              refine OJ.st rfl rfl rfl (SR.load rfl rfl (fun w' hx => ld1 tU_ok rfl rfl (CA.ext (CA.fld (hS.ca (i := 0) rfl) (mid_part (fe_Pasture_0 _) (fl_Pasture_0 _) ((ci .i8).len _))) hx) rfl)) ?_
              refine OJ.pures tU_ok 1 rfl ?_
              refine OJ.nil (EJ.next ?_)
              refine CJ.cond rfl (fun hb => ?_) (fun hb => ?_)
              · replace H := pif_t (of_decide_eq_true hb) H
                refine CJ.skip (EJ.next ?_)
                obtain ⟨j284, H, K284⟩ := pbind H
                refine CJ.cut (fun F w1 => ∃ (y31 : Arr 10 (Arr 10 Int)) (y32 : List (List Spot)) (A33 : Option Addr) (c34 : Nat) (D35 : List SH), (some (y31, y32) : Option ((Arr 10 (Arr 10 Int)) × (List (List Spot)))) = some j284 ∧ F = [(0, .pointer (some pa0)), (2, .pointer (some ⟨b1, 0, none⟩)), (4, .pointer (some ⟨b2, 0, none⟩)), (5, .slice A33 y32.length c34), (6, .int .i8 y14), (7, .int .i8 y30)] ∧ St w no w1 [box b1 ((carr 10 (carr 10 (ci .i64))).enc (Arr.mk' (Arr.mk' 0 : Arr 10 Int) : Arr 10 (Arr 10 Int))) 105, box b2 ((carr 10 (carr 10 (ci .i64))).enc y31) 105, rowsC cSpot A33 c34 100 66 D35 y32] [roP pa0 (cPasture.enc a0)]) ?_ ?_
                · skip
                  refine CJ.block ?_
                  refine CJ.seq ?_
                  refine CJ.seq ?_
                  refine CJ.region ?_
                  refine OJ.pures tU_ok 2 rfl ?_
                  obtain ⟨t36, ht36, H⟩ := pbind H
                  refine OJ.st rfl rfl rfl (SR.idxA tU_ok tI_ok rfl rfl rfl rfl rfl (Arr.lt ht36)) ?_
                  obtain ⟨t37, ht37, H⟩ := pbind H
                  refine OJ.st rfl rfl rfl (SR.idxA tU_ok tI_ok rfl rfl rfl rfl rfl (Arr.lt ht37)) ?_
                  refine OJ.st rfl rfl rfl (SR.load rfl rfl (fun w' hx => ld1 tU_ok rfl rfl (CA.ext (CA.idx (CA.idx (hS.cells (i := 1) rfl) ht36) ht37) hx) rfl)) ?_
                  refine OJ.pures tU_ok 1 rfl ?_
                  refine OJ.nil (EJ.next ?_)
                  refine CJ.cond rfl (fun hb => ?_) (fun hb => ?_)
                  · replace H := pif_t (of_decide_eq_true hb) H
                    refine CJ.exit (EJ.skE (EJ.hit (?_)))
                    exact EJ.meet (F' := [(0, .pointer (some pa0)), (2, .pointer (some ⟨b1, 0, none⟩)), (4, .pointer (some ⟨b2, 0, none⟩)), (5, .slice A27 y26.length c28), (6, .int .i8 y14), (7, .int .i8 y30)]) ⟨rfl, rfl, rfl, rfl, rfl, rfl, trivial⟩ ⟨y25, y26, A27, c28, D29, H, rfl, hS.pick [0, 1, 2] [0] rfl⟩
                  · replace H := pif_f (of_decide_eq_false hb) H
                    refine CJ.skip (EJ.next ?_)
                    refine CJ.seq ?_
                    refine CJ.region ?_
                    refine OJ.pures tU_ok 3 rfl ?_
                    refine OJ.st rfl rfl rfl (SR.build (C := cSpot) tU_ok tI_ok rfl rfl rfl (zs := [.int .i8 0, .int .i8 0]) rfl rfl rfl (⟨y30, y14⟩ : Spot) rfl) ?_
                    obtain ⟨t38, ht38, H⟩ := pbind H
                    refine OJ.callF rfl rfl rfl rfl rfl hb96 rfl (spec_l01Yard.c k _ _ a0 (hS.ca (i := 0) rfl) (⟨y30, y14⟩ : Spot) _ ht38) ?_
                    rintro _ w1 ⟨A39, c40, rfl, hs⟩
                    replace hS := hS.addN hs
                    refine OJ.pures tU_ok 1 rfl ?_
                    refine OJ.nil (EJ.next ?_)
                    refine CJ.seq ?_
                    refine CJ.region ?_
                    refine OJ.pures tU_ok 2 rfl ?_
                    refine OJ.ef rfl rfl rfl (Ef.litS1 (C := cSpot) tU_ok tI_ok hS (k := 3) rfl rfl rfl rfl rfl rfl) ?_
                    rintro _ w1 ⟨A41, rfl, hS⟩
                    obtain ⟨u42, hu42, H⟩ := pbind H
                    have hdl := (hS.rowsRo (i := 2) rfl).1
                    have dd45 := subD (D := D29) hdl (show ([(A39, c40)] : List SH)[0]? = _ from rfl)
                    have xd45 := subD (D := y26) rfl (show ([t38] : List (List Spot))[0]? = _ from rfl)
                    refine OJ.ew rfl rfl rfl (Ew.appendS tU_ok tI_ok hS (i := 2) (j := 4) rfl rfl rfl rfl rfl rfl rfl rfl rfl rfl rfl rfl rfl rfl (chk_some hu42)) ?_
                    rintro _ w1 ⟨A43, c44, rfl, hS⟩
                    refine OJ.pures tU_ok 1 rfl ?_
                    refine OJ.nil (EJ.next ?_)
                    refine CJ.seq ?_
                    refine CJ.region ?_
                    refine OJ.pures tU_ok 1 rfl ?_
                    refine OJ.nil (EJ.next ?_)
                    obtain ⟨j286, H, K286⟩ := pbind H
                    refine CJ.cut1 (fun F w1 => ∃ (y46 : Arr 10 (Arr 10 Int)) , (some y46 : Option (Arr 10 (Arr 10 Int))) = some j286 ∧ F = [(0, .pointer (some pa0)), (2, .pointer (some ⟨b1, 0, none⟩)), (4, .pointer (some ⟨b2, 0, none⟩)), (5, .slice A43 (y26 ++ [t38]).length c44), (6, .int .i8 y14), (7, .int .i8 y30)] ∧ St w no w1 [box b1 ((carr 10 (carr 10 (ci .i64))).enc (Arr.mk' (Arr.mk' 0 : Arr 10 Int) : Arr 10 (Arr 10 Int))) 105, box b2 ((carr 10 (carr 10 (ci .i64))).enc y46) 105, rowsC cSpot A43 c44 100 66 (D29 ++ [(A39, c40)]) (y26 ++ [t38])] [roP pa0 (cPasture.enc a0)]) ?_ ?_
                    · skip
                      refine CJ.block ?_
                      refine CJ.loop (fun k F w1 => ∃ (y47 : Arr 10 (Arr 10 Int)) (y48 : Int), F = [(0, .pointer (some pa0)), (2, .pointer (some ⟨b1, 0, none⟩)), (4, .pointer (some ⟨b2, 0, none⟩)), (5, .slice A43 (y26 ++ [t38]).length c44), (6, .int .i8 y14), (7, .int .i8 y30), (8, .slice A39 t38.length c40), (9, .int .i64 y48)] ∧ St w no w1 [box b1 ((carr 10 (carr 10 (ci .i64))).enc (Arr.mk' (Arr.mk' 0 : Arr 10 Int) : Arr 10 (Arr 10 Int))) 105, box b2 ((carr 10 (carr 10 (ci .i64))).enc y47) 105, rowsC cSpot A43 c44 100 66 (D29 ++ [(A39, c40)]) (y26 ++ [t38])] [roP pa0 (cPasture.enc a0)] ∧ spec_l01Numbers.l3 y26 t38 k y47 y48 = some j286) k (F' := [(0, .pointer (some pa0)), (2, .pointer (some ⟨b1, 0, none⟩)), (4, .pointer (some ⟨b2, 0, none⟩)), (5, .slice A43 (y26 ++ [t38]).length c44), (6, .int .i8 y14), (7, .int .i8 y30), (8, .slice A39 t38.length c40), (9, .int .i64 0)]) ⟨rfl, rfl, rfl, rfl, rfl, rfl, rfl, rfl, trivial⟩ ⟨y25, 0, rfl, hS.pick [0, 1, 2] [0] rfl, H⟩ ?_
                      rintro k F w1 ⟨y47, y48, rfl, hS, H⟩
                      cases k with
                      | zero => rw [spec_l01Numbers.l3] at H; cases H
                      | succ k =>
                        rw [spec_l01Numbers.l3] at H
                        refine CJ.seq ?_
                        refine CJ.seq ?_
                        refine CJ.region ?_
                        refine OJ.pures tU_ok 4 rfl ?_
                        refine OJ.nil (EJ.next ?_)
                        refine CJ.cond rfl (fun hb => ?_) (fun hb => ?_)
                        · replace H := pif_t (of_decide_eq_true hb) H
                          refine CJ.skip (EJ.next ?_)
                          refine CJ.seq ?_
                          refine CJ.block ?_
                          refine CJ.draw [] [0, 1, 2, 3, 4, 5, 6, 7, 8, 9, 10, 11, 12, 13, 14] mixed (by kernel_rfl) hS fun w1 hS => ?_
                          refine DJ.pures tU_ok 2 rfl ?_
                          obtain ⟨t49, ht49, H⟩ := pbind H
                          obtain ⟨ad49, e49⟩ := ((ros_sub (hS.rowsRo (i := 2) rfl) dd45 xd45)).some' ht49
                          refine DJ.st rfl rfl rfl rfl rfl (SR.idxS tU_ok tI_ok rfl rfl rfl rfl e49 rfl (getI_some ht49).1) ?_
                          refine DJ.st rfl rfl rfl rfl rfl (SR.fieldAddr tU_ok tI_ok rfl rfl rfl rfl rfl rfl) ?_
                          refine DJ.st rfl rfl rfl rfl rfl (SR.load rfl rfl (fun w' hx => ld1 tU_ok rfl rfl (CA.ext (CA.sub ((ros_sub (hS.rowsRo (i := 2) rfl) dd45 xd45).at_ e49 ht49) 1) hx) rfl)) ?_
                          refine DJ.pures tU_ok 2 rfl ?_
                          obtain ⟨t50, ht50, H⟩ := pbind H
                          obtain ⟨ad50, e50⟩ := ((ros_sub (hS.rowsRo (i := 2) rfl) dd45 xd45)).some' ht50
                          refine DJ.st rfl rfl rfl rfl rfl (SR.idxS tU_ok tI_ok rfl rfl rfl rfl e50 rfl (getI_some ht50).1) ?_
                          refine DJ.st rfl rfl rfl rfl rfl (SR.fieldAddr tU_ok tI_ok rfl rfl rfl rfl rfl rfl) ?_
                          refine DJ.st rfl rfl rfl rfl rfl (SR.load rfl rfl (fun w' hx => ld1 tU_ok rfl rfl (CA.ext (CA.sub ((ros_sub (hS.rowsRo (i := 2) rfl) dd45 xd45).at_ e50 ht50) 0) hx) rfl)) ?_
                          refine DJ.pures tU_ok 2 rfl ?_
                          obtain ⟨t51, ht51, H⟩ := pbind H
                          refine DJ.st rfl rfl rfl rfl rfl (SR.idxA tU_ok tI_ok rfl rfl rfl rfl rfl (Arr.lt ht51)) ?_
                          obtain ⟨t52, ht52, H⟩ := pbind H
                          refine DJ.st rfl rfl rfl rfl rfl (SR.idxA tU_ok tI_ok rfl rfl rfl rfl rfl (Arr.lt ht52)) ?_
                          refine DJ.es rfl rfl rfl rfl (Es.put tI_ok hS (i := 1) rfl rfl rfl rfl rfl (vs := (ci .i64).enc ((y26 ++ [t38]).length : Int)) rfl rfl (one1 rfl) (Put.idx (Put.idx (Put.all (ci .i64) t52 ((y26 ++ [t38]).length : Int)) ht52) ht51) (by (try simp only [add_lit, Nat.add_assoc, Nat.zero_add, Nat.add_zero]) <;> rfl)) ?_
                          intro w1 hS
                          refine DJ.nil (EJ.blk (EJ.next ?_))
                          refine CJ.region ?_
                          refine OJ.pures tU_ok 3 rfl ?_
                          refine OJ.nil ?_
                          exact EJ.round k (F' := [(0, .pointer (some pa0)), (2, .pointer (some ⟨b1, 0, none⟩)), (4, .pointer (some ⟨b2, 0, none⟩)), (5, .slice A43 (y26 ++ [t38]).length c44), (6, .int .i8 y14), (7, .int .i8 y30), (8, .slice A39 t38.length c40), (9, .int .i64 (IntKind.i64.wrap (y48 + 1)))]) ⟨rfl, rfl, rfl, rfl, rfl, rfl, rfl, rfl, trivial⟩ (Nat.lt_succ_self _) ⟨(aset y47 t49.Y.toNat (aset t51 t50.X.toNat ((y26 ++ [t38]).length : Int))), (IntKind.i64.wrap (y48 + 1)), rfl, hS.pick [0, 1, 2] [0] rfl, H⟩
                        · replace H := pif_f (of_decide_eq_false hb) H
                          refine CJ.exit (EJ.skE (EJ.skE (EJ.hit (?_))))
                          exact EJ.meet (F' := [(0, .pointer (some pa0)), (2, .pointer (some ⟨b1, 0, none⟩)), (4, .pointer (some ⟨b2, 0, none⟩)), (5, .slice A43 (y26 ++ [t38]).length c44), (6, .int .i8 y14), (7, .int .i8 y30)]) ⟨rfl, rfl, rfl, rfl, rfl, rfl, trivial⟩ ⟨y47, H, rfl, hS.pick [0, 1, 2] [0] rfl⟩
                    · rintro F w1 ⟨y46, he, rfl, hS⟩
                      obtain rfl := Option.some.inj he
                      have H := K286
                      refine EJ.blk (?_)
                      exact EJ.meet (F' := [(0, .pointer (some pa0)), (2, .pointer (some ⟨b1, 0, none⟩)), (4, .pointer (some ⟨b2, 0, none⟩)), (5, .slice A43 (y26 ++ [t38]).length c44), (6, .int .i8 y14), (7, .int .i8 y30)]) ⟨rfl, rfl, rfl, rfl, rfl, rfl, trivial⟩ ⟨y46, (y26 ++ [t38]), A43, c44, (D29 ++ [(A39, c40)]), H, rfl, hS.pick [0, 1, 2] [0] rfl⟩
                · rintro F w1 ⟨y31, y32, A33, c34, D35, he, rfl, hS⟩
                  obtain rfl := Option.some.inj he
                  have H := K284
                  refine CJ.region ?_
                  refine OJ.pures tU_ok 3 rfl ?_
                  refine OJ.nil ?_
                  exact EJ.round k (F' := [(0, .pointer (some pa0)), (2, .pointer (some ⟨b1, 0, none⟩)), (4, .pointer (some ⟨b2, 0, none⟩)), (5, .slice A33 y32.length c34), (6, .int .i8 y14), (7, .int .i8 (IntKind.i8.wrap (y30 + 1)))]) ⟨rfl, rfl, rfl, rfl, rfl, rfl, trivial⟩ (Nat.lt_succ_self _) ⟨y31, y32, (IntKind.i8.wrap (y30 + 1)), A33, c34, D35, rfl, hS.pick [0, 1, 2] [0] rfl, H⟩
              · replace H := pif_f (of_decide_eq_false hb) H
                refine CJ.exit (EJ.skE (EJ.skE (EJ.hit (?_))))
                exact EJ.meet (F' := [(0, .pointer (some pa0)), (2, .pointer (some ⟨b1, 0, none⟩)), (4, .pointer (some ⟨b2, 0, none⟩)), (5, .slice A27 y26.length c28), (6, .int .i8 y14)]) ⟨rfl, rfl, rfl, rfl, rfl, trivial⟩ ⟨y25, y26, A27, c28, D29, H, rfl, hS.pick [0, 1, 2] [0] rfl⟩
          · rintro F w1 ⟨y20, y21, A22, c23, D24, he, rfl, hS⟩
            obtain rfl := Option.some.inj he
            have H := K277
            refine EJ.blk (?_)
            exact EJ.meet (F' := [(0, .pointer (some pa0)), (2, .pointer (some ⟨b1, 0, none⟩)), (4, .pointer (some ⟨b2, 0, none⟩)), (5, .slice A22 y21.length c23), (6, .int .i8 y14)]) ⟨rfl, rfl, rfl, rfl, rfl, trivial⟩ ⟨y20, y21, A22, c23, D24, H, rfl, hS.pick [0, 1, 2] [0] rfl⟩
        · rintro F w1 ⟨y15, y16, A17, c18, D19, he, rfl, hS⟩
          obtain rfl := Option.some.inj he
          have H := K266
          refine CJ.region ?_
          refine OJ.pures tU_ok 3 rfl ?_
          refine OJ.nil ?_
          exact EJ.round k (F' := [(0, .pointer (some pa0)), (2, .pointer (some ⟨b1, 0, none⟩)), (4, .pointer (some ⟨b2, 0, none⟩)), (5, .slice A17 y16.length c18), (6, .int .i8 (IntKind.i8.wrap (y14 + 1)))]) ⟨rfl, rfl, rfl, rfl, rfl, trivial⟩ (Nat.lt_succ_self _) ⟨y15, y16, (IntKind.i8.wrap (y14 + 1)), A17, c18, D19, rfl, hS.pick [0, 1, 2] [0] rfl, H⟩
      · replace H := pif_f (of_decide_eq_false hb) H
        refine CJ.exit (EJ.skE (EJ.skE (EJ.hit (?_))))
        exact EJ.meet (F' := [(2, .pointer (some ⟨b1, 0, none⟩)), (4, .pointer (some ⟨b2, 0, none⟩)), (5, .slice A11 y10.length c12)]) ⟨rfl, rfl, rfl, trivial⟩ ⟨y9, y10, A11, c12, D13, H, rfl, hS.pick [0, 1, 2] [0] rfl⟩
  · rintro F w1 ⟨y4, y5, A6, c7, D8, he, rfl, hS⟩
    obtain rfl := Option.some.inj he
    have H := K213
    refine EJ.next ?_
    refine CJ.seq ?_
    refine CJ.region ?_
    refine OJ.st rfl rfl rfl (SR.load rfl rfl (fun w' hx => ldE tU_ok tI_ok rfl rfl rfl (CA.ext (hS.cells (i := 1) rfl) hx) rfl)) ?_
    refine OJ.pures tU_ok 1 rfl ?_
    refine OJ.es rfl rfl (Es.put tI_ok hS (i := 0) rfl rfl rfl rfl rfl (vs := (carr 10 (carr 10 (ci .i64))).enc y4) rfl ((carr 10 (carr 10 (ci .i64))).len _) ((carr 10 (carr 10 (ci .i64))).one _) (Put.all (carr 10 (carr 10 (ci .i64))) (Arr.mk' (Arr.mk' 0 : Arr 10 Int) : Arr 10 (Arr 10 Int)) y4) (by (try simp only [add_lit, Nat.add_assoc, Nat.zero_add, Nat.add_zero]) <;> rfl)) ?_
    intro w1 hS
    refine OJ.pures tU_ok 1 rfl ?_
    refine OJ.nil (EJ.next ?_)
    refine CJ.ret (?_)
    obtain rfl := Option.some.inj H
    exact EJ.fin rfl (.cell rfl (ldE tU_ok tI_ok rfl rfl rfl (hS.cells (i := 0) rfl) rfl) (.tmp rfl .nil)) ⟨A6, c7, D8, rfl, hS.pick [2] [] rfl⟩

def spec_l01All.l1 (a0 : Pasture) (a1 : List Spot) : Nat → Int → Option (Int ⊕ Unit)
  | 0, _ => none
  | k + 1, y2 => if y2 < (a1.length : Int) then ((getI a1 y2).bind fun t3 => (spec_l01Is.f a0 t3).bind fun t4 => if (!t4) = true then (some (Sum.inl 2)) else (spec_l01All.l1 a0 a1 k (IntKind.i64.wrap (y2 + 1)))) else (some (Sum.inr ()))
def spec_l01All.f (k : Nat) (a0 : Pasture) (a1 : List Spot) : Option Int := (spec_l01Ok.f k a0).bind fun t1 => if (!t1) = true then (some 1) else ((spec_l01All.l1 a0 a1 k 0).bind fun s288 => match s288 with | .inl r => some r | .inr _ => some 0)
theorem spec_l01All.c (k : Nat) (w : World) (pa0 : Addr) (a0 : Pasture) (hp0 : CA w pa0 (cPasture.enc a0)) (Aa1 : Option Addr) (ca1 : Nat) (a1 : List Spot) (hr1 : Rd cSpot w Aa1 a1) (hc1 : a1.length ≤ ca1) (r : Int) (H : spec_l01All.f k a0 a1 = some r) :
    CV Tryz.prog 97 [.pointer (some pa0), .slice Aa1 a1.length ca1].toArray w fun v w' => v = .int .i64 r ∧ Ext w w' := by
  have hS := (((St.init w no).paramP pa0 (cPasture.enc a0) hp0).param cSpot Aa1 ca1 a1 hr1 hc1)
  unfold spec_l01All.f at H
  refine CV.body Tryz.func97 rfl Tryz.ntmps97 rfl ?_
  refine CJ.seq ?_
  refine CJ.region ?_
  refine OJ.pures tU_ok 1 rfl ?_
  refine OJ.nil (EJ.next ?_)
  refine CJ.seq ?_
  refine CJ.seq ?_
  refine CJ.region ?_
  refine OJ.pures tU_ok 1 rfl ?_
  obtain ⟨t1, ht1, H⟩ := pbind H
  refine OJ.callF rfl rfl rfl rfl rfl hb54 rfl (spec_l01Ok.c k _ _ a0 (hS.ca (i := 0) rfl) _ ht1) ?_
  rintro _ w1 ⟨rfl, hs⟩
  replace hS := hS.grow hs
  refine OJ.pures tU_ok 1 rfl ?_
  refine OJ.nil (EJ.next ?_)
  refine CJ.cond rfl (fun hb => ?_) (fun hb => ?_)
  · replace H := pif_t hb H
    refine CJ.seq ?_
    refine CJ.region ?_
    refine OJ.pures tU_ok 1 rfl ?_
    refine OJ.nil (EJ.next ?_)
    refine CJ.ret (EJ.skR (?_))
    obtain rfl := Option.some.inj H
    exact EJ.fin rfl (.tmp rfl .nil) ⟨rfl, hS.ext⟩
  · replace H := pifb_f hb H
    refine CJ.skip (EJ.next ?_)
    refine CJ.seq ?_
    refine CJ.seq ?_
    refine CJ.region ?_
    refine OJ.pures tU_ok 1 rfl ?_
    refine OJ.nil (EJ.next ?_)
    obtain ⟨j288, H, K288⟩ := pbind H
    refine CJ.cut1 (fun F w1 => (some (Sum.inr ()) : Option (Int ⊕ Unit)) = some j288 ∧ F = [] ∧ St w no w1 [] [roP pa0 (cPasture.enc a0), roC cSpot Aa1 ca1 a1]) ?_ ?_
    · skip
      refine CJ.block ?_
      refine CJ.loop (fun k F w1 => ∃ (y2 : Int), F = [(0, .pointer (some pa0)), (1, .slice Aa1 a1.length ca1), (5, .int .i64 y2)] ∧ St w no w1 [] [roP pa0 (cPasture.enc a0), roC cSpot Aa1 ca1 a1] ∧ spec_l01All.l1 a0 a1 k y2 = some j288) k (F' := [(0, .pointer (some pa0)), (1, .slice Aa1 a1.length ca1), (5, .int .i64 0)]) ⟨rfl, rfl, rfl, trivial⟩ ⟨0, rfl, hS.pick [] [0, 1] rfl, H⟩ ?_
      rintro k F w1 ⟨y2, rfl, hS, H⟩
      cases k with
      | zero => rw [spec_l01All.l1] at H; cases H
      | succ k =>
        rw [spec_l01All.l1] at H
        refine CJ.seq ?_
        refine CJ.seq ?_
        refine CJ.region ?_
        refine OJ.pures tU_ok 4 rfl ?_
        refine OJ.nil (EJ.next ?_)
        refine CJ.cond rfl (fun hb => ?_) (fun hb => ?_)
        · replace H := pif_t (of_decide_eq_true hb) H
          refine CJ.skip (EJ.next ?_)
          refine CJ.seq ?_
          refine CJ.block ?_
          refine CJ.seq ?_
          refine CJ.region ?_
          refine OJ.pures tU_ok 3 rfl ?_
          obtain ⟨t3, ht3, H⟩ := pbind H
          obtain ⟨ad3, e3⟩ := (hS.rd' (i := 1) rfl).some' ht3
          refine OJ.st rfl rfl rfl (SR.idxS tU_ok tI_ok rfl rfl rfl rfl e3 rfl (getI_some ht3).1) ?_
          refine OJ.st rfl rfl rfl (SR.load rfl rfl (fun w' hx => ldE tU_ok tI_ok rfl rfl rfl (CA.ext ((hS.rd' (i := 1) rfl).at_ e3 ht3) hx) rfl)) ?_
          obtain ⟨t4, ht4, H⟩ := pbind H
          refine OJ.callF rfl rfl rfl rfl rfl hb63 rfl (spec_l01Is.c _ _ a0 (hS.ca (i := 0) rfl) t3 _ ht4) ?_
          rintro _ w1 ⟨rfl, hs⟩
          replace hS := hS.grow hs
          refine OJ.pures tU_ok 1 rfl ?_
          refine OJ.nil (EJ.next ?_)
          refine CJ.cond rfl (fun hb => ?_) (fun hb => ?_)
          · replace H := pif_t hb H
            refine CJ.seq ?_
            refine CJ.region ?_
            refine OJ.pures tU_ok 1 rfl ?_
            refine OJ.nil (EJ.next ?_)
            refine CJ.ret (EJ.bkR (EJ.skR (EJ.skR (EJ.bkR (EJ.skR (EJ.skR (?_)))))))
            first | (obtain rfl := Option.some.inj H; have H := K288) | (obtain ⟨q288, H2, e288⟩ := pbind H; obtain rfl := Option.some.inj e288; obtain rfl := Option.some.inj K288; have H := H2)
            obtain rfl := Option.some.inj H
            exact EJ.fin rfl (.tmp rfl .nil) ⟨rfl, hS.ext⟩
          · replace H := pifb_f hb H
            refine CJ.skip (EJ.blk (EJ.next ?_))
            refine CJ.region ?_
            refine OJ.pures tU_ok 3 rfl ?_
            refine OJ.nil ?_
            exact EJ.round k (F' := [(0, .pointer (some pa0)), (1, .slice Aa1 a1.length ca1), (5, .int .i64 (IntKind.i64.wrap (y2 + 1)))]) ⟨rfl, rfl, rfl, trivial⟩ (Nat.lt_succ_self _) ⟨(IntKind.i64.wrap (y2 + 1)), rfl, hS.pick [] [0, 1] rfl, H⟩
        · replace H := pif_f (of_decide_eq_false hb) H
          refine CJ.exit (EJ.skE (EJ.skE (EJ.hit (?_))))
          exact EJ.meet (F' := []) trivial ⟨H, rfl, hS.pick [] [0, 1] rfl⟩
    · rintro F w1 ⟨he, rfl, hS⟩
      obtain rfl := Option.some.inj he
      have H := K288
      refine EJ.next ?_
      refine CJ.seq ?_
      refine CJ.region ?_
      refine OJ.pures tU_ok 1 rfl ?_
      refine OJ.nil (EJ.next ?_)
      refine CJ.ret (?_)
      obtain rfl := Option.some.inj H
      exact EJ.fin rfl (.tmp rfl .nil) ⟨rfl, hS.ext⟩

def spec_GrassOf.l1 (a0 : Pasture) (a1 : List Spot) : Nat → Int → Int → Option Int
  | 0, _, _ => none
  | k + 1, y4, y5 => if y5 < (a1.length : Int) then ((getI a1 y5).bind fun t6 => (getI a1 y5).bind fun t7 => (getI a0.Grass.l t6.Y).bind fun t8 => (getI t8.l t7.X).bind fun t9 => spec_GrassOf.l1 a0 a1 k (IntKind.i64.wrap (y4 + (IntKind.i64.wrap t9))) (IntKind.i64.wrap (y5 + 1))) else (some y4)
def spec_GrassOf.f (k : Nat) (a0 : Pasture) (a1 : List Spot) : Option (Int × Int) := (spec_l01All.f k a0 a1).bind fun t2 => if t2 ≠ 0 then (some (0, t2)) else ((spec_GrassOf.l1 a0 a1 k 0 0).bind fun y3 => some (y3, 0))
theorem spec_GrassOf.c (k : Nat) (w : World) (a0 : Pasture) (Aa1 : Option Addr) (ca1 : Nat) (a1 : List Spot) (hr1 : Rd cSpot w Aa1 a1) (hc1 : a1.length ≤ ca1) (r : Int × Int) (H : spec_GrassOf.f k a0 a1 = some r) :
    CV Tryz.prog 57 [.agg (cPasture.enc a0).toArray, .slice Aa1 a1.length ca1].toArray w fun v w' => v = .tuple #[.int .i64 r.1, .int .i64 r.2] ∧ Ext w w' := by
  have hS := ((St.init w no).param cSpot Aa1 ca1 a1 hr1 hc1)
  unfold spec_GrassOf.f at H
  refine CV.body Tryz.func57 rfl Tryz.ntmps57 rfl ?_
  refine CJ.seq ?_
  refine CJ.region ?_
  refine OJ.ef rfl rfl rfl (Ef.box hS rfl rfl (cPasture.enc a0) rfl) ?_
  rintro _ w1 ⟨b1, rfl, hS⟩
  refine OJ.pures tU_ok 2 rfl ?_
  refine OJ.nil (EJ.next ?_)
  refine CJ.seq ?_
  refine CJ.seq ?_
  refine CJ.region ?_
  refine OJ.pures tU_ok 1 rfl ?_
  obtain ⟨t2, ht2, H⟩ := pbind H
  refine OJ.callF rfl rfl rfl rfl rfl hb97 rfl (spec_l01All.c k _ _ a0 (hS.cells (i := 0) rfl) Aa1 ca1 a1 (hS.rd' (i := 0) rfl) (hS.le' (i := 0) rfl) _ ht2) ?_
  rintro _ w1 ⟨rfl, hs⟩
  replace hS := hS.grow hs
  refine OJ.pures tU_ok 1 rfl ?_
  refine OJ.nil (EJ.next ?_)
  refine CJ.seq ?_
  refine CJ.region ?_
  refine OJ.pures tU_ok 2 rfl ?_
  refine OJ.nil (EJ.next ?_)
  refine CJ.cond rfl (fun hb => ?_) (fun hb => ?_)
  · replace H := pif_t (of_decide_eq_true hb) H
    refine CJ.seq ?_
    refine CJ.region ?_
    refine OJ.pures tU_ok 3 rfl ?_
    refine OJ.nil (EJ.next ?_)
    refine CJ.ret (EJ.skR (?_))
    obtain rfl := Option.some.inj H
    exact EJ.fin rfl (.tmp rfl (.tmp rfl .nil)) ⟨rfl, hS.ext⟩
  · replace H := pif_f (of_decide_eq_false hb) H
    refine CJ.skip (EJ.next ?_)
    refine CJ.seq ?_
    refine CJ.region ?_
    refine OJ.pures tU_ok 1 rfl ?_
    refine OJ.nil (EJ.next ?_)
    refine CJ.seq ?_
    refine CJ.seq ?_
    refine CJ.region ?_
    refine OJ.pures tU_ok 1 rfl ?_
    refine OJ.nil (EJ.next ?_)
    obtain ⟨j289, H, K289⟩ := pbind H
    refine CJ.cut1 (fun F w1 => ∃ (y3 : Int) , (some y3 : Option Int) = some j289 ∧ F = [(7, .int .i64 y3)] ∧ St w no w1 [] [roC cSpot Aa1 ca1 a1]) ?_ ?_
    · skip
      refine CJ.block ?_
      refine CJ.loop (fun k F w1 => ∃ (y4 : Int) (y5 : Int), F = [(1, .slice Aa1 a1.length ca1), (2, .pointer (some ⟨b1, 0, none⟩)), (7, .int .i64 y4), (8, .int .i64 y5)] ∧ St w no w1 [box b1 (cPasture.enc a0) 31] [roC cSpot Aa1 ca1 a1] ∧ spec_GrassOf.l1 a0 a1 k y4 y5 = some j289) k (F' := [(1, .slice Aa1 a1.length ca1), (2, .pointer (some ⟨b1, 0, none⟩)), (7, .int .i64 0), (8, .int .i64 0)]) ⟨rfl, rfl, rfl, rfl, trivial⟩ ⟨0, 0, rfl, hS.pick [0] [0] rfl, H⟩ ?_
      rintro k F w1 ⟨y4, y5, rfl, hS, H⟩
      cases k with
      | zero => rw [spec_GrassOf.l1] at H; cases H
      | succ k =>
        rw [spec_GrassOf.l1] at H
        refine CJ.seq ?_
        refine CJ.seq ?_
        refine CJ.region ?_
        refine OJ.pures tU_ok 4 rfl ?_
        refine OJ.nil (EJ.next ?_)
        refine CJ.cond rfl (fun hb => ?_) (fun hb => ?_)
        · replace H := pif_t (of_decide_eq_true hb) H
          refine CJ.skip (EJ.next ?_)
          refine CJ.seq ?_
          refine CJ.block ?_
          refine CJ.draw [] [0, 1, 2, 3, 4, 5, 6, 7, 8, 9, 10, 11, 12, 13, 14, 15, 16, 17] mixed (by kernel_rfl) hS fun w1 hS => ?_
          refine DJ.pures tU_ok 3 rfl ?_
          obtain ⟨t6, ht6, H⟩ := pbind H
          obtain ⟨ad6, e6⟩ := (hS.rd' (i := 0) rfl).some' ht6
          refine DJ.st rfl rfl rfl rfl rfl (SR.idxS tU_ok tI_ok rfl rfl rfl rfl e6 rfl (getI_some ht6).1) ?_
          refine DJ.st rfl rfl rfl rfl rfl (SR.fieldAddr tU_ok tI_ok rfl rfl rfl rfl rfl rfl) ?_
          refine DJ.st rfl rfl rfl rfl rfl (SR.load rfl rfl (fun w' hx => ld1 tU_ok rfl rfl (CA.ext (CA.sub ((hS.rd' (i := 0) rfl).at_ e6 ht6) 1) hx) rfl)) ?_
          refine DJ.pures tU_ok 2 rfl ?_
          obtain ⟨t7, ht7, H⟩ := pbind H
          obtain ⟨ad7, e7⟩ := (hS.rd' (i := 0) rfl).some' ht7
          refine DJ.st rfl rfl rfl rfl rfl (SR.idxS tU_ok tI_ok rfl rfl rfl rfl e7 rfl (getI_some ht7).1) ?_
          refine DJ.st rfl rfl rfl rfl rfl (SR.fieldAddr tU_ok tI_ok rfl rfl rfl rfl rfl rfl) ?_
          refine DJ.st rfl rfl rfl rfl rfl (SR.load rfl rfl (fun w' hx => ld1 tU_ok rfl rfl (CA.ext (CA.sub ((hS.rd' (i := 0) rfl).at_ e7 ht7) 0) hx) rfl)) ?_
          refine DJ.st rfl rfl rfl rfl rfl (SR.fieldAddr tU_ok tI_ok rfl rfl rfl rfl rfl rfl) ?_
          obtain ⟨t8, ht8, H⟩ := pbind H
          refine DJ.st rfl rfl rfl rfl rfl (SR.idxA tU_ok tI_ok rfl rfl rfl rfl rfl (Arr.lt ht8)) ?_
          obtain ⟨t9, ht9, H⟩ := pbind H
          refine DJ.st rfl rfl rfl rfl rfl (SR.idxA tU_ok tI_ok rfl rfl rfl rfl rfl (Arr.lt ht9)) ?_
          refine DJ.st rfl rfl rfl rfl rfl (SR.load rfl rfl (fun w' hx => ld1 tU_ok rfl rfl (CA.ext (CA.idx (CA.idx (CA.fld (hS.cells (i := 0) rfl) (mid_part (fe_Pasture_2 _) (fl_Pasture_2 _) ((carr 10 (carr 10 (ci .i16))).len _))) ht8) ht9) hx) rfl)) ?_
          refine DJ.pures tU_ok 3 rfl ?_
          refine DJ.nil (EJ.blk (EJ.next ?_))
          refine CJ.region ?_
          refine OJ.pures tU_ok 3 rfl ?_
          refine OJ.nil ?_
          exact EJ.round k (F' := [(1, .slice Aa1 a1.length ca1), (2, .pointer (some ⟨b1, 0, none⟩)), (7, .int .i64 (IntKind.i64.wrap (y4 + (IntKind.i64.wrap t9)))), (8, .int .i64 (IntKind.i64.wrap (y5 + 1)))]) ⟨rfl, rfl, rfl, rfl, trivial⟩ (Nat.lt_succ_self _) ⟨(IntKind.i64.wrap (y4 + (IntKind.i64.wrap t9))), (IntKind.i64.wrap (y5 + 1)), rfl, hS.pick [0] [0] rfl, H⟩
        · replace H := pif_f (of_decide_eq_false hb) H
          refine CJ.exit (EJ.skE (EJ.skE (EJ.hit (?_))))
          exact EJ.meet (F' := [(7, .int .i64 y4)]) ⟨rfl, trivial⟩ ⟨y4, H, rfl, hS.pick [] [0] rfl⟩
    · rintro F w1 ⟨y3, he, rfl, hS⟩
      obtain rfl := Option.some.inj he
      have H := K289
      refine EJ.next ?_
      refine CJ.seq ?_
      refine CJ.region ?_
      refine OJ.pures tU_ok 3 rfl ?_
      refine OJ.nil (EJ.next ?_)
      refine CJ.ret (?_)
      obtain rfl := Option.some.inj H
      exact EJ.fin rfl (.tmp rfl (.tmp rfl .nil)) ⟨rfl, hS.ext⟩

def spec_l00Min.f (a0 : Int) (a1 : Int) : Option Int := if a0 < a1 then (some a0) else (some a1)
theorem spec_l00Min.c (w : World) (a0 : Int) (a1 : Int) (r : Int) (H : spec_l00Min.f a0 a1 = some r) :
    CV Tryz.prog 58 [.int .i64 a0, .int .i64 a1].toArray w fun v w' => v = .int .i64 r ∧ Ext w w' := by
  have hS := (St.init w no)
  unfold spec_l00Min.f at H
  refine CV.body Tryz.func58 rfl Tryz.ntmps58 rfl ?_
  refine CJ.seq ?_
  refine CJ.region ?_
  refine OJ.pures tU_ok 1 rfl ?_
  refine OJ.nil (EJ.next ?_)
  refine CJ.seq ?_
  refine CJ.seq ?_
  refine CJ.region ?_
  refine OJ.pures tU_ok 3 rfl ?_
  refine OJ.nil (EJ.next ?_)
  refine CJ.cond rfl (fun hb => ?_) (fun hb => ?_)
  · replace H := pif_t (of_decide_eq_true hb) H
    refine CJ.seq ?_
    refine CJ.region ?_
    refine OJ.pures tU_ok 2 rfl ?_
    refine OJ.nil (EJ.next ?_)
    refine CJ.ret (EJ.skR (?_))
    obtain rfl := Option.some.inj H
    exact EJ.fin rfl (.tmp rfl .nil) ⟨rfl, hS.ext⟩
  · replace H := pif_f (of_decide_eq_false hb) H
    refine CJ.skip (EJ.next ?_)
    refine CJ.seq ?_
    refine CJ.region ?_
    refine OJ.pures tU_ok 2 rfl ?_
    refine OJ.nil (EJ.next ?_)
    refine CJ.ret (?_)
    obtain rfl := Option.some.inj H
    exact EJ.fin rfl (.tmp rfl .nil) ⟨rfl, hS.ext⟩

def spec_MeadowsOf.l1 (a0 : Pasture) (a1 : Int) (t6 : Arr 10 (Arr 10 Int) × List (List Spot)) : Nat → (List Meadow) → Int → Option (List Meadow)
  | 0, _, _ => none
  | k + 1, y16, y19 => if y19 < (t6.2.length : Int) then ((getI t6.2 y19).bind fun t20 => (spec_GrassOf.f k a0 t20).bind fun t21 => (spec_l00Min.f 1000 t21.1).bind fun t22 => (getI t6.2 y19).bind fun t24 => (spec_l00Min.f 1000 (IntKind.i64.wrap (a1 * (t24.length : Int)))).bind fun t25 => (chk (y16.length + ([(⟨IntKind.i16.wrap t22, IntKind.i16.wrap t25, 1000⟩ : Meadow)] : List Meadow).length ≤ 4294967296)).bind fun u27 => spec_MeadowsOf.l1 a0 a1 t6 k (y16 ++ ([(⟨IntKind.i16.wrap t22, IntKind.i16.wrap t25, 1000⟩ : Meadow)] : List Meadow)) (IntKind.i64.wrap (y19 + 1))) else (some y16)
def spec_MeadowsOf.f (k : Nat) (a0 : Pasture) (a1 : Int) : Option (List Meadow × Int) := (spec_l01Ok.f k a0).bind fun t2 => if (!t2) = true then (some (([] : List Meadow), 1)) else ((spec_l01Grass.f a1).bind fun t4 => if (!t4) = true then (some (([] : List Meadow), 2)) else ((spec_l01Numbers.f k a0).bind fun t6 => if 6 < (t6.2.length : Int) then (some (([] : List Meadow), 3)) else ((spec_MeadowsOf.l1 a0 a1 t6 k ([] : List Meadow) 0).bind fun y13 => some (y13, 0))))
theorem spec_MeadowsOf.c (k : Nat) (w : World) (a0 : Pasture) (a1 : Int) (r : List Meadow × Int) (H : spec_MeadowsOf.f k a0 a1 = some r) :
    CV Tryz.prog 19 [.agg (cPasture.enc a0).toArray, .int .i64 a1].toArray w fun v w' => ∃ (A0 : Option Addr) (c0 : Nat), v = .tuple #[.slice A0 r.1.length c0, .int .i64 r.2] ∧ St w no w' [rowC cMeadow A0 c0 57 r.1] [] := by
  have hS := (St.init w no)
  unfold spec_MeadowsOf.f at H
  refine CV.body Tryz.func19 rfl Tryz.ntmps19 rfl ?_
  refine CJ.seq ?_
  refine CJ.region ?_
  refine OJ.ef rfl rfl rfl (Ef.box hS rfl rfl (cPasture.enc a0) rfl) ?_
  rintro _ w1 ⟨b1, rfl, hS⟩
  refine OJ.pures tU_ok 2 rfl ?_
  refine OJ.nil (EJ.next ?_)
  refine CJ.seq ?_
  refine CJ.seq ?_
  refine CJ.region ?_
  obtain ⟨t2, ht2, H⟩ := pbind H
  refine OJ.callF rfl rfl rfl rfl rfl hb54 rfl (spec_l01Ok.c k _ _ a0 (hS.cells (i := 0) rfl) _ ht2) ?_
  rintro _ w1 ⟨rfl, hs⟩
  replace hS := hS.grow hs
  refine OJ.pures tU_ok 1 rfl ?_
  refine OJ.nil (EJ.next ?_)
  refine CJ.cond rfl (fun hb => ?_) (fun hb => ?_)
  · replace H := pif_t hb H
    refine CJ.seq ?_
    refine CJ.region ?_
    refine OJ.ef rfl rfl rfl (Ef.lit tU_ok tI_ok hS (C := cMeadow) rfl rfl rfl rfl rfl rfl ([] : List Meadow) rfl rfl rfl rfl) ?_
    rintro _ w1 ⟨A3, rfl, hS⟩
    refine OJ.pures tU_ok 2 rfl ?_
    refine OJ.nil (EJ.next ?_)
    refine CJ.ret (EJ.skR (?_))
    obtain rfl := Option.some.inj H
    exact EJ.fin rfl (.tmp rfl (.tmp rfl .nil)) ⟨A3, (([] : List Meadow).length), rfl, hS.pick [1] [] rfl⟩
  · replace H := pifb_f hb H
    refine CJ.skip (EJ.next ?_)
    refine CJ.seq ?_
    refine CJ.seq ?_
    refine CJ.region ?_
    refine OJ.pures tU_ok 1 rfl ?_
    obtain ⟨t4, ht4, H⟩ := pbind H
    refine OJ.callF rfl rfl rfl rfl rfl hb55 rfl (spec_l01Grass.c _ a1 _ ht4) ?_
    rintro _ w1 ⟨rfl, hs⟩
    replace hS := hS.grow hs
    refine OJ.pures tU_ok 1 rfl ?_
    refine OJ.nil (EJ.next ?_)
    refine CJ.cond rfl (fun hb => ?_) (fun hb => ?_)
    · replace H := pif_t hb H
      refine CJ.seq ?_
      refine CJ.region ?_
      refine OJ.ef rfl rfl rfl (Ef.lit tU_ok tI_ok hS (C := cMeadow) rfl rfl rfl rfl rfl rfl ([] : List Meadow) rfl rfl rfl rfl) ?_
      rintro _ w1 ⟨A5, rfl, hS⟩
      refine OJ.pures tU_ok 2 rfl ?_
      refine OJ.nil (EJ.next ?_)
      refine CJ.ret (EJ.skR (?_))
      obtain rfl := Option.some.inj H
      exact EJ.fin rfl (.tmp rfl (.tmp rfl .nil)) ⟨A5, (([] : List Meadow).length), rfl, hS.pick [1] [] rfl⟩
    · replace H := pifb_f hb H
      refine CJ.skip (EJ.next ?_)
      refine CJ.seq ?_
      refine CJ.region ?_
      obtain ⟨t6, ht6, H⟩ := pbind H
      refine OJ.callF rfl rfl rfl rfl rfl hb56 rfl (spec_l01Numbers.c k _ _ a0 (hS.cells (i := 0) rfl) _ ht6) ?_
      rintro _ w1 ⟨A7, c8, D9, rfl, hs⟩
      replace hS := hS.addN hs
      refine OJ.pures tU_ok 3 rfl ?_
      refine OJ.ef rfl rfl rfl (Ef.alloc hS tI_ok rfl rfl ((carr 10 (carr 10 (ci .i64))).enc (Arr.mk' (Arr.mk' 0 : Arr 10 Int) : Arr 10 (Arr 10 Int))) (by kernel_rfl)) ?_
      rintro _ w1 ⟨b10, rfl, hS⟩
      refine OJ.es rfl rfl (Es.put tI_ok hS (i := 2) rfl rfl rfl rfl rfl (vs := (carr 10 (carr 10 (ci .i64))).enc t6.1) rfl ((carr 10 (carr 10 (ci .i64))).len _) ((carr 10 (carr 10 (ci .i64))).one _) (Put.all (carr 10 (carr 10 (ci .i64))) (Arr.mk' (Arr.mk' 0 : Arr 10 Int) : Arr 10 (Arr 10 Int)) t6.1) (by (try simp only [add_lit, Nat.add_assoc, Nat.zero_add, Nat.add_zero]) <;> rfl)) ?_
      intro w1 hS
      refine OJ.pures tU_ok 1 rfl ?_
      refine OJ.nil (EJ.next ?_)
      refine CJ.seq ?_
      refine CJ.seq ?_
      refine CJ.region ?_
      refine OJ.pures tU_ok 3 rfl ?_
      refine OJ.nil (EJ.next ?_)
      refine CJ.cond rfl (fun hb => ?_) (fun hb => ?_)
      · replace H := pif_t (of_decide_eq_true hb) H
        refine CJ.seq ?_
        refine CJ.region ?_
        refine OJ.ef rfl rfl rfl (Ef.lit tU_ok tI_ok hS (C := cMeadow) rfl rfl rfl rfl rfl rfl ([] : List Meadow) rfl rfl rfl rfl) ?_
        rintro _ w1 ⟨A11, rfl, hS⟩
        refine OJ.pures tU_ok 2 rfl ?_
        refine OJ.nil (EJ.next ?_)
        refine CJ.ret (EJ.skR (?_))
        obtain rfl := Option.some.inj H
        exact EJ.fin rfl (.tmp rfl (.tmp rfl .nil)) ⟨A11, (([] : List Meadow).length), rfl, hS.pick [3] [] rfl⟩
      · replace H := pif_f (of_decide_eq_false hb) H
        refine CJ.skip (EJ.next ?_)
        refine CJ.seq ?_
        refine CJ.region ?_
        refine OJ.ef rfl rfl rfl (Ef.lit tU_ok tI_ok hS (C := cMeadow) rfl rfl rfl rfl rfl rfl ([] : List Meadow) rfl rfl rfl rfl) ?_
        rintro _ w1 ⟨A12, rfl, hS⟩
        refine OJ.pures tU_ok 1 rfl ?_
        refine OJ.nil (EJ.next ?_)
        refine CJ.seq ?_
        refine CJ.seq ?_
        refine CJ.region ?_
        refine OJ.pures tU_ok 1 rfl ?_
        refine OJ.nil (EJ.next ?_)
        obtain ⟨j287, H, K287⟩ := pbind H
        refine CJ.cut1 (fun F w1 => ∃ (y13 : List Meadow) (A14 : Option Addr) (c15 : Nat), (some y13 : Option (List Meadow)) = some j287 ∧ F = [(8, .slice A14 y13.length c15)] ∧ St w no w1 [rowC cMeadow A14 c15 57 y13] []) ?_ ?_
        · skip
          refine CJ.block ?_
          refine CJ.loop (fun k F w1 => ∃ (y16 : List Meadow) (y19 : Int) (A17 : Option Addr) (c18 : Nat), F = [(1, .int .i64 a1), (2, .pointer (some ⟨b1, 0, none⟩)), (7, .slice A7 t6.2.length c8), (8, .slice A17 y16.length c18), (9, .int .i64 y19)] ∧ St w no w1 [box b1 (cPasture.enc a0) 31, rowsC cSpot A7 c8 100 66 D9 t6.2, rowC cMeadow A17 c18 57 y16] [] ∧ spec_MeadowsOf.l1 a0 a1 t6 k y16 y19 = some j287) k (F' := [(1, .int .i64 a1), (2, .pointer (some ⟨b1, 0, none⟩)), (7, .slice A7 t6.2.length c8), (8, .slice A12 ([] : List Meadow).length (([] : List Meadow).length)), (9, .int .i64 0)]) ⟨rfl, rfl, rfl, rfl, rfl, trivial⟩ ⟨([] : List Meadow), 0, A12, (([] : List Meadow).length), rfl, hS.pick [0, 1, 3] [] rfl, H⟩ ?_
          rintro k F w1 ⟨y16, y19, A17, c18, rfl, hS, H⟩
          cases k with
          | zero => rw [spec_MeadowsOf.l1] at H; cases H
          | succ k =>
            rw [spec_MeadowsOf.l1] at H
            refine CJ.seq ?_
            refine CJ.seq ?_
            refine CJ.region ?_
            refine OJ.pures tU_ok 4 rfl ?_
            refine OJ.nil (EJ.next ?_)
            refine CJ.cond rfl (fun hb => ?_) (fun hb => ?_)
            · replace H := pif_t (of_decide_eq_true hb) H
              refine CJ.skip (EJ.next ?_)
              refine CJ.seq ?_
              refine CJ.block ?_
              refine CJ.seq ?_
              refine CJ.draw [] [0, 1, 2, 3, 4, 5, 6, 7, 8, 9, 10] mixed (by kernel_rfl) hS fun w1 hS => ?_
              refine DJ.st rfl rfl rfl rfl rfl (SR.load rfl rfl (fun w' hx => ldE tU_ok tI_ok rfl rfl rfl (CA.ext (hS.cells (i := 0) rfl) hx) rfl)) ?_
              refine DJ.pures tU_ok 2 rfl ?_
              obtain ⟨t20, ht20, H⟩ := pbind H
              obtain ⟨Ae20, ce20, g20, d20, hx20⟩ := ros_el (hS.rowsRo (i := 1) rfl) ht20
              obtain ⟨ad20, e20⟩ := (ros_rd (hS.rowsRo (i := 1) rfl)).some' g20
              refine DJ.st rfl rfl rfl rfl rfl (SR.idxS tU_ok tI_ok rfl rfl rfl rfl e20 rfl (getI_some ht20).1) ?_
              refine DJ.st rfl rfl rfl rfl rfl (SR.load rfl rfl (fun w' hx => ld1 tU_ok rfl rfl (CA.ext ((ros_rd (hS.rowsRo (i := 1) rfl)).at_ e20 g20) hx) rfl)) ?_
              obtain ⟨t21, ht21, H⟩ := pbind H
              refine DJ.callF rfl rfl rfl rfl rfl rfl rfl hb57 rfl (spec_GrassOf.c k _ a0 Ae20 ce20 t20 (ros_sub (hS.rowsRo (i := 1) rfl) d20 hx20) (ros_subLe (hS.rowsRo (i := 1) rfl) d20 hx20) _ ht21) (by rintro v w' ⟨rfl, hs⟩; exact hs) ?_
              rintro _ w1 ⟨rfl, hs⟩
              replace hS := hS.grow hs
              refine DJ.pures tU_ok 5 rfl ?_
              refine DJ.nil (EJ.next ?_)
              refine CJ.seq ?_
              refine CJ.region ?_
              refine OJ.pures tU_ok 1 rfl ?_
              obtain ⟨t22, ht22, H⟩ := pbind H
              refine OJ.callF rfl rfl rfl rfl rfl hb58 rfl (spec_l00Min.c _ 1000 t21.1 _ ht22) ?_
              rintro _ w1 ⟨rfl, hs⟩
              replace hS := hS.grow hs
              refine OJ.pures tU_ok 1 rfl ?_
              refine OJ.st rfl rfl rfl (SR.build (C := cMeadow) tU_ok tI_ok rfl rfl rfl (zs := [.int .i16 0, .int .i16 0, .int .i16 0]) rfl rfl rfl (⟨IntKind.i16.wrap t22, 0, 1000⟩ : Meadow) rfl) ?_
              refine OJ.ef rfl rfl rfl (Ef.alloc hS tI_ok rfl rfl (cMeadow.enc (⟨0, 0, 0⟩ : Meadow)) rfl) ?_
              rintro _ w1 ⟨b23, rfl, hS⟩
              refine OJ.es rfl rfl (Es.store tI_ok hS (i := 3) rfl rfl rfl rfl rfl rfl (vs := cMeadow.enc (⟨IntKind.i16.wrap t22, 0, 1000⟩ : Meadow)) rfl (cMeadow.len _) (cMeadow.one _) (Nat.le_of_ble_eq_true rfl) (cMeadow.enc (⟨IntKind.i16.wrap t22, 0, 1000⟩ : Meadow)) rfl) ?_
              intro w1 hS
              refine OJ.nil (EJ.next ?_)
              refine CJ.seq ?_
              refine CJ.region ?_
              refine OJ.pures tU_ok 3 rfl ?_
              obtain ⟨t24, ht24, H⟩ := pbind H
              obtain ⟨Ae24, ce24, g24, d24, hx24⟩ := ros_el (hS.rowsRo (i := 1) rfl) ht24
              obtain ⟨ad24, e24⟩ := (ros_rd (hS.rowsRo (i := 1) rfl)).some' g24
              refine OJ.st rfl rfl rfl (SR.idxS tU_ok tI_ok rfl rfl rfl rfl e24 rfl (getI_some ht24).1) ?_
              refine OJ.st rfl rfl rfl (SR.load rfl rfl (fun w' hx => ld1 tU_ok rfl rfl (CA.ext ((ros_rd (hS.rowsRo (i := 1) rfl)).at_ e24 g24) hx) rfl)) ?_
              refine OJ.pures tU_ok 2 rfl ?_
              obtain ⟨t25, ht25, H⟩ := pbind H
              refine OJ.callF rfl rfl rfl rfl rfl hb58 rfl (spec_l00Min.c _ 1000 (IntKind.i64.wrap (a1 * (t24.length : Int))) _ ht25) ?_
              rintro _ w1 ⟨rfl, hs⟩
              replace hS := hS.grow hs
              refine OJ.pures tU_ok 1 rfl ?_
              refine OJ.st rfl rfl rfl (SR.fieldAddr tU_ok tI_ok rfl rfl rfl rfl rfl rfl) ?_
              refine OJ.es rfl rfl (Es.store tI_ok hS (i := 3) rfl rfl rfl (G.ad1 _ _) rfl rfl (vs := (ci .i16).enc (IntKind.i16.wrap t25)) rfl rfl (one1 rfl) (Nat.le_of_ble_eq_true rfl) (cMeadow.enc (⟨IntKind.i16.wrap t22, IntKind.i16.wrap t25, 1000⟩ : Meadow)) rfl) ?_
              intro w1 hS
              refine OJ.nil (EJ.next ?_)
              refine CJ.region ?_
              refine OJ.pures tU_ok 1 rfl ?_
              refine OJ.st rfl rfl rfl (SR.load rfl rfl (fun w' hx => ldE tU_ok tI_ok rfl rfl rfl (CA.ext (hS.cells (i := 3) rfl) hx) rfl)) ?_
              refine OJ.ef rfl rfl rfl (Ef.lit tU_ok tI_ok hS (C := cMeadow) rfl rfl rfl rfl rfl rfl ([(⟨IntKind.i16.wrap t22, IntKind.i16.wrap t25, 1000⟩ : Meadow)] : List Meadow) rfl rfl rfl rfl) ?_
              rintro _ w1 ⟨A26, rfl, hS⟩
              obtain ⟨u27, hu27, H⟩ := pbind H
              refine OJ.ew rfl rfl rfl (Ew.append tU_ok tI_ok (C := cMeadow) (xs := y16) (ys := ([(⟨IntKind.i16.wrap t22, IntKind.i16.wrap t25, 1000⟩ : Meadow)] : List Meadow)) hS (i := 2) rfl rfl rfl rfl rfl rfl rfl rfl rfl rfl rfl rfl rfl (hS.rd (i := 4) rfl) (chk_some hu27)) ?_
              rintro _ w1 ⟨A28, c29, rfl, hS⟩
              refine OJ.pures tU_ok 1 rfl ?_
              refine OJ.nil (EJ.blk (EJ.next ?_))
              refine CJ.region ?_
              refine OJ.pures tU_ok 3 rfl ?_
              refine OJ.nil ?_
              exact EJ.round k (F' := [(1, .int .i64 a1), (2, .pointer (some ⟨b1, 0, none⟩)), (7, .slice A7 t6.2.length c8), (8, .slice A28 (y16 ++ ([(⟨IntKind.i16.wrap t22, IntKind.i16.wrap t25, 1000⟩ : Meadow)] : List Meadow)).length c29), (9, .int .i64 (IntKind.i64.wrap (y19 + 1)))]) ⟨rfl, rfl, rfl, rfl, rfl, trivial⟩ (Nat.lt_succ_self _) ⟨(y16 ++ ([(⟨IntKind.i16.wrap t22, IntKind.i16.wrap t25, 1000⟩ : Meadow)] : List Meadow)), (IntKind.i64.wrap (y19 + 1)), A28, c29, rfl, hS.pick [0, 1, 2] [] rfl, H⟩
            · replace H := pif_f (of_decide_eq_false hb) H
              refine CJ.exit (EJ.skE (EJ.skE (EJ.hit (?_))))
              exact EJ.meet (F' := [(8, .slice A17 y16.length c18)]) ⟨rfl, trivial⟩ ⟨y16, A17, c18, H, rfl, hS.pick [2] [] rfl⟩
        · rintro F w1 ⟨y13, A14, c15, he, rfl, hS⟩
          obtain rfl := Option.some.inj he
          have H := K287
          refine EJ.next ?_
          refine CJ.seq ?_
          refine CJ.region ?_
          refine OJ.pures tU_ok 3 rfl ?_
          refine OJ.nil (EJ.next ?_)
          refine CJ.ret (?_)
          obtain rfl := Option.some.inj H
          exact EJ.fin rfl (.tmp rfl (.tmp rfl .nil)) ⟨A14, c15, rfl, hS.pick [0] [] rfl⟩

def spec_YardsOf.f (k : Nat) (a0 : Pasture) : Option (List (List Spot) × Int) := (spec_l01Ok.f k a0).bind fun t2 => if (!t2) = true then (some (([] : List (List Spot)), 1)) else ((spec_l01Numbers.f k a0).bind fun t4 => some (t4.2, 0))
theorem spec_YardsOf.c (k : Nat) (w : World) (a0 : Pasture) (r : List (List Spot) × Int) (H : spec_YardsOf.f k a0 = some r) :
    CV Tryz.prog 20 [.agg (cPasture.enc a0).toArray].toArray w fun v w' => ∃ (A0 : Option Addr) (c0 : Nat) (D0 : List SH), v = .tuple #[.slice A0 r.1.length c0, .int .i64 r.2] ∧ St w no w' [rowsC cSpot A0 c0 100 66 D0 r.1] [] := by
  have hS := (St.init w no)
  unfold spec_YardsOf.f at H
  refine CV.body Tryz.func20 rfl Tryz.ntmps20 rfl ?_
  refine CJ.seq ?_
  refine CJ.region ?_
  refine OJ.ef rfl rfl rfl (Ef.box hS rfl rfl (cPasture.enc a0) rfl) ?_
  rintro _ w1 ⟨b1, rfl, hS⟩
  refine OJ.pures tU_ok 2 rfl ?_
  refine OJ.nil (EJ.next ?_)
  refine CJ.seq ?_
  refine CJ.seq ?_
  refine CJ.region ?_
  obtain ⟨t2, ht2, H⟩ := pbind H
  refine OJ.callF rfl rfl rfl rfl rfl hb54 rfl (spec_l01Ok.c k _ _ a0 (hS.cells (i := 0) rfl) _ ht2) ?_
  rintro _ w1 ⟨rfl, hs⟩
  replace hS := hS.grow hs
  refine OJ.pures tU_ok 1 rfl ?_
  refine OJ.nil (EJ.next ?_)
  refine CJ.cond rfl (fun hb => ?_) (fun hb => ?_)
  · replace H := pif_t hb H
    refine CJ.seq ?_
    refine CJ.region ?_
    refine OJ.ef rfl rfl rfl (Ef.litS0 (e := 66) tU_ok tI_ok hS rfl rfl rfl rfl cSpot) ?_
    rintro _ w1 ⟨A3, rfl, hS⟩
    refine OJ.pures tU_ok 2 rfl ?_
    refine OJ.nil (EJ.next ?_)
    refine CJ.ret (EJ.skR (?_))
    obtain rfl := Option.some.inj H
    exact EJ.fin rfl (.tmp rfl (.tmp rfl .nil)) ⟨A3, (([] : List (List Spot)).length), [], rfl, hS.pick [1] [] rfl⟩
  · replace H := pifb_f hb H
    refine CJ.skip (EJ.next ?_)
    refine CJ.seq ?_
    refine CJ.region ?_
    obtain ⟨t4, ht4, H⟩ := pbind H
    refine OJ.callF rfl rfl rfl rfl rfl hb56 rfl (spec_l01Numbers.c k _ _ a0 (hS.cells (i := 0) rfl) _ ht4) ?_
    rintro _ w1 ⟨A5, c6, D7, rfl, hs⟩
    replace hS := hS.addN hs
    refine OJ.pures tU_ok 3 rfl ?_
    refine OJ.ef rfl rfl rfl (Ef.alloc hS tI_ok rfl rfl ((carr 10 (carr 10 (ci .i64))).enc (Arr.mk' (Arr.mk' 0 : Arr 10 Int) : Arr 10 (Arr 10 Int))) (by kernel_rfl)) ?_
    rintro _ w1 ⟨b8, rfl, hS⟩
    refine OJ.es rfl rfl (Es.put tI_ok hS (i := 2) rfl rfl rfl rfl rfl (vs := (carr 10 (carr 10 (ci .i64))).enc t4.1) rfl ((carr 10 (carr 10 (ci .i64))).len _) ((carr 10 (carr 10 (ci .i64))).one _) (Put.all (carr 10 (carr 10 (ci .i64))) (Arr.mk' (Arr.mk' 0 : Arr 10 Int) : Arr 10 (Arr 10 Int)) t4.1) (by (try simp only [add_lit, Nat.add_assoc, Nat.zero_add, Nat.add_zero]) <;> rfl)) ?_
    intro w1 hS
    refine OJ.pures tU_ok 1 rfl ?_
    refine OJ.nil (EJ.next ?_)
    refine CJ.seq ?_
    refine CJ.region ?_
    refine OJ.pures tU_ok 3 rfl ?_
    refine OJ.nil (EJ.next ?_)
    refine CJ.ret (?_)
    obtain rfl := Option.some.inj H
    exact EJ.fin rfl (.tmp rfl (.tmp rfl .nil)) ⟨A5, c6, D7, rfl, hS.pick [1] [] rfl⟩

def spec_SameMeadows.l1 (a0 : List Meadow) (a1 : List Meadow) : Nat → Int → Option (Bool ⊕ Unit)
  | 0, _ => none
  | k + 1, y1 => if y1 < (a0.length : Int) then ((getI a0 y1).bind fun t2 => (getI a1 y1).bind fun t3 => if t2 ≠ t3 then (some (Sum.inl false)) else (spec_SameMeadows.l1 a0 a1 k (IntKind.i64.wrap (y1 + 1)))) else (some (Sum.inr ()))
def spec_SameMeadows.f (k : Nat) (a0 : List Meadow) (a1 : List Meadow) : Option Bool := if (a0.length : Int) ≠ (a1.length : Int) then (some false) else ((spec_SameMeadows.l1 a0 a1 k 0).bind fun s291 => match s291 with | .inl r => some r | .inr _ => some true)
theorem spec_SameMeadows.c (k : Nat) (w : World) (Aa0 : Option Addr) (ca0 : Nat) (a0 : List Meadow) (hr0 : Rd cMeadow w Aa0 a0) (hc0 : a0.length ≤ ca0) (Aa1 : Option Addr) (ca1 : Nat) (a1 : List Meadow) (hr1 : Rd cMeadow w Aa1 a1) (hc1 : a1.length ≤ ca1) (r : Bool) (H : spec_SameMeadows.f k a0 a1 = some r) :
    CV Tryz.prog 21 [.slice Aa0 a0.length ca0, .slice Aa1 a1.length ca1].toArray w fun v w' => v = .bool r ∧ Ext w w' := by
  have hS := (((St.init w no).param cMeadow Aa0 ca0 a0 hr0 hc0).param cMeadow Aa1 ca1 a1 hr1 hc1)
  unfold spec_SameMeadows.f at H
  refine CV.body Tryz.func21 rfl Tryz.ntmps21 rfl ?_
  refine CJ.seq ?_
  refine CJ.region ?_
  refine OJ.pures tU_ok 1 rfl ?_
  refine OJ.nil (EJ.next ?_)
  refine CJ.seq ?_
  refine CJ.seq ?_
  refine CJ.region ?_
  refine OJ.pures tU_ok 5 rfl ?_
  refine OJ.nil (EJ.next ?_)
  refine CJ.cond rfl (fun hb => ?_) (fun hb => ?_)
  · replace H := pif_t (of_decide_eq_true hb) H
    refine CJ.seq ?_
    refine CJ.region ?_
    refine OJ.pures tU_ok 1 rfl ?_
    refine OJ.nil (EJ.next ?_)
    refine CJ.ret (EJ.skR (?_))
    obtain rfl := Option.some.inj H
    exact EJ.fin rfl (.tmp rfl .nil) ⟨rfl, hS.ext⟩
  · replace H := pif_f (of_decide_eq_false hb) H
    refine CJ.skip (EJ.next ?_)
    refine CJ.seq ?_
    refine CJ.seq ?_
    refine CJ.region ?_
    refine OJ.pures tU_ok 1 rfl ?_
    refine OJ.nil (EJ.next ?_)
    obtain ⟨j291, H, K291⟩ := pbind H
    refine CJ.cut1 (fun F w1 => (some (Sum.inr ()) : Option (Bool ⊕ Unit)) = some j291 ∧ F = [] ∧ St w no w1 [] [roC cMeadow Aa0 ca0 a0, roC cMeadow Aa1 ca1 a1]) ?_ ?_
    · skip
      refine CJ.block ?_
      refine CJ.loop (fun k F w1 => ∃ (y1 : Int), F = [(0, .slice Aa0 a0.length ca0), (1, .slice Aa1 a1.length ca1), (5, .int .i64 y1)] ∧ St w no w1 [] [roC cMeadow Aa0 ca0 a0, roC cMeadow Aa1 ca1 a1] ∧ spec_SameMeadows.l1 a0 a1 k y1 = some j291) k (F' := [(0, .slice Aa0 a0.length ca0), (1, .slice Aa1 a1.length ca1), (5, .int .i64 0)]) ⟨rfl, rfl, rfl, trivial⟩ ⟨0, rfl, hS.pick [] [0, 1] rfl, H⟩ ?_
      rintro k F w1 ⟨y1, rfl, hS, H⟩
      cases k with
      | zero => rw [spec_SameMeadows.l1] at H; cases H
      | succ k =>
        rw [spec_SameMeadows.l1] at H
        refine CJ.seq ?_
        refine CJ.seq ?_
        refine CJ.region ?_
        refine OJ.pures tU_ok 4 rfl ?_
        refine OJ.nil (EJ.next ?_)
        refine CJ.cond rfl (fun hb => ?_) (fun hb => ?_)
        · replace H := pif_t (of_decide_eq_true hb) H
          refine CJ.skip (EJ.next ?_)
          refine CJ.seq ?_
          refine CJ.block ?_
          refine CJ.seq ?_
          refine CJ.draw [] [0, 1, 2, 3, 4, 5, 6, 7, 8] mixed (by kernel_rfl) hS fun w1 hS => ?_
          refine DJ.pures tU_ok 2 rfl ?_
          obtain ⟨t2, ht2, H⟩ := pbind H
          obtain ⟨ad2, e2⟩ := (hS.rd' (i := 0) rfl).some' ht2
          refine DJ.st rfl rfl rfl rfl rfl (SR.idxS tU_ok tI_ok rfl rfl rfl rfl e2 rfl (getI_some ht2).1) ?_
          refine DJ.st rfl rfl rfl rfl rfl (SR.load rfl rfl (fun w' hx => ldE tU_ok tI_ok rfl rfl rfl (CA.ext ((hS.rd' (i := 0) rfl).at_ e2 ht2) hx) rfl)) ?_
          refine DJ.pures tU_ok 2 rfl ?_
          obtain ⟨t3, ht3, H⟩ := pbind H
          obtain ⟨ad3, e3⟩ := (hS.rd' (i := 1) rfl).some' ht3
          refine DJ.st rfl rfl rfl rfl rfl (SR.idxS tU_ok tI_ok rfl rfl rfl rfl e3 rfl (getI_some ht3).1) ?_
          refine DJ.st rfl rfl rfl rfl rfl (SR.load rfl rfl (fun w' hx => ldE tU_ok tI_ok rfl rfl rfl (CA.ext ((hS.rd' (i := 1) rfl).at_ e3 ht3) hx) rfl)) ?_
          refine DJ.st rfl rfl rfl rfl rfl (SR.neS eqT57 eqG57 rfl rfl rfl (rfl : _ = (cMeadow.enc t2).toArray) (rfl : _ = (cMeadow.enc t3).toArray)) ?_
          refine DJ.nil (EJ.next ?_)
          refine CJ.cond rfl (fun hb => ?_) (fun hb => ?_)
          · replace H := pif_t (of_decide_eq_true hb) H
            refine CJ.seq ?_
            refine CJ.region ?_
            refine OJ.pures tU_ok 1 rfl ?_
            refine OJ.nil (EJ.next ?_)
            refine CJ.ret (EJ.bkR (EJ.skR (EJ.skR (EJ.bkR (EJ.skR (EJ.skR (?_)))))))
            first | (obtain rfl := Option.some.inj H; have H := K291) | (obtain ⟨q291, H2, e291⟩ := pbind H; obtain rfl := Option.some.inj e291; obtain rfl := Option.some.inj K291; have H := H2)
            obtain rfl := Option.some.inj H
            exact EJ.fin rfl (.tmp rfl .nil) ⟨rfl, hS.ext⟩
          · replace H := pif_f (of_decide_eq_false hb) H
            refine CJ.skip (EJ.blk (EJ.next ?_))
            refine CJ.region ?_
            refine OJ.pures tU_ok 3 rfl ?_
            refine OJ.nil ?_
            exact EJ.round k (F' := [(0, .slice Aa0 a0.length ca0), (1, .slice Aa1 a1.length ca1), (5, .int .i64 (IntKind.i64.wrap (y1 + 1)))]) ⟨rfl, rfl, rfl, trivial⟩ (Nat.lt_succ_self _) ⟨(IntKind.i64.wrap (y1 + 1)), rfl, hS.pick [] [0, 1] rfl, H⟩
        · replace H := pif_f (of_decide_eq_false hb) H
          refine CJ.exit (EJ.skE (EJ.skE (EJ.hit (?_))))
          exact EJ.meet (F' := []) trivial ⟨H, rfl, hS.pick [] [0, 1] rfl⟩
    · rintro F w1 ⟨he, rfl, hS⟩
      obtain rfl := Option.some.inj he
      have H := K291
      refine EJ.next ?_
      refine CJ.seq ?_
      refine CJ.region ?_
      refine OJ.pures tU_ok 1 rfl ?_
      refine OJ.nil (EJ.next ?_)
      refine CJ.ret (?_)
      obtain rfl := Option.some.inj H
      exact EJ.fin rfl (.tmp rfl .nil) ⟨rfl, hS.ext⟩

def impl_GrassIn.f (k : Nat) (a0 : Pasture) : Option (Int × Int) := (impl_ValidPasture.f k a0).bind fun t2 => if (!t2) = true then (some (0, 1)) else ((impl_Pasture_all.f k a0).bind fun t3 => (impl_Pasture_sumOf.f k a0 t3).bind fun t6 => some (t6, 0))
theorem impl_GrassIn.c (k : Nat) (w : World) (a0 : Pasture) (r : Int × Int) (H : impl_GrassIn.f k a0 = some r) :
    CV Tryz.prog 22 [.agg (cPasture.enc a0).toArray].toArray w fun v w' => v = .tuple #[.int .i64 r.1, .int .i64 r.2] ∧ Ext w w' := by
  have hS := (St.init w no)
  unfold impl_GrassIn.f at H
  refine CV.body Tryz.func22 rfl Tryz.ntmps22 rfl ?_
  refine CJ.seq ?_
  refine CJ.region ?_
  refine OJ.ef rfl rfl rfl (Ef.box hS rfl rfl (cPasture.enc a0) rfl) ?_
  rintro _ w1 ⟨b1, rfl, hS⟩
  refine OJ.pures tU_ok 2 rfl ?_
  refine OJ.nil (EJ.next ?_)
  refine CJ.seq ?_
  refine CJ.seq ?_
  refine CJ.region ?_
  refine OJ.st rfl rfl rfl (SR.load rfl rfl (fun w' hx => ldE tU_ok tI_ok rfl rfl rfl (CA.ext (hS.cells (i := 0) rfl) hx) rfl)) ?_
  obtain ⟨t2, ht2, H⟩ := pbind H
  refine OJ.callF rfl rfl rfl rfl rfl hb45 rfl (impl_ValidPasture.c k _ a0 _ ht2) ?_
  rintro _ w1 ⟨rfl, hs⟩
  replace hS := hS.grow hs
  refine OJ.pures tU_ok 1 rfl ?_
  refine OJ.nil (EJ.next ?_)
  refine CJ.cond rfl (fun hb => ?_) (fun hb => ?_)
  · replace H := pif_t hb H
    refine CJ.seq ?_
    refine CJ.region ?_
    refine OJ.pures tU_ok 2 rfl ?_
    refine OJ.nil (EJ.next ?_)
    refine CJ.ret (EJ.skR (?_))
    obtain rfl := Option.some.inj H
    exact EJ.fin rfl (.tmp rfl (.tmp rfl .nil)) ⟨rfl, hS.ext⟩
  · replace H := pifb_f hb H
    refine CJ.skip (EJ.next ?_)
    refine CJ.seq ?_
    refine CJ.draw [] [0, 1, 2, 3, 4, 5] mixed (by kernel_rfl) hS fun w1 hS => ?_
    refine DJ.st rfl rfl rfl rfl rfl (SR.load rfl rfl (fun w' hx => ldE tU_ok tI_ok rfl rfl rfl (CA.ext (hS.cells (i := 0) rfl) hx) rfl)) ?_
    refine DJ.st rfl rfl rfl rfl rfl (SR.load rfl rfl (fun w' hx => ldE tU_ok tI_ok rfl rfl rfl (CA.ext (hS.cells (i := 0) rfl) hx) rfl)) ?_
    obtain ⟨t3, ht3, H⟩ := pbind H
    refine DJ.callF rfl rfl rfl rfl rfl rfl rfl hb59 rfl (impl_Pasture_all.c k _ a0 _ ht3) (by rintro v w' ⟨A4, c5, rfl, hs⟩; exact hs.ext) ?_
    rintro _ w1 ⟨A4, c5, rfl, hs⟩
    replace hS := hS.addN hs
    obtain ⟨t6, ht6, H⟩ := pbind H
    refine DJ.callF rfl rfl rfl rfl rfl rfl rfl hb52 rfl (impl_Pasture_sumOf.c k _ a0 A4 c5 t3 (hS.rd (i := 1) rfl) (hS.le (i := 1) rfl) _ ht6) (by rintro v w' ⟨rfl, hs⟩; exact hs) ?_
    rintro _ w1 ⟨rfl, hs⟩
    replace hS := hS.grow hs
    refine DJ.pures tU_ok 2 rfl ?_
    refine DJ.nil (EJ.next ?_)
    refine CJ.ret (?_)
    obtain rfl := Option.some.inj H
    exact EJ.fin rfl (.tmp rfl (.tmp rfl .nil)) ⟨rfl, hS.ext⟩

def impl_size_impl_Meadow.f (a0 : List Meadow) : Option Int := some (a0.length : Int)
theorem impl_size_impl_Meadow.c (w : World) (Aa0 : Option Addr) (ca0 : Nat) (a0 : List Meadow) (hr0 : Rd cMeadow w Aa0 a0) (hc0 : a0.length ≤ ca0) (r : Int) (H : impl_size_impl_Meadow.f a0 = some r) :
    CV Tryz.prog 60 [.slice Aa0 a0.length ca0].toArray w fun v w' => v = .int .i64 r ∧ Ext w w' := by
  have hS := ((St.init w no).param cMeadow Aa0 ca0 a0 hr0 hc0)
  unfold impl_size_impl_Meadow.f at H
  refine CV.body Tryz.func60 rfl Tryz.ntmps60 rfl ?_
  refine CJ.seq ?_
  refine CJ.region ?_
  refine OJ.pures tU_ok 1 rfl ?_
  refine OJ.nil (EJ.next ?_)
  refine CJ.seq ?_
  refine CJ.region ?_
  refine OJ.pures tU_ok 3 rfl ?_
  refine OJ.nil (EJ.next ?_)
  refine CJ.ret (?_)
  obtain rfl := Option.some.inj H
  exact EJ.fin rfl (.tmp rfl .nil) ⟨rfl, hS.ext⟩

def slices_IndexFunc_impl_Meadow_impl_Meadow.l1 (a0 : List Meadow) (a1 : Meadow → Option Bool) : Nat → Int → Option (Int ⊕ Unit)
  | 0, _ => none
  | k + 1, y1 => if y1 < (a0.length : Int) then ((getI a0 y1).bind fun t2 => (a1 t2).bind fun t3 => if t3 = true then (some (Sum.inl y1)) else (slices_IndexFunc_impl_Meadow_impl_Meadow.l1 a0 a1 k (IntKind.i64.wrap (y1 + 1)))) else (some (Sum.inr ()))
def slices_IndexFunc_impl_Meadow_impl_Meadow.f (k : Nat) (a0 : List Meadow) (a1 : Meadow → Option Bool) : Option Int := (slices_IndexFunc_impl_Meadow_impl_Meadow.l1 a0 a1 k 0).bind fun s293 => match s293 with | .inl r => some r | .inr _ => some (-1)
theorem slices_IndexFunc_impl_Meadow_impl_Meadow.c (k : Nat) (w : World) (Aa0 : Option Addr) (ca0 : Nat) (a0 : List Meadow) (hr0 : Rd cMeadow w Aa0 a0) (hc0 : a0.length ≤ ca0) (na1 : Nat) (fsa1 capa1 : Array Value) (hb1 : hasBody Tryz.prog na1) (a1 : Meadow → Option Bool) (hf1 : ∀ (z0 : Meadow) (r : Bool), a1 z0 = some r → ∀ w', Chg no w w' → CV Tryz.prog na1 (fsa1 ++ [.agg (cMeadow.enc z0).toArray].toArray ++ capa1) w' fun v w'' => v = .bool r ∧ Ext w' w'') (r : Int) (H : slices_IndexFunc_impl_Meadow_impl_Meadow.f k a0 a1 = some r) :
    CV Tryz.prog 100 [.slice Aa0 a0.length ca0, .func (.func na1) fsa1 capa1].toArray w fun v w' => v = .int .i64 r ∧ Ext w w' := by
  have hS := ((St.init w no).param cMeadow Aa0 ca0 a0 hr0 hc0)
  unfold slices_IndexFunc_impl_Meadow_impl_Meadow.f at H
  refine CV.body Tryz.func100 rfl Tryz.ntmps100 rfl ?_
  refine CJ.seq ?_
  refine CJ.region ?_
  refine OJ.pures tU_ok 1 rfl ?_
  refine OJ.nil (EJ.next ?_)
  refine CJ.seq ?_
  refine CJ.seq ?_
  refine CJ.region ?_
  refine OJ.pures tU_ok 3 rfl ?_
  refine OJ.nil (EJ.next ?_)
  obtain ⟨j293, H, K293⟩ := pbind H
  refine CJ.cut1 (fun F w1 => (some (Sum.inr ()) : Option (Int ⊕ Unit)) = some j293 ∧ F = [] ∧ St w no w1 [] [roC cMeadow Aa0 ca0 a0]) ?_ ?_
  · skip
    refine CJ.block ?_
    refine CJ.loop (fun k F w1 => ∃ (y1 : Int), F = [(0, .slice Aa0 a0.length ca0), (1, .func (.func na1) fsa1 capa1), (7, .int .i64 (a0.length : Int)), (8, .int .i64 y1)] ∧ St w no w1 [] [roC cMeadow Aa0 ca0 a0] ∧ slices_IndexFunc_impl_Meadow_impl_Meadow.l1 a0 a1 k y1 = some j293) k (F' := [(0, .slice Aa0 a0.length ca0), (1, .func (.func na1) fsa1 capa1), (7, .int .i64 (a0.length : Int)), (8, .int .i64 0)]) ⟨rfl, rfl, rfl, rfl, trivial⟩ ⟨0, rfl, hS.pick [] [0] rfl, H⟩ ?_
    rintro k F w1 ⟨y1, rfl, hS, H⟩
    cases k with
    | zero => rw [slices_IndexFunc_impl_Meadow_impl_Meadow.l1] at H; cases H
    | succ k =>
      rw [slices_IndexFunc_impl_Meadow_impl_Meadow.l1] at H
      refine CJ.seq ?_
      refine CJ.region ?_
      refine OJ.pures tU_ok 1 rfl ?_
      refine OJ.nil (EJ.next ?_)
      refine CJ.seq ?_
      refine CJ.cond rfl (fun hb => ?_) (fun hb => ?_)
      · replace H := pif_t (of_decide_eq_true hb) H
        refine CJ.skip (EJ.next ?_)
        refine CJ.seq ?_
        refine CJ.block ?_
        refine CJ.seq ?_
        refine CJ.region ?_
        refine OJ.pures tU_ok 2 rfl ?_
        refine OJ.nil (EJ.next ?_)
        refine CJ.seq ?_
        refine CJ.region ?_
        refine OJ.pures tU_ok 3 rfl ?_
        obtain ⟨t2, ht2, H⟩ := pbind H
        obtain ⟨ad2, e2⟩ := (hS.rd' (i := 0) rfl).some' ht2
        refine OJ.st rfl rfl rfl (SR.idxS tU_ok tI_ok rfl rfl rfl rfl e2 rfl (getI_some ht2).1) ?_
        refine OJ.st rfl rfl rfl (SR.load rfl rfl (fun w' hx => ldE tU_ok tI_ok rfl rfl rfl (CA.ext ((hS.rd' (i := 0) rfl).at_ e2 ht2) hx) rfl)) ?_
        obtain ⟨t3, ht3, H⟩ := pbind H
        refine OJ.call rfl rfl (Nat.le_of_ble_eq_true rfl) rfl rfl rfl hb1 rfl (hf1 t2 _ ht3 _ hS.chg) ?_
        rintro _ w1 ⟨rfl, hs⟩
        replace hS := hS.grow hs
        refine OJ.nil (EJ.next ?_)
        refine CJ.cond rfl (fun hb => ?_) (fun hb => ?_)
        · replace H := pif_t hb H
          refine CJ.seq ?_
          refine CJ.region ?_
          refine OJ.pures tU_ok 2 rfl ?_
          refine OJ.nil (EJ.next ?_)
          refine CJ.ret (EJ.bkR (EJ.skR (EJ.skR (EJ.bkR (EJ.skR (EJ.skR (?_)))))))
          first | (obtain rfl := Option.some.inj H; have H := K293) | (obtain ⟨q293, H2, e293⟩ := pbind H; obtain rfl := Option.some.inj e293; obtain rfl := Option.some.inj K293; have H := H2)
          obtain rfl := Option.some.inj H
          exact EJ.fin rfl (.tmp rfl .nil) ⟨rfl, hS.ext⟩
        · replace H := pifb_f hb H
          refine CJ.skip (EJ.blk (EJ.next ?_))
          refine CJ.region ?_
          refine OJ.pures tU_ok 2 rfl ?_
          refine OJ.nil ?_
          exact EJ.round k (F' := [(0, .slice Aa0 a0.length ca0), (1, .func (.func na1) fsa1 capa1), (7, .int .i64 (a0.length : Int)), (8, .int .i64 (IntKind.i64.wrap (y1 + 1)))]) ⟨rfl, rfl, rfl, rfl, trivial⟩ (Nat.lt_succ_self _) ⟨(IntKind.i64.wrap (y1 + 1)), rfl, hS.pick [] [0] rfl, H⟩
      · replace H := pif_f (of_decide_eq_false hb) H
        refine CJ.exit (EJ.skE (EJ.skE (EJ.hit (?_))))
        exact EJ.meet (F' := []) trivial ⟨H, rfl, hS.pick [] [0] rfl⟩
  · rintro F w1 ⟨he, rfl, hS⟩
    obtain rfl := Option.some.inj he
    have H := K293
    refine EJ.next ?_
    refine CJ.seq ?_
    refine CJ.region ?_
    refine OJ.pures tU_ok 1 rfl ?_
    refine OJ.nil (EJ.next ?_)
    refine CJ.ret (?_)
    obtain rfl := Option.some.inj H
    exact EJ.fin rfl (.tmp rfl .nil) ⟨rfl, hS.ext⟩

def slices_ContainsFunc_impl_Meadow_impl_Meadow.f (k : Nat) (a0 : List Meadow) (a1 : Meadow → Option Bool) : Option Bool := (slices_IndexFunc_impl_Meadow_impl_Meadow.f k a0 a1).bind fun t1 => some (decide (0 ≤ t1))
theorem slices_ContainsFunc_impl_Meadow_impl_Meadow.c (k : Nat) (w : World) (Aa0 : Option Addr) (ca0 : Nat) (a0 : List Meadow) (hr0 : Rd cMeadow w Aa0 a0) (hc0 : a0.length ≤ ca0) (na1 : Nat) (fsa1 capa1 : Array Value) (hb1 : hasBody Tryz.prog na1) (a1 : Meadow → Option Bool) (hf1 : ∀ (z0 : Meadow) (r : Bool), a1 z0 = some r → ∀ w', Chg no w w' → CV Tryz.prog na1 (fsa1 ++ [.agg (cMeadow.enc z0).toArray].toArray ++ capa1) w' fun v w'' => v = .bool r ∧ Ext w' w'') (r : Bool) (H : slices_ContainsFunc_impl_Meadow_impl_Meadow.f k a0 a1 = some r) :
    CV Tryz.prog 61 [.slice Aa0 a0.length ca0, .func (.func na1) fsa1 capa1].toArray w fun v w' => v = .bool r ∧ Ext w w' := by
  have hS := ((St.init w no).param cMeadow Aa0 ca0 a0 hr0 hc0)
  unfold slices_ContainsFunc_impl_Meadow_impl_Meadow.f at H
  refine CV.body Tryz.func61 rfl Tryz.ntmps61 rfl ?_
  refine CJ.seq ?_
  refine CJ.region ?_
  refine OJ.pures tU_ok 1 rfl ?_
  refine OJ.nil (EJ.next ?_)
  refine CJ.seq ?_
  refine CJ.region ?_
  refine OJ.pures tU_ok 2 rfl ?_
  obtain ⟨t1, ht1, H⟩ := pbind H
  refine OJ.callF rfl rfl rfl rfl rfl hb100 rfl (slices_IndexFunc_impl_Meadow_impl_Meadow.c k _ Aa0 ca0 a0 (hS.rd' (i := 0) rfl) (hS.le' (i := 0) rfl) na1 fsa1 capa1 hb1 a1 (fun z0 r h w' hx => hf1 z0 r h w' (hS.chg.then hx (fun _ _ e => e.elim))) _ ht1) ?_
  rintro _ w1 ⟨rfl, hs⟩
  replace hS := hS.grow hs
  refine OJ.pures tU_ok 2 rfl ?_
  refine OJ.nil (EJ.next ?_)
  refine CJ.ret (?_)
  obtain rfl := Option.some.inj H
  exact EJ.fin rfl (.tmp rfl .nil) ⟨rfl, hS.ext⟩

def impl_ValidMeadows_1.f (a0 : Meadow) : Option Bool := (impl_within.f (IntKind.i64.wrap a0.Most) 0 1000).bind fun t2 => if (!t2) = true then (some true) else ((impl_within.f (IntKind.i64.wrap a0.Grass) 0 (IntKind.i64.wrap a0.Most)).bind fun t3 => if (!t3) = true then (some true) else ((impl_within.f (IntKind.i64.wrap a0.Grows) 0 (IntKind.i64.wrap a0.Most)).bind fun t4 => some (!t4)))
theorem impl_ValidMeadows_1.c (w : World) (a0 : Meadow) (r : Bool) (H : impl_ValidMeadows_1.f a0 = some r) :
    CV Tryz.prog 62 [.agg (cMeadow.enc a0).toArray].toArray w fun v w' => v = .bool r ∧ Ext w w' := by
  have hS := (St.init w no)
  unfold impl_ValidMeadows_1.f at H
  refine CV.body Tryz.func62 rfl Tryz.ntmps62 rfl ?_
  refine CJ.seq ?_
  refine CJ.region ?_
  refine OJ.ef rfl rfl rfl (Ef.box hS rfl rfl (cMeadow.enc a0) rfl) ?_
  rintro _ w1 ⟨b1, rfl, hS⟩
  refine OJ.pures tU_ok 1 rfl ?_
  refine OJ.nil (EJ.next ?_)
  refine CJ.seq ?_
  refine CJ.region ?_
  refine OJ.st rfl rfl rfl (SR.fieldAddr tU_ok tI_ok rfl rfl rfl rfl rfl rfl) ?_
  refine OJ.st rfl rfl rfl (SR.load rfl rfl (fun w' hx => ld1 tU_ok rfl rfl (CA.ext (CA.sub (hS.cells (i := 0) rfl) 2) hx) rfl)) ?_
  refine OJ.pures tU_ok 1 rfl ?_
  obtain ⟨t2, ht2, H⟩ := pbind H
  refine OJ.callF rfl rfl rfl rfl rfl hb50 rfl (impl_within.c _ (IntKind.i64.wrap a0.Most) 0 1000 _ ht2) ?_
  rintro _ w1 ⟨rfl, hs⟩
  replace hS := hS.grow hs
  refine OJ.pures tU_ok 2 rfl ?_
  refine OJ.split (t := 8) rfl (fun hb => ?_) (fun hb => ?_)
  · replace H := pif_t hb H
    refine OJ.pures tU_ok 20 rfl ?_
    refine OJ.nil (EJ.next ?_)
    refine CJ.ret (?_)
    obtain rfl := Option.some.inj H
    exact EJ.fin rfl (.tmp rfl .nil) ⟨rfl, hS.ext⟩
  · replace H := pifb_f hb H
    refine OJ.st rfl rfl rfl (SR.fieldAddr tU_ok tI_ok rfl rfl rfl rfl rfl rfl) ?_
    refine OJ.st rfl rfl rfl (SR.load rfl rfl (fun w' hx => ld1 tU_ok rfl rfl (CA.ext (CA.sub (hS.cells (i := 0) rfl) 0) hx) rfl)) ?_
    refine OJ.pures tU_ok 1 rfl ?_
    refine OJ.st rfl rfl rfl (SR.fieldAddr tU_ok tI_ok rfl rfl rfl rfl rfl rfl) ?_
    refine OJ.st rfl rfl rfl (SR.load rfl rfl (fun w' hx => ld1 tU_ok rfl rfl (CA.ext (CA.sub (hS.cells (i := 0) rfl) 2) hx) rfl)) ?_
    refine OJ.pures tU_ok 1 rfl ?_
    obtain ⟨t3, ht3, H⟩ := pbind H
    refine OJ.callF rfl rfl rfl rfl rfl hb50 rfl (impl_within.c _ (IntKind.i64.wrap a0.Grass) 0 (IntKind.i64.wrap a0.Most) _ ht3) ?_
    rintro _ w1 ⟨rfl, hs⟩
    replace hS := hS.grow hs
    refine OJ.pures tU_ok 3 rfl ?_
    refine OJ.split (t := 18) rfl (fun hb => ?_) (fun hb => ?_)
    · replace H := pif_t hb H
      refine OJ.pures tU_ok 10 rfl ?_
      refine OJ.nil (EJ.next ?_)
      refine CJ.ret (?_)
      obtain rfl := Option.some.inj H
      exact EJ.fin rfl (.tmp rfl .nil) ⟨rfl, hS.ext⟩
    · replace H := pifb_f hb H
      refine OJ.st rfl rfl rfl (SR.fieldAddr tU_ok tI_ok rfl rfl rfl rfl rfl rfl) ?_
      refine OJ.st rfl rfl rfl (SR.load rfl rfl (fun w' hx => ld1 tU_ok rfl rfl (CA.ext (CA.sub (hS.cells (i := 0) rfl) 1) hx) rfl)) ?_
      refine OJ.pures tU_ok 1 rfl ?_
      refine OJ.st rfl rfl rfl (SR.fieldAddr tU_ok tI_ok rfl rfl rfl rfl rfl rfl) ?_
      refine OJ.st rfl rfl rfl (SR.load rfl rfl (fun w' hx => ld1 tU_ok rfl rfl (CA.ext (CA.sub (hS.cells (i := 0) rfl) 2) hx) rfl)) ?_
      refine OJ.pures tU_ok 1 rfl ?_
      obtain ⟨t4, ht4, H⟩ := pbind H
      refine OJ.callF rfl rfl rfl rfl rfl hb50 rfl (impl_within.c _ (IntKind.i64.wrap a0.Grows) 0 (IntKind.i64.wrap a0.Most) _ ht4) ?_
      rintro _ w1 ⟨rfl, hs⟩
      replace hS := hS.grow hs
      refine OJ.pures tU_ok 3 rfl ?_
      refine OJ.nil (EJ.next ?_)
      refine CJ.ret (?_)
      obtain rfl := Option.some.inj H
      exact EJ.fin rfl (.tmp rfl .nil) ⟨rfl, hS.ext⟩

def impl_ValidMeadows.f (k : Nat) (a0 : List Meadow) : Option Bool := (impl_size_impl_Meadow.f a0).bind fun t1 => (impl_within.f t1 1 6).bind fun t2 => if t2 = true then ((slices_ContainsFunc_impl_Meadow_impl_Meadow.f k a0 impl_ValidMeadows_1.f).bind fun t3 => some (!t3)) else (some false)
theorem impl_ValidMeadows.c (k : Nat) (w : World) (Aa0 : Option Addr) (ca0 : Nat) (a0 : List Meadow) (hr0 : Rd cMeadow w Aa0 a0) (hc0 : a0.length ≤ ca0) (r : Bool) (H : impl_ValidMeadows.f k a0 = some r) :
    CV Tryz.prog 23 [.slice Aa0 a0.length ca0].toArray w fun v w' => v = .bool r ∧ Ext w w' := by
  have hS := ((St.init w no).param cMeadow Aa0 ca0 a0 hr0 hc0)
  unfold impl_ValidMeadows.f at H
  refine CV.body Tryz.func23 rfl Tryz.ntmps23 rfl ?_
  refine CJ.seq ?_
  refine CJ.region ?_
  refine OJ.pures tU_ok 1 rfl ?_
  refine OJ.nil (EJ.next ?_)
  refine CJ.seq ?_
  refine CJ.region ?_
  refine OJ.pures tU_ok 1 rfl ?_
  obtain ⟨t1, ht1, H⟩ := pbind H
  refine OJ.callF rfl rfl rfl rfl rfl hb60 rfl (impl_size_impl_Meadow.c _ Aa0 ca0 a0 (hS.rd' (i := 0) rfl) (hS.le' (i := 0) rfl) _ ht1) ?_
  rintro _ w1 ⟨rfl, hs⟩
  replace hS := hS.grow hs
  obtain ⟨t2, ht2, H⟩ := pbind H
  refine OJ.callF rfl rfl rfl rfl rfl hb50 rfl (impl_within.c _ t1 1 6 _ ht2) ?_
  rintro _ w1 ⟨rfl, hs⟩
  replace hS := hS.grow hs
  refine OJ.pures tU_ok 1 rfl ?_
  refine OJ.split (t := 6) rfl (fun hb => ?_) (fun hb => ?_)
  · replace H := pif_t hb H
    refine OJ.pures tU_ok 1 rfl ?_
    obtain ⟨t3, ht3, H⟩ := pbind H
    refine OJ.callF rfl rfl rfl rfl rfl hb61 rfl (slices_ContainsFunc_impl_Meadow_impl_Meadow.c k _ Aa0 ca0 a0 (hS.rd' (i := 0) rfl) (hS.le' (i := 0) rfl) 62 #[] #[] hb62 impl_ValidMeadows_1.f (fun z0 r h w' hx => CV.cast (impl_ValidMeadows_1.c w'   z0 r h) (by simp)) _ ht3) ?_
    rintro _ w1 ⟨rfl, hs⟩
    replace hS := hS.grow hs
    refine OJ.pures tU_ok 3 rfl ?_
    refine OJ.nil (EJ.next ?_)
    refine CJ.ret (?_)
    obtain rfl := Option.some.inj H
    exact EJ.fin rfl (.tmp rfl .nil) ⟨rfl, hS.ext⟩
  · replace H := pifb_f hb H
    refine OJ.pures tU_ok 5 rfl ?_
    refine OJ.nil (EJ.next ?_)
    refine CJ.ret (?_)
    obtain rfl := Option.some.inj H
    exact EJ.fin rfl (.tmp rfl .nil) ⟨rfl, hS.ext⟩

def laws_FnSights.l1 (t4 : Pasture) (t6 : List Sight) (t9 : Int) (t20 : List Hurdle × Int) : Nat → Int → Option (Bool ⊕ Unit)
  | 0, _ => none
  | k + 1, y27 => if y27 < (t20.1.length : Int) then ((chk ((0 : Int) ≤ y27 ∧ y27 ≤ (IntKind.i64.wrap (y27 + 1)) ∧ (IntKind.i64.wrap (y27 + 1)) ≤ (t20.1.length : Int))).bind fun u28 => (impl_TakeHurdles.f k t4 ((t20.1.drop y27.toNat).take (((IntKind.i64.wrap (y27 + 1)).toNat) - y27.toNat))).bind fun t29 => (impl_FirstStrange.f k t29.1 t6 t9).bind fun t33 => if t29.2 ≠ 0 then (some (Sum.inl false)) else (if t33.2 ≠ 6 then (some (Sum.inl false)) else (laws_FnSights.l1 t4 t6 t9 t20 k (IntKind.i64.wrap (y27 + 1))))) else (some (Sum.inr ()))
def laws_FnSights.l2 (t41 : List Meadow × Int) : Nat → Int → Int → Int → Option (Int × Int)
  | 0, _, _, _ => none
  | k + 1, y52, y53, y54 => if y54 < (t41.1.length : Int) then ((getI t41.1 y54).bind fun t55 => (getI t41.1 y54).bind fun t56 => laws_FnSights.l2 t41 k (IntKind.i64.wrap (y52 + (IntKind.i64.wrap t55.Grass))) (IntKind.i64.wrap (y53 + (IntKind.i64.wrap t56.Grows))) (IntKind.i64.wrap (y54 + 1))) else (some (y52, y53))
def laws_FnSights.f (k : Nat) (a0 : List Int) (a1 : List Int) : Option Bool := ((laws_f6big.f a0).bind fun t2 => if t2 = true then (some true) else ((laws_f6big.f a1).bind fun t3 => some t3)).bind fun y1 => if y1 = true then (some true) else ((spec_P6Pasture.f k a0).bind fun t4 => (spec_P6Sights.f k a1 t4).bind fun t6 => (spec_P6Pick.f a0 5).bind fun t9 => (impl_SightsText.f k t6).bind fun t10 => (impl_ReadSights.f k t10).bind fun t11 => (impl_FirstStrange.f k t4 t6 t9).bind fun t14 => (spec_FirstStrange.f k t4 t6 t9).bind fun t15 => (impl_FirstStrange.f k t4 t6 (IntKind.i64.wrap (t9 + 1))).bind fun t16 => (impl_ExplainedBy.f k t4 t6 t9).bind fun t17 => (spec_ExplainedBy.f k t4 t6 t9).bind fun t20 => (if t11.2 ≠ 0 then (some true) else ((spec_SameSights.f k t11.1 t6).bind fun t24 => if (!t24) = true then (some true) else ((impl_ValidSights.f k t4 t6).bind fun t25 => if (!t25) = true then (some true) else (if t14.2 ≠ t15.2 then (some true) else (if t14.1 ≠ t15.1 then (some true) else (if t17.2 ≠ t20.2 then (some true) else ((spec_SameFence.f k t17.1 t20.1).bind fun t26 => if (!t26) = true then (some true) else (if (decide (t14.2 = 0)) ≠ (decide (t17.2 = 0)) then (some true) else (if t14.2 = 6 then (if t16.2 ≠ 6 then (some true) else (if t14.2 = 0 then (if t16.2 = 0 then (some (decide (t16.1 < t15.1))) else (some false)) else (some false))) else (if t14.2 = 0 then (if t16.2 = 0 then (some (decide (t16.1 < t15.1))) else (some false)) else (some false))))))))))).bind fun y23 => if y23 = true then (some false) else ((laws_FnSights.l1 t4 t6 t9 t20 k 0).bind fun s197 => match s197 with | .inl r => some r | .inr _ => (if t14.2 = 0 then ((chk ((0 : Int) ≤ 0 ∧ 0 ≤ t15.1 ∧ t15.1 ≤ (t6.length : Int))).bind fun u34 => (impl_FirstStrange.f k t4 ((t6.drop 0).take (t15.1.toNat - 0)) t9).bind fun t35 => (chk ((0 : Int) ≤ 0 ∧ 0 ≤ (IntKind.i64.wrap (t15.1 + 1)) ∧ (IntKind.i64.wrap (t15.1 + 1)) ≤ (t6.length : Int))).bind fun u36 => (impl_FirstStrange.f k t4 ((t6.drop 0).take (((IntKind.i64.wrap (t15.1 + 1)).toNat) - 0)) t9).bind fun t37 => if t35.2 ≠ 6 then (some (Sum.inl false)) else (if t37.2 ≠ 0 then (some (Sum.inl false)) else (some (Sum.inr ())))) else (if t14.2 ≠ 6 then (some (Sum.inl false)) else (some (Sum.inr ())))).bind fun s198 => match s198 with | .inl r => some r | .inr _ => (impl_MeadowsOf.f k t4 2).bind fun t38 => (spec_MeadowsOf.f k t4 2).bind fun t41 => (spec_YardsOf.f k t4).bind fun t44 => (if t38.2 ≠ t41.2 then (some true) else ((spec_SameMeadows.f k t38.1 t41.1).bind fun t49 => if (!t49) = true then (some true) else (if t44.2 ≠ 0 then (some true) else (some (decide ((decide (t38.2 = 0)) ≠ (decide ((t44.1.length : Int) ≤ 6)))))))).bind fun y48 => if y48 = true then (some false) else (if t38.2 ≠ 0 then (some (decide (t38.2 = 3))) else ((laws_FnSights.l2 t41 k 0 0 0).bind fun (y50, y51) => (impl_GrassIn.f k t4).bind fun t57 => if t57.2 = 0 then (if y50 = t57.1 then (if y51 = (IntKind.i64.wrap ((IntKind.i64.wrap (2 * (IntKind.i64.wrap t4.Wide))) * (IntKind.i64.wrap t4.High))) then ((impl_ValidMeadows.f k t41.1).bind fun t58 => some t58) else (some false)) else (some false)) else (some false)))))
theorem laws_FnSights.c (k : Nat) (w : World) (Aa0 : Option Addr) (ca0 : Nat) (a0 : List Int) (hr0 : Rd (ci .u8) w Aa0 a0) (hc0 : a0.length ≤ ca0) (Aa1 : Option Addr) (ca1 : Nat) (a1 : List Int) (hr1 : Rd (ci .u8) w Aa1 a1) (hc1 : a1.length ≤ ca1) (hT : (envC Tryz.prog 0).holds w) (r : Bool) (H : laws_FnSights.f k a0 a1 = some r) :
    CV Tryz.prog 3 [.slice Aa0 a0.length ca0, .slice Aa1 a1.length ca1].toArray w fun v w' => v = .bool r ∧ Ext w w' := by
  have hS := ((((St.init w no).param (ci .u8) Aa0 ca0 a0 hr0 hc0).param (ci .u8) Aa1 ca1 a1 hr1 hc1).paramT (envC Tryz.prog 0) hT)
  unfold laws_FnSights.f at H
  refine CV.body Tryz.func3 rfl Tryz.ntmps3 rfl ?_
  refine CJ.seq ?_
  refine CJ.region ?_
  refine OJ.pures tU_ok 1 rfl ?_
  refine OJ.nil (EJ.next ?_)
  refine CJ.seq ?_
  obtain ⟨j75, H, K75⟩ := pbind H
  refine CJ.cut (fun F w1 => ∃ (y1 : Bool) , (some y1 : Option Bool) = some j75 ∧ F = [(0, .slice Aa0 a0.length ca0), (1, .slice Aa1 a1.length ca1), (45, .bool y1)] ∧ St w no w1 [] [roC (ci .u8) Aa0 ca0 a0, roC (ci .u8) Aa1 ca1 a1, envC Tryz.prog 0]) ?_ ?_
  · skip
    refine CJ.region ?_
    refine OJ.pures tU_ok 1 rfl ?_
    obtain ⟨t2, ht2, H⟩ := pbind H
    refine OJ.callF rfl rfl rfl rfl rfl hb4 rfl (laws_f6big.c _ Aa0 ca0 a0 (hS.rd' (i := 0) rfl) (hS.le' (i := 0) rfl) _ ht2) ?_
    rintro _ w1 ⟨rfl, hs⟩
    replace hS := hS.grow hs
    refine OJ.pures tU_ok 1 rfl ?_
    refine OJ.split (t := 42) rfl (fun hb => ?_) (fun hb => ?_)
    · replace H := pif_t hb H
      refine OJ.pures tU_ok 3 rfl ?_
      refine OJ.nil ?_
      exact EJ.meet (F' := [(0, .slice Aa0 a0.length ca0), (1, .slice Aa1 a1.length ca1), (45, .bool true)]) ⟨rfl, rfl, rfl, trivial⟩ ⟨true, H, rfl, hS.pick [] [0, 1, 2] rfl⟩
    · replace H := pifb_f hb H
      refine OJ.pures tU_ok 1 rfl ?_
      obtain ⟨t3, ht3, H⟩ := pbind H
      refine OJ.callF rfl rfl rfl rfl rfl hb4 rfl (laws_f6big.c _ Aa1 ca1 a1 (hS.rd' (i := 1) rfl) (hS.le' (i := 1) rfl) _ ht3) ?_
      rintro _ w1 ⟨rfl, hs⟩
      replace hS := hS.grow hs
      refine OJ.pures tU_ok 1 rfl ?_
      refine OJ.nil ?_
      exact EJ.meet (F' := [(0, .slice Aa0 a0.length ca0), (1, .slice Aa1 a1.length ca1), (45, .bool t3)]) ⟨rfl, rfl, rfl, trivial⟩ ⟨t3, H, rfl, hS.pick [] [0, 1, 2] rfl⟩
  · rintro F w1 ⟨y1, he, rfl, hS⟩
    obtain rfl := Option.some.inj he
    have H := K75
    refine CJ.cond rfl (fun hb => ?_) (fun hb => ?_)
    · replace H := pif_t hb H
      refine CJ.seq ?_
      refine CJ.region ?_
      refine OJ.pures tU_ok 1 rfl ?_
      refine OJ.nil (EJ.next ?_)
      refine CJ.ret (EJ.skR (?_))
      obtain rfl := Option.some.inj H
      exact EJ.fin rfl (.tmp rfl .nil) ⟨rfl, hS.ext⟩
    · replace H := pifb_f hb H
      refine CJ.skip (EJ.next ?_)
      refine CJ.seq ?_
      refine CJ.region ?_
      refine OJ.pures tU_ok 1 rfl ?_
      obtain ⟨t4, ht4, H⟩ := pbind H
      refine OJ.callF rfl rfl rfl rfl rfl hb5 rfl (spec_P6Pasture.c k _ Aa0 ca0 a0 (hS.rd' (i := 0) rfl) (hS.le' (i := 0) rfl) _ ht4) ?_
      rintro _ w1 ⟨rfl, hs⟩
      replace hS := hS.grow hs
      refine OJ.ef rfl rfl rfl (Ef.alloc hS tI_ok rfl rfl (cPasture.enc (⟨0, 0, (Arr.mk' (Arr.mk' 0 : Arr 10 Int) : Arr 10 (Arr 10 Int)), (Arr.mk' 0 : Arr 10 Int), (Arr.mk' 0 : Arr 10 Int)⟩ : Pasture)) (by kernel_rfl)) ?_
      rintro _ w1 ⟨b5, rfl, hS⟩
      refine OJ.es rfl rfl (Es.put tI_ok hS (i := 0) rfl rfl rfl rfl rfl (vs := cPasture.enc t4) rfl (cPasture.len _) (cPasture.one _) (Put.all cPasture (⟨0, 0, (Arr.mk' (Arr.mk' 0 : Arr 10 Int) : Arr 10 (Arr 10 Int)), (Arr.mk' 0 : Arr 10 Int), (Arr.mk' 0 : Arr 10 Int)⟩ : Pasture) t4) (by (try simp only [add_lit, Nat.add_assoc, Nat.zero_add, Nat.add_zero]) <;> rfl)) ?_
      intro w1 hS
      refine OJ.nil (EJ.next ?_)
      refine CJ.seq ?_
      refine CJ.region ?_
      refine OJ.pures tU_ok 1 rfl ?_
      refine OJ.st rfl rfl rfl (SR.load rfl rfl (fun w' hx => ldE tU_ok tI_ok rfl rfl rfl (CA.ext (hS.cells (i := 0) rfl) hx) rfl)) ?_
      obtain ⟨t6, ht6, H⟩ := pbind H
      refine OJ.callF rfl rfl rfl rfl rfl hb6 rfl (spec_P6Sights.c k _ Aa1 ca1 a1 (hS.rd' (i := 1) rfl) (hS.le' (i := 1) rfl) t4 _ ht6) ?_
      rintro _ w1 ⟨A7, c8, rfl, hs⟩
      replace hS := hS.addN hs
      refine OJ.pures tU_ok 1 rfl ?_
      refine OJ.nil (EJ.next ?_)
      refine CJ.seq ?_
      refine CJ.region ?_
      refine OJ.pures tU_ok 1 rfl ?_
      obtain ⟨t9, ht9, H⟩ := pbind H
      refine OJ.callF rfl rfl rfl rfl rfl hb7 rfl (spec_P6Pick.c _ Aa0 ca0 a0 (hS.rd' (i := 0) rfl) (hS.le' (i := 0) rfl) 5 _ ht9) ?_
      rintro _ w1 ⟨rfl, hs⟩
      replace hS := hS.grow hs
      refine OJ.pures tU_ok 1 rfl ?_
      refine OJ.nil (EJ.next ?_)
      refine CJ.seq ?_
      refine CJ.region ?_
      refine OJ.pures tU_ok 1 rfl ?_
      obtain ⟨t10, ht10, H⟩ := pbind H
      refine OJ.callF rfl rfl rfl rfl rfl hb9 rfl (impl_SightsText.c k _ A7 c8 t6 (hS.rd (i := 1) rfl) (hS.le (i := 1) rfl) (hS.ro (i := 2) rfl) _ ht10) ?_
      rintro _ w1 ⟨rfl, hs⟩
      replace hS := hS.grow hs
      obtain ⟨t11, ht11, H⟩ := pbind H
      refine OJ.callF rfl rfl rfl rfl rfl hb8 rfl (impl_ReadSights.c k _ t10 (hS.ro (i := 2) rfl) _ ht11) ?_
      rintro _ w1 ⟨A12, c13, rfl, hs⟩
      replace hS := hS.addN hs
      refine OJ.pures tU_ok 5 rfl ?_
      refine OJ.nil (EJ.next ?_)
      refine CJ.seq ?_
      refine CJ.region ?_
      refine OJ.st rfl rfl rfl (SR.load rfl rfl (fun w' hx => ldE tU_ok tI_ok rfl rfl rfl (CA.ext (hS.cells (i := 0) rfl) hx) rfl)) ?_
      refine OJ.pures tU_ok 2 rfl ?_
      obtain ⟨t14, ht14, H⟩ := pbind H
      refine OJ.callF rfl rfl rfl rfl rfl hb10 rfl (impl_FirstStrange.c k _ t4 A7 c8 t6 (hS.rd (i := 1) rfl) (hS.le (i := 1) rfl) t9 _ ht14) ?_
      rintro _ w1 ⟨rfl, hs⟩
      replace hS := hS.grow hs
      refine OJ.pures tU_ok 5 rfl ?_
      refine OJ.nil (EJ.next ?_)
      refine CJ.seq ?_
      refine CJ.region ?_
      refine OJ.st rfl rfl rfl (SR.load rfl rfl (fun w' hx => ldE tU_ok tI_ok rfl rfl rfl (CA.ext (hS.cells (i := 0) rfl) hx) rfl)) ?_
      refine OJ.pures tU_ok 2 rfl ?_
      obtain ⟨t15, ht15, H⟩ := pbind H
      refine OJ.callF rfl rfl rfl rfl rfl hb11 rfl (spec_FirstStrange.c k _ t4 A7 c8 t6 (hS.rd (i := 1) rfl) (hS.le (i := 1) rfl) t9 _ ht15) ?_
      rintro _ w1 ⟨rfl, hs⟩
      replace hS := hS.grow hs
      refine OJ.pures tU_ok 5 rfl ?_
      refine OJ.nil (EJ.next ?_)
      refine CJ.seq ?_
      refine CJ.region ?_
      refine OJ.st rfl rfl rfl (SR.load rfl rfl (fun w' hx => ldE tU_ok tI_ok rfl rfl rfl (CA.ext (hS.cells (i := 0) rfl) hx) rfl)) ?_
      refine OJ.pures tU_ok 3 rfl ?_
      obtain ⟨t16, ht16, H⟩ := pbind H
      refine OJ.callF rfl rfl rfl rfl rfl hb10 rfl (impl_FirstStrange.c k _ t4 A7 c8 t6 (hS.rd (i := 1) rfl) (hS.le (i := 1) rfl) (IntKind.i64.wrap (t9 + 1)) _ ht16) ?_
      rintro _ w1 ⟨rfl, hs⟩
      replace hS := hS.grow hs
      refine OJ.pures tU_ok 5 rfl ?_
      refine OJ.nil (EJ.next ?_)
      refine CJ.seq ?_
      refine CJ.region ?_
      refine OJ.st rfl rfl rfl (SR.load rfl rfl (fun w' hx => ldE tU_ok tI_ok rfl rfl rfl (CA.ext (hS.cells (i := 0) rfl) hx) rfl)) ?_
      refine OJ.pures tU_ok 2 rfl ?_
      obtain ⟨t17, ht17, H⟩ := pbind H
      refine OJ.callF rfl rfl rfl rfl rfl hb12 rfl (impl_ExplainedBy.c k _ t4 A7 c8 t6 (hS.rd (i := 1) rfl) (hS.le (i := 1) rfl) t9 _ ht17) ?_
      rintro _ w1 ⟨A18, c19, rfl, hs⟩
      replace hS := hS.addN hs
      refine OJ.pures tU_ok 5 rfl ?_
      refine OJ.nil (EJ.next ?_)
      refine CJ.seq ?_
      refine CJ.region ?_
      refine OJ.st rfl rfl rfl (SR.load rfl rfl (fun w' hx => ldE tU_ok tI_ok rfl rfl rfl (CA.ext (hS.cells (i := 0) rfl) hx) rfl)) ?_
      refine OJ.pures tU_ok 2 rfl ?_
      obtain ⟨t20, ht20, H⟩ := pbind H
      refine OJ.callF rfl rfl rfl rfl rfl hb13 rfl (spec_ExplainedBy.c k _ t4 A7 c8 t6 (hS.rd (i := 1) rfl) (hS.le (i := 1) rfl) t9 _ ht20) ?_
      rintro _ w1 ⟨A21, c22, rfl, hs⟩
      replace hS := hS.addN hs
      refine OJ.pures tU_ok 5 rfl ?_
      refine OJ.nil (EJ.next ?_)
      refine CJ.seq ?_
      obtain ⟨j194, H, K194⟩ := pbind H
      refine CJ.cut (fun F w1 => ∃ (y23 : Bool) , (some y23 : Option Bool) = some j194 ∧ F = [(5, .pointer (some ⟨b5, 0, none⟩)), (6, .slice A7 t6.length c8), (7, .int .i64 t9), (11, .int .i64 t14.2), (12, .int .i64 t15.1), (18, .slice A21 t20.1.length c22), (157, .bool y23)] ∧ St w no w1 [box b5 (cPasture.enc t4) 31, rowC cSight A7 c8 68 t6, rowC cHurdle A21 c22 87 t20.1] [roC (ci .u8) Aa0 ca0 a0, roC (ci .u8) Aa1 ca1 a1, envC Tryz.prog 0]) ?_ ?_
      · skip
        refine CJ.region ?_
        refine OJ.pures tU_ok 3 rfl ?_
        refine OJ.split (t := 97) rfl (fun hb => ?_) (fun hb => ?_)
        · replace H := pif_t (of_decide_eq_true hb) H
          refine OJ.pures tU_ok 60 rfl ?_
          refine OJ.nil ?_
          exact EJ.meet (F' := [(5, .pointer (some ⟨b5, 0, none⟩)), (6, .slice A7 t6.length c8), (7, .int .i64 t9), (11, .int .i64 t14.2), (12, .int .i64 t15.1), (18, .slice A21 t20.1.length c22), (157, .bool true)]) ⟨rfl, rfl, rfl, rfl, rfl, rfl, rfl, trivial⟩ ⟨true, H, rfl, hS.pick [0, 1, 4] [0, 1, 2] rfl⟩
        · replace H := pif_f (of_decide_eq_false hb) H
          refine OJ.pures tU_ok 2 rfl ?_
          obtain ⟨t24, ht24, H⟩ := pbind H
          refine OJ.callF rfl rfl rfl rfl rfl hb14 rfl (spec_SameSights.c k _ A12 c13 t11.1 (hS.rd (i := 2) rfl) (hS.le (i := 2) rfl) A7 c8 t6 (hS.rd (i := 1) rfl) (hS.le (i := 1) rfl) _ ht24) ?_
          rintro _ w1 ⟨rfl, hs⟩
          replace hS := hS.grow hs
          refine OJ.pures tU_ok 3 rfl ?_
          refine OJ.split (t := 103) rfl (fun hb => ?_) (fun hb => ?_)
          · replace H := pif_t hb H
            refine OJ.pures tU_ok 54 rfl ?_
            refine OJ.nil ?_
            exact EJ.meet (F' := [(5, .pointer (some ⟨b5, 0, none⟩)), (6, .slice A7 t6.length c8), (7, .int .i64 t9), (11, .int .i64 t14.2), (12, .int .i64 t15.1), (18, .slice A21 t20.1.length c22), (157, .bool true)]) ⟨rfl, rfl, rfl, rfl, rfl, rfl, rfl, trivial⟩ ⟨true, H, rfl, hS.pick [0, 1, 4] [0, 1, 2] rfl⟩
          · replace H := pifb_f hb H
            refine OJ.st rfl rfl rfl (SR.load rfl rfl (fun w' hx => ldE tU_ok tI_ok rfl rfl rfl (CA.ext (hS.cells (i := 0) rfl) hx) rfl)) ?_
            refine OJ.pures tU_ok 1 rfl ?_
            obtain ⟨t25, ht25, H⟩ := pbind H
            refine OJ.callF rfl rfl rfl rfl rfl hb15 rfl (impl_ValidSights.c k _ t4 A7 c8 t6 (hS.rd (i := 1) rfl) (hS.le (i := 1) rfl) _ ht25) ?_
            rintro _ w1 ⟨rfl, hs⟩
            replace hS := hS.grow hs
            refine OJ.pures tU_ok 3 rfl ?_
            refine OJ.split (t := 109) rfl (fun hb => ?_) (fun hb => ?_)
            · replace H := pif_t hb H
              refine OJ.pures tU_ok 48 rfl ?_
              refine OJ.nil ?_
              exact EJ.meet (F' := [(5, .pointer (some ⟨b5, 0, none⟩)), (6, .slice A7 t6.length c8), (7, .int .i64 t9), (11, .int .i64 t14.2), (12, .int .i64 t15.1), (18, .slice A21 t20.1.length c22), (157, .bool true)]) ⟨rfl, rfl, rfl, rfl, rfl, rfl, rfl, trivial⟩ ⟨true, H, rfl, hS.pick [0, 1, 4] [0, 1, 2] rfl⟩
            · replace H := pifb_f hb H
              refine OJ.pures tU_ok 5 rfl ?_
              refine OJ.split (t := 114) rfl (fun hb => ?_) (fun hb => ?_)
              · replace H := pif_t (of_decide_eq_true hb) H
                refine OJ.pures tU_ok 43 rfl ?_
                refine OJ.nil ?_
                exact EJ.meet (F' := [(5, .pointer (some ⟨b5, 0, none⟩)), (6, .slice A7 t6.length c8), (7, .int .i64 t9), (11, .int .i64 t14.2), (12, .int .i64 t15.1), (18, .slice A21 t20.1.length c22), (157, .bool true)]) ⟨rfl, rfl, rfl, rfl, rfl, rfl, rfl, trivial⟩ ⟨true, H, rfl, hS.pick [0, 1, 4] [0, 1, 2] rfl⟩
              · replace H := pif_f (of_decide_eq_false hb) H
                refine OJ.pures tU_ok 5 rfl ?_
                refine OJ.split (t := 119) rfl (fun hb => ?_) (fun hb => ?_)
                · replace H := pif_t (of_decide_eq_true hb) H
                  refine OJ.pures tU_ok 38 rfl ?_
                  refine OJ.nil ?_
                  exact EJ.meet (F' := [(5, .pointer (some ⟨b5, 0, none⟩)), (6, .slice A7 t6.length c8), (7, .int .i64 t9), (11, .int .i64 t14.2), (12, .int .i64 t15.1), (18, .slice A21 t20.1.length c22), (157, .bool true)]) ⟨rfl, rfl, rfl, rfl, rfl, rfl, rfl, trivial⟩ ⟨true, H, rfl, hS.pick [0, 1, 4] [0, 1, 2] rfl⟩
                · replace H := pif_f (of_decide_eq_false hb) H
                  refine OJ.pures tU_ok 5 rfl ?_
                  refine OJ.split (t := 124) rfl (fun hb => ?_) (fun hb => ?_)
                  · replace H := pif_t (of_decide_eq_true hb) H
                    refine OJ.pures tU_ok 33 rfl ?_
                    refine OJ.nil ?_
                    exact EJ.meet (F' := [(5, .pointer (some ⟨b5, 0, none⟩)), (6, .slice A7 t6.length c8), (7, .int .i64 t9), (11, .int .i64 t14.2), (12, .int .i64 t15.1), (18, .slice A21 t20.1.length c22), (157, .bool true)]) ⟨rfl, rfl, rfl, rfl, rfl, rfl, rfl, trivial⟩ ⟨true, H, rfl, hS.pick [0, 1, 4] [0, 1, 2] rfl⟩
                  · replace H := pif_f (of_decide_eq_false hb) H
                    refine OJ.pures tU_ok 2 rfl ?_
                    obtain ⟨t26, ht26, H⟩ := pbind H
                    refine OJ.callF rfl rfl rfl rfl rfl hb16 rfl (spec_SameFence.c k _ A18 c19 t17.1 (hS.rd (i := 3) rfl) (hS.le (i := 3) rfl) A21 c22 t20.1 (hS.rd (i := 4) rfl) (hS.le (i := 4) rfl) _ ht26) ?_
                    rintro _ w1 ⟨rfl, hs⟩
                    replace hS := hS.grow hs
                    refine OJ.pures tU_ok 3 rfl ?_
                    refine OJ.split (t := 130) rfl (fun hb => ?_) (fun hb => ?_)
                    · replace H := pif_t hb H
                      refine OJ.pures tU_ok 27 rfl ?_
                      refine OJ.nil ?_
                      exact EJ.meet (F' := [(5, .pointer (some ⟨b5, 0, none⟩)), (6, .slice A7 t6.length c8), (7, .int .i64 t9), (11, .int .i64 t14.2), (12, .int .i64 t15.1), (18, .slice A21 t20.1.length c22), (157, .bool true)]) ⟨rfl, rfl, rfl, rfl, rfl, rfl, rfl, trivial⟩ ⟨true, H, rfl, hS.pick [0, 1, 4] [0, 1, 2] rfl⟩
                    · replace H := pifb_f hb H
                      refine OJ.pures tU_ok 4 rfl ?_
                      refine OJ.st rfl rfl rfl (SR.neB tU_ok rfl rfl rfl rfl) ?_
                      refine OJ.pures tU_ok 2 rfl ?_
                      refine OJ.split (t := 137) rfl (fun hb => ?_) (fun hb => ?_)
                      · replace H := pif_t (of_decide_eq_true hb) H
                        refine OJ.pures tU_ok 20 rfl ?_
                        refine OJ.nil ?_
                        exact EJ.meet (F' := [(5, .pointer (some ⟨b5, 0, none⟩)), (6, .slice A7 t6.length c8), (7, .int .i64 t9), (11, .int .i64 t14.2), (12, .int .i64 t15.1), (18, .slice A21 t20.1.length c22), (157, .bool true)]) ⟨rfl, rfl, rfl, rfl, rfl, rfl, rfl, trivial⟩ ⟨true, H, rfl, hS.pick [0, 1, 4] [0, 1, 2] rfl⟩
                      · replace H := pif_f (of_decide_eq_false hb) H
                        refine OJ.pures tU_ok 3 rfl ?_
                        refine OJ.split (t := 140) rfl (fun hb => ?_) (fun hb => ?_)
                        · replace H := pif_t (of_decide_eq_true hb) H
                          refine OJ.pures tU_ok 5 rfl ?_
                          refine OJ.split (t := 145) rfl (fun hb => ?_) (fun hb => ?_)
                          · replace H := pif_t (of_decide_eq_true hb) H
                            refine OJ.pures tU_ok 12 rfl ?_
                            refine OJ.nil ?_
                            exact EJ.meet (F' := [(5, .pointer (some ⟨b5, 0, none⟩)), (6, .slice A7 t6.length c8), (7, .int .i64 t9), (11, .int .i64 t14.2), (12, .int .i64 t15.1), (18, .slice A21 t20.1.length c22), (157, .bool true)]) ⟨rfl, rfl, rfl, rfl, rfl, rfl, rfl, trivial⟩ ⟨true, H, rfl, hS.pick [0, 1, 4] [0, 1, 2] rfl⟩
                          · replace H := pif_f (of_decide_eq_false hb) H
                            refine OJ.pures tU_ok 3 rfl ?_
                            refine OJ.split (t := 148) rfl (fun hb => ?_) (fun hb => ?_)
                            · replace H := pif_t (of_decide_eq_true hb) H
                              refine OJ.pures tU_ok 4 rfl ?_
                              refine OJ.split (t := 152) rfl (fun hb => ?_) (fun hb => ?_)
                              · replace H := pif_t (of_decide_eq_true hb) H
                                refine OJ.pures tU_ok 5 rfl ?_
                                refine OJ.nil ?_
                                exact EJ.meet (F' := [(5, .pointer (some ⟨b5, 0, none⟩)), (6, .slice A7 t6.length c8), (7, .int .i64 t9), (11, .int .i64 t14.2), (12, .int .i64 t15.1), (18, .slice A21 t20.1.length c22), (157, .bool (decide (t16.1 < t15.1)))]) ⟨rfl, rfl, rfl, rfl, rfl, rfl, rfl, trivial⟩ ⟨(decide (t16.1 < t15.1)), H, rfl, hS.pick [0, 1, 4] [0, 1, 2] rfl⟩
                              · replace H := pif_f (of_decide_eq_false hb) H
                                refine OJ.pures tU_ok 5 rfl ?_
                                refine OJ.nil ?_
                                exact EJ.meet (F' := [(5, .pointer (some ⟨b5, 0, none⟩)), (6, .slice A7 t6.length c8), (7, .int .i64 t9), (11, .int .i64 t14.2), (12, .int .i64 t15.1), (18, .slice A21 t20.1.length c22), (157, .bool false)]) ⟨rfl, rfl, rfl, rfl, rfl, rfl, rfl, trivial⟩ ⟨false, H, rfl, hS.pick [0, 1, 4] [0, 1, 2] rfl⟩
                            · replace H := pif_f (of_decide_eq_false hb) H
                              refine OJ.pures tU_ok 9 rfl ?_
                              refine OJ.nil ?_
                              exact EJ.meet (F' := [(5, .pointer (some ⟨b5, 0, none⟩)), (6, .slice A7 t6.length c8), (7, .int .i64 t9), (11, .int .i64 t14.2), (12, .int .i64 t15.1), (18, .slice A21 t20.1.length c22), (157, .bool false)]) ⟨rfl, rfl, rfl, rfl, rfl, rfl, rfl, trivial⟩ ⟨false, H, rfl, hS.pick [0, 1, 4] [0, 1, 2] rfl⟩
                        · replace H := pif_f (of_decide_eq_false hb) H
                          refine OJ.pures tU_ok 8 rfl ?_
                          refine OJ.split (t := 148) rfl (fun hb => ?_) (fun hb => ?_)
                          · replace H := pif_t (of_decide_eq_true hb) H
                            refine OJ.pures tU_ok 4 rfl ?_
                            refine OJ.split (t := 152) rfl (fun hb => ?_) (fun hb => ?_)
                            · replace H := pif_t (of_decide_eq_true hb) H
                              refine OJ.pures tU_ok 5 rfl ?_
                              refine OJ.nil ?_
                              exact EJ.meet (F' := [(5, .pointer (some ⟨b5, 0, none⟩)), (6, .slice A7 t6.length c8), (7, .int .i64 t9), (11, .int .i64 t14.2), (12, .int .i64 t15.1), (18, .slice A21 t20.1.length c22), (157, .bool (decide (t16.1 < t15.1)))]) ⟨rfl, rfl, rfl, rfl, rfl, rfl, rfl, trivial⟩ ⟨(decide (t16.1 < t15.1)), H, rfl, hS.pick [0, 1, 4] [0, 1, 2] rfl⟩
                            · replace H := pif_f (of_decide_eq_false hb) H
                              refine OJ.pures tU_ok 5 rfl ?_
                              refine OJ.nil ?_
                              exact EJ.meet (F' := [(5, .pointer (some ⟨b5, 0, none⟩)), (6, .slice A7 t6.length c8), (7, .int .i64 t9), (11, .int .i64 t14.2), (12, .int .i64 t15.1), (18, .slice A21 t20.1.length c22), (157, .bool false)]) ⟨rfl, rfl, rfl, rfl, rfl, rfl, rfl, trivial⟩ ⟨false, H, rfl, hS.pick [0, 1, 4] [0, 1, 2] rfl⟩
                          · replace H := pif_f (of_decide_eq_false hb) H
                            refine OJ.pures tU_ok 9 rfl ?_
                            refine OJ.nil ?_
                            exact EJ.meet (F' := [(5, .pointer (some ⟨b5, 0, none⟩)), (6, .slice A7 t6.length c8), (7, .int .i64 t9), (11, .int .i64 t14.2), (12, .int .i64 t15.1), (18, .slice A21 t20.1.length c22), (157, .bool false)]) ⟨rfl, rfl, rfl, rfl, rfl, rfl, rfl, trivial⟩ ⟨false, H, rfl, hS.pick [0, 1, 4] [0, 1, 2] rfl⟩
      · rintro F w1 ⟨y23, he, rfl, hS⟩
        obtain rfl := Option.some.inj he
        have H := K194
        refine CJ.cond rfl (fun hb => ?_) (fun hb => ?_)
        · replace H := pif_t hb H
          refine CJ.seq ?_
          refine CJ.region ?_
          refine OJ.pures tU_ok 1 rfl ?_
          refine OJ.nil (EJ.next ?_)
          refine CJ.ret (EJ.skR (?_))
          obtain rfl := Option.some.inj H
          exact EJ.fin rfl (.tmp rfl .nil) ⟨rfl, hS.ext⟩
        · replace H := pifb_f hb H
          refine CJ.skip (EJ.next ?_)
          refine CJ.seq ?_
          refine CJ.seq ?_
          refine CJ.region ?_
          refine OJ.pures tU_ok 1 rfl ?_
          refine OJ.nil (EJ.next ?_)
          replace hS := hS.freezeG (i := 2) rfl
          obtain ⟨j197, H, K197⟩ := pbind H
          refine CJ.cut1 (fun F w1 => (some (Sum.inr ()) : Option (Bool ⊕ Unit)) = some j197 ∧ F = [(5, .pointer (some ⟨b5, 0, none⟩)), (6, .slice A7 t6.length c8), (7, .int .i64 t9), (11, .int .i64 t14.2), (12, .int .i64 t15.1)] ∧ St w no w1 [box b5 (cPasture.enc t4) 31, rowC cSight A7 c8 68 t6] [roC (ci .u8) Aa0 ca0 a0, roC (ci .u8) Aa1 ca1 a1, envC Tryz.prog 0, roC cHurdle A21 c22 t20.1]) ?_ ?_
          · skip
            refine CJ.block ?_
            refine CJ.loop (fun k F w1 => ∃ (y27 : Int), F = [(5, .pointer (some ⟨b5, 0, none⟩)), (6, .slice A7 t6.length c8), (7, .int .i64 t9), (11, .int .i64 t14.2), (12, .int .i64 t15.1), (18, .slice A21 t20.1.length c22), (20, .int .i64 y27)] ∧ St w no w1 [box b5 (cPasture.enc t4) 31, rowC cSight A7 c8 68 t6] [roC (ci .u8) Aa0 ca0 a0, roC (ci .u8) Aa1 ca1 a1, envC Tryz.prog 0, roC cHurdle A21 c22 t20.1] ∧ laws_FnSights.l1 t4 t6 t9 t20 k y27 = some j197) k (F' := [(5, .pointer (some ⟨b5, 0, none⟩)), (6, .slice A7 t6.length c8), (7, .int .i64 t9), (11, .int .i64 t14.2), (12, .int .i64 t15.1), (18, .slice A21 t20.1.length c22), (20, .int .i64 0)]) ⟨rfl, rfl, rfl, rfl, rfl, rfl, rfl, trivial⟩ ⟨0, rfl, hS.pick [0, 1] [0, 1, 2, 3] rfl, H⟩ ?_
            rintro k F w1 ⟨y27, rfl, hS, H⟩
            cases k with
            | zero => rw [laws_FnSights.l1] at H; cases H
            | succ k =>
              rw [laws_FnSights.l1] at H
              refine CJ.seq ?_
              refine CJ.seq ?_
              refine CJ.region ?_
              refine OJ.pures tU_ok 4 rfl ?_
              refine OJ.nil (EJ.next ?_)
              refine CJ.cond rfl (fun hb => ?_) (fun hb => ?_)
              · replace H := pif_t (of_decide_eq_true hb) H
                refine CJ.skip (EJ.next ?_)
                refine CJ.seq ?_
                refine CJ.block ?_
                refine CJ.seq ?_
                obtain ⟨u28, hu28, H⟩ := pbind H
                obtain ⟨t29, ht29, H⟩ := pbind H
                refine CJ.cut1 (fun F w1 => ∃ (b30 : Nat), F = [(5, .pointer (some ⟨b5, 0, none⟩)), (6, .slice A7 t6.length c8), (7, .int .i64 t9), (11, .int .i64 t14.2), (12, .int .i64 t15.1), (18, .slice A21 t20.1.length c22), (20, .int .i64 y27), (21, .pointer (some ⟨b30, 0, none⟩)), (22, .int .i64 t29.2)] ∧ St w no w1 [box b5 (cPasture.enc t4) 31, rowC cSight A7 c8 68 t6, box b30 (cPasture.enc t29.1) 31] [roC (ci .u8) Aa0 ca0 a0, roC (ci .u8) Aa1 ca1 a1, envC Tryz.prog 0, roC cHurdle A21 c22 t20.1, roC cHurdle (cutA A21 c22 y27.toNat cHurdle.sz) (c22 - y27.toNat) ((t20.1.drop y27.toNat).take (((IntKind.i64.wrap (y27 + 1)).toNat) - y27.toNat))]) ?_ ?_
                · skip
                  refine CJ.drawT [] [6, 10, 11] (.one 0 (.one 1 (.one 2 (.one 3 (.one 4 (.one 5 (.br (.alt 6 (.one 7 (.one 8 (.one 9 (.one 10 (.one 11 (.one 12 (.fin))))))) (.alt 10 (.one 6 (.one 7 (.one 8 (.one 9 (.one 11 (.one 12 (.fin))))))) (.stop)))))))))) mixed (by kernel_rfl) hS [0] fun w1 hS hY hV => ?_
                  refine TJ.st hY rfl rfl rfl rfl rfl (fun w2 hY => SR.load rfl rfl (fun w' hx => ldE tU_ok tI_ok rfl rfl rfl (CA.ext ((hV w2 hY).cellsR (i := 4) rfl) hx) rfl)) ?_
                  refine TJ.pures tU_ok 4 rfl ?_
                  refine TJ.st hY rfl rfl rfl rfl rfl (fun w2 hY => SR.cutS tU_ok tI_ok (y27.toNat) ((IntKind.i64.wrap (y27 + 1)).toNat) rfl rfl rfl rfl rfl rfl (.inr ⟨_, _, rfl, (chk_some hu28).1, rfl⟩) (.inr ⟨_, _, rfl, (by have := (chk_some hu28); omega), rfl⟩) (by have := (chk_some hu28); omega) (by have := (chk_some hu28); have := ((hV w2 hY).le' (i := 3) rfl : t20.1.length ≤ c22); omega)) ?_
                  replace hS := hS.cutR (i := 3) (lo := y27.toNat) (hi := (IntKind.i64.wrap (y27 + 1)).toNat) rfl (by have := (chk_some hu28); omega) (by have := (chk_some hu28); omega)
                  refine TJ.as (t := 170) rfl (show _ = (.slice (cutA A21 c22 y27.toNat cHurdle.sz) ((t20.1.drop y27.toNat).take (((IntKind.i64.wrap (y27 + 1)).toNat) - y27.toNat)).length (c22 - y27.toNat) : Value) by rw [cutLen (by have := (chk_some hu28); omega) (by have := (chk_some hu28); omega)]; rfl) ?_
                  refine TJ.br ?_
                  refine TJ.alt ?_ ?_
                  · skip
                    refine TJ.callF hY rfl rfl rfl rfl rfl rfl rfl hb17 rfl (impl_TakeHurdles.c k _ t4 (cutA A21 c22 y27.toNat cHurdle.sz) (c22 - y27.toNat) ((t20.1.drop y27.toNat).take (((IntKind.i64.wrap (y27 + 1)).toNat) - y27.toNat)) (hS.rd' (i := 4) rfl) (hS.le' (i := 4) rfl) _ ht29) (by rintro v w' ⟨rfl, hs⟩; exact hs) ?_
                    rintro _ w1 hY ⟨rfl, hs⟩
                    replace hS := hS.grow hs
                    refine TJ.pures tU_ok 3 rfl ?_
                    refine TJ.ef hY rfl rfl rfl rfl rfl (Ef.alloc hS tI_ok rfl rfl (cPasture.enc (⟨0, 0, (Arr.mk' (Arr.mk' 0 : Arr 10 Int) : Arr 10 (Arr 10 Int)), (Arr.mk' 0 : Arr 10 Int), (Arr.mk' 0 : Arr 10 Int)⟩ : Pasture)) (by kernel_rfl)) ?_
                    rintro _ w1 hY ⟨b31, rfl, hS⟩
                    have hO := hS
                    refine TJ.es rfl rfl rfl rfl (Es.put tI_ok (hS.inn [0]) (i := 2) rfl rfl rfl rfl rfl (vs := cPasture.enc t29.1) rfl (cPasture.len _) (cPasture.one _) (Put.all cPasture (⟨0, 0, (Arr.mk' (Arr.mk' 0 : Arr 10 Int) : Arr 10 (Arr 10 Int)), (Arr.mk' 0 : Arr 10 Int), (Arr.mk' 0 : Arr 10 Int)⟩ : Pasture) t29.1) (by (try simp only [add_lit, Nat.add_assoc, Nat.zero_add, Nat.add_zero]) <;> rfl)) (by intro w1 hS; exact hY.wr (hO.inY [0] 4 rfl rfl) hS.chg) ?_
                    intro w1 hY hS
                    have hS : St w no w1 [box b5 (cPasture.enc t4) 31, rowC cSight A7 c8 68 t6, box b31 (cPasture.enc t29.1) 31] [roC (ci .u8) Aa0 ca0 a0, roC (ci .u8) Aa1 ca1 a1, envC Tryz.prog 0, roC cHurdle A21 c22 t20.1, roC cHurdle (cutA A21 c22 y27.toNat cHurdle.sz) (c22 - y27.toNat) ((t20.1.drop y27.toNat).take (((IntKind.i64.wrap (y27 + 1)).toNat) - y27.toNat))] := hO.out [0] hS
                    refine TJ.pures tU_ok 1 rfl ?_
                    refine TJ.nil ?_
                    exact EJ.meet (F' := [(5, .pointer (some ⟨b5, 0, none⟩)), (6, .slice A7 t6.length c8), (7, .int .i64 t9), (11, .int .i64 t14.2), (12, .int .i64 t15.1), (18, .slice A21 t20.1.length c22), (20, .int .i64 y27), (21, .pointer (some ⟨b31, 0, none⟩)), (22, .int .i64 t29.2)]) ⟨rfl, rfl, rfl, rfl, rfl, rfl, rfl, rfl, rfl, trivial⟩ ⟨b31, rfl, hS.pick [0, 1, 2] [0, 1, 2, 3, 4] rfl⟩
                  refine TJ.alt ?_ ?_
                  · skip
                    refine TJ.ef hY rfl rfl rfl rfl rfl (Ef.alloc hS tI_ok rfl rfl (cPasture.enc (⟨0, 0, (Arr.mk' (Arr.mk' 0 : Arr 10 Int) : Arr 10 (Arr 10 Int)), (Arr.mk' 0 : Arr 10 Int), (Arr.mk' 0 : Arr 10 Int)⟩ : Pasture)) (by kernel_rfl)) ?_
                    rintro _ w1 hY ⟨b32, rfl, hS⟩
                    refine TJ.callF hY rfl rfl rfl rfl rfl rfl rfl hb17 rfl (impl_TakeHurdles.c k _ t4 (cutA A21 c22 y27.toNat cHurdle.sz) (c22 - y27.toNat) ((t20.1.drop y27.toNat).take (((IntKind.i64.wrap (y27 + 1)).toNat) - y27.toNat)) (hS.rd' (i := 4) rfl) (hS.le' (i := 4) rfl) _ ht29) (by rintro v w' ⟨rfl, hs⟩; exact hs) ?_
                    rintro _ w1 hY ⟨rfl, hs⟩
                    replace hS := hS.grow hs
                    refine TJ.pures tU_ok 3 rfl ?_
                    have hO := hS
                    refine TJ.es rfl rfl rfl rfl (Es.put tI_ok (hS.inn [0]) (i := 2) rfl rfl rfl rfl rfl (vs := cPasture.enc t29.1) rfl (cPasture.len _) (cPasture.one _) (Put.all cPasture (⟨0, 0, (Arr.mk' (Arr.mk' 0 : Arr 10 Int) : Arr 10 (Arr 10 Int)), (Arr.mk' 0 : Arr 10 Int), (Arr.mk' 0 : Arr 10 Int)⟩ : Pasture) t29.1) (by (try simp only [add_lit, Nat.add_assoc, Nat.zero_add, Nat.add_zero]) <;> rfl)) (by intro w1 hS; exact hY.wr (hO.inY [0] 4 rfl rfl) hS.chg) ?_
                    intro w1 hY hS
                    have hS : St w no w1 [box b5 (cPasture.enc t4) 31, rowC cSight A7 c8 68 t6, box b32 (cPasture.enc t29.1) 31] [roC (ci .u8) Aa0 ca0 a0, roC (ci .u8) Aa1 ca1 a1, envC Tryz.prog 0, roC cHurdle A21 c22 t20.1, roC cHurdle (cutA A21 c22 y27.toNat cHurdle.sz) (c22 - y27.toNat) ((t20.1.drop y27.toNat).take (((IntKind.i64.wrap (y27 + 1)).toNat) - y27.toNat))] := hO.out [0] hS
                    refine TJ.pures tU_ok 1 rfl ?_
                    refine TJ.nil ?_
                    exact EJ.meet (F' := [(5, .pointer (some ⟨b5, 0, none⟩)), (6, .slice A7 t6.length c8), (7, .int .i64 t9), (11, .int .i64 t14.2), (12, .int .i64 t15.1), (18, .slice A21 t20.1.length c22), (20, .int .i64 y27), (21, .pointer (some ⟨b32, 0, none⟩)), (22, .int .i64 t29.2)]) ⟨rfl, rfl, rfl, rfl, rfl, rfl, rfl, rfl, rfl, trivial⟩ ⟨b32, rfl, hS.pick [0, 1, 2] [0, 1, 2, 3, 4] rfl⟩
                  exact TJ.stop
                · rintro F w1 ⟨b30, rfl, hS⟩
                  refine EJ.next ?_
                  refine CJ.seq ?_
                  refine CJ.region ?_
                  refine OJ.st rfl rfl rfl (SR.load rfl rfl (fun w' hx => ldE tU_ok tI_ok rfl rfl rfl (CA.ext (hS.cells (i := 2) rfl) hx) rfl)) ?_
                  refine OJ.pures tU_ok 2 rfl ?_
                  obtain ⟨t33, ht33, H⟩ := pbind H
                  refine OJ.callF rfl rfl rfl rfl rfl hb10 rfl (impl_FirstStrange.c k _ t29.1 A7 c8 t6 (hS.rd (i := 1) rfl) (hS.le (i := 1) rfl) t9 _ ht33) ?_
                  rintro _ w1 ⟨rfl, hs⟩
                  replace hS := hS.grow hs
                  refine OJ.pures tU_ok 5 rfl ?_
                  refine OJ.nil (EJ.next ?_)
                  refine CJ.seq ?_
                  refine CJ.region ?_
                  refine OJ.pures tU_ok 3 rfl ?_
                  refine OJ.split (t := 183) rfl (fun hb => ?_) (fun hb => ?_)
                  · replace H := pif_t (of_decide_eq_true hb) H
                    refine OJ.pures tU_ok 3 rfl ?_
                    refine OJ.nil (EJ.next ?_)
                    refine CJ.condT rfl ?_
                    refine CJ.seq ?_
                    refine CJ.region ?_
                    refine OJ.pures tU_ok 1 rfl ?_
                    refine OJ.nil (EJ.next ?_)
                    refine CJ.ret (EJ.bkR (EJ.skR (EJ.skR (EJ.bkR (EJ.skR (EJ.skR (?_)))))))
                    first | (obtain rfl := Option.some.inj H; have H := K197) | (obtain ⟨q197, H2, e197⟩ := pbind H; obtain rfl := Option.some.inj e197; obtain rfl := Option.some.inj K197; have H := H2)
                    obtain rfl := Option.some.inj H
                    exact EJ.fin rfl (.tmp rfl .nil) ⟨rfl, hS.ext⟩
                  · replace H := pif_f (of_decide_eq_false hb) H
                    refine OJ.pures tU_ok 3 rfl ?_
                    refine OJ.nil (EJ.next ?_)
                    refine CJ.cond rfl (fun hb => ?_) (fun hb => ?_)
                    · replace H := pif_t (of_decide_eq_true hb) H
                      refine CJ.seq ?_
                      refine CJ.region ?_
                      refine OJ.pures tU_ok 1 rfl ?_
                      refine OJ.nil (EJ.next ?_)
                      refine CJ.ret (EJ.bkR (EJ.skR (EJ.skR (EJ.bkR (EJ.skR (EJ.skR (?_)))))))
                      first | (obtain rfl := Option.some.inj H; have H := K197) | (obtain ⟨q197, H2, e197⟩ := pbind H; obtain rfl := Option.some.inj e197; obtain rfl := Option.some.inj K197; have H := H2)
                      obtain rfl := Option.some.inj H
                      exact EJ.fin rfl (.tmp rfl .nil) ⟨rfl, hS.ext⟩
                    · replace H := pif_f (of_decide_eq_false hb) H
                      refine CJ.skip (EJ.blk (EJ.next ?_))
                      refine CJ.region ?_
                      refine OJ.pures tU_ok 3 rfl ?_
                      refine OJ.nil ?_
                      exact EJ.round k (F' := [(5, .pointer (some ⟨b5, 0, none⟩)), (6, .slice A7 t6.length c8), (7, .int .i64 t9), (11, .int .i64 t14.2), (12, .int .i64 t15.1), (18, .slice A21 t20.1.length c22), (20, .int .i64 (IntKind.i64.wrap (y27 + 1)))]) ⟨rfl, rfl, rfl, rfl, rfl, rfl, rfl, trivial⟩ (Nat.lt_succ_self _) ⟨(IntKind.i64.wrap (y27 + 1)), rfl, hS.pick [0, 1] [0, 1, 2, 3] rfl, H⟩
              · replace H := pif_f (of_decide_eq_false hb) H
                refine CJ.exit (EJ.skE (EJ.skE (EJ.hit (?_))))
                exact EJ.meet (F' := [(5, .pointer (some ⟨b5, 0, none⟩)), (6, .slice A7 t6.length c8), (7, .int .i64 t9), (11, .int .i64 t14.2), (12, .int .i64 t15.1)]) ⟨rfl, rfl, rfl, rfl, rfl, trivial⟩ ⟨H, rfl, hS.pick [0, 1] [0, 1, 2, 3] rfl⟩
          · rintro F w1 ⟨he, rfl, hS⟩
            obtain rfl := Option.some.inj he
            have H := K197
            refine EJ.next ?_
            obtain ⟨j198, H, K198⟩ := pbind H
            refine CJ.cut (fun F w1 => (some (Sum.inr ()) : Option (Bool ⊕ Unit)) = some j198 ∧ F = [(5, .pointer (some ⟨b5, 0, none⟩))] ∧ St w no w1 [box b5 (cPasture.enc t4) 31] [roC (ci .u8) Aa0 ca0 a0, roC (ci .u8) Aa1 ca1 a1, envC Tryz.prog 0, roC cHurdle A21 c22 t20.1]) ?_ ?_
            · skip
              refine CJ.seq ?_
              refine CJ.region ?_
              refine OJ.pures tU_ok 2 rfl ?_
              refine OJ.nil (EJ.next ?_)
              refine CJ.cond rfl (fun hb => ?_) (fun hb => ?_)
              · replace H := pif_t (of_decide_eq_true hb) H
                refine CJ.seq ?_
                refine CJ.draw [] [0, 1, 2, 3, 4, 5, 6, 7, 8, 9, 10] mixed (by kernel_rfl) hS fun w1 hS => ?_
                refine DJ.st rfl rfl rfl rfl rfl (SR.load rfl rfl (fun w' hx => ldE tU_ok tI_ok rfl rfl rfl (CA.ext (hS.cells (i := 0) rfl) hx) rfl)) ?_
                refine DJ.pures tU_ok 2 rfl ?_
                obtain ⟨u34, hu34, H⟩ := pbind H
                replace hS := hS.freezeG (i := 1) rfl
                refine DJ.st rfl rfl rfl rfl rfl (SR.cutS tU_ok tI_ok (0) (t15.1.toNat) rfl rfl rfl rfl rfl rfl (.inl ⟨rfl, rfl⟩) (.inr ⟨_, _, rfl, (by have := (chk_some hu34); omega), rfl⟩) (by have := (chk_some hu34); omega) (by have := (chk_some hu34); have := (hS.le' (i := 4) rfl : t6.length ≤ c8); omega)) ?_
                replace hS := hS.cutR (i := 4) (lo := 0) (hi := t15.1.toNat) rfl (by have := (chk_some hu34); omega) (by have := (chk_some hu34); omega)
                refine DJ.as (t := 193) rfl (show _ = (.slice (cutA A7 c8 0 cSight.sz) ((t6.drop 0).take (t15.1.toNat - 0)).length (c8 - 0) : Value) by rw [cutLen (by have := (chk_some hu34); omega) (by have := (chk_some hu34); omega)]; rfl) ?_
                refine DJ.pures tU_ok 1 rfl ?_
                obtain ⟨t35, ht35, H⟩ := pbind H
                refine DJ.callF rfl rfl rfl rfl rfl rfl rfl hb10 rfl (impl_FirstStrange.c k _ t4 (cutA A7 c8 0 cSight.sz) (c8 - 0) ((t6.drop 0).take (t15.1.toNat - 0)) (hS.rd' (i := 5) rfl) (hS.le' (i := 5) rfl) t9 _ ht35) (by rintro v w' ⟨rfl, hs⟩; exact hs) ?_
                rintro _ w1 ⟨rfl, hs⟩
                replace hS := hS.grow hs
                refine DJ.pures tU_ok 5 rfl ?_
                refine DJ.nil (EJ.next ?_)
                refine CJ.seq ?_
                refine CJ.draw [] [0, 1, 2, 3, 4, 5, 6, 7, 8, 9, 10, 11] mixed (by kernel_rfl) hS fun w1 hS => ?_
                refine DJ.st rfl rfl rfl rfl rfl (SR.load rfl rfl (fun w' hx => ldE tU_ok tI_ok rfl rfl rfl (CA.ext (hS.cells (i := 0) rfl) hx) rfl)) ?_
                refine DJ.pures tU_ok 3 rfl ?_
                obtain ⟨u36, hu36, H⟩ := pbind H
                refine DJ.st rfl rfl rfl rfl rfl (SR.cutS tU_ok tI_ok (0) ((IntKind.i64.wrap (t15.1 + 1)).toNat) rfl rfl rfl rfl rfl rfl (.inl ⟨rfl, rfl⟩) (.inr ⟨_, _, rfl, (by have := (chk_some hu36); omega), rfl⟩) (by have := (chk_some hu36); omega) (by have := (chk_some hu36); have := (hS.le' (i := 4) rfl : t6.length ≤ c8); omega)) ?_
                replace hS := hS.cutR (i := 4) (lo := 0) (hi := (IntKind.i64.wrap (t15.1 + 1)).toNat) rfl (by have := (chk_some hu36); omega) (by have := (chk_some hu36); omega)
                refine DJ.as (t := 203) rfl (show _ = (.slice (cutA A7 c8 0 cSight.sz) ((t6.drop 0).take (((IntKind.i64.wrap (t15.1 + 1)).toNat) - 0)).length (c8 - 0) : Value) by rw [cutLen (by have := (chk_some hu36); omega) (by have := (chk_some hu36); omega)]; rfl) ?_
                refine DJ.pures tU_ok 1 rfl ?_
                obtain ⟨t37, ht37, H⟩ := pbind H
                refine DJ.callF rfl rfl rfl rfl rfl rfl rfl hb10 rfl (impl_FirstStrange.c k _ t4 (cutA A7 c8 0 cSight.sz) (c8 - 0) ((t6.drop 0).take (((IntKind.i64.wrap (t15.1 + 1)).toNat) - 0)) (hS.rd' (i := 6) rfl) (hS.le' (i := 6) rfl) t9 _ ht37) (by rintro v w' ⟨rfl, hs⟩; exact hs) ?_
                rintro _ w1 ⟨rfl, hs⟩
                replace hS := hS.grow hs
                refine DJ.pures tU_ok 5 rfl ?_
                refine DJ.nil (EJ.next ?_)
                refine CJ.seq ?_
                refine CJ.region ?_
                refine OJ.pures tU_ok 3 rfl ?_
                refine OJ.split (t := 210) rfl (fun hb => ?_) (fun hb => ?_)
                · replace H := pif_t (of_decide_eq_true hb) H
                  refine OJ.pures tU_ok 3 rfl ?_
                  refine OJ.nil (EJ.next ?_)
                  refine CJ.condT rfl ?_
                  refine CJ.seq ?_
                  refine CJ.region ?_
                  refine OJ.pures tU_ok 1 rfl ?_
                  refine OJ.nil (EJ.next ?_)
                  refine CJ.ret (EJ.skR (?_))
                  first | (obtain rfl := Option.some.inj H; have H := K198) | (obtain ⟨q198, H2, e198⟩ := pbind H; obtain rfl := Option.some.inj e198; obtain rfl := Option.some.inj K198; have H := H2)
                  obtain rfl := Option.some.inj H
                  exact EJ.fin rfl (.tmp rfl .nil) ⟨rfl, hS.ext⟩
                · replace H := pif_f (of_decide_eq_false hb) H
                  refine OJ.pures tU_ok 3 rfl ?_
                  refine OJ.nil (EJ.next ?_)
                  refine CJ.cond rfl (fun hb => ?_) (fun hb => ?_)
                  · replace H := pif_t (of_decide_eq_true hb) H
                    refine CJ.seq ?_
                    refine CJ.region ?_
                    refine OJ.pures tU_ok 1 rfl ?_
                    refine OJ.nil (EJ.next ?_)
                    refine CJ.ret (EJ.skR (?_))
                    first | (obtain rfl := Option.some.inj H; have H := K198) | (obtain ⟨q198, H2, e198⟩ := pbind H; obtain rfl := Option.some.inj e198; obtain rfl := Option.some.inj K198; have H := H2)
                    obtain rfl := Option.some.inj H
                    exact EJ.fin rfl (.tmp rfl .nil) ⟨rfl, hS.ext⟩
                  · replace H := pif_f (of_decide_eq_false hb) H
                    refine CJ.skip (?_)
                    exact EJ.meet (F' := [(5, .pointer (some ⟨b5, 0, none⟩))]) ⟨rfl, trivial⟩ ⟨H, rfl, hS.pick [0] [0, 1, 2, 3] rfl⟩
              · replace H := pif_f (of_decide_eq_false hb) H
                refine CJ.seq ?_
                refine CJ.region ?_
                refine OJ.pures tU_ok 2 rfl ?_
                refine OJ.nil (EJ.next ?_)
                refine CJ.cond rfl (fun hb => ?_) (fun hb => ?_)
                · replace H := pif_t (of_decide_eq_true hb) H
                  refine CJ.seq ?_
                  refine CJ.region ?_
                  refine OJ.pures tU_ok 1 rfl ?_
                  refine OJ.nil (EJ.next ?_)
                  refine CJ.ret (EJ.skR (?_))
                  first | (obtain rfl := Option.some.inj H; have H := K198) | (obtain ⟨q198, H2, e198⟩ := pbind H; obtain rfl := Option.some.inj e198; obtain rfl := Option.some.inj K198; have H := H2)
                  obtain rfl := Option.some.inj H
                  exact EJ.fin rfl (.tmp rfl .nil) ⟨rfl, hS.ext⟩
                · replace H := pif_f (of_decide_eq_false hb) H
                  refine CJ.skip (?_)
                  exact EJ.meet (F' := [(5, .pointer (some ⟨b5, 0, none⟩))]) ⟨rfl, trivial⟩ ⟨H, rfl, hS.pick [0] [0, 1, 2, 3] rfl⟩
            · rintro F w1 ⟨he, rfl, hS⟩
              obtain rfl := Option.some.inj he
              have H := K198
              refine CJ.seq ?_
              refine CJ.region ?_
              refine OJ.st rfl rfl rfl (SR.load rfl rfl (fun w' hx => ldE tU_ok tI_ok rfl rfl rfl (CA.ext (hS.cells (i := 0) rfl) hx) rfl)) ?_
              obtain ⟨t38, ht38, H⟩ := pbind H
              refine OJ.callF rfl rfl rfl rfl rfl hb18 rfl (impl_MeadowsOf.c k _ t4 2 _ ht38) ?_
              rintro _ w1 ⟨A39, c40, rfl, hs⟩
              replace hS := hS.addN hs
              refine OJ.pures tU_ok 5 rfl ?_
              refine OJ.nil (EJ.next ?_)
              refine CJ.seq ?_
              refine CJ.region ?_
              refine OJ.st rfl rfl rfl (SR.load rfl rfl (fun w' hx => ldE tU_ok tI_ok rfl rfl rfl (CA.ext (hS.cells (i := 0) rfl) hx) rfl)) ?_
              obtain ⟨t41, ht41, H⟩ := pbind H
              refine OJ.callF rfl rfl rfl rfl rfl hb19 rfl (spec_MeadowsOf.c k _ t4 2 _ ht41) ?_
              rintro _ w1 ⟨A42, c43, rfl, hs⟩
              replace hS := hS.addN hs
              refine OJ.pures tU_ok 5 rfl ?_
              refine OJ.nil (EJ.next ?_)
              refine CJ.seq ?_
              refine CJ.region ?_
              refine OJ.st rfl rfl rfl (SR.load rfl rfl (fun w' hx => ldE tU_ok tI_ok rfl rfl rfl (CA.ext (hS.cells (i := 0) rfl) hx) rfl)) ?_
              obtain ⟨t44, ht44, H⟩ := pbind H
              refine OJ.callF rfl rfl rfl rfl rfl hb20 rfl (spec_YardsOf.c k _ t4 _ ht44) ?_
              rintro _ w1 ⟨A45, c46, D47, rfl, hs⟩
              replace hS := hS.addN hs
              refine OJ.pures tU_ok 5 rfl ?_
              refine OJ.nil (EJ.next ?_)
              refine CJ.seq ?_
              obtain ⟨j290, H, K290⟩ := pbind H
              refine CJ.cut (fun F w1 => ∃ (y48 : Bool) , (some y48 : Option Bool) = some j290 ∧ F = [(5, .pointer (some ⟨b5, 0, none⟩)), (30, .int .i64 t38.2), (31, .slice A42 t41.1.length c43), (251, .bool y48)] ∧ St w no w1 [box b5 (cPasture.enc t4) 31, rowC cMeadow A42 c43 57 t41.1] [roC (ci .u8) Aa0 ca0 a0, roC (ci .u8) Aa1 ca1 a1, envC Tryz.prog 0, roC cHurdle A21 c22 t20.1]) ?_ ?_
              · skip
                refine CJ.region ?_
                refine OJ.pures tU_ok 4 rfl ?_
                refine OJ.split (t := 234) rfl (fun hb => ?_) (fun hb => ?_)
                · replace H := pif_t (of_decide_eq_true hb) H
                  refine OJ.pures tU_ok 17 rfl ?_
                  refine OJ.nil ?_
                  exact EJ.meet (F' := [(5, .pointer (some ⟨b5, 0, none⟩)), (30, .int .i64 t38.2), (31, .slice A42 t41.1.length c43), (251, .bool true)]) ⟨rfl, rfl, rfl, rfl, trivial⟩ ⟨true, H, rfl, hS.pick [0, 2] [0, 1, 2, 3] rfl⟩
                · replace H := pif_f (of_decide_eq_false hb) H
                  refine OJ.pures tU_ok 2 rfl ?_
                  obtain ⟨t49, ht49, H⟩ := pbind H
                  refine OJ.callF rfl rfl rfl rfl rfl hb21 rfl (spec_SameMeadows.c k _ A39 c40 t38.1 (hS.rd (i := 1) rfl) (hS.le (i := 1) rfl) A42 c43 t41.1 (hS.rd (i := 2) rfl) (hS.le (i := 2) rfl) _ ht49) ?_
                  rintro _ w1 ⟨rfl, hs⟩
                  replace hS := hS.grow hs
                  refine OJ.pures tU_ok 3 rfl ?_
                  refine OJ.split (t := 240) rfl (fun hb => ?_) (fun hb => ?_)
                  · replace H := pif_t hb H
                    refine OJ.pures tU_ok 11 rfl ?_
                    refine OJ.nil ?_
                    exact EJ.meet (F' := [(5, .pointer (some ⟨b5, 0, none⟩)), (30, .int .i64 t38.2), (31, .slice A42 t41.1.length c43), (251, .bool true)]) ⟨rfl, rfl, rfl, rfl, trivial⟩ ⟨true, H, rfl, hS.pick [0, 2] [0, 1, 2, 3] rfl⟩
                  · replace H := pifb_f hb H
                    refine OJ.pures tU_ok 4 rfl ?_
                    refine OJ.split (t := 244) rfl (fun hb => ?_) (fun hb => ?_)
                    · replace H := pif_t (of_decide_eq_true hb) H
                      refine OJ.pures tU_ok 7 rfl ?_
                      refine OJ.nil ?_
                      exact EJ.meet (F' := [(5, .pointer (some ⟨b5, 0, none⟩)), (30, .int .i64 t38.2), (31, .slice A42 t41.1.length c43), (251, .bool true)]) ⟨rfl, rfl, rfl, rfl, trivial⟩ ⟨true, H, rfl, hS.pick [0, 2] [0, 1, 2, 3] rfl⟩
                    · replace H := pif_f (of_decide_eq_false hb) H
                      refine OJ.pures tU_ok 5 rfl ?_
                      refine OJ.st rfl rfl rfl (SR.neB tU_ok rfl rfl rfl rfl) ?_
                      refine OJ.pures tU_ok 1 rfl ?_
                      refine OJ.nil ?_
                      exact EJ.meet (F' := [(5, .pointer (some ⟨b5, 0, none⟩)), (30, .int .i64 t38.2), (31, .slice A42 t41.1.length c43), (251, .bool (decide ((decide (t38.2 = 0)) ≠ (decide ((t44.1.length : Int) ≤ 6)))))]) ⟨rfl, rfl, rfl, rfl, trivial⟩ ⟨(decide ((decide (t38.2 = 0)) ≠ (decide ((t44.1.length : Int) ≤ 6)))), H, rfl, hS.pick [0, 2] [0, 1, 2, 3] rfl⟩
              · rintro F w1 ⟨y48, he, rfl, hS⟩
                obtain rfl := Option.some.inj he
                have H := K290
                refine CJ.cond rfl (fun hb => ?_) (fun hb => ?_)
                · replace H := pif_t hb H
                  refine CJ.seq ?_
                  refine CJ.region ?_
                  refine OJ.pures tU_ok 1 rfl ?_
                  refine OJ.nil (EJ.next ?_)
                  refine CJ.ret (EJ.skR (?_))
                  obtain rfl := Option.some.inj H
                  exact EJ.fin rfl (.tmp rfl .nil) ⟨rfl, hS.ext⟩
                · replace H := pifb_f hb H
                  refine CJ.skip (EJ.next ?_)
                  refine CJ.seq ?_
                  refine CJ.seq ?_
                  refine CJ.region ?_
                  refine OJ.pures tU_ok 2 rfl ?_
                  refine OJ.nil (EJ.next ?_)
                  refine CJ.cond rfl (fun hb => ?_) (fun hb => ?_)
                  · replace H := pif_t (of_decide_eq_true hb) H
                    refine CJ.seq ?_
                    refine CJ.region ?_
                    refine OJ.pures tU_ok 3 rfl ?_
                    refine OJ.nil (EJ.next ?_)
                    refine CJ.ret (EJ.skR (?_))
                    obtain rfl := Option.some.inj H
                    exact EJ.fin rfl (.tmp rfl .nil) ⟨rfl, hS.ext⟩
                  · replace H := pif_f (of_decide_eq_false hb) H
                    refine CJ.skip (EJ.next ?_)
                    refine CJ.seq ?_
                    refine CJ.region ?_
                    refine OJ.pures tU_ok 1 rfl ?_
                    refine OJ.nil (EJ.next ?_)
                    refine CJ.seq ?_
                    refine CJ.region ?_
                    refine OJ.pures tU_ok 1 rfl ?_
                    refine OJ.nil (EJ.next ?_)
                    refine CJ.seq ?_
                    refine CJ.seq ?_
                    refine CJ.region ?_
                    refine OJ.pures tU_ok 1 rfl ?_
                    refine OJ.nil (EJ.next ?_)
                    obtain ⟨j292, H, K292⟩ := pbind H
                    refine CJ.cut1 (fun F w1 => ∃ (y50 : Int) (y51 : Int) , (some (y50, y51) : Option (Int × Int)) = some j292 ∧ F = [(5, .pointer (some ⟨b5, 0, none⟩)), (31, .slice A42 t41.1.length c43), (35, .int .i64 y50), (36, .int .i64 y51)] ∧ St w no w1 [box b5 (cPasture.enc t4) 31, rowC cMeadow A42 c43 57 t41.1] [roC (ci .u8) Aa0 ca0 a0, roC (ci .u8) Aa1 ca1 a1, envC Tryz.prog 0, roC cHurdle A21 c22 t20.1]) ?_ ?_
                    · skip
                      refine CJ.block ?_
                      refine CJ.loop (fun k F w1 => ∃ (y52 : Int) (y53 : Int) (y54 : Int), F = [(5, .pointer (some ⟨b5, 0, none⟩)), (31, .slice A42 t41.1.length c43), (35, .int .i64 y52), (36, .int .i64 y53), (37, .int .i64 y54)] ∧ St w no w1 [box b5 (cPasture.enc t4) 31, rowC cMeadow A42 c43 57 t41.1] [roC (ci .u8) Aa0 ca0 a0, roC (ci .u8) Aa1 ca1 a1, envC Tryz.prog 0, roC cHurdle A21 c22 t20.1] ∧ laws_FnSights.l2 t41 k y52 y53 y54 = some j292) k (F' := [(5, .pointer (some ⟨b5, 0, none⟩)), (31, .slice A42 t41.1.length c43), (35, .int .i64 0), (36, .int .i64 0), (37, .int .i64 0)]) ⟨rfl, rfl, rfl, rfl, rfl, trivial⟩ ⟨0, 0, 0, rfl, hS.pick [0, 1] [0, 1, 2, 3] rfl, H⟩ ?_
                      rintro k F w1 ⟨y52, y53, y54, rfl, hS, H⟩
                      cases k with
                      | zero => rw [laws_FnSights.l2] at H; cases H
                      | succ k =>
                        rw [laws_FnSights.l2] at H
                        refine CJ.seq ?_
                        refine CJ.seq ?_
                        refine CJ.region ?_
                        refine OJ.pures tU_ok 4 rfl ?_
                        refine OJ.nil (EJ.next ?_)
                        refine CJ.cond rfl (fun hb => ?_) (fun hb => ?_)
                        · replace H := pif_t (of_decide_eq_true hb) H
                          refine CJ.skip (EJ.next ?_)
                          refine CJ.seq ?_
                          refine CJ.block ?_
                          refine CJ.seq ?_
                          refine CJ.region ?_
                          refine OJ.pures tU_ok 3 rfl ?_
                          obtain ⟨t55, ht55, H⟩ := pbind H
                          obtain ⟨ad55, e55⟩ := (hS.rd (i := 1) rfl).some' ht55
                          refine OJ.st rfl rfl rfl (SR.idxS tU_ok tI_ok rfl rfl rfl rfl e55 rfl (getI_some ht55).1) ?_
                          refine OJ.st rfl rfl rfl (SR.fieldAddr tU_ok tI_ok rfl rfl rfl rfl rfl rfl) ?_
                          refine OJ.st rfl rfl rfl (SR.load rfl rfl (fun w' hx => ld1 tU_ok rfl rfl (CA.ext (CA.sub ((hS.rd (i := 1) rfl).at_ e55 ht55) 0) hx) rfl)) ?_
                          refine OJ.pures tU_ok 3 rfl ?_
                          refine OJ.nil (EJ.next ?_)
                          refine CJ.region ?_
                          refine OJ.pures tU_ok 3 rfl ?_
                          obtain ⟨t56, ht56, H⟩ := pbind H
                          obtain ⟨ad56, e56⟩ := (hS.rd (i := 1) rfl).some' ht56
                          refine OJ.st rfl rfl rfl (SR.idxS tU_ok tI_ok rfl rfl rfl rfl e56 rfl (getI_some ht56).1) ?_
                          refine OJ.st rfl rfl rfl (SR.fieldAddr tU_ok tI_ok rfl rfl rfl rfl rfl rfl) ?_
                          refine OJ.st rfl rfl rfl (SR.load rfl rfl (fun w' hx => ld1 tU_ok rfl rfl (CA.ext (CA.sub ((hS.rd (i := 1) rfl).at_ e56 ht56) 1) hx) rfl)) ?_
                          refine OJ.pures tU_ok 3 rfl ?_
                          refine OJ.nil (EJ.blk (EJ.next ?_))
                          refine CJ.region ?_
                          refine OJ.pures tU_ok 3 rfl ?_
                          refine OJ.nil ?_
                          exact EJ.round k (F' := [(5, .pointer (some ⟨b5, 0, none⟩)), (31, .slice A42 t41.1.length c43), (35, .int .i64 (IntKind.i64.wrap (y52 + (IntKind.i64.wrap t55.Grass)))), (36, .int .i64 (IntKind.i64.wrap (y53 + (IntKind.i64.wrap t56.Grows)))), (37, .int .i64 (IntKind.i64.wrap (y54 + 1)))]) ⟨rfl, rfl, rfl, rfl, rfl, trivial⟩ (Nat.lt_succ_self _) ⟨(IntKind.i64.wrap (y52 + (IntKind.i64.wrap t55.Grass))), (IntKind.i64.wrap (y53 + (IntKind.i64.wrap t56.Grows))), (IntKind.i64.wrap (y54 + 1)), rfl, hS.pick [0, 1] [0, 1, 2, 3] rfl, H⟩
                        · replace H := pif_f (of_decide_eq_false hb) H
                          refine CJ.exit (EJ.skE (EJ.skE (EJ.hit (?_))))
                          exact EJ.meet (F' := [(5, .pointer (some ⟨b5, 0, none⟩)), (31, .slice A42 t41.1.length c43), (35, .int .i64 y52), (36, .int .i64 y53)]) ⟨rfl, rfl, rfl, rfl, trivial⟩ ⟨y52, y53, H, rfl, hS.pick [0, 1] [0, 1, 2, 3] rfl⟩
                    · rintro F w1 ⟨y50, y51, he, rfl, hS⟩
                      obtain rfl := Option.some.inj he
                      have H := K292
                      refine EJ.next ?_
                      refine CJ.seq ?_
                      refine CJ.region ?_
                      refine OJ.st rfl rfl rfl (SR.load rfl rfl (fun w' hx => ldE tU_ok tI_ok rfl rfl rfl (CA.ext (hS.cells (i := 0) rfl) hx) rfl)) ?_
                      obtain ⟨t57, ht57, H⟩ := pbind H
                      refine OJ.callF rfl rfl rfl rfl rfl hb22 rfl (impl_GrassIn.c k _ t4 _ ht57) ?_
                      rintro _ w1 ⟨rfl, hs⟩
                      replace hS := hS.grow hs
                      refine OJ.pures tU_ok 5 rfl ?_
                      refine OJ.nil (EJ.next ?_)
                      refine CJ.seq ?_
                      refine CJ.region ?_
                      refine OJ.pures tU_ok 3 rfl ?_
                      refine OJ.split (t := 285) rfl (fun hb => ?_) (fun hb => ?_)
                      · replace H := pif_t (of_decide_eq_true hb) H
                        refine OJ.pures tU_ok 5 rfl ?_
                        refine OJ.split (t := 290) rfl (fun hb => ?_) (fun hb => ?_)
                        · replace H := pif_t (of_decide_eq_true hb) H
                          refine OJ.pures tU_ok 1 rfl ?_
                          refine OJ.st rfl rfl rfl (SR.fieldAddr tU_ok tI_ok rfl rfl rfl rfl rfl rfl) ?_
                          refine OJ.st rfl rfl rfl (SR.load rfl rfl (fun w' hx => ld1 tU_ok rfl rfl (CA.ext (CA.fld (hS.cells (i := 0) rfl) (mid_part (fe_Pasture_0 _) (fl_Pasture_0 _) ((ci .i8).len _))) hx) rfl)) ?_
                          refine OJ.pures tU_ok 2 rfl ?_
                          refine OJ.st rfl rfl rfl (SR.fieldAddr tU_ok tI_ok rfl rfl rfl rfl rfl rfl) ?_
                          refine OJ.st rfl rfl rfl (SR.load rfl rfl (fun w' hx => ld1 tU_ok rfl rfl (CA.ext (CA.fld (hS.cells (i := 0) rfl) (mid_part (fe_Pasture_1 _) (fl_Pasture_1 _) ((ci .i8).len _))) hx) rfl)) ?_
                          refine OJ.pures tU_ok 5 rfl ?_
                          refine OJ.split (t := 302) rfl (fun hb => ?_) (fun hb => ?_)
                          · replace H := pif_t (of_decide_eq_true hb) H
                            refine OJ.pures tU_ok 1 rfl ?_
                            obtain ⟨t58, ht58, H⟩ := pbind H
                            refine OJ.callF rfl rfl rfl rfl rfl hb23 rfl (impl_ValidMeadows.c k _ A42 c43 t41.1 (hS.rd (i := 1) rfl) (hS.le (i := 1) rfl) _ ht58) ?_
                            rintro _ w1 ⟨rfl, hs⟩
                            replace hS := hS.grow hs
                            refine OJ.pures tU_ok 2 rfl ?_
                            refine OJ.nil (EJ.next ?_)
                            refine CJ.ret (?_)
                            obtain rfl := Option.some.inj H
                            exact EJ.fin rfl (.tmp rfl .nil) ⟨rfl, hS.ext⟩
                          · replace H := pif_f (of_decide_eq_false hb) H
                            refine OJ.pures tU_ok 4 rfl ?_
                            refine OJ.nil (EJ.next ?_)
                            refine CJ.ret (?_)
                            obtain rfl := Option.some.inj H
                            exact EJ.fin rfl (.tmp rfl .nil) ⟨rfl, hS.ext⟩
                        · replace H := pif_f (of_decide_eq_false hb) H
                          refine OJ.pures tU_ok 16 rfl ?_
                          refine OJ.nil (EJ.next ?_)
                          refine CJ.ret (?_)
                          obtain rfl := Option.some.inj H
                          exact EJ.fin rfl (.tmp rfl .nil) ⟨rfl, hS.ext⟩
                      · replace H := pif_f (of_decide_eq_false hb) H
                        refine OJ.pures tU_ok 21 rfl ?_
                        refine OJ.nil (EJ.next ?_)
                        refine CJ.ret (?_)
                        obtain rfl := Option.some.inj H
                        exact EJ.fin rfl (.tmp rfl .nil) ⟨rfl, hS.ext⟩
end Go.Proofs.YtdbppckimfhgeaaGreatDoor
