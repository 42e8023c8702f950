/-
  What the functions come to.
-/
import Derived.Test.YtklgpejnogkccaaGreatDoorGP1
namespace Go.Proofs.YtklgpejnogkccaaGreatDoor
open G
set_option linter.unusedVariables false
set_option linter.unusedSimpArgs false
set_option maxRecDepth 100000
set_option maxHeartbeats 4000000
def spec_SameSpots.l1 (a0 : List Spot) (a1 : List Spot) : Nat → Int → Option (Bool ⊕ Unit)
  | 0, _ => none
  | k + 1, y1 => if y1 < (a0.length : Int) then ((getI a0 y1).bind fun t2 => (getI a1 y1).bind fun t3 => if t2 ≠ t3 then (some (Sum.inl false)) else (spec_SameSpots.l1 a0 a1 k (IntKind.i64.wrap (y1 + 1)))) else (some (Sum.inr ()))
def spec_SameSpots.f (k : Nat) (a0 : List Spot) (a1 : List Spot) : Option Bool := if (a0.length : Int) ≠ (a1.length : Int) then (some false) else ((spec_SameSpots.l1 a0 a1 k 0).bind fun s290 => match s290 with | .inl r => some r | .inr _ => some true)
theorem spec_SameSpots.c (k : Nat) (w : World) (Aa0 : Option Addr) (ca0 : Nat) (a0 : List Spot) (hr0 : Rd cSpot w Aa0 a0) (hc0 : a0.length ≤ ca0) (Aa1 : Option Addr) (ca1 : Nat) (a1 : List Spot) (hr1 : Rd cSpot w Aa1 a1) (hc1 : a1.length ≤ ca1) (r : Bool) (H : spec_SameSpots.f k a0 a1 = some r) :
 CV Tryz.prog 17 [.slice Aa0 a0.length ca0, .slice Aa1 a1.length ca1].toArray w fun v w' => v = .bool r ∧ Ext w w' := by
 have hS := (((St.init w no).param cSpot Aa0 ca0 a0 hr0 hc0).param cSpot Aa1 ca1 a1 hr1 hc1)
 unfold spec_SameSpots.f at H
 refine CV.body Tryz.func17 Z Tryz.ntmps17 Z ?_
 refine CJ.seq (CJ.region ?_)
 refine OJ.pures oU 1 Z (OJ.nil (EJ.next ?_))
 refine CJ.seq ?_
 refine CJ.seq (CJ.region ?_)
 refine OJ.pures oU 5 Z (OJ.nil (EJ.next ?_))
 refine CJ.cond Z (fun hb => ?_) (fun hb => ?_)
 ·replace H := pif_t (of_decide_eq_true hb) H
  refine CJ.seq (CJ.region ?_)
  refine OJ.pures oU 1 Z (OJ.nil (EJ.next ?_))
  refine CJ.ret (EJ.skR (?_))
  obtain rfl := Option.some.inj H
  exact EJ.fin Z (.tmp Z .nil) ⟨Z, hS.ext⟩
 replace H := pif_f (of_decide_eq_false hb) H
 refine CJ.skip (EJ.next ?_)
 refine CJ.seq ?_
 refine CJ.seq (CJ.region ?_)
 refine OJ.pures oU 1 Z (OJ.nil (EJ.next ?_))
 obtain ⟨j290, H, K290⟩ := pbind H
 refine CJ.cut1 (fun F w1 => (some (Sum.inr ()) : Option (Bool ⊕ Unit)) = some j290 ∧ F = [] ∧ St w no w1 [] [roC cSpot Aa0 ca0 a0, roC cSpot Aa1 ca1 a1]) ?_ ?_
 ·skip
  refine CJ.block ?_
  refine CJ.loop (fun k F w1 => ∃ (y1 : Int), F = [(0, .slice Aa0 a0.length ca0), (1, .slice Aa1 a1.length ca1), (5, .int .i64 y1)] ∧ St w no w1 [] [roC cSpot Aa0 ca0 a0, roC cSpot Aa1 ca1 a1] ∧ spec_SameSpots.l1 a0 a1 k y1 = some j290) k (F' := [(0, .slice Aa0 a0.length ca0), (1, .slice Aa1 a1.length ca1), (5, .int .i64 0)]) ⟨Z, Z, Z, trivial⟩ ⟨0, Z, hS.pick [] [0, 1] Z, H⟩ ?_
  rintro k F w1 ⟨y1, rfl, hS, H⟩
  cases k with
  | zero => rw [spec_SameSpots.l1] at H; cases H
  | succ k =>
    rw [spec_SameSpots.l1] at H
    refine CJ.seq ?_
    refine CJ.seq (CJ.region ?_)
    refine OJ.pures oU 4 Z (OJ.nil (EJ.next ?_))
    refine CJ.cond Z (fun hb => ?_) (fun hb => ?_)
    · replace H := pif_t (of_decide_eq_true hb) H
      refine CJ.skip (EJ.next ?_)
      refine CJ.seq ?_
      refine CJ.block ?_
      refine CJ.seq ?_
      refine CJ.draw [] [0, 1, 2, 3, 4, 5, 6, 7, 8] mixed (by kernel_rfl) hS fun w1 hS => ?_
      refine DJ.pures oU 2 Z ?_
      obtain ⟨t2, ht2, H⟩ := pbind H
      obtain ⟨ad2, e2⟩ := (hS.rd' (i := 0) rfl).some' ht2
      refine DJ.st Z Z Z Z Z (SR.idxS oU oI Z Z Z Z e2 Z (getI_some ht2).1) ?_
      refine DJ.st Z Z Z Z Z (SR.load Z Z (fun w' hx => ldE oU oI Z Z Z (CA.ext ((hS.rd' (i := 0) Z).at_ e2 ht2) hx) Z)) ?_
      refine DJ.pures oU 2 Z ?_
      obtain ⟨t3, ht3, H⟩ := pbind H
      obtain ⟨ad3, e3⟩ := (hS.rd' (i := 1) rfl).some' ht3
      refine DJ.st Z Z Z Z Z (SR.idxS oU oI Z Z Z Z e3 Z (getI_some ht3).1) ?_
      refine DJ.st Z Z Z Z Z (SR.load Z Z (fun w' hx => ldE oU oI Z Z Z (CA.ext ((hS.rd' (i := 1) Z).at_ e3 ht3) hx) Z)) ?_
      refine DJ.st Z Z Z Z Z (SR.neS eqT49 eqG49 Z Z Z (Z : _ = (cSpot.enc t2).toArray) (Z : _ = (cSpot.enc t3).toArray)) ?_
      refine DJ.nil (EJ.next ?_)
      refine CJ.cond Z (fun hb => ?_) (fun hb => ?_)
      · replace H := pif_t (of_decide_eq_true hb) H
        refine CJ.seq (CJ.region ?_)
        refine OJ.pures oU 1 Z (OJ.nil (EJ.next ?_))
        refine CJ.ret (EJ.bkR (EJ.skR (EJ.skR (EJ.bkR (EJ.skR (EJ.skR (?_)))))))
        first | (obtain rfl := Option.some.inj H; have H := K290) | (obtain ⟨q290, H2, e290⟩ := pbind H; obtain rfl := Option.some.inj e290; obtain rfl := Option.some.inj K290; have H := H2)
        obtain rfl := Option.some.inj H
        exact EJ.fin Z (.tmp Z .nil) ⟨Z, hS.ext⟩
      · replace H := pif_f (of_decide_eq_false hb) H
        refine CJ.skip (EJ.blk (EJ.next ?_))
        refine CJ.region ?_
        refine OJ.pures oU 3 Z ?_
        refine OJ.nil ?_
        exact EJ.round k (F' := [(0, .slice Aa0 a0.length ca0), (1, .slice Aa1 a1.length ca1), (5, .int .i64 (IntKind.i64.wrap (y1 + 1)))]) ⟨Z, Z, Z, trivial⟩ (Nat.lt_succ_self _) ⟨(IntKind.i64.wrap (y1 + 1)), Z, hS.pick [] [0, 1] Z, H⟩
    · replace H := pif_f (of_decide_eq_false hb) H
      refine CJ.exit (EJ.skE (EJ.skE (EJ.hit (?_))))
      exact EJ.meet (F' := []) trivial ⟨H, Z, hS.pick [] [0, 1] Z⟩
 rintro F w1 ⟨he, rfl, hS⟩
 obtain rfl := Option.some.inj he
 have H := K290
 refine EJ.next ?_
 refine CJ.seq (CJ.region ?_)
 refine OJ.pures oU 1 Z (OJ.nil (EJ.next ?_))
 refine CJ.ret (?_)
 obtain rfl := Option.some.inj H
 exact EJ.fin Z (.tmp Z .nil) ⟨Z, hS.ext⟩

def impl_ReachOf.f (k : Nat) (a0 : Pasture) (a1 : Stake) : Option (List Spot × Int) := (impl_stakeCode.f k a0 ([a1] : List Stake)).bind fun t4 => if t4 ≠ 0 then (some ([], t4)) else ((impl_Pasture_reach.f k a0 a1).bind fun t5 => some (t5, 0))
theorem impl_ReachOf.c (k : Nat) (w : World) (a0 : Pasture) (a1 : Stake) (r : List Spot × Int) (H : impl_ReachOf.f k a0 a1 = some r) :
 CV Tryz.prog 18 [.agg (cPasture.enc a0).toArray, .agg (cStake.enc a1).toArray].toArray w fun v w' => ∃ (A0 : Option Addr) (c0 : Nat), v = .tuple #[.slice A0 r.1.length c0, .int .i64 r.2] ∧ St w no w' [rowC cSpot A0 c0 49 r.1] [] := by
 have hS := (St.init w no)
 unfold impl_ReachOf.f at H
 refine CV.body Tryz.func18 Z Tryz.ntmps18 Z ?_
 refine CJ.seq (CJ.region ?_)
 refine OJ.ef Z Z Z (Ef.box hS Z Z (cPasture.enc a0) Z) ?_
 rintro _ w1 ⟨b1, rfl, hS⟩
 refine OJ.ef Z Z Z (Ef.box hS Z Z (cStake.enc a1) Z) ?_
 rintro _ w1 ⟨b2, rfl, hS⟩
 refine OJ.pures oU 2 Z (OJ.nil (EJ.next ?_))
 refine CJ.seq ?_
 refine CJ.seq (CJ.region ?_)
 refine OJ.st Z Z Z (SR.load Z Z (fun w' hx => ldE oU oI Z Z Z (CA.ext (hS.cells (i := 0) Z) hx) Z)) ?_
 refine OJ.st Z Z Z (SR.load Z Z (fun w' hx => ldE oU oI Z Z Z (CA.ext (hS.cells (i := 1) Z) hx) Z)) ?_
 refine OJ.ef Z Z Z (Ef.lit oU oI hS (C := cStake) Z Z Z Z Z Z ([a1] : List Stake) Z Z Z Z) ?_
 rintro _ w1 ⟨A3, rfl, hS⟩
 obtain ⟨t4, ht4, H⟩ := pbind H
 refine OJ.callF Z Z Z Z Z hb45 Z (impl_stakeCode.c k _ a0 A3 (([a1] : List Stake).length) ([a1] : List Stake) (hS.rd (i := 2) Z) (hS.le (i := 2) Z) _ ht4) ?_
 rintro _ w1 ⟨rfl, hs⟩
 replace hS := hS.grow hs
 refine OJ.pures oU 1 Z (OJ.nil (EJ.next ?_))
 refine CJ.seq (CJ.region ?_)
 refine OJ.pures oU 2 Z (OJ.nil (EJ.next ?_))
 refine CJ.cond Z (fun hb => ?_) (fun hb => ?_)
 ·replace H := pif_t (of_decide_eq_true hb) H
  refine CJ.seq (CJ.region ?_)
  refine OJ.pures oU 3 Z (OJ.nil (EJ.next ?_))
  refine CJ.ret (EJ.skR (?_))
  replace hS := hS.addNil cSpot 49 none
  obtain rfl := Option.some.inj H
  exact EJ.fin Z (.tmp Z (.tmp Z .nil)) ⟨none, 0, Z, hS.pick [3] [] Z⟩
 replace H := pif_f (of_decide_eq_false hb) H
 refine CJ.skip (EJ.next ?_)
 refine CJ.seq (CJ.region ?_)
 refine OJ.st Z Z Z (SR.load Z Z (fun w' hx => ldE oU oI Z Z Z (CA.ext (hS.cells (i := 0) Z) hx) Z)) ?_
 refine OJ.st Z Z Z (SR.load Z Z (fun w' hx => ldE oU oI Z Z Z (CA.ext (hS.cells (i := 1) Z) hx) Z)) ?_
 obtain ⟨t5, ht5, H⟩ := pbind H
 refine OJ.callF Z Z Z Z Z hb57 Z (impl_Pasture_reach.c k _ a0 a1 _ ht5) ?_
 rintro _ w1 ⟨A6, c7, rfl, hs⟩
 replace hS := hS.addN hs
 refine OJ.pures oU 2 Z (OJ.nil (EJ.next ?_))
 refine CJ.ret (?_)
 obtain rfl := Option.some.inj H
 exact EJ.fin Z (.tmp Z (.tmp Z .nil)) ⟨A6, c7, Z, hS.pick [3] [] Z⟩

def spec_l05One.f (k : Nat) (a0 : Pasture) (a1 : Stake) : Option Int := (spec_l01Ok.f k a0).bind fun t2 => if (!t2) = true then (some 1) else ((spec_l05Stake.f a0 a1).bind fun t3 => if (!t3) = true then (some 1) else (some 0))
theorem spec_l05One.c (k : Nat) (w : World) (pa0 : Addr) (a0 : Pasture) (hp0 : CA w pa0 (cPasture.enc a0)) (a1 : Stake) (r : Int) (H : spec_l05One.f k a0 a1 = some r) :
 CV Tryz.prog 58 [.pointer (some pa0), .agg (cStake.enc a1).toArray].toArray w fun v w' => v = .int .i64 r ∧ Ext w w' := by
 have hS := ((St.init w no).paramP pa0 (cPasture.enc a0) hp0)
 unfold spec_l05One.f at H
 refine CV.body Tryz.func58 Z Tryz.ntmps58 Z ?_
 refine CJ.seq (CJ.region ?_)
 refine OJ.ef Z Z Z (Ef.box hS Z Z (cStake.enc a1) Z) ?_
 rintro _ w1 ⟨b1, rfl, hS⟩
 refine OJ.pures oU 1 Z (OJ.nil (EJ.next ?_))
 refine CJ.seq ?_
 refine CJ.seq (CJ.region ?_)
 refine OJ.pures oU 1 Z ?_
 obtain ⟨t2, ht2, H⟩ := pbind H
 refine OJ.callF Z Z Z Z Z hb68 Z (spec_l01Ok.c k _ _ a0 (hS.ca (i := 0) Z) _ ht2) ?_
 rintro _ w1 ⟨rfl, hs⟩
 replace hS := hS.grow hs
 refine OJ.pures oU 2 Z ?_
 refine OJ.split (t := 8) Z (fun hb => ?_) (fun hb => ?_)
 ·replace H := pif_t hb H
  refine OJ.pures oU 5 Z (OJ.nil (EJ.next ?_))
  refine CJ.condT Z ?_
  refine CJ.seq (CJ.region ?_)
  refine OJ.pures oU 1 Z (OJ.nil (EJ.next ?_))
  refine CJ.ret (EJ.skR (?_))
  obtain rfl := Option.some.inj H
  exact EJ.fin Z (.tmp Z .nil) ⟨Z, hS.ext⟩
 replace H := pifb_f hb H
 refine OJ.pures oU 1 Z ?_
 refine OJ.st Z Z Z (SR.load Z Z (fun w' hx => ldE oU oI Z Z Z (CA.ext (hS.cells (i := 0) Z) hx) Z)) ?_
 obtain ⟨t3, ht3, H⟩ := pbind H
 refine OJ.callF Z Z Z Z Z hb69 Z (spec_l05Stake.c _ _ a0 (hS.ca (i := 0) Z) a1 _ ht3) ?_
 rintro _ w1 ⟨rfl, hs⟩
 replace hS := hS.grow hs
 refine OJ.pures oU 2 Z (OJ.nil (EJ.next ?_))
 refine CJ.cond Z (fun hb => ?_) (fun hb => ?_)
 ·replace H := pif_t hb H
  refine CJ.seq (CJ.region ?_)
  refine OJ.pures oU 1 Z (OJ.nil (EJ.next ?_))
  refine CJ.ret (EJ.skR (?_))
  obtain rfl := Option.some.inj H
  exact EJ.fin Z (.tmp Z .nil) ⟨Z, hS.ext⟩
 replace H := pifb_f hb H
 refine CJ.skip (EJ.next ?_)
 refine CJ.seq (CJ.region ?_)
 refine OJ.pures oU 1 Z (OJ.nil (EJ.next ?_))
 refine CJ.ret (?_)
 obtain rfl := Option.some.inj H
 exact EJ.fin Z (.tmp Z .nil) ⟨Z, hS.ext⟩

def spec_l05List.l2 (a0 : Arr 10 (Arr 10 Bool)) (y8 : Int) : Nat → (List Spot) → Int → Option (List Spot)
  | 0, _, _ => none
  | k + 1, y15, y18 => if y18 < 10 then ((getI a0.l y8).bind fun t19 => (getI t19.l y18).bind fun t20 => if t20 = true then ((chk (y15.length + ([(⟨y18, y8⟩ : Spot)] : List Spot).length ≤ 4294967296)).bind fun u22 => spec_l05List.l2 a0 y8 k (y15 ++ ([(⟨y18, y8⟩ : Spot)] : List Spot)) (IntKind.i8.wrap (y18 + 1))) else (spec_l05List.l2 a0 y8 k y15 (IntKind.i8.wrap (y18 + 1)))) else (some y15)
def spec_l05List.l1 (a0 : Arr 10 (Arr 10 Bool)) : Nat → (List Spot) → Int → Option (List Spot)
  | 0, _, _ => none
  | k + 1, y5, y8 => if y8 < 10 then (((spec_l05List.l2 a0 y8 k y5 0).bind fun y12 => some y12).bind fun y9 => spec_l05List.l1 a0 k y9 (IntKind.i8.wrap (y8 + 1))) else (some y5)
def spec_l05List.f (k : Nat) (a0 : Arr 10 (Arr 10 Bool)) : Option (List Spot) := (spec_l05List.l1 a0 k ([] : List Spot) 0).bind fun y2 => some y2
theorem spec_l05List.c (k : Nat) (w : World) (pa0 : Addr) (a0 : Arr 10 (Arr 10 Bool)) (hp0 : CA w pa0 ((carr 10 (carr 10 cb)).enc a0)) (r : List Spot) (H : spec_l05List.f k a0 = some r) :
 CV Tryz.prog 60 [.pointer (some pa0)].toArray w fun v w' => ∃ (A0 : Option Addr) (c0 : Nat), v = .slice A0 r.length c0 ∧ St w no w' [rowC cSpot A0 c0 49 r] [] := by
 have hS := ((St.init w no).paramP pa0 ((carr 10 (carr 10 cb)).enc a0) hp0)
 unfold spec_l05List.f at H
 refine CV.body Tryz.func60 Z Tryz.ntmps60 Z ?_
 refine CJ.seq (CJ.region ?_)
 refine OJ.pures oU 1 Z (OJ.nil (EJ.next ?_))
 refine CJ.seq (CJ.region ?_)
 refine OJ.ef Z Z Z (Ef.lit oU oI hS (C := cSpot) Z Z Z Z Z Z ([] : List Spot) Z Z Z Z) ?_
 rintro _ w1 ⟨A1, rfl, hS⟩
 refine OJ.pures oU 1 Z (OJ.nil (EJ.next ?_))
 refine CJ.seq ?_
 refine CJ.seq (CJ.region ?_)
 refine OJ.pures oU 1 Z (OJ.nil (EJ.next ?_))
 obtain ⟨j293, H, K293⟩ := pbind H
 refine CJ.cut1 (fun F w1 => ∃ (y2 : List Spot) (A3 : Option Addr) (c4 : Nat), (some y2 : Option (List Spot)) = some j293 ∧ F = [(3, .slice A3 y2.length c4)] ∧ St w no w1 [rowC cSpot A3 c4 49 y2] [roP pa0 ((carr 10 (carr 10 cb)).enc a0)]) ?_ ?_
 ·skip
  refine CJ.block ?_
  refine CJ.loop (fun k F w1 => ∃ (y5 : List Spot) (y8 : Int) (A6 : Option Addr) (c7 : Nat), F = [(0, .pointer (some pa0)), (3, .slice A6 y5.length c7), (4, .int .i8 y8)] ∧ St w no w1 [rowC cSpot A6 c7 49 y5] [roP pa0 ((carr 10 (carr 10 cb)).enc a0)] ∧ spec_l05List.l1 a0 k y5 y8 = some j293) k (F' := [(0, .pointer (some pa0)), (3, .slice A1 ([] : List Spot).length (([] : List Spot).length)), (4, .int .i8 0)]) ⟨Z, Z, Z, trivial⟩ ⟨([] : List Spot), 0, A1, (([] : List Spot).length), Z, hS.pick [0] [0] Z, H⟩ ?_
  rintro k F w1 ⟨y5, y8, A6, c7, rfl, hS, H⟩
  cases k with
  | zero => rw [spec_l05List.l1] at H; cases H
  | succ k =>
    rw [spec_l05List.l1] at H
    refine CJ.seq ?_
    refine CJ.seq (CJ.region ?_)
    refine OJ.pures oU 2 Z (OJ.nil (EJ.next ?_))
    refine CJ.cond Z (fun hb => ?_) (fun hb => ?_)
    · replace H := pif_t (of_decide_eq_true hb) H
      refine CJ.skip (EJ.next ?_)
      obtain ⟨j300, H, K300⟩ := pbind H
      refine CJ.cut (fun F w1 => ∃ (y9 : List Spot) (A10 : Option Addr) (c11 : Nat), (some y9 : Option (List Spot)) = some j300 ∧ F = [(0, .pointer (some pa0)), (3, .slice A10 y9.length c11), (4, .int .i8 y8)] ∧ St w no w1 [rowC cSpot A10 c11 49 y9] [roP pa0 ((carr 10 (carr 10 cb)).enc a0)]) ?_ ?_
      · skip
        refine CJ.block ?_
        refine CJ.seq (CJ.region ?_)
        refine OJ.pures oU 1 Z (OJ.nil (EJ.next ?_))
        obtain ⟨j302, H, K302⟩ := pbind H
        refine CJ.cut1 (fun F w1 => ∃ (y12 : List Spot) (A13 : Option Addr) (c14 : Nat), (some y12 : Option (List Spot)) = some j302 ∧ F = [(0, .pointer (some pa0)), (3, .slice A13 y12.length c14), (4, .int .i8 y8)] ∧ St w no w1 [rowC cSpot A13 c14 49 y12] [roP pa0 ((carr 10 (carr 10 cb)).enc a0)]) ?_ ?_
        · skip
          refine CJ.block ?_
          refine CJ.loop (fun k F w1 => ∃ (y15 : List Spot) (y18 : Int) (A16 : Option Addr) (c17 : Nat), F = [(0, .pointer (some pa0)), (3, .slice A16 y15.length c17), (4, .int .i8 y8), (5, .int .i8 y18)] ∧ St w no w1 [rowC cSpot A16 c17 49 y15] [roP pa0 ((carr 10 (carr 10 cb)).enc a0)] ∧ spec_l05List.l2 a0 y8 k y15 y18 = some j302) k (F' := [(0, .pointer (some pa0)), (3, .slice A6 y5.length c7), (4, .int .i8 y8), (5, .int .i8 0)]) ⟨Z, Z, Z, Z, trivial⟩ ⟨y5, 0, A6, c7, Z, hS.pick [0] [0] Z, H⟩ ?_
          rintro k F w1 ⟨y15, y18, A16, c17, rfl, hS, H⟩
          cases k with
          | zero => rw [spec_l05List.l2] at H; cases H
          | succ k =>
            rw [spec_l05List.l2] at H
            refine CJ.seq ?_
            refine CJ.seq (CJ.region ?_)
            refine OJ.pures oU 2 Z (OJ.nil (EJ.next ?_))
            refine CJ.cond Z (fun hb => ?_) (fun hb => ?_)
            · replace H := pif_t (of_decide_eq_true hb) H
              refine CJ.skip (EJ.next ?_)
              refine CJ.seq ?_
              refine CJ.block ?_
              refine CJ.seq (CJ.region ?_)
              refine OJ.pures oU 4 Z ?_
              obtain ⟨t19, ht19, H⟩ := pbind H
              refine OJ.st Z Z Z (SR.idxA oU oI Z Z Z Z Z (Arr.lt ht19)) ?_
              obtain ⟨t20, ht20, H⟩ := pbind H
              refine OJ.st Z Z Z (SR.idxA oU oI Z Z Z Z Z (Arr.lt ht20)) ?_
              refine OJ.st Z Z Z (SR.load Z Z (fun w' hx => ld1 oU Z Z (CA.ext (CA.idx (CA.idx (hS.ca (i := 0) Z) ht19) ht20) hx) Z)) ?_
              refine OJ.nil (EJ.next ?_)
              refine CJ.cond Z (fun hb => ?_) (fun hb => ?_)
              · replace H := pif_t hb H
                refine CJ.region ?_
                refine OJ.pures oU 3 Z ?_
                refine OJ.st Z Z Z (SR.build (C := cSpot) oU oI Z Z Z (zs := [.int .i8 0, .int .i8 0]) Z Z Z (⟨y18, y8⟩ : Spot) Z) ?_
                refine OJ.ef Z Z Z (Ef.lit oU oI hS (C := cSpot) Z Z Z Z Z Z ([(⟨y18, y8⟩ : Spot)] : List Spot) Z Z Z Z) ?_
                rintro _ w1 ⟨A21, rfl, hS⟩
                obtain ⟨u22, hu22, H⟩ := pbind H
                refine OJ.ew Z Z Z (Ew.append oU oI (C := cSpot) (xs := y15) (ys := ([(⟨y18, y8⟩ : Spot)] : List Spot)) hS (i := 0) Z Z Z Z Z Z Z Z Z Z Z Z Z (hS.rd (i := 1) Z) (chk_some hu22)) ?_
                rintro _ w1 ⟨A23, c24, rfl, hS⟩
                refine OJ.pures oU 1 Z ?_
                refine OJ.nil (EJ.blk (EJ.next ?_))
                refine CJ.region ?_
                refine OJ.pures oU 3 Z ?_
                refine OJ.nil ?_
                exact EJ.round k (F' := [(0, .pointer (some pa0)), (3, .slice A23 (y15 ++ ([(⟨y18, y8⟩ : Spot)] : List Spot)).length c24), (4, .int .i8 y8), (5, .int .i8 (IntKind.i8.wrap (y18 + 1)))]) ⟨Z, Z, Z, Z, trivial⟩ (Nat.lt_succ_self _) ⟨(y15 ++ ([(⟨y18, y8⟩ : Spot)] : List Spot)), (IntKind.i8.wrap (y18 + 1)), A23, c24, Z, hS.pick [0] [0] Z, H⟩
              · replace H := pifb_f hb H
                refine CJ.skip (EJ.blk (EJ.next ?_))
                refine CJ.region ?_
                refine OJ.pures oU 3 Z ?_
                refine OJ.nil ?_
                exact EJ.round k (F' := [(0, .pointer (some pa0)), (3, .slice A16 y15.length c17), (4, .int .i8 y8), (5, .int .i8 (IntKind.i8.wrap (y18 + 1)))]) ⟨Z, Z, Z, Z, trivial⟩ (Nat.lt_succ_self _) ⟨y15, (IntKind.i8.wrap (y18 + 1)), A16, c17, Z, hS.pick [0] [0] Z, H⟩
            · replace H := pif_f (of_decide_eq_false hb) H
              refine CJ.exit (EJ.skE (EJ.skE (EJ.hit (?_))))
              exact EJ.meet (F' := [(0, .pointer (some pa0)), (3, .slice A16 y15.length c17), (4, .int .i8 y8)]) ⟨Z, Z, Z, trivial⟩ ⟨y15, A16, c17, H, Z, hS.pick [0] [0] Z⟩
        · rintro F w1 ⟨y12, A13, c14, he, rfl, hS⟩
          obtain rfl := Option.some.inj he
          have H := K302
          refine EJ.blk (?_)
          exact EJ.meet (F' := [(0, .pointer (some pa0)), (3, .slice A13 y12.length c14), (4, .int .i8 y8)]) ⟨Z, Z, Z, trivial⟩ ⟨y12, A13, c14, H, Z, hS.pick [0] [0] Z⟩
      · rintro F w1 ⟨y9, A10, c11, he, rfl, hS⟩
        obtain rfl := Option.some.inj he
        have H := K300
        refine CJ.region ?_
        refine OJ.pures oU 3 Z ?_
        refine OJ.nil ?_
        exact EJ.round k (F' := [(0, .pointer (some pa0)), (3, .slice A10 y9.length c11), (4, .int .i8 (IntKind.i8.wrap (y8 + 1)))]) ⟨Z, Z, Z, trivial⟩ (Nat.lt_succ_self _) ⟨y9, (IntKind.i8.wrap (y8 + 1)), A10, c11, Z, hS.pick [0] [0] Z, H⟩
    · replace H := pif_f (of_decide_eq_false hb) H
      refine CJ.exit (EJ.skE (EJ.skE (EJ.hit (?_))))
      exact EJ.meet (F' := [(3, .slice A6 y5.length c7)]) ⟨Z, trivial⟩ ⟨y5, A6, c7, H, Z, hS.pick [0] [0] Z⟩
 rintro F w1 ⟨y2, A3, c4, he, rfl, hS⟩
 obtain rfl := Option.some.inj he
 have H := K293
 refine EJ.next ?_
 refine CJ.seq (CJ.region ?_)
 refine OJ.pures oU 2 Z (OJ.nil (EJ.next ?_))
 refine CJ.ret (?_)
 obtain rfl := Option.some.inj H
 exact EJ.fin Z (.tmp Z .nil) ⟨A3, c4, Z, hS.pick [0] [] Z⟩

def spec_ReachOf.f (k : Nat) (a0 : Pasture) (a1 : Stake) : Option (List Spot × Int) := (spec_l05One.f k a0 a1).bind fun t3 => if t3 ≠ 0 then (some (([] : List Spot), t3)) else ((spec_l05Mask.f k a0 a1).bind fun t5 => (spec_l05List.f k t5).bind fun t7 => some (t7, 0))
theorem spec_ReachOf.c (k : Nat) (w : World) (a0 : Pasture) (a1 : Stake) (r : List Spot × Int) (H : spec_ReachOf.f k a0 a1 = some r) :
 CV Tryz.prog 19 [.agg (cPasture.enc a0).toArray, .agg (cStake.enc a1).toArray].toArray w fun v w' => ∃ (A0 : Option Addr) (c0 : Nat), v = .tuple #[.slice A0 r.1.length c0, .int .i64 r.2] ∧ St w no w' [rowC cSpot A0 c0 49 r.1] [] := by
 have hS := (St.init w no)
 unfold spec_ReachOf.f at H
 refine CV.body Tryz.func19 Z Tryz.ntmps19 Z ?_
 refine CJ.seq (CJ.region ?_)
 refine OJ.ef Z Z Z (Ef.box hS Z Z (cPasture.enc a0) Z) ?_
 rintro _ w1 ⟨b1, rfl, hS⟩
 refine OJ.ef Z Z Z (Ef.box hS Z Z (cStake.enc a1) Z) ?_
 rintro _ w1 ⟨b2, rfl, hS⟩
 refine OJ.pures oU 2 Z (OJ.nil (EJ.next ?_))
 refine CJ.seq ?_
 refine CJ.seq (CJ.region ?_)
 refine OJ.st Z Z Z (SR.load Z Z (fun w' hx => ldE oU oI Z Z Z (CA.ext (hS.cells (i := 1) Z) hx) Z)) ?_
 obtain ⟨t3, ht3, H⟩ := pbind H
 refine OJ.callF Z Z Z Z Z hb58 Z (spec_l05One.c k _ _ a0 (hS.cells (i := 0) Z) a1 _ ht3) ?_
 rintro _ w1 ⟨rfl, hs⟩
 replace hS := hS.grow hs
 refine OJ.pures oU 1 Z (OJ.nil (EJ.next ?_))
 refine CJ.seq (CJ.region ?_)
 refine OJ.pures oU 2 Z (OJ.nil (EJ.next ?_))
 refine CJ.cond Z (fun hb => ?_) (fun hb => ?_)
 ·replace H := pif_t (of_decide_eq_true hb) H
  refine CJ.seq (CJ.region ?_)
  refine OJ.ef Z Z Z (Ef.lit oU oI hS (C := cSpot) Z Z Z Z Z Z ([] : List Spot) Z Z Z Z) ?_
  rintro _ w1 ⟨A4, rfl, hS⟩
  refine OJ.pures oU 3 Z (OJ.nil (EJ.next ?_))
  refine CJ.ret (EJ.skR (?_))
  obtain rfl := Option.some.inj H
  exact EJ.fin Z (.tmp Z (.tmp Z .nil)) ⟨A4, (([] : List Spot).length), Z, hS.pick [2] [] Z⟩
 replace H := pif_f (of_decide_eq_false hb) H
 refine CJ.skip (EJ.next ?_)
 refine CJ.seq (CJ.region ?_)
 refine OJ.st Z Z Z (SR.load Z Z (fun w' hx => ldE oU oI Z Z Z (CA.ext (hS.cells (i := 1) Z) hx) Z)) ?_
 obtain ⟨t5, ht5, H⟩ := pbind H
 refine OJ.callF Z Z Z Z Z hb59 Z (spec_l05Mask.c k _ _ a0 (hS.cells (i := 0) Z) a1 _ ht5) ?_
 rintro _ w1 ⟨rfl, hs⟩
 replace hS := hS.grow hs
 refine OJ.ef rfl rfl rfl (Ef.alloc hS oI rfl rfl ((carr 10 (carr 10 cb)).enc (Arr.mk' (Arr.mk' false : Arr 10 Bool) : Arr 10 (Arr 10 Bool))) (by kernel_rfl)) ?_
 rintro _ w1 ⟨b6, rfl, hS⟩
 refine OJ.es rfl rfl (Es.put oI hS (i := 2) rfl rfl rfl rfl rfl (vs := (carr 10 (carr 10 cb)).enc t5) rfl ((carr 10 (carr 10 cb)).len _) ((carr 10 (carr 10 cb)).one _) (Put.all (carr 10 (carr 10 cb)) (Arr.mk' (Arr.mk' false : Arr 10 Bool) : Arr 10 (Arr 10 Bool)) t5) (by (try simp only [add_lit, Nat.add_assoc, Nat.zero_add, Nat.add_zero]) <;> rfl)) ?_
 intro w1 hS
 refine OJ.nil (EJ.next ?_)
 refine CJ.seq (CJ.region ?_)
 obtain ⟨t7, ht7, H⟩ := pbind H
 refine OJ.callF Z Z Z Z Z hb60 Z (spec_l05List.c k _ _ t5 (hS.cells (i := 2) Z) _ ht7) ?_
 rintro _ w1 ⟨A8, c9, rfl, hs⟩
 replace hS := hS.addN hs
 refine OJ.pures oU 2 Z (OJ.nil (EJ.next ?_))
 refine CJ.ret (?_)
 obtain rfl := Option.some.inj H
 exact EJ.fin Z (.tmp Z (.tmp Z .nil)) ⟨A8, c9, Z, hS.pick [3] [] Z⟩

def impl_Pasture_grass.f (a0 : Pasture) (a1 : Spot) : Option Int := (getI a0.Grass.l a1.Y).bind fun t3 => (getI t3.l a1.X).bind fun t4 => some (IntKind.i64.wrap t4)
theorem impl_Pasture_grass.c (w : World) (a0 : Pasture) (a1 : Spot) (r : Int) (H : impl_Pasture_grass.f a0 a1 = some r) :
 CV Tryz.prog 98 [.agg (cPasture.enc a0).toArray, .agg (cSpot.enc a1).toArray].toArray w fun v w' => v = .int .i64 r ∧ Ext w w' := by
 have hS := (St.init w no)
 unfold impl_Pasture_grass.f at H
 refine CV.body Tryz.func98 Z Tryz.ntmps98 Z ?_
 refine CJ.seq (CJ.region ?_)
 refine OJ.ef Z Z Z (Ef.box hS Z Z (cPasture.enc a0) Z) ?_
 rintro _ w1 ⟨b1, rfl, hS⟩
 refine OJ.ef Z Z Z (Ef.box hS Z Z (cSpot.enc a1) Z) ?_
 rintro _ w1 ⟨b2, rfl, hS⟩
 refine OJ.pures oU 1 Z (OJ.nil (EJ.next ?_))
 refine CJ.seq ?_
 refine CJ.draw [] [0, 1, 2, 3, 4, 5, 6, 7, 8, 9] mixed (by kernel_rfl) hS fun w1 hS => ?_
 refine DJ.st Z Z Z Z Z (SR.fieldAddr oU oI Z Z Z Z Z Z) ?_
 refine DJ.st Z Z Z Z Z (SR.load Z Z (fun w' hx => ld1 oU Z Z (CA.ext (CA.sub (hS.cells (i := 1) Z) 1) hx) Z)) ?_
 refine DJ.st Z Z Z Z Z (SR.fieldAddr oU oI Z Z Z Z Z Z) ?_
 refine DJ.st Z Z Z Z Z (SR.load Z Z (fun w' hx => ld1 oU Z Z (CA.ext (CA.sub (hS.cells (i := 1) Z) 0) hx) Z)) ?_
 refine DJ.st Z Z Z Z Z (SR.fieldAddr oU oI Z Z Z Z Z Z) ?_
 obtain ⟨t3, ht3, H⟩ := pbind H
 refine DJ.st Z Z Z Z Z (SR.idxA oU oI Z Z Z Z Z (Arr.lt ht3)) ?_
 obtain ⟨t4, ht4, H⟩ := pbind H
 refine DJ.st Z Z Z Z Z (SR.idxA oU oI Z Z Z Z Z (Arr.lt ht4)) ?_
 refine DJ.st Z Z Z Z Z (SR.load Z Z (fun w' hx => ld1 oU Z Z (CA.ext (CA.idx (CA.idx (CA.fld (hS.cells (i := 0) Z) (mid_part (fe_Pasture_2 _) (fl_Pasture_2 _) ((carr 10 (carr 10 (ci .i16))).len _))) ht3) ht4) hx) Z)) ?_
 refine DJ.pures oU 2 Z ?_
 refine DJ.nil (EJ.next ?_)
 refine CJ.ret (?_)
 obtain rfl := Option.some.inj H
 exact EJ.fin Z (.tmp Z .nil) ⟨Z, hS.ext⟩

def impl_Pasture_sumOf.l1 (a0 : Pasture) (a1 : List Spot) : Nat → Int → Int → Option Int
  | 0, _, _ => none
  | k + 1, y3, y4 => if y4 < (a1.length : Int) then ((getI a1 y4).bind fun t5 => (impl_Pasture_grass.f a0 t5).bind fun t7 => impl_Pasture_sumOf.l1 a0 a1 k (IntKind.i64.wrap (y3 + t7)) (IntKind.i64.wrap (y4 + 1))) else (some y3)
def impl_Pasture_sumOf.f (k : Nat) (a0 : Pasture) (a1 : List Spot) : Option Int := (impl_Pasture_sumOf.l1 a0 a1 k 0 0).bind fun y2 => some y2
theorem impl_Pasture_sumOf.c (k : Nat) (w : World) (a0 : Pasture) (Aa1 : Option Addr) (ca1 : Nat) (a1 : List Spot) (hr1 : Rd cSpot w Aa1 a1) (hc1 : a1.length ≤ ca1) (r : Int) (H : impl_Pasture_sumOf.f k a0 a1 = some r) :
 CV Tryz.prog 61 [.agg (cPasture.enc a0).toArray, .slice Aa1 a1.length ca1].toArray w fun v w' => v = .int .i64 r ∧ Ext w w' := by
 have hS := ((St.init w no).param cSpot Aa1 ca1 a1 hr1 hc1)
 unfold impl_Pasture_sumOf.f at H
 refine CV.body Tryz.func61 Z Tryz.ntmps61 Z ?_
 refine CJ.seq (CJ.region ?_)
 refine OJ.ef Z Z Z (Ef.box hS Z Z (cPasture.enc a0) Z) ?_
 rintro _ w1 ⟨b1, rfl, hS⟩
 refine OJ.pures oU 1 Z (OJ.nil (EJ.next ?_))
 refine CJ.seq (CJ.region ?_)
 refine OJ.pures oU 1 Z (OJ.nil (EJ.next ?_))
 refine CJ.seq ?_
 refine CJ.seq (CJ.region ?_)
 refine OJ.pures oU 3 Z (OJ.nil (EJ.next ?_))
 obtain ⟨j303, H, K303⟩ := pbind H
 refine CJ.cut1 (fun F w1 => ∃ (y2 : Int) , (some y2 : Option Int) = some j303 ∧ F = [(5, .int .i64 y2)] ∧ St w no w1 [] [roC cSpot Aa1 ca1 a1]) ?_ ?_
 ·skip
  refine CJ.block ?_
  refine CJ.loop (fun k F w1 => ∃ (y3 : Int) (y4 : Int), F = [(2, .pointer (some ⟨b1, 0, none⟩)), (5, .int .i64 y3), (8, .slice Aa1 a1.length ca1), (9, .int .i64 (a1.length : Int)), (10, .int .i64 y4)] ∧ St w no w1 [box b1 (cPasture.enc a0) 31] [roC cSpot Aa1 ca1 a1] ∧ impl_Pasture_sumOf.l1 a0 a1 k y3 y4 = some j303) k (F' := [(2, .pointer (some ⟨b1, 0, none⟩)), (5, .int .i64 0), (8, .slice Aa1 a1.length ca1), (9, .int .i64 (a1.length : Int)), (10, .int .i64 0)]) ⟨Z, Z, Z, Z, Z, trivial⟩ ⟨0, 0, Z, hS.pick [0] [0] Z, H⟩ ?_
  rintro k F w1 ⟨y3, y4, rfl, hS, H⟩
  cases k with
  | zero => rw [impl_Pasture_sumOf.l1] at H; cases H
  | succ k =>
    rw [impl_Pasture_sumOf.l1] at H
    refine CJ.seq (CJ.region ?_)
    refine OJ.pures oU 1 Z (OJ.nil (EJ.next ?_))
    refine CJ.seq ?_
    refine CJ.cond Z (fun hb => ?_) (fun hb => ?_)
    · replace H := pif_t (of_decide_eq_true hb) H
      refine CJ.skip (EJ.next ?_)
      refine CJ.seq ?_
      refine CJ.block ?_
      refine CJ.seq (CJ.region ?_)
      obtain ⟨t5, ht5, H⟩ := pbind H
      obtain ⟨ad5, e5⟩ := (hS.rd' (i := 0) rfl).some' ht5
      refine OJ.st Z Z Z (SR.idxS oU oI Z Z Z Z e5 Z (getI_some ht5).1) ?_
      refine OJ.st Z Z Z (SR.load Z Z (fun w' hx => ldE oU oI Z Z Z (CA.ext ((hS.rd' (i := 0) Z).at_ e5 ht5) hx) Z)) ?_
      refine OJ.ef Z Z Z (Ef.alloc hS oI Z Z (cSpot.enc (⟨0, 0⟩ : Spot)) Z) ?_
      rintro _ w1 ⟨b6, rfl, hS⟩
      refine OJ.es Z Z (Es.store oI hS (i := 1) Z Z Z Z Z Z (vs := cSpot.enc t5) Z (cSpot.len _) (cSpot.one _) (Nat.le_of_ble_eq_true Z) (cSpot.enc t5) Z) ?_
      intro w1 hS
      refine OJ.nil (EJ.next ?_)
      refine CJ.region ?_
      refine OJ.pures oU 1 Z ?_
      refine OJ.st Z Z Z (SR.load Z Z (fun w' hx => ldE oU oI Z Z Z (CA.ext (hS.cells (i := 0) Z) hx) Z)) ?_
      refine OJ.st Z Z Z (SR.load Z Z (fun w' hx => ldE oU oI Z Z Z (CA.ext (hS.cells (i := 1) Z) hx) Z)) ?_
      obtain ⟨t7, ht7, H⟩ := pbind H
      refine OJ.callF Z Z Z Z Z hb98 Z (impl_Pasture_grass.c _ a0 t5 _ ht7) ?_
      rintro _ w1 ⟨rfl, hs⟩
      replace hS := hS.grow hs
      refine OJ.pures oU 2 Z ?_
      refine OJ.nil (EJ.blk (EJ.next ?_))
      refine CJ.region ?_
      refine OJ.pures oU 2 Z ?_
      refine OJ.nil ?_
      exact EJ.round k (F' := [(2, .pointer (some ⟨b1, 0, none⟩)), (5, .int .i64 (IntKind.i64.wrap (y3 + t7))), (8, .slice Aa1 a1.length ca1), (9, .int .i64 (a1.length : Int)), (10, .int .i64 (IntKind.i64.wrap (y4 + 1)))]) ⟨Z, Z, Z, Z, Z, trivial⟩ (Nat.lt_succ_self _) ⟨(IntKind.i64.wrap (y3 + t7)), (IntKind.i64.wrap (y4 + 1)), Z, hS.pick [0] [0] Z, H⟩
    · replace H := pif_f (of_decide_eq_false hb) H
      refine CJ.exit (EJ.skE (EJ.skE (EJ.hit (?_))))
      exact EJ.meet (F' := [(5, .int .i64 y3)]) ⟨Z, trivial⟩ ⟨y3, H, Z, hS.pick [] [0] Z⟩
 rintro F w1 ⟨y2, he, rfl, hS⟩
 obtain rfl := Option.some.inj he
 have H := K303
 refine EJ.next ?_
 refine CJ.seq (CJ.region ?_)
 refine OJ.pures oU 2 Z (OJ.nil (EJ.next ?_))
 refine CJ.ret (?_)
 obtain rfl := Option.some.inj H
 exact EJ.fin Z (.tmp Z .nil) ⟨Z, hS.ext⟩

def impl_FoodOf.f (k : Nat) (a0 : Pasture) (a1 : Stake) : Option (Int × Int) := (impl_stakeCode.f k a0 ([a1] : List Stake)).bind fun t4 => if t4 ≠ 0 then (some (0, t4)) else ((impl_Pasture_reach.f k a0 a1).bind fun t5 => (impl_Pasture_sumOf.f k a0 t5).bind fun t8 => some (t8, 0))
theorem impl_FoodOf.c (k : Nat) (w : World) (a0 : Pasture) (a1 : Stake) (r : Int × Int) (H : impl_FoodOf.f k a0 a1 = some r) :
 CV Tryz.prog 20 [.agg (cPasture.enc a0).toArray, .agg (cStake.enc a1).toArray].toArray w fun v w' => v = .tuple #[.int .i64 r.1, .int .i64 r.2] ∧ Ext w w' := by
 have hS := (St.init w no)
 unfold impl_FoodOf.f at H
 refine CV.body Tryz.func20 Z Tryz.ntmps20 Z ?_
 refine CJ.seq (CJ.region ?_)
 refine OJ.ef Z Z Z (Ef.box hS Z Z (cPasture.enc a0) Z) ?_
 rintro _ w1 ⟨b1, rfl, hS⟩
 refine OJ.ef Z Z Z (Ef.box hS Z Z (cStake.enc a1) Z) ?_
 rintro _ w1 ⟨b2, rfl, hS⟩
 refine OJ.pures oU 2 Z (OJ.nil (EJ.next ?_))
 refine CJ.seq ?_
 refine CJ.seq (CJ.region ?_)
 refine OJ.st Z Z Z (SR.load Z Z (fun w' hx => ldE oU oI Z Z Z (CA.ext (hS.cells (i := 0) Z) hx) Z)) ?_
 refine OJ.st Z Z Z (SR.load Z Z (fun w' hx => ldE oU oI Z Z Z (CA.ext (hS.cells (i := 1) Z) hx) Z)) ?_
 refine OJ.ef Z Z Z (Ef.lit oU oI hS (C := cStake) Z Z Z Z Z Z ([a1] : List Stake) Z Z Z Z) ?_
 rintro _ w1 ⟨A3, rfl, hS⟩
 obtain ⟨t4, ht4, H⟩ := pbind H
 refine OJ.callF Z Z Z Z Z hb45 Z (impl_stakeCode.c k _ a0 A3 (([a1] : List Stake).length) ([a1] : List Stake) (hS.rd (i := 2) Z) (hS.le (i := 2) Z) _ ht4) ?_
 rintro _ w1 ⟨rfl, hs⟩
 replace hS := hS.grow hs
 refine OJ.pures oU 1 Z (OJ.nil (EJ.next ?_))
 refine CJ.seq (CJ.region ?_)
 refine OJ.pures oU 2 Z (OJ.nil (EJ.next ?_))
 refine CJ.cond Z (fun hb => ?_) (fun hb => ?_)
 ·replace H := pif_t (of_decide_eq_true hb) H
  refine CJ.seq (CJ.region ?_)
  refine OJ.pures oU 3 Z (OJ.nil (EJ.next ?_))
  refine CJ.ret (EJ.skR (?_))
  obtain rfl := Option.some.inj H
  exact EJ.fin Z (.tmp Z (.tmp Z .nil)) ⟨Z, hS.ext⟩
 replace H := pif_f (of_decide_eq_false hb) H
 refine CJ.skip (EJ.next ?_)
 refine CJ.seq ?_
 refine CJ.draw [] [0, 1, 2, 3, 4, 5, 6] mixed (by kernel_rfl) hS fun w1 hS => ?_
 refine DJ.st Z Z Z Z Z (SR.load Z Z (fun w' hx => ldE oU oI Z Z Z (CA.ext (hS.cells (i := 0) Z) hx) Z)) ?_
 refine DJ.st Z Z Z Z Z (SR.load Z Z (fun w' hx => ldE oU oI Z Z Z (CA.ext (hS.cells (i := 0) Z) hx) Z)) ?_
 refine DJ.st Z Z Z Z Z (SR.load Z Z (fun w' hx => ldE oU oI Z Z Z (CA.ext (hS.cells (i := 1) Z) hx) Z)) ?_
 obtain ⟨t5, ht5, H⟩ := pbind H
 refine DJ.callF rfl rfl rfl rfl rfl rfl rfl hb57 rfl (impl_Pasture_reach.c k _ a0 a1 _ ht5) (by rintro v w' ⟨A6, c7, rfl, hs⟩; exact hs.ext) ?_
 rintro _ w1 ⟨A6, c7, rfl, hs⟩
 replace hS := hS.addN hs
 obtain ⟨t8, ht8, H⟩ := pbind H
 refine DJ.callF rfl rfl rfl rfl rfl rfl rfl hb61 rfl (impl_Pasture_sumOf.c k _ a0 A6 c7 t5 (hS.rd (i := 3) rfl) (hS.le (i := 3) rfl) _ ht8) (by rintro v w' ⟨rfl, hs⟩; exact hs) ?_
 rintro _ w1 ⟨rfl, hs⟩
 replace hS := hS.grow hs
 refine DJ.pures oU 2 Z ?_
 refine DJ.nil (EJ.next ?_)
 refine CJ.ret (?_)
 obtain rfl := Option.some.inj H
 exact EJ.fin Z (.tmp Z (.tmp Z .nil)) ⟨Z, hS.ext⟩

def spec_l01All.l1 (a0 : Pasture) (a1 : List Spot) : Nat → Int → Option (Int ⊕ Unit)
  | 0, _ => none
  | k + 1, y2 => if y2 < (a1.length : Int) then ((getI a1 y2).bind fun t3 => (spec_l01Is.f a0 t3).bind fun t4 => if (!t4) = true then (some (Sum.inl 2)) else (spec_l01All.l1 a0 a1 k (IntKind.i64.wrap (y2 + 1)))) else (some (Sum.inr ()))
def spec_l01All.f (k : Nat) (a0 : Pasture) (a1 : List Spot) : Option Int := (spec_l01Ok.f k a0).bind fun t1 => if (!t1) = true then (some 1) else ((spec_l01All.l1 a0 a1 k 0).bind fun s304 => match s304 with | .inl r => some r | .inr _ => some 0)
theorem spec_l01All.c (k : Nat) (w : World) (pa0 : Addr) (a0 : Pasture) (hp0 : CA w pa0 (cPasture.enc a0)) (Aa1 : Option Addr) (ca1 : Nat) (a1 : List Spot) (hr1 : Rd cSpot w Aa1 a1) (hc1 : a1.length ≤ ca1) (r : Int) (H : spec_l01All.f k a0 a1 = some r) :
 CV Tryz.prog 62 [.pointer (some pa0), .slice Aa1 a1.length ca1].toArray w fun v w' => v = .int .i64 r ∧ Ext w w' := by
 have hS := (((St.init w no).paramP pa0 (cPasture.enc a0) hp0).param cSpot Aa1 ca1 a1 hr1 hc1)
 unfold spec_l01All.f at H
 refine CV.body Tryz.func62 Z Tryz.ntmps62 Z ?_
 refine CJ.seq (CJ.region ?_)
 refine OJ.pures oU 1 Z (OJ.nil (EJ.next ?_))
 refine CJ.seq ?_
 refine CJ.seq (CJ.region ?_)
 refine OJ.pures oU 1 Z ?_
 obtain ⟨t1, ht1, H⟩ := pbind H
 refine OJ.callF Z Z Z Z Z hb68 Z (spec_l01Ok.c k _ _ a0 (hS.ca (i := 0) Z) _ ht1) ?_
 rintro _ w1 ⟨rfl, hs⟩
 replace hS := hS.grow hs
 refine OJ.pures oU 1 Z (OJ.nil (EJ.next ?_))
 refine CJ.cond Z (fun hb => ?_) (fun hb => ?_)
 ·replace H := pif_t hb H
  refine CJ.seq (CJ.region ?_)
  refine OJ.pures oU 1 Z (OJ.nil (EJ.next ?_))
  refine CJ.ret (EJ.skR (?_))
  obtain rfl := Option.some.inj H
  exact EJ.fin Z (.tmp Z .nil) ⟨Z, hS.ext⟩
 replace H := pifb_f hb H
 refine CJ.skip (EJ.next ?_)
 refine CJ.seq ?_
 refine CJ.seq (CJ.region ?_)
 refine OJ.pures oU 1 Z (OJ.nil (EJ.next ?_))
 obtain ⟨j304, H, K304⟩ := pbind H
 refine CJ.cut1 (fun F w1 => (some (Sum.inr ()) : Option (Int ⊕ Unit)) = some j304 ∧ F = [] ∧ St w no w1 [] [roP pa0 (cPasture.enc a0), roC cSpot Aa1 ca1 a1]) ?_ ?_
 ·skip
  refine CJ.block ?_
  refine CJ.loop (fun k F w1 => ∃ (y2 : Int), F = [(0, .pointer (some pa0)), (1, .slice Aa1 a1.length ca1), (5, .int .i64 y2)] ∧ St w no w1 [] [roP pa0 (cPasture.enc a0), roC cSpot Aa1 ca1 a1] ∧ spec_l01All.l1 a0 a1 k y2 = some j304) k (F' := [(0, .pointer (some pa0)), (1, .slice Aa1 a1.length ca1), (5, .int .i64 0)]) ⟨Z, Z, Z, trivial⟩ ⟨0, Z, hS.pick [] [0, 1] Z, H⟩ ?_
  rintro k F w1 ⟨y2, rfl, hS, H⟩
  cases k with
  | zero => rw [spec_l01All.l1] at H; cases H
  | succ k =>
    rw [spec_l01All.l1] at H
    refine CJ.seq ?_
    refine CJ.seq (CJ.region ?_)
    refine OJ.pures oU 4 Z (OJ.nil (EJ.next ?_))
    refine CJ.cond Z (fun hb => ?_) (fun hb => ?_)
    · replace H := pif_t (of_decide_eq_true hb) H
      refine CJ.skip (EJ.next ?_)
      refine CJ.seq ?_
      refine CJ.block ?_
      refine CJ.seq (CJ.region ?_)
      refine OJ.pures oU 3 Z ?_
      obtain ⟨t3, ht3, H⟩ := pbind H
      obtain ⟨ad3, e3⟩ := (hS.rd' (i := 1) rfl).some' ht3
      refine OJ.st Z Z Z (SR.idxS oU oI Z Z Z Z e3 Z (getI_some ht3).1) ?_
      refine OJ.st Z Z Z (SR.load Z Z (fun w' hx => ldE oU oI Z Z Z (CA.ext ((hS.rd' (i := 1) Z).at_ e3 ht3) hx) Z)) ?_
      obtain ⟨t4, ht4, H⟩ := pbind H
      refine OJ.callF Z Z Z Z Z hb64 Z (spec_l01Is.c _ _ a0 (hS.ca (i := 0) Z) t3 _ ht4) ?_
      rintro _ w1 ⟨rfl, hs⟩
      replace hS := hS.grow hs
      refine OJ.pures oU 1 Z (OJ.nil (EJ.next ?_))
      refine CJ.cond Z (fun hb => ?_) (fun hb => ?_)
      · replace H := pif_t hb H
        refine CJ.seq (CJ.region ?_)
        refine OJ.pures oU 1 Z (OJ.nil (EJ.next ?_))
        refine CJ.ret (EJ.bkR (EJ.skR (EJ.skR (EJ.bkR (EJ.skR (EJ.skR (?_)))))))
        first | (obtain rfl := Option.some.inj H; have H := K304) | (obtain ⟨q304, H2, e304⟩ := pbind H; obtain rfl := Option.some.inj e304; obtain rfl := Option.some.inj K304; have H := H2)
        obtain rfl := Option.some.inj H
        exact EJ.fin Z (.tmp Z .nil) ⟨Z, hS.ext⟩
      · replace H := pifb_f hb H
        refine CJ.skip (EJ.blk (EJ.next ?_))
        refine CJ.region ?_
        refine OJ.pures oU 3 Z ?_
        refine OJ.nil ?_
        exact EJ.round k (F' := [(0, .pointer (some pa0)), (1, .slice Aa1 a1.length ca1), (5, .int .i64 (IntKind.i64.wrap (y2 + 1)))]) ⟨Z, Z, Z, trivial⟩ (Nat.lt_succ_self _) ⟨(IntKind.i64.wrap (y2 + 1)), Z, hS.pick [] [0, 1] Z, H⟩
    · replace H := pif_f (of_decide_eq_false hb) H
      refine CJ.exit (EJ.skE (EJ.skE (EJ.hit (?_))))
      exact EJ.meet (F' := []) trivial ⟨H, Z, hS.pick [] [0, 1] Z⟩
 rintro F w1 ⟨he, rfl, hS⟩
 obtain rfl := Option.some.inj he
 have H := K304
 refine EJ.next ?_
 refine CJ.seq (CJ.region ?_)
 refine OJ.pures oU 1 Z (OJ.nil (EJ.next ?_))
 refine CJ.ret (?_)
 obtain rfl := Option.some.inj H
 exact EJ.fin Z (.tmp Z .nil) ⟨Z, hS.ext⟩

def spec_GrassOf.l1 (a0 : Pasture) (a1 : List Spot) : Nat → Int → Int → Option Int
  | 0, _, _ => none
  | k + 1, y4, y5 => if y5 < (a1.length : Int) then ((getI a1 y5).bind fun t6 => (getI a1 y5).bind fun t7 => (getI a0.Grass.l t6.Y).bind fun t8 => (getI t8.l t7.X).bind fun t9 => spec_GrassOf.l1 a0 a1 k (IntKind.i64.wrap (y4 + (IntKind.i64.wrap t9))) (IntKind.i64.wrap (y5 + 1))) else (some y4)
def spec_GrassOf.f (k : Nat) (a0 : Pasture) (a1 : List Spot) : Option (Int × Int) := (spec_l01All.f k a0 a1).bind fun t2 => if t2 ≠ 0 then (some (0, t2)) else ((spec_GrassOf.l1 a0 a1 k 0 0).bind fun y3 => some (y3, 0))
theorem spec_GrassOf.c (k : Nat) (w : World) (a0 : Pasture) (Aa1 : Option Addr) (ca1 : Nat) (a1 : List Spot) (hr1 : Rd cSpot w Aa1 a1) (hc1 : a1.length ≤ ca1) (r : Int × Int) (H : spec_GrassOf.f k a0 a1 = some r) :
 CV Tryz.prog 21 [.agg (cPasture.enc a0).toArray, .slice Aa1 a1.length ca1].toArray w fun v w' => v = .tuple #[.int .i64 r.1, .int .i64 r.2] ∧ Ext w w' := by
 have hS := ((St.init w no).param cSpot Aa1 ca1 a1 hr1 hc1)
 unfold spec_GrassOf.f at H
 refine CV.body Tryz.func21 Z Tryz.ntmps21 Z ?_
 refine CJ.seq (CJ.region ?_)
 refine OJ.ef Z Z Z (Ef.box hS Z Z (cPasture.enc a0) Z) ?_
 rintro _ w1 ⟨b1, rfl, hS⟩
 refine OJ.pures oU 2 Z (OJ.nil (EJ.next ?_))
 refine CJ.seq ?_
 refine CJ.seq (CJ.region ?_)
 refine OJ.pures oU 1 Z ?_
 obtain ⟨t2, ht2, H⟩ := pbind H
 refine OJ.callF Z Z Z Z Z hb62 Z (spec_l01All.c k _ _ a0 (hS.cells (i := 0) Z) Aa1 ca1 a1 (hS.rd' (i := 0) Z) (hS.le' (i := 0) Z) _ ht2) ?_
 rintro _ w1 ⟨rfl, hs⟩
 replace hS := hS.grow hs
 refine OJ.pures oU 1 Z (OJ.nil (EJ.next ?_))
 refine CJ.seq (CJ.region ?_)
 refine OJ.pures oU 2 Z (OJ.nil (EJ.next ?_))
 refine CJ.cond Z (fun hb => ?_) (fun hb => ?_)
 ·replace H := pif_t (of_decide_eq_true hb) H
  refine CJ.seq (CJ.region ?_)
  refine OJ.pures oU 3 Z (OJ.nil (EJ.next ?_))
  refine CJ.ret (EJ.skR (?_))
  obtain rfl := Option.some.inj H
  exact EJ.fin Z (.tmp Z (.tmp Z .nil)) ⟨Z, hS.ext⟩
 replace H := pif_f (of_decide_eq_false hb) H
 refine CJ.skip (EJ.next ?_)
 refine CJ.seq (CJ.region ?_)
 refine OJ.pures oU 1 Z (OJ.nil (EJ.next ?_))
 refine CJ.seq ?_
 refine CJ.seq (CJ.region ?_)
 refine OJ.pures oU 1 Z (OJ.nil (EJ.next ?_))
 obtain ⟨j305, H, K305⟩ := pbind H
 refine CJ.cut1 (fun F w1 => ∃ (y3 : Int) , (some y3 : Option Int) = some j305 ∧ F = [(7, .int .i64 y3)] ∧ St w no w1 [] [roC cSpot Aa1 ca1 a1]) ?_ ?_
 ·skip
  refine CJ.block ?_
  refine CJ.loop (fun k F w1 => ∃ (y4 : Int) (y5 : Int), F = [(1, .slice Aa1 a1.length ca1), (2, .pointer (some ⟨b1, 0, none⟩)), (7, .int .i64 y4), (8, .int .i64 y5)] ∧ St w no w1 [box b1 (cPasture.enc a0) 31] [roC cSpot Aa1 ca1 a1] ∧ spec_GrassOf.l1 a0 a1 k y4 y5 = some j305) k (F' := [(1, .slice Aa1 a1.length ca1), (2, .pointer (some ⟨b1, 0, none⟩)), (7, .int .i64 0), (8, .int .i64 0)]) ⟨Z, Z, Z, Z, trivial⟩ ⟨0, 0, Z, hS.pick [0] [0] Z, H⟩ ?_
  rintro k F w1 ⟨y4, y5, rfl, hS, H⟩
  cases k with
  | zero => rw [spec_GrassOf.l1] at H; cases H
  | succ k =>
    rw [spec_GrassOf.l1] at H
    refine CJ.seq ?_
    refine CJ.seq (CJ.region ?_)
    refine OJ.pures oU 4 Z (OJ.nil (EJ.next ?_))
    refine CJ.cond Z (fun hb => ?_) (fun hb => ?_)
    · replace H := pif_t (of_decide_eq_true hb) H
      refine CJ.skip (EJ.next ?_)
      refine CJ.seq ?_
      refine CJ.block ?_
      refine CJ.draw [] [0, 1, 2, 3, 4, 5, 6, 7, 8, 9, 10, 11, 12, 13, 14, 15, 16, 17] mixed (by kernel_rfl) hS fun w1 hS => ?_
      refine DJ.pures oU 3 Z ?_
      obtain ⟨t6, ht6, H⟩ := pbind H
      obtain ⟨ad6, e6⟩ := (hS.rd' (i := 0) rfl).some' ht6
      refine DJ.st Z Z Z Z Z (SR.idxS oU oI Z Z Z Z e6 Z (getI_some ht6).1) ?_
      refine DJ.st Z Z Z Z Z (SR.fieldAddr oU oI Z Z Z Z Z Z) ?_
      refine DJ.st Z Z Z Z Z (SR.load Z Z (fun w' hx => ld1 oU Z Z (CA.ext (CA.sub ((hS.rd' (i := 0) Z).at_ e6 ht6) 1) hx) Z)) ?_
      refine DJ.pures oU 2 Z ?_
      obtain ⟨t7, ht7, H⟩ := pbind H
      obtain ⟨ad7, e7⟩ := (hS.rd' (i := 0) rfl).some' ht7
      refine DJ.st Z Z Z Z Z (SR.idxS oU oI Z Z Z Z e7 Z (getI_some ht7).1) ?_
      refine DJ.st Z Z Z Z Z (SR.fieldAddr oU oI Z Z Z Z Z Z) ?_
      refine DJ.st Z Z Z Z Z (SR.load Z Z (fun w' hx => ld1 oU Z Z (CA.ext (CA.sub ((hS.rd' (i := 0) Z).at_ e7 ht7) 0) hx) Z)) ?_
      refine DJ.st Z Z Z Z Z (SR.fieldAddr oU oI Z Z Z Z Z Z) ?_
      obtain ⟨t8, ht8, H⟩ := pbind H
      refine DJ.st Z Z Z Z Z (SR.idxA oU oI Z Z Z Z Z (Arr.lt ht8)) ?_
      obtain ⟨t9, ht9, H⟩ := pbind H
      refine DJ.st Z Z Z Z Z (SR.idxA oU oI Z Z Z Z Z (Arr.lt ht9)) ?_
      refine DJ.st Z Z Z Z Z (SR.load Z Z (fun w' hx => ld1 oU Z Z (CA.ext (CA.idx (CA.idx (CA.fld (hS.cells (i := 0) Z) (mid_part (fe_Pasture_2 _) (fl_Pasture_2 _) ((carr 10 (carr 10 (ci .i16))).len _))) ht8) ht9) hx) Z)) ?_
      refine DJ.pures oU 3 Z ?_
      refine DJ.nil (EJ.blk (EJ.next ?_))
      refine CJ.region ?_
      refine OJ.pures oU 3 Z ?_
      refine OJ.nil ?_
      exact EJ.round k (F' := [(1, .slice Aa1 a1.length ca1), (2, .pointer (some ⟨b1, 0, none⟩)), (7, .int .i64 (IntKind.i64.wrap (y4 + (IntKind.i64.wrap t9)))), (8, .int .i64 (IntKind.i64.wrap (y5 + 1)))]) ⟨Z, Z, Z, Z, trivial⟩ (Nat.lt_succ_self _) ⟨(IntKind.i64.wrap (y4 + (IntKind.i64.wrap t9))), (IntKind.i64.wrap (y5 + 1)), Z, hS.pick [0] [0] Z, H⟩
    · replace H := pif_f (of_decide_eq_false hb) H
      refine CJ.exit (EJ.skE (EJ.skE (EJ.hit (?_))))
      exact EJ.meet (F' := [(7, .int .i64 y4)]) ⟨Z, trivial⟩ ⟨y4, H, Z, hS.pick [] [0] Z⟩
 rintro F w1 ⟨y3, he, rfl, hS⟩
 obtain rfl := Option.some.inj he
 have H := K305
 refine EJ.next ?_
 refine CJ.seq (CJ.region ?_)
 refine OJ.pures oU 3 Z (OJ.nil (EJ.next ?_))
 refine CJ.ret (?_)
 obtain rfl := Option.some.inj H
 exact EJ.fin Z (.tmp Z (.tmp Z .nil)) ⟨Z, hS.ext⟩

def spec_HasSpot.l1 (a0 : List Spot) (a1 : Spot) : Nat → Int → Option (Bool ⊕ Unit)
  | 0, _ => none
  | k + 1, y2 => if y2 < (a0.length : Int) then ((getI a0 y2).bind fun t3 => if t3 = a1 then (some (Sum.inl true)) else (spec_HasSpot.l1 a0 a1 k (IntKind.i64.wrap (y2 + 1)))) else (some (Sum.inr ()))
def spec_HasSpot.f (k : Nat) (a0 : List Spot) (a1 : Spot) : Option Bool := (spec_HasSpot.l1 a0 a1 k 0).bind fun s307 => match s307 with | .inl r => some r | .inr _ => some false
theorem spec_HasSpot.c (k : Nat) (w : World) (Aa0 : Option Addr) (ca0 : Nat) (a0 : List Spot) (hr0 : Rd cSpot w Aa0 a0) (hc0 : a0.length ≤ ca0) (a1 : Spot) (r : Bool) (H : spec_HasSpot.f k a0 a1 = some r) :
 CV Tryz.prog 22 [.slice Aa0 a0.length ca0, .agg (cSpot.enc a1).toArray].toArray w fun v w' => v = .bool r ∧ Ext w w' := by
 have hS := ((St.init w no).param cSpot Aa0 ca0 a0 hr0 hc0)
 unfold spec_HasSpot.f at H
 refine CV.body Tryz.func22 Z Tryz.ntmps22 Z ?_
 refine CJ.seq (CJ.region ?_)
 refine OJ.ef Z Z Z (Ef.box hS Z Z (cSpot.enc a1) Z) ?_
 rintro _ w1 ⟨b1, rfl, hS⟩
 refine OJ.pures oU 1 Z (OJ.nil (EJ.next ?_))
 refine CJ.seq ?_
 refine CJ.seq (CJ.region ?_)
 refine OJ.pures oU 1 Z (OJ.nil (EJ.next ?_))
 obtain ⟨j307, H, K307⟩ := pbind H
 refine CJ.cut1 (fun F w1 => (some (Sum.inr ()) : Option (Bool ⊕ Unit)) = some j307 ∧ F = [] ∧ St w no w1 [] [roC cSpot Aa0 ca0 a0]) ?_ ?_
 ·skip
  refine CJ.block ?_
  refine CJ.loop (fun k F w1 => ∃ (y2 : Int), F = [(0, .slice Aa0 a0.length ca0), (3, .pointer (some ⟨b1, 0, none⟩)), (5, .int .i64 y2)] ∧ St w no w1 [box b1 (cSpot.enc a1) 49] [roC cSpot Aa0 ca0 a0] ∧ spec_HasSpot.l1 a0 a1 k y2 = some j307) k (F' := [(0, .slice Aa0 a0.length ca0), (3, .pointer (some ⟨b1, 0, none⟩)), (5, .int .i64 0)]) ⟨Z, Z, Z, trivial⟩ ⟨0, Z, hS.pick [0] [0] Z, H⟩ ?_
  rintro k F w1 ⟨y2, rfl, hS, H⟩
  cases k with
  | zero => rw [spec_HasSpot.l1] at H; cases H
  | succ k =>
    rw [spec_HasSpot.l1] at H
    refine CJ.seq ?_
    refine CJ.seq (CJ.region ?_)
    refine OJ.pures oU 4 Z (OJ.nil (EJ.next ?_))
    refine CJ.cond Z (fun hb => ?_) (fun hb => ?_)
    · replace H := pif_t (of_decide_eq_true hb) H
      refine CJ.skip (EJ.next ?_)
      refine CJ.seq ?_
      refine CJ.block ?_
      refine CJ.seq ?_
      refine CJ.draw [] [0, 1, 2, 3, 4, 5] mixed (by kernel_rfl) hS fun w1 hS => ?_
      refine DJ.pures oU 2 Z ?_
      obtain ⟨t3, ht3, H⟩ := pbind H
      obtain ⟨ad3, e3⟩ := (hS.rd' (i := 0) rfl).some' ht3
      refine DJ.st Z Z Z Z Z (SR.idxS oU oI Z Z Z Z e3 Z (getI_some ht3).1) ?_
      refine DJ.st Z Z Z Z Z (SR.load Z Z (fun w' hx => ldE oU oI Z Z Z (CA.ext ((hS.rd' (i := 0) Z).at_ e3 ht3) hx) Z)) ?_
      refine DJ.st Z Z Z Z Z (SR.load Z Z (fun w' hx => ldE oU oI Z Z Z (CA.ext (hS.cells (i := 0) Z) hx) Z)) ?_
      refine DJ.st Z Z Z Z Z (SR.eqS eqT49 eqG49 Z Z Z (Z : _ = (cSpot.enc t3).toArray) (Z : _ = (cSpot.enc a1).toArray)) ?_
      refine DJ.nil (EJ.next ?_)
      refine CJ.cond Z (fun hb => ?_) (fun hb => ?_)
      · replace H := pif_t (of_decide_eq_true hb) H
        refine CJ.seq (CJ.region ?_)
        refine OJ.pures oU 1 Z (OJ.nil (EJ.next ?_))
        refine CJ.ret (EJ.bkR (EJ.skR (EJ.skR (EJ.bkR (EJ.skR (EJ.skR (?_)))))))
        first | (obtain rfl := Option.some.inj H; have H := K307) | (obtain ⟨q307, H2, e307⟩ := pbind H; obtain rfl := Option.some.inj e307; obtain rfl := Option.some.inj K307; have H := H2)
        obtain rfl := Option.some.inj H
        exact EJ.fin Z (.tmp Z .nil) ⟨Z, hS.ext⟩
      · replace H := pif_f (of_decide_eq_false hb) H
        refine CJ.skip (EJ.blk (EJ.next ?_))
        refine CJ.region ?_
        refine OJ.pures oU 3 Z ?_
        refine OJ.nil ?_
        exact EJ.round k (F' := [(0, .slice Aa0 a0.length ca0), (3, .pointer (some ⟨b1, 0, none⟩)), (5, .int .i64 (IntKind.i64.wrap (y2 + 1)))]) ⟨Z, Z, Z, trivial⟩ (Nat.lt_succ_self _) ⟨(IntKind.i64.wrap (y2 + 1)), Z, hS.pick [0] [0] Z, H⟩
    · replace H := pif_f (of_decide_eq_false hb) H
      refine CJ.exit (EJ.skE (EJ.skE (EJ.hit (?_))))
      exact EJ.meet (F' := []) trivial ⟨H, Z, hS.pick [] [0] Z⟩
 rintro F w1 ⟨he, rfl, hS⟩
 obtain rfl := Option.some.inj he
 have H := K307
 refine EJ.next ?_
 refine CJ.seq (CJ.region ?_)
 refine OJ.pures oU 1 Z (OJ.nil (EJ.next ?_))
 refine CJ.ret (?_)
 obtain rfl := Option.some.inj H
 exact EJ.fin Z (.tmp Z .nil) ⟨Z, hS.ext⟩

def spec_l01Asked.f (k : Nat) (a0 : Pasture) (a1 : Spot) (a2 : Bool) : Option Int := (spec_l01Ok.f k a0).bind fun t2 => if (!t2) = true then (some 1) else ((spec_l01Is.f a0 a1).bind fun t3 => if (!t3) = true then (some 2) else (if (!a2) = true then (some 2) else (some 0)))
theorem spec_l01Asked.c (k : Nat) (w : World) (pa0 : Addr) (a0 : Pasture) (hp0 : CA w pa0 (cPasture.enc a0)) (a1 : Spot) (a2 : Bool) (r : Int) (H : spec_l01Asked.f k a0 a1 a2 = some r) :
 CV Tryz.prog 63 [.pointer (some pa0), .agg (cSpot.enc a1).toArray, .bool a2].toArray w fun v w' => v = .int .i64 r ∧ Ext w w' := by
 have hS := ((St.init w no).paramP pa0 (cPasture.enc a0) hp0)
 unfold spec_l01Asked.f at H
 refine CV.body Tryz.func63 Z Tryz.ntmps63 Z ?_
 refine CJ.seq (CJ.region ?_)
 refine OJ.ef Z Z Z (Ef.box hS Z Z (cSpot.enc a1) Z) ?_
 rintro _ w1 ⟨b1, rfl, hS⟩
 refine OJ.pures oU 1 Z (OJ.nil (EJ.next ?_))
 refine CJ.seq ?_
 refine CJ.seq (CJ.region ?_)
 refine OJ.pures oU 1 Z ?_
 obtain ⟨t2, ht2, H⟩ := pbind H
 refine OJ.callF Z Z Z Z Z hb68 Z (spec_l01Ok.c k _ _ a0 (hS.ca (i := 0) Z) _ ht2) ?_
 rintro _ w1 ⟨rfl, hs⟩
 replace hS := hS.grow hs
 refine OJ.pures oU 1 Z (OJ.nil (EJ.next ?_))
 refine CJ.cond Z (fun hb => ?_) (fun hb => ?_)
 ·replace H := pif_t hb H
  refine CJ.seq (CJ.region ?_)
  refine OJ.pures oU 1 Z (OJ.nil (EJ.next ?_))
  refine CJ.ret (EJ.skR (?_))
  obtain rfl := Option.some.inj H
  exact EJ.fin Z (.tmp Z .nil) ⟨Z, hS.ext⟩
 replace H := pifb_f hb H
 refine CJ.skip (EJ.next ?_)
 refine CJ.seq ?_
 refine CJ.seq (CJ.region ?_)
 refine OJ.pures oU 1 Z ?_
 refine OJ.st Z Z Z (SR.load Z Z (fun w' hx => ldE oU oI Z Z Z (CA.ext (hS.cells (i := 0) Z) hx) Z)) ?_
 obtain ⟨t3, ht3, H⟩ := pbind H
 refine OJ.callF Z Z Z Z Z hb64 Z (spec_l01Is.c _ _ a0 (hS.ca (i := 0) Z) a1 _ ht3) ?_
 rintro _ w1 ⟨rfl, hs⟩
 replace hS := hS.grow hs
 refine OJ.pures oU 2 Z ?_
 refine OJ.split (t := 14) Z (fun hb => ?_) (fun hb => ?_)
 ·replace H := pif_t hb H
  refine OJ.pures oU 3 Z (OJ.nil (EJ.next ?_))
  refine CJ.condT Z ?_
  refine CJ.seq (CJ.region ?_)
  refine OJ.pures oU 1 Z (OJ.nil (EJ.next ?_))
  refine CJ.ret (EJ.skR (?_))
  obtain rfl := Option.some.inj H
  exact EJ.fin Z (.tmp Z .nil) ⟨Z, hS.ext⟩
 replace H := pifb_f hb H
 refine OJ.pures oU 3 Z (OJ.nil (EJ.next ?_))
 refine CJ.cond Z (fun hb => ?_) (fun hb => ?_)
 ·replace H := pif_t hb H
  refine CJ.seq (CJ.region ?_)
  refine OJ.pures oU 1 Z (OJ.nil (EJ.next ?_))
  refine CJ.ret (EJ.skR (?_))
  obtain rfl := Option.some.inj H
  exact EJ.fin Z (.tmp Z .nil) ⟨Z, hS.ext⟩
 replace H := pifb_f hb H
 refine CJ.skip (EJ.next ?_)
 refine CJ.seq (CJ.region ?_)
 refine OJ.pures oU 1 Z (OJ.nil (EJ.next ?_))
 refine CJ.ret (?_)
 obtain rfl := Option.some.inj H
 exact EJ.fin Z (.tmp Z .nil) ⟨Z, hS.ext⟩

def spec_SameYard.f (k : Nat) (a0 : Pasture) (a1 : Spot) (a2 : Spot) : Option (Bool × Int) := (spec_l01Is.f a0 a2).bind fun t4 => (spec_l01Asked.f k a0 a1 t4).bind fun t5 => if t5 ≠ 0 then (some (false, t5)) else ((spec_l01Steps.f k a0 a1).bind fun t6 => (getI t6.l a2.Y).bind fun t8 => (getI t8.l a2.X).bind fun t9 => some (decide (0 < t9), 0))
theorem spec_SameYard.c (k : Nat) (w : World) (a0 : Pasture) (a1 : Spot) (a2 : Spot) (r : Bool × Int) (H : spec_SameYard.f k a0 a1 a2 = some r) :
 CV Tryz.prog 23 [.agg (cPasture.enc a0).toArray, .agg (cSpot.enc a1).toArray, .agg (cSpot.enc a2).toArray].toArray w fun v w' => v = .tuple #[.bool r.1, .int .i64 r.2] ∧ Ext w w' := by
 have hS := (St.init w no)
 unfold spec_SameYard.f at H
 refine CV.body Tryz.func23 Z Tryz.ntmps23 Z ?_
 refine CJ.seq (CJ.region ?_)
 refine OJ.ef Z Z Z (Ef.box hS Z Z (cPasture.enc a0) Z) ?_
 rintro _ w1 ⟨b1, rfl, hS⟩
 refine OJ.ef Z Z Z (Ef.box hS Z Z (cSpot.enc a1) Z) ?_
 rintro _ w1 ⟨b2, rfl, hS⟩
 refine OJ.ef Z Z Z (Ef.box hS Z Z (cSpot.enc a2) Z) ?_
 rintro _ w1 ⟨b3, rfl, hS⟩
 refine OJ.pures oU 2 Z (OJ.nil (EJ.next ?_))
 refine CJ.seq ?_
 refine CJ.seq ?_
 refine CJ.draw [] [0, 1, 2, 3, 4] mixed (by kernel_rfl) hS fun w1 hS => ?_
 refine DJ.st Z Z Z Z Z (SR.load Z Z (fun w' hx => ldE oU oI Z Z Z (CA.ext (hS.cells (i := 1) Z) hx) Z)) ?_
 refine DJ.st Z Z Z Z Z (SR.load Z Z (fun w' hx => ldE oU oI Z Z Z (CA.ext (hS.cells (i := 2) Z) hx) Z)) ?_
 obtain ⟨t4, ht4, H⟩ := pbind H
 refine DJ.callF rfl rfl rfl rfl rfl rfl rfl hb64 rfl (spec_l01Is.c _ _ a0 (hS.cells (i := 0) rfl) a2 _ ht4) (by rintro v w' ⟨rfl, hs⟩; exact hs) ?_
 rintro _ w1 ⟨rfl, hs⟩
 replace hS := hS.grow hs
 obtain ⟨t5, ht5, H⟩ := pbind H
 refine DJ.callF rfl rfl rfl rfl rfl rfl rfl hb63 rfl (spec_l01Asked.c k _ _ a0 (hS.cells (i := 0) rfl) a1 t4 _ ht5) (by rintro v w' ⟨rfl, hs⟩; exact hs) ?_
 rintro _ w1 ⟨rfl, hs⟩
 replace hS := hS.grow hs
 refine DJ.pures oU 1 Z ?_
 refine DJ.nil (EJ.next ?_)
 refine CJ.seq (CJ.region ?_)
 refine OJ.pures oU 2 Z (OJ.nil (EJ.next ?_))
 refine CJ.cond Z (fun hb => ?_) (fun hb => ?_)
 ·replace H := pif_t (of_decide_eq_true hb) H
  refine CJ.seq (CJ.region ?_)
  refine OJ.pures oU 3 Z (OJ.nil (EJ.next ?_))
  refine CJ.ret (EJ.skR (?_))
  obtain rfl := Option.some.inj H
  exact EJ.fin Z (.tmp Z (.tmp Z .nil)) ⟨Z, hS.ext⟩
 replace H := pif_f (of_decide_eq_false hb) H
 refine CJ.skip (EJ.next ?_)
 refine CJ.seq (CJ.region ?_)
 refine OJ.st Z Z Z (SR.load Z Z (fun w' hx => ldE oU oI Z Z Z (CA.ext (hS.cells (i := 1) Z) hx) Z)) ?_
 obtain ⟨t6, ht6, H⟩ := pbind H
 refine OJ.callF Z Z Z Z Z hb65 Z (spec_l01Steps.c k _ _ a0 (hS.cells (i := 0) Z) a1 _ ht6) ?_
 rintro _ w1 ⟨rfl, hs⟩
 replace hS := hS.grow hs
 refine OJ.ef rfl rfl rfl (Ef.alloc hS oI rfl rfl ((carr 10 (carr 10 (ci .i64))).enc (Arr.mk' (Arr.mk' 0 : Arr 10 Int) : Arr 10 (Arr 10 Int))) (by kernel_rfl)) ?_
 rintro _ w1 ⟨b7, rfl, hS⟩
 refine OJ.es rfl rfl (Es.put oI hS (i := 3) rfl rfl rfl rfl rfl (vs := (carr 10 (carr 10 (ci .i64))).enc t6) rfl ((carr 10 (carr 10 (ci .i64))).len _) ((carr 10 (carr 10 (ci .i64))).one _) (Put.all (carr 10 (carr 10 (ci .i64))) (Arr.mk' (Arr.mk' 0 : Arr 10 Int) : Arr 10 (Arr 10 Int)) t6) (by (try simp only [add_lit, Nat.add_assoc, Nat.zero_add, Nat.add_zero]) <;> rfl)) ?_
 intro w1 hS
 refine OJ.nil (EJ.next ?_)
 refine CJ.seq ?_
 refine CJ.draw [] [0, 1, 2, 3, 4, 5, 6, 7, 8, 9] mixed (by kernel_rfl) hS fun w1 hS => ?_
 refine DJ.st Z Z Z Z Z (SR.fieldAddr oU oI Z Z Z Z Z Z) ?_
 refine DJ.st Z Z Z Z Z (SR.load Z Z (fun w' hx => ld1 oU Z Z (CA.ext (CA.sub (hS.cells (i := 2) Z) 1) hx) Z)) ?_
 refine DJ.st Z Z Z Z Z (SR.fieldAddr oU oI Z Z Z Z Z Z) ?_
 refine DJ.st Z Z Z Z Z (SR.load Z Z (fun w' hx => ld1 oU Z Z (CA.ext (CA.sub (hS.cells (i := 2) Z) 0) hx) Z)) ?_
 obtain ⟨t8, ht8, H⟩ := pbind H
 refine DJ.st Z Z Z Z Z (SR.idxA oU oI Z Z Z Z Z (Arr.lt ht8)) ?_
 obtain ⟨t9, ht9, H⟩ := pbind H
 refine DJ.st Z Z Z Z Z (SR.idxA oU oI Z Z Z Z Z (Arr.lt ht9)) ?_
 refine DJ.st Z Z Z Z Z (SR.load Z Z (fun w' hx => ld1 oU Z Z (CA.ext (CA.idx (CA.idx (hS.cells (i := 3) Z) ht8) ht9) hx) Z)) ?_
 refine DJ.pures oU 3 Z ?_
 refine DJ.nil (EJ.next ?_)
 refine CJ.ret (?_)
 obtain rfl := Option.some.inj H
 exact EJ.fin Z (.tmp Z (.tmp Z .nil)) ⟨Z, hS.ext⟩

def impl_firstOf.l1 (a0 : List Int) : Nat → Int → Option (Int ⊕ Unit)
  | 0, _ => none
  | k + 1, y1 => if y1 < (a0.length : Int) then ((getI a0 y1).bind fun t2 => if t2 ≠ 0 then (some (Sum.inl t2)) else (impl_firstOf.l1 a0 k (IntKind.i64.wrap (y1 + 1)))) else (some (Sum.inr ()))
def impl_firstOf.f (k : Nat) (a0 : List Int) : Option Int := (impl_firstOf.l1 a0 k 0).bind fun s310 => match s310 with | .inl r => some r | .inr _ => some 0
theorem impl_firstOf.c (k : Nat) (w : World) (Aa0 : Option Addr) (ca0 : Nat) (a0 : List Int) (hr0 : Rd (ci .i64) w Aa0 a0) (hc0 : a0.length ≤ ca0) (r : Int) (H : impl_firstOf.f k a0 = some r) :
 CV Tryz.prog 66 [.slice Aa0 a0.length ca0].toArray w fun v w' => v = .int .i64 r ∧ Ext w w' := by
 have hS := ((St.init w no).param (ci .i64) Aa0 ca0 a0 hr0 hc0)
 unfold impl_firstOf.f at H
 refine CV.body Tryz.func66 Z Tryz.ntmps66 Z ?_
 refine CJ.seq (CJ.region ?_)
 refine OJ.pures oU 1 Z (OJ.nil (EJ.next ?_))
 refine CJ.seq ?_
 refine CJ.seq (CJ.region ?_)
 refine OJ.pures oU 3 Z (OJ.nil (EJ.next ?_))
 obtain ⟨j310, H, K310⟩ := pbind H
 refine CJ.cut1 (fun F w1 => (some (Sum.inr ()) : Option (Int ⊕ Unit)) = some j310 ∧ F = [] ∧ St w no w1 [] [roC (ci .i64) Aa0 ca0 a0]) ?_ ?_
 ·skip
  refine CJ.block ?_
  refine CJ.loop (fun k F w1 => ∃ (y1 : Int), F = [(5, .slice Aa0 a0.length ca0), (6, .int .i64 (a0.length : Int)), (7, .int .i64 y1)] ∧ St w no w1 [] [roC (ci .i64) Aa0 ca0 a0] ∧ impl_firstOf.l1 a0 k y1 = some j310) k (F' := [(5, .slice Aa0 a0.length ca0), (6, .int .i64 (a0.length : Int)), (7, .int .i64 0)]) ⟨Z, Z, Z, trivial⟩ ⟨0, Z, hS.pick [] [0] Z, H⟩ ?_
  rintro k F w1 ⟨y1, rfl, hS, H⟩
  cases k with
  | zero => rw [impl_firstOf.l1] at H; cases H
  | succ k =>
    rw [impl_firstOf.l1] at H
    refine CJ.seq (CJ.region ?_)
    refine OJ.pures oU 1 Z (OJ.nil (EJ.next ?_))
    refine CJ.seq ?_
    refine CJ.cond Z (fun hb => ?_) (fun hb => ?_)
    · replace H := pif_t (of_decide_eq_true hb) H
      refine CJ.skip (EJ.next ?_)
      refine CJ.seq ?_
      refine CJ.block ?_
      refine CJ.seq (CJ.region ?_)
      obtain ⟨t2, ht2, H⟩ := pbind H
      obtain ⟨ad2, e2⟩ := (hS.rd' (i := 0) rfl).some' ht2
      refine OJ.st Z Z Z (SR.idxS oU oI Z Z Z Z e2 Z (getI_some ht2).1) ?_
      refine OJ.st Z Z Z (SR.load Z Z (fun w' hx => ld1 oU Z Z (CA.ext ((hS.rd' (i := 0) Z).at_ e2 ht2) hx) Z)) ?_
      refine OJ.pures oU 1 Z (OJ.nil (EJ.next ?_))
      refine CJ.seq (CJ.region ?_)
      refine OJ.pures oU 2 Z (OJ.nil (EJ.next ?_))
      refine CJ.cond Z (fun hb => ?_) (fun hb => ?_)
      · replace H := pif_t (of_decide_eq_true hb) H
        refine CJ.seq (CJ.region ?_)
        refine OJ.pures oU 2 Z (OJ.nil (EJ.next ?_))
        refine CJ.ret (EJ.bkR (EJ.skR (EJ.skR (EJ.bkR (EJ.skR (EJ.skR (?_)))))))
        first | (obtain rfl := Option.some.inj H; have H := K310) | (obtain ⟨q310, H2, e310⟩ := pbind H; obtain rfl := Option.some.inj e310; obtain rfl := Option.some.inj K310; have H := H2)
        obtain rfl := Option.some.inj H
        exact EJ.fin Z (.tmp Z .nil) ⟨Z, hS.ext⟩
      · replace H := pif_f (of_decide_eq_false hb) H
        refine CJ.skip (EJ.blk (EJ.next ?_))
        refine CJ.region ?_
        refine OJ.pures oU 2 Z ?_
        refine OJ.nil ?_
        exact EJ.round k (F' := [(5, .slice Aa0 a0.length ca0), (6, .int .i64 (a0.length : Int)), (7, .int .i64 (IntKind.i64.wrap (y1 + 1)))]) ⟨Z, Z, Z, trivial⟩ (Nat.lt_succ_self _) ⟨(IntKind.i64.wrap (y1 + 1)), Z, hS.pick [] [0] Z, H⟩
    · replace H := pif_f (of_decide_eq_false hb) H
      refine CJ.exit (EJ.skE (EJ.skE (EJ.hit (?_))))
      exact EJ.meet (F' := []) trivial ⟨H, Z, hS.pick [] [0] Z⟩
 rintro F w1 ⟨he, rfl, hS⟩
 obtain rfl := Option.some.inj he
 have H := K310
 refine EJ.next ?_
 refine CJ.seq (CJ.region ?_)
 refine OJ.pures oU 1 Z (OJ.nil (EJ.next ?_))
 refine CJ.ret (?_)
 obtain rfl := Option.some.inj H
 exact EJ.fin Z (.tmp Z .nil) ⟨Z, hS.ext⟩

def impl_CommonOf.f (k : Nat) (a0 : Pasture) (a1 : Stake) (a2 : Stake) : Option (List Spot × Int) := (impl_stakeCode.f k a0 ([a1] : List Stake)).bind fun t5 => (impl_stakeCode.f k a0 ([a2] : List Stake)).bind fun t7 => (impl_firstOf.f k ([t5, t7] : List Int)).bind fun t9 => if t9 ≠ 0 then (some ([], t9)) else ((impl_Pasture_reach.f k a0 a1).bind fun t18 => (impl_Pasture_reach.f k a0 a2).bind fun t21 => (impl_common.f k t18 t21).bind fun t24 => some (t24, 0))
theorem impl_CommonOf.c (k : Nat) (w : World) (a0 : Pasture) (a1 : Stake) (a2 : Stake) (r : List Spot × Int) (H : impl_CommonOf.f k a0 a1 a2 = some r) :
 CV Tryz.prog 25 [.agg (cPasture.enc a0).toArray, .agg (cStake.enc a1).toArray, .agg (cStake.enc a2).toArray].toArray w fun v w' => ∃ (A0 : Option Addr) (c0 : Nat), v = .tuple #[.slice A0 r.1.length c0, .int .i64 r.2] ∧ St w no w' [rowC cSpot A0 c0 49 r.1] [] := by
 have hS := (St.init w no)
 unfold impl_CommonOf.f at H
 refine CV.body Tryz.func25 Z Tryz.ntmps25 Z ?_
 refine CJ.seq (CJ.region ?_)
 refine OJ.ef Z Z Z (Ef.box hS Z Z (cPasture.enc a0) Z) ?_
 rintro _ w1 ⟨b1, rfl, hS⟩
 refine OJ.ef Z Z Z (Ef.box hS Z Z (cStake.enc a1) Z) ?_
 rintro _ w1 ⟨b2, rfl, hS⟩
 refine OJ.ef Z Z Z (Ef.box hS Z Z (cStake.enc a2) Z) ?_
 rintro _ w1 ⟨b3, rfl, hS⟩
 refine OJ.pures oU 2 Z (OJ.nil (EJ.next ?_))
 refine CJ.seq ?_
 refine CJ.seq ?_
 obtain ⟨t5, ht5, H⟩ := pbind H
 obtain ⟨t7, ht7, H⟩ := pbind H
 obtain ⟨t9, ht9, H⟩ := pbind H
 refine CJ.cut1 (fun F w1 => ∃ (A4 : Option Addr) (A6 : Option Addr) (A8 : Option Addr), F = [(3, .pointer (some ⟨b1, 0, none⟩)), (4, .pointer (some ⟨b2, 0, none⟩)), (5, .pointer (some ⟨b3, 0, none⟩)), (6, .slice none 0 0), (7, .int .i64 0), (8, .int .i64 t9)] ∧ St w no w1 [box b1 (cPasture.enc a0) 31, box b2 (cStake.enc a1) 51, box b3 (cStake.enc a2) 51, rowC cStake A4 (([a1] : List Stake).length) 51 ([a1] : List Stake), rowC cStake A6 (([a2] : List Stake).length) 51 ([a2] : List Stake), rowC (ci .i64) A8 (([t5, t7] : List Int).length) 2 ([t5, t7] : List Int)] []) ?_ ?_
 ·skip
  refine CJ.drawT [] [2, 3, 6, 7, 8, 9] (.one 0 (.one 1 (.one 4 (.one 5 (.br (.alt 2 (.br (.alt 3 (.one 6 (.one 7 (.one 8 (.one 9 (.one 10 (.fin)))))) (.alt 6 (.one 3 (.one 7 (.one 8 (.one 9 (.one 10 (.fin)))))) (.stop)))) (.alt 6 (.one 2 (.one 3 (.one 7 (.one 8 (.one 9 (.one 10 (.fin))))))) (.stop)))))))) mixed (by kernel_rfl) hS [0, 1, 2] fun w1 hS hY hV => ?_
  refine TJ.st hY Z Z Z Z Z (fun w2 hY => SR.load Z Z (fun w' hx => ldE oU oI Z Z Z (CA.ext ((hV w2 hY).cellsR (i := 0) Z) hx) Z)) ?_
  refine TJ.st hY Z Z Z Z Z (fun w2 hY => SR.load Z Z (fun w' hx => ldE oU oI Z Z Z (CA.ext ((hV w2 hY).cellsR (i := 1) Z) hx) Z)) ?_
  refine TJ.st hY Z Z Z Z Z (fun w2 hY => SR.load Z Z (fun w' hx => ldE oU oI Z Z Z (CA.ext ((hV w2 hY).cellsR (i := 0) Z) hx) Z)) ?_
  refine TJ.st hY Z Z Z Z Z (fun w2 hY => SR.load Z Z (fun w' hx => ldE oU oI Z Z Z (CA.ext ((hV w2 hY).cellsR (i := 2) Z) hx) Z)) ?_
  refine TJ.br ?_
  refine TJ.alt ?_ ?_
  ·skip
   refine TJ.ef hY Z Z Z Z Z (Ef.lit oU oI hS (C := cStake) Z Z Z Z Z Z ([a1] : List Stake) Z Z Z Z) ?_
   rintro _ w1 hY ⟨A10, rfl, hS⟩
   refine TJ.br ?_
   refine TJ.alt ?_ ?_
   ·skip
    refine TJ.callF hY rfl rfl rfl rfl rfl rfl rfl hb45 rfl (impl_stakeCode.c k _ a0 A10 (([a1] : List Stake).length) ([a1] : List Stake) (hS.rd (i := 3) rfl) (hS.le (i := 3) rfl) _ ht5) (by rintro v w' ⟨rfl, hs⟩; exact hs) ?_
    rintro _ w1 hY ⟨rfl, hs⟩
    replace hS := hS.grow hs
    refine TJ.ef hY Z Z Z Z Z (Ef.lit oU oI hS (C := cStake) Z Z Z Z Z Z ([a2] : List Stake) Z Z Z Z) ?_
    rintro _ w1 hY ⟨A11, rfl, hS⟩
    refine TJ.callF hY rfl rfl rfl rfl rfl rfl rfl hb45 rfl (impl_stakeCode.c k _ a0 A11 (([a2] : List Stake).length) ([a2] : List Stake) (hS.rd (i := 4) rfl) (hS.le (i := 4) rfl) _ ht7) (by rintro v w' ⟨rfl, hs⟩; exact hs) ?_
    rintro _ w1 hY ⟨rfl, hs⟩
    replace hS := hS.grow hs
    refine TJ.ef hY Z Z Z Z Z (Ef.lit oU oI hS (C := (ci .i64)) Z Z Z Z Z Z ([t5, t7] : List Int) Z Z Z Z) ?_
    rintro _ w1 hY ⟨A12, rfl, hS⟩
    refine TJ.callF hY rfl rfl rfl rfl rfl rfl rfl hb66 rfl (impl_firstOf.c k _ A12 (([t5, t7] : List Int).length) ([t5, t7] : List Int) (hS.rd (i := 5) rfl) (hS.le (i := 5) rfl) _ ht9) (by rintro v w' ⟨rfl, hs⟩; exact hs) ?_
    rintro _ w1 hY ⟨rfl, hs⟩
    replace hS := hS.grow hs
    refine TJ.pures oU 1 Z ?_
    refine TJ.nil ?_
    exact EJ.meet (F' := [(3, .pointer (some ⟨b1, 0, none⟩)), (4, .pointer (some ⟨b2, 0, none⟩)), (5, .pointer (some ⟨b3, 0, none⟩)), (6, .slice none 0 0), (7, .int .i64 0), (8, .int .i64 t9)]) ⟨Z, Z, Z, Z, Z, Z, trivial⟩ ⟨A10, A11, A12, Z, hS.pick [0, 1, 2, 3, 4, 5] [] Z⟩
   refine TJ.alt ?_ ?_
   ·skip
    refine TJ.ef hY Z Z Z Z Z (Ef.lit oU oI hS (C := cStake) Z Z Z Z Z Z ([a2] : List Stake) Z Z Z Z) ?_
    rintro _ w1 hY ⟨A13, rfl, hS⟩
    refine TJ.callF hY rfl rfl rfl rfl rfl rfl rfl hb45 rfl (impl_stakeCode.c k _ a0 A10 (([a1] : List Stake).length) ([a1] : List Stake) (hS.rd (i := 3) rfl) (hS.le (i := 3) rfl) _ ht5) (by rintro v w' ⟨rfl, hs⟩; exact hs) ?_
    rintro _ w1 hY ⟨rfl, hs⟩
    replace hS := hS.grow hs
    refine TJ.callF hY rfl rfl rfl rfl rfl rfl rfl hb45 rfl (impl_stakeCode.c k _ a0 A13 (([a2] : List Stake).length) ([a2] : List Stake) (hS.rd (i := 4) rfl) (hS.le (i := 4) rfl) _ ht7) (by rintro v w' ⟨rfl, hs⟩; exact hs) ?_
    rintro _ w1 hY ⟨rfl, hs⟩
    replace hS := hS.grow hs
    refine TJ.ef hY Z Z Z Z Z (Ef.lit oU oI hS (C := (ci .i64)) Z Z Z Z Z Z ([t5, t7] : List Int) Z Z Z Z) ?_
    rintro _ w1 hY ⟨A14, rfl, hS⟩
    refine TJ.callF hY rfl rfl rfl rfl rfl rfl rfl hb66 rfl (impl_firstOf.c k _ A14 (([t5, t7] : List Int).length) ([t5, t7] : List Int) (hS.rd (i := 5) rfl) (hS.le (i := 5) rfl) _ ht9) (by rintro v w' ⟨rfl, hs⟩; exact hs) ?_
    rintro _ w1 hY ⟨rfl, hs⟩
    replace hS := hS.grow hs
    refine TJ.pures oU 1 Z ?_
    refine TJ.nil ?_
    exact EJ.meet (F' := [(3, .pointer (some ⟨b1, 0, none⟩)), (4, .pointer (some ⟨b2, 0, none⟩)), (5, .pointer (some ⟨b3, 0, none⟩)), (6, .slice none 0 0), (7, .int .i64 0), (8, .int .i64 t9)]) ⟨Z, Z, Z, Z, Z, Z, trivial⟩ ⟨A10, A13, A14, Z, hS.pick [0, 1, 2, 3, 4, 5] [] Z⟩
   exact TJ.stop
  refine TJ.alt ?_ ?_
  ·skip
   refine TJ.ef hY Z Z Z Z Z (Ef.lit oU oI hS (C := cStake) Z Z Z Z Z Z ([a2] : List Stake) Z Z Z Z) ?_
   rintro _ w1 hY ⟨A15, rfl, hS⟩
   refine TJ.ef hY Z Z Z Z Z (Ef.lit oU oI hS (C := cStake) Z Z Z Z Z Z ([a1] : List Stake) Z Z Z Z) ?_
   rintro _ w1 hY ⟨A16, rfl, hS⟩
   refine TJ.callF hY rfl rfl rfl rfl rfl rfl rfl hb45 rfl (impl_stakeCode.c k _ a0 A16 (([a1] : List Stake).length) ([a1] : List Stake) (hS.rd (i := 4) rfl) (hS.le (i := 4) rfl) _ ht5) (by rintro v w' ⟨rfl, hs⟩; exact hs) ?_
   rintro _ w1 hY ⟨rfl, hs⟩
   replace hS := hS.grow hs
   refine TJ.callF hY rfl rfl rfl rfl rfl rfl rfl hb45 rfl (impl_stakeCode.c k _ a0 A15 (([a2] : List Stake).length) ([a2] : List Stake) (hS.rd (i := 3) rfl) (hS.le (i := 3) rfl) _ ht7) (by rintro v w' ⟨rfl, hs⟩; exact hs) ?_
   rintro _ w1 hY ⟨rfl, hs⟩
   replace hS := hS.grow hs
   refine TJ.ef hY Z Z Z Z Z (Ef.lit oU oI hS (C := (ci .i64)) Z Z Z Z Z Z ([t5, t7] : List Int) Z Z Z Z) ?_
   rintro _ w1 hY ⟨A17, rfl, hS⟩
   refine TJ.callF hY rfl rfl rfl rfl rfl rfl rfl hb66 rfl (impl_firstOf.c k _ A17 (([t5, t7] : List Int).length) ([t5, t7] : List Int) (hS.rd (i := 5) rfl) (hS.le (i := 5) rfl) _ ht9) (by rintro v w' ⟨rfl, hs⟩; exact hs) ?_
   rintro _ w1 hY ⟨rfl, hs⟩
   replace hS := hS.grow hs
   refine TJ.pures oU 1 Z ?_
   refine TJ.nil ?_
   exact EJ.meet (F' := [(3, .pointer (some ⟨b1, 0, none⟩)), (4, .pointer (some ⟨b2, 0, none⟩)), (5, .pointer (some ⟨b3, 0, none⟩)), (6, .slice none 0 0), (7, .int .i64 0), (8, .int .i64 t9)]) ⟨Z, Z, Z, Z, Z, Z, trivial⟩ ⟨A16, A15, A17, Z, hS.pick [0, 1, 2, 4, 3, 5] [] Z⟩
  exact TJ.stop
 rintro F w1 ⟨A4, A6, A8, rfl, hS⟩
 refine EJ.next ?_
 refine CJ.seq (CJ.region ?_)
 refine OJ.pures oU 2 Z (OJ.nil (EJ.next ?_))
 refine CJ.cond Z (fun hb => ?_) (fun hb => ?_)
 ·replace H := pif_t (of_decide_eq_true hb) H
  refine CJ.seq (CJ.region ?_)
  refine OJ.pures oU 3 Z (OJ.nil (EJ.next ?_))
  refine CJ.ret (EJ.skR (?_))
  replace hS := hS.addNil cSpot 49 none
  obtain rfl := Option.some.inj H
  exact EJ.fin Z (.tmp Z (.tmp Z .nil)) ⟨none, 0, Z, hS.pick [6] [] Z⟩
 replace H := pif_f (of_decide_eq_false hb) H
 refine CJ.skip (EJ.next ?_)
 refine CJ.seq ?_
 refine CJ.draw [] [0, 1, 3, 4, 2, 5, 6, 7, 8] mixed (by kernel_rfl) hS fun w1 hS => ?_
 refine DJ.st Z Z Z Z Z (SR.load Z Z (fun w' hx => ldE oU oI Z Z Z (CA.ext (hS.cells (i := 0) Z) hx) Z)) ?_
 refine DJ.st Z Z Z Z Z (SR.load Z Z (fun w' hx => ldE oU oI Z Z Z (CA.ext (hS.cells (i := 1) Z) hx) Z)) ?_
 refine DJ.st Z Z Z Z Z (SR.load Z Z (fun w' hx => ldE oU oI Z Z Z (CA.ext (hS.cells (i := 0) Z) hx) Z)) ?_
 refine DJ.st Z Z Z Z Z (SR.load Z Z (fun w' hx => ldE oU oI Z Z Z (CA.ext (hS.cells (i := 2) Z) hx) Z)) ?_
 obtain ⟨t18, ht18, H⟩ := pbind H
 refine DJ.callF rfl rfl rfl rfl rfl rfl rfl hb57 rfl (impl_Pasture_reach.c k _ a0 a1 _ ht18) (by rintro v w' ⟨A19, c20, rfl, hs⟩; exact hs.ext) ?_
 rintro _ w1 ⟨A19, c20, rfl, hs⟩
 replace hS := hS.addN hs
 have hS : St w no w1 [box b1 (cPasture.enc a0) 31, box b2 (cStake.enc a1) 51, box b3 (cStake.enc a2) 51, rowC cStake A4 (([a1] : List Stake).length) 51 ([a1] : List Stake), rowC cStake A6 (([a2] : List Stake).length) 51 ([a2] : List Stake), rowC (ci .i64) A8 (([t5, t7] : List Int).length) 2 ([t5, t7] : List Int), rowC cSpot A19 c20 49 t18] [] := hS
 obtain ⟨t21, ht21, H⟩ := pbind H
 refine DJ.callF rfl rfl rfl rfl rfl rfl rfl hb57 rfl (impl_Pasture_reach.c k _ a0 a2 _ ht21) (by rintro v w' ⟨A22, c23, rfl, hs⟩; exact hs.ext) ?_
 rintro _ w1 ⟨A22, c23, rfl, hs⟩
 replace hS := hS.addN hs
 have hS : St w no w1 [box b1 (cPasture.enc a0) 31, box b2 (cStake.enc a1) 51, box b3 (cStake.enc a2) 51, rowC cStake A4 (([a1] : List Stake).length) 51 ([a1] : List Stake), rowC cStake A6 (([a2] : List Stake).length) 51 ([a2] : List Stake), rowC (ci .i64) A8 (([t5, t7] : List Int).length) 2 ([t5, t7] : List Int), rowC cSpot A19 c20 49 t18, rowC cSpot A22 c23 49 t21] [] := hS
 obtain ⟨t24, ht24, H⟩ := pbind H
 refine DJ.callF rfl rfl rfl rfl rfl rfl rfl hb67 rfl (impl_common.c k _ A19 c20 t18 (hS.rd (i := 6) rfl) (hS.le (i := 6) rfl) A22 c23 t21 (hS.rd (i := 7) rfl) (hS.le (i := 7) rfl) _ ht24) (by rintro v w' ⟨A25, c26, rfl, hs⟩; exact hs.ext) ?_
 rintro _ w1 ⟨A25, c26, rfl, hs⟩
 replace hS := hS.addN hs
 have hS : St w no w1 [box b1 (cPasture.enc a0) 31, box b2 (cStake.enc a1) 51, box b3 (cStake.enc a2) 51, rowC cStake A4 (([a1] : List Stake).length) 51 ([a1] : List Stake), rowC cStake A6 (([a2] : List Stake).length) 51 ([a2] : List Stake), rowC (ci .i64) A8 (([t5, t7] : List Int).length) 2 ([t5, t7] : List Int), rowC cSpot A19 c20 49 t18, rowC cSpot A22 c23 49 t21, rowC cSpot A25 c26 49 t24] [] := hS
 refine DJ.pures oU 2 Z ?_
 refine DJ.nil (EJ.next ?_)
 refine CJ.ret (?_)
 obtain rfl := Option.some.inj H
 exact EJ.fin Z (.tmp Z (.tmp Z .nil)) ⟨A25, c26, Z, hS.pick [8] [] Z⟩

def spec_l05Common.l1 (t5 : List Spot) (t8 : Arr 10 (Arr 10 Bool)) : Nat → (List Spot) → Int → Option (List Spot)
  | 0, _, _ => none
  | k + 1, y14, y17 => if y17 < (t5.length : Int) then ((getI t5 y17).bind fun t18 => (getI t5 y17).bind fun t19 => (getI t8.l t18.Y).bind fun t20 => (getI t20.l t19.X).bind fun t21 => if t21 = true then ((getI t5 y17).bind fun t22 => (chk (y14.length + ([t22] : List Spot).length ≤ 4294967296)).bind fun u24 => spec_l05Common.l1 t5 t8 k (y14 ++ ([t22] : List Spot)) (IntKind.i64.wrap (y17 + 1))) else (spec_l05Common.l1 t5 t8 k y14 (IntKind.i64.wrap (y17 + 1)))) else (some y14)
def spec_l05Common.f (k : Nat) (a0 : Pasture) (a1 : Stake) (a2 : Stake) : Option (List Spot) := (spec_l05Mask.f k a0 a1).bind fun t3 => (spec_l05List.f k t3).bind fun t5 => (spec_l05Mask.f k a0 a2).bind fun t8 => (spec_l05Common.l1 t5 t8 k ([] : List Spot) 0).bind fun y11 => some y11
theorem spec_l05Common.c (k : Nat) (w : World) (pa0 : Addr) (a0 : Pasture) (hp0 : CA w pa0 (cPasture.enc a0)) (a1 : Stake) (a2 : Stake) (r : List Spot) (H : spec_l05Common.f k a0 a1 a2 = some r) :
 CV Tryz.prog 70 [.pointer (some pa0), .agg (cStake.enc a1).toArray, .agg (cStake.enc a2).toArray].toArray w fun v w' => ∃ (A0 : Option Addr) (c0 : Nat), v = .slice A0 r.length c0 ∧ St w no w' [rowC cSpot A0 c0 49 r] [] := by
 have hS := ((St.init w no).paramP pa0 (cPasture.enc a0) hp0)
 unfold spec_l05Common.f at H
 refine CV.body Tryz.func70 Z Tryz.ntmps70 Z ?_
 refine CJ.seq (CJ.region ?_)
 refine OJ.ef Z Z Z (Ef.box hS Z Z (cStake.enc a1) Z) ?_
 rintro _ w1 ⟨b1, rfl, hS⟩
 refine OJ.ef Z Z Z (Ef.box hS Z Z (cStake.enc a2) Z) ?_
 rintro _ w1 ⟨b2, rfl, hS⟩
 refine OJ.pures oU 1 Z (OJ.nil (EJ.next ?_))
 refine CJ.seq (CJ.region ?_)
 refine OJ.pures oU 1 Z ?_
 refine OJ.st Z Z Z (SR.load Z Z (fun w' hx => ldE oU oI Z Z Z (CA.ext (hS.cells (i := 0) Z) hx) Z)) ?_
 obtain ⟨t3, ht3, H⟩ := pbind H
 refine OJ.callF Z Z Z Z Z hb59 Z (spec_l05Mask.c k _ _ a0 (hS.ca (i := 0) Z) a1 _ ht3) ?_
 rintro _ w1 ⟨rfl, hs⟩
 replace hS := hS.grow hs
 refine OJ.ef rfl rfl rfl (Ef.alloc hS oI rfl rfl ((carr 10 (carr 10 cb)).enc (Arr.mk' (Arr.mk' false : Arr 10 Bool) : Arr 10 (Arr 10 Bool))) (by kernel_rfl)) ?_
 rintro _ w1 ⟨b4, rfl, hS⟩
 refine OJ.es rfl rfl (Es.put oI hS (i := 2) rfl rfl rfl rfl rfl (vs := (carr 10 (carr 10 cb)).enc t3) rfl ((carr 10 (carr 10 cb)).len _) ((carr 10 (carr 10 cb)).one _) (Put.all (carr 10 (carr 10 cb)) (Arr.mk' (Arr.mk' false : Arr 10 Bool) : Arr 10 (Arr 10 Bool)) t3) (by (try simp only [add_lit, Nat.add_assoc, Nat.zero_add, Nat.add_zero]) <;> rfl)) ?_
 intro w1 hS
 refine OJ.nil (EJ.next ?_)
 refine CJ.seq (CJ.region ?_)
 obtain ⟨t5, ht5, H⟩ := pbind H
 refine OJ.callF Z Z Z Z Z hb60 Z (spec_l05List.c k _ _ t3 (hS.cells (i := 2) Z) _ ht5) ?_
 rintro _ w1 ⟨A6, c7, rfl, hs⟩
 replace hS := hS.addN hs
 refine OJ.pures oU 1 Z (OJ.nil (EJ.next ?_))
 refine CJ.seq (CJ.region ?_)
 refine OJ.pures oU 1 Z ?_
 refine OJ.st Z Z Z (SR.load Z Z (fun w' hx => ldE oU oI Z Z Z (CA.ext (hS.cells (i := 1) Z) hx) Z)) ?_
 obtain ⟨t8, ht8, H⟩ := pbind H
 refine OJ.callF Z Z Z Z Z hb59 Z (spec_l05Mask.c k _ _ a0 (hS.ca (i := 0) Z) a2 _ ht8) ?_
 rintro _ w1 ⟨rfl, hs⟩
 replace hS := hS.grow hs
 refine OJ.ef rfl rfl rfl (Ef.alloc hS oI rfl rfl ((carr 10 (carr 10 cb)).enc (Arr.mk' (Arr.mk' false : Arr 10 Bool) : Arr 10 (Arr 10 Bool))) (by kernel_rfl)) ?_
 rintro _ w1 ⟨b9, rfl, hS⟩
 refine OJ.es rfl rfl (Es.put oI hS (i := 4) rfl rfl rfl rfl rfl (vs := (carr 10 (carr 10 cb)).enc t8) rfl ((carr 10 (carr 10 cb)).len _) ((carr 10 (carr 10 cb)).one _) (Put.all (carr 10 (carr 10 cb)) (Arr.mk' (Arr.mk' false : Arr 10 Bool) : Arr 10 (Arr 10 Bool)) t8) (by (try simp only [add_lit, Nat.add_assoc, Nat.zero_add, Nat.add_zero]) <;> rfl)) ?_
 intro w1 hS
 refine OJ.nil (EJ.next ?_)
 refine CJ.seq (CJ.region ?_)
 refine OJ.ef Z Z Z (Ef.lit oU oI hS (C := cSpot) Z Z Z Z Z Z ([] : List Spot) Z Z Z Z) ?_
 rintro _ w1 ⟨A10, rfl, hS⟩
 refine OJ.pures oU 1 Z (OJ.nil (EJ.next ?_))
 refine CJ.seq ?_
 refine CJ.seq (CJ.region ?_)
 refine OJ.pures oU 1 Z (OJ.nil (EJ.next ?_))
 obtain ⟨j312, H, K312⟩ := pbind H
 refine CJ.cut1 (fun F w1 => ∃ (y11 : List Spot) (A12 : Option Addr) (c13 : Nat), (some y11 : Option (List Spot)) = some j312 ∧ F = [(10, .slice A12 y11.length c13)] ∧ St w no w1 [rowC cSpot A12 c13 49 y11] [roP pa0 (cPasture.enc a0)]) ?_ ?_
 ·skip
  refine CJ.block ?_
  refine CJ.loop (fun k F w1 => ∃ (y14 : List Spot) (y17 : Int) (A15 : Option Addr) (c16 : Nat), F = [(8, .slice A6 t5.length c7), (9, .pointer (some ⟨b9, 0, none⟩)), (10, .slice A15 y14.length c16), (11, .int .i64 y17)] ∧ St w no w1 [rowC cSpot A6 c7 49 t5, box b9 ((carr 10 (carr 10 cb)).enc t8) 97, rowC cSpot A15 c16 49 y14] [roP pa0 (cPasture.enc a0)] ∧ spec_l05Common.l1 t5 t8 k y14 y17 = some j312) k (F' := [(8, .slice A6 t5.length c7), (9, .pointer (some ⟨b9, 0, none⟩)), (10, .slice A10 ([] : List Spot).length (([] : List Spot).length)), (11, .int .i64 0)]) ⟨Z, Z, Z, Z, trivial⟩ ⟨([] : List Spot), 0, A10, (([] : List Spot).length), Z, hS.pick [3, 4, 5] [0] Z, H⟩ ?_
  rintro k F w1 ⟨y14, y17, A15, c16, rfl, hS, H⟩
  cases k with
  | zero => rw [spec_l05Common.l1] at H; cases H
  | succ k =>
    rw [spec_l05Common.l1] at H
    refine CJ.seq ?_
    refine CJ.seq (CJ.region ?_)
    refine OJ.pures oU 4 Z (OJ.nil (EJ.next ?_))
    refine CJ.cond Z (fun hb => ?_) (fun hb => ?_)
    · replace H := pif_t (of_decide_eq_true hb) H
      refine CJ.skip (EJ.next ?_)
      refine CJ.seq ?_
      refine CJ.block ?_
      refine CJ.seq ?_
      refine CJ.draw [] [0, 1, 2, 3, 4, 5, 6, 7, 8, 9, 10, 11, 12] mixed (by kernel_rfl) hS fun w1 hS => ?_
      refine DJ.pures oU 2 Z ?_
      obtain ⟨t18, ht18, H⟩ := pbind H
      obtain ⟨ad18, e18⟩ := (hS.rd (i := 0) rfl).some' ht18
      refine DJ.st Z Z Z Z Z (SR.idxS oU oI Z Z Z Z e18 Z (getI_some ht18).1) ?_
      refine DJ.st Z Z Z Z Z (SR.fieldAddr oU oI Z Z Z Z Z Z) ?_
      refine DJ.st Z Z Z Z Z (SR.load Z Z (fun w' hx => ld1 oU Z Z (CA.ext (CA.sub ((hS.rd (i := 0) Z).at_ e18 ht18) 1) hx) Z)) ?_
      refine DJ.pures oU 2 Z ?_
      obtain ⟨t19, ht19, H⟩ := pbind H
      obtain ⟨ad19, e19⟩ := (hS.rd (i := 0) rfl).some' ht19
      refine DJ.st Z Z Z Z Z (SR.idxS oU oI Z Z Z Z e19 Z (getI_some ht19).1) ?_
      refine DJ.st Z Z Z Z Z (SR.fieldAddr oU oI Z Z Z Z Z Z) ?_
      refine DJ.st Z Z Z Z Z (SR.load Z Z (fun w' hx => ld1 oU Z Z (CA.ext (CA.sub ((hS.rd (i := 0) Z).at_ e19 ht19) 0) hx) Z)) ?_
      obtain ⟨t20, ht20, H⟩ := pbind H
      refine DJ.st Z Z Z Z Z (SR.idxA oU oI Z Z Z Z Z (Arr.lt ht20)) ?_
      obtain ⟨t21, ht21, H⟩ := pbind H
      refine DJ.st Z Z Z Z Z (SR.idxA oU oI Z Z Z Z Z (Arr.lt ht21)) ?_
      refine DJ.st Z Z Z Z Z (SR.load Z Z (fun w' hx => ld1 oU Z Z (CA.ext (CA.idx (CA.idx (hS.cells (i := 1) Z) ht20) ht21) hx) Z)) ?_
      refine DJ.nil (EJ.next ?_)
      refine CJ.cond Z (fun hb => ?_) (fun hb => ?_)
      · replace H := pif_t hb H
        refine CJ.region ?_
        refine OJ.pures oU 3 Z ?_
        obtain ⟨t22, ht22, H⟩ := pbind H
        obtain ⟨ad22, e22⟩ := (hS.rd (i := 0) rfl).some' ht22
        refine OJ.st Z Z Z (SR.idxS oU oI Z Z Z Z e22 Z (getI_some ht22).1) ?_
        refine OJ.st Z Z Z (SR.load Z Z (fun w' hx => ldE oU oI Z Z Z (CA.ext ((hS.rd (i := 0) Z).at_ e22 ht22) hx) Z)) ?_
        refine OJ.ef Z Z Z (Ef.lit oU oI hS (C := cSpot) Z Z Z Z Z Z ([t22] : List Spot) Z Z Z Z) ?_
        rintro _ w1 ⟨A23, rfl, hS⟩
        obtain ⟨u24, hu24, H⟩ := pbind H
        refine OJ.ew Z Z Z (Ew.append oU oI (C := cSpot) (xs := y14) (ys := ([t22] : List Spot)) hS (i := 2) Z Z Z Z Z Z Z Z Z Z Z Z Z (hS.rd (i := 3) Z) (chk_some hu24)) ?_
        rintro _ w1 ⟨A25, c26, rfl, hS⟩
        refine OJ.pures oU 1 Z ?_
        refine OJ.nil (EJ.blk (EJ.next ?_))
        refine CJ.region ?_
        refine OJ.pures oU 3 Z ?_
        refine OJ.nil ?_
        exact EJ.round k (F' := [(8, .slice A6 t5.length c7), (9, .pointer (some ⟨b9, 0, none⟩)), (10, .slice A25 (y14 ++ ([t22] : List Spot)).length c26), (11, .int .i64 (IntKind.i64.wrap (y17 + 1)))]) ⟨Z, Z, Z, Z, trivial⟩ (Nat.lt_succ_self _) ⟨(y14 ++ ([t22] : List Spot)), (IntKind.i64.wrap (y17 + 1)), A25, c26, Z, hS.pick [0, 1, 2] [0] Z, H⟩
      · replace H := pifb_f hb H
        refine CJ.skip (EJ.blk (EJ.next ?_))
        refine CJ.region ?_
        refine OJ.pures oU 3 Z ?_
        refine OJ.nil ?_
        exact EJ.round k (F' := [(8, .slice A6 t5.length c7), (9, .pointer (some ⟨b9, 0, none⟩)), (10, .slice A15 y14.length c16), (11, .int .i64 (IntKind.i64.wrap (y17 + 1)))]) ⟨Z, Z, Z, Z, trivial⟩ (Nat.lt_succ_self _) ⟨y14, (IntKind.i64.wrap (y17 + 1)), A15, c16, Z, hS.pick [0, 1, 2] [0] Z, H⟩
    · replace H := pif_f (of_decide_eq_false hb) H
      refine CJ.exit (EJ.skE (EJ.skE (EJ.hit (?_))))
      exact EJ.meet (F' := [(10, .slice A15 y14.length c16)]) ⟨Z, trivial⟩ ⟨y14, A15, c16, H, Z, hS.pick [2] [0] Z⟩
 rintro F w1 ⟨y11, A12, c13, he, rfl, hS⟩
 obtain rfl := Option.some.inj he
 have H := K312
 refine EJ.next ?_
 refine CJ.seq (CJ.region ?_)
 refine OJ.pures oU 2 Z (OJ.nil (EJ.next ?_))
 refine CJ.ret (?_)
 obtain rfl := Option.some.inj H
 exact EJ.fin Z (.tmp Z .nil) ⟨A12, c13, Z, hS.pick [0] [] Z⟩

def spec_CommonOf.f (k : Nat) (a0 : Pasture) (a1 : Stake) (a2 : Stake) : Option (List Spot × Int) := ((spec_l01Ok.f k a0).bind fun t5 => if (!t5) = true then (some true) else ((spec_l05Stake.f a0 a1).bind fun t6 => if (!t6) = true then (some true) else ((spec_l05Stake.f a0 a2).bind fun t7 => some (!t7)))).bind fun y4 => if y4 = true then (some (([] : List Spot), 1)) else ((spec_l05Common.f k a0 a1 a2).bind fun t9 => some (t9, 0))
theorem spec_CommonOf.c (k : Nat) (w : World) (a0 : Pasture) (a1 : Stake) (a2 : Stake) (r : List Spot × Int) (H : spec_CommonOf.f k a0 a1 a2 = some r) :
 CV Tryz.prog 26 [.agg (cPasture.enc a0).toArray, .agg (cStake.enc a1).toArray, .agg (cStake.enc a2).toArray].toArray w fun v w' => ∃ (A0 : Option Addr) (c0 : Nat), v = .tuple #[.slice A0 r.1.length c0, .int .i64 r.2] ∧ St w no w' [rowC cSpot A0 c0 49 r.1] [] := by
 have hS := (St.init w no)
 unfold spec_CommonOf.f at H
 refine CV.body Tryz.func26 Z Tryz.ntmps26 Z ?_
 refine CJ.seq (CJ.region ?_)
 refine OJ.ef Z Z Z (Ef.box hS Z Z (cPasture.enc a0) Z) ?_
 rintro _ w1 ⟨b1, rfl, hS⟩
 refine OJ.ef Z Z Z (Ef.box hS Z Z (cStake.enc a1) Z) ?_
 rintro _ w1 ⟨b2, rfl, hS⟩
 refine OJ.ef Z Z Z (Ef.box hS Z Z (cStake.enc a2) Z) ?_
 rintro _ w1 ⟨b3, rfl, hS⟩
 refine OJ.pures oU 2 Z (OJ.nil (EJ.next ?_))
 refine CJ.seq ?_
 obtain ⟨j311, H, K311⟩ := pbind H
 refine CJ.cut (fun F w1 => ∃ (y4 : Bool) , (some y4 : Option Bool) = some j311 ∧ F = [(3, .pointer (some ⟨b1, 0, none⟩)), (4, .pointer (some ⟨b2, 0, none⟩)), (5, .pointer (some ⟨b3, 0, none⟩)), (19, .bool y4)] ∧ St w no w1 [box b1 (cPasture.enc a0) 31, box b2 (cStake.enc a1) 51, box b3 (cStake.enc a2) 51] []) ?_ ?_
 ·skip
  refine CJ.region ?_
  obtain ⟨t5, ht5, H⟩ := pbind H
  refine OJ.callF Z Z Z Z Z hb68 Z (spec_l01Ok.c k _ _ a0 (hS.cells (i := 0) Z) _ ht5) ?_
  rintro _ w1 ⟨rfl, hs⟩
  replace hS := hS.grow hs
  refine OJ.pures oU 2 Z ?_
  refine OJ.split (t := 10) Z (fun hb => ?_) (fun hb => ?_)
  ·replace H := pif_t hb H
   refine OJ.pures oU 9 Z ?_
   refine OJ.nil ?_
   exact EJ.meet (F' := [(3, .pointer (some ⟨b1, 0, none⟩)), (4, .pointer (some ⟨b2, 0, none⟩)), (5, .pointer (some ⟨b3, 0, none⟩)), (19, .bool true)]) ⟨Z, Z, Z, Z, trivial⟩ ⟨true, H, Z, hS.pick [0, 1, 2] [] Z⟩
  replace H := pifb_f hb H
  refine OJ.st Z Z Z (SR.load Z Z (fun w' hx => ldE oU oI Z Z Z (CA.ext (hS.cells (i := 1) Z) hx) Z)) ?_
  obtain ⟨t6, ht6, H⟩ := pbind H
  refine OJ.callF Z Z Z Z Z hb69 Z (spec_l05Stake.c _ _ a0 (hS.cells (i := 0) Z) a1 _ ht6) ?_
  rintro _ w1 ⟨rfl, hs⟩
  replace hS := hS.grow hs
  refine OJ.pures oU 3 Z ?_
  refine OJ.split (t := 15) Z (fun hb => ?_) (fun hb => ?_)
  ·replace H := pif_t hb H
   refine OJ.pures oU 4 Z ?_
   refine OJ.nil ?_
   exact EJ.meet (F' := [(3, .pointer (some ⟨b1, 0, none⟩)), (4, .pointer (some ⟨b2, 0, none⟩)), (5, .pointer (some ⟨b3, 0, none⟩)), (19, .bool true)]) ⟨Z, Z, Z, Z, trivial⟩ ⟨true, H, Z, hS.pick [0, 1, 2] [] Z⟩
  replace H := pifb_f hb H
  refine OJ.st Z Z Z (SR.load Z Z (fun w' hx => ldE oU oI Z Z Z (CA.ext (hS.cells (i := 2) Z) hx) Z)) ?_
  obtain ⟨t7, ht7, H⟩ := pbind H
  refine OJ.callF Z Z Z Z Z hb69 Z (spec_l05Stake.c _ _ a0 (hS.cells (i := 0) Z) a2 _ ht7) ?_
  rintro _ w1 ⟨rfl, hs⟩
  replace hS := hS.grow hs
  refine OJ.pures oU 2 Z ?_
  refine OJ.nil ?_
  exact EJ.meet (F' := [(3, .pointer (some ⟨b1, 0, none⟩)), (4, .pointer (some ⟨b2, 0, none⟩)), (5, .pointer (some ⟨b3, 0, none⟩)), (19, .bool (!t7))]) ⟨Z, Z, Z, Z, trivial⟩ ⟨(!t7), H, Z, hS.pick [0, 1, 2] [] Z⟩
 rintro F w1 ⟨y4, he, rfl, hS⟩
 obtain rfl := Option.some.inj he
 have H := K311
 refine CJ.cond Z (fun hb => ?_) (fun hb => ?_)
 ·replace H := pif_t hb H
  refine CJ.seq (CJ.region ?_)
  refine OJ.ef Z Z Z (Ef.lit oU oI hS (C := cSpot) Z Z Z Z Z Z ([] : List Spot) Z Z Z Z) ?_
  rintro _ w1 ⟨A8, rfl, hS⟩
  refine OJ.pures oU 2 Z (OJ.nil (EJ.next ?_))
  refine CJ.ret (EJ.skR (?_))
  obtain rfl := Option.some.inj H
  exact EJ.fin Z (.tmp Z (.tmp Z .nil)) ⟨A8, (([] : List Spot).length), Z, hS.pick [3] [] Z⟩
 replace H := pifb_f hb H
 refine CJ.skip (EJ.next ?_)
 refine CJ.seq (CJ.region ?_)
 refine OJ.st Z Z Z (SR.load Z Z (fun w' hx => ldE oU oI Z Z Z (CA.ext (hS.cells (i := 1) Z) hx) Z)) ?_
 refine OJ.st Z Z Z (SR.load Z Z (fun w' hx => ldE oU oI Z Z Z (CA.ext (hS.cells (i := 2) Z) hx) Z)) ?_
 obtain ⟨t9, ht9, H⟩ := pbind H
 refine OJ.callF Z Z Z Z Z hb70 Z (spec_l05Common.c k _ _ a0 (hS.cells (i := 0) Z) a1 a2 _ ht9) ?_
 rintro _ w1 ⟨A10, c11, rfl, hs⟩
 replace hS := hS.addN hs
 refine OJ.pures oU 2 Z (OJ.nil (EJ.next ?_))
 refine CJ.ret (?_)
 obtain rfl := Option.some.inj H
 exact EJ.fin Z (.tmp Z (.tmp Z .nil)) ⟨A10, c11, Z, hS.pick [3] [] Z⟩

def spec_HasPair.l1 (a0 : List (Arr 2 Int)) (a1 : Arr 2 Int) : Nat → Int → Option (Bool ⊕ Unit)
  | 0, _ => none
  | k + 1, y2 => if y2 < (a0.length : Int) then ((getI a0 y2).bind fun t3 => if t3 = a1 then (some (Sum.inl true)) else (spec_HasPair.l1 a0 a1 k (IntKind.i64.wrap (y2 + 1)))) else (some (Sum.inr ()))
def spec_HasPair.f (k : Nat) (a0 : List (Arr 2 Int)) (a1 : Arr 2 Int) : Option Bool := (spec_HasPair.l1 a0 a1 k 0).bind fun s313 => match s313 with | .inl r => some r | .inr _ => some false
theorem spec_HasPair.c (k : Nat) (w : World) (Aa0 : Option Addr) (ca0 : Nat) (a0 : List (Arr 2 Int)) (hr0 : Rd (carr 2 (ci .i64)) w Aa0 a0) (hc0 : a0.length ≤ ca0) (a1 : Arr 2 Int) (r : Bool) (H : spec_HasPair.f k a0 a1 = some r) :
 CV Tryz.prog 27 [.slice Aa0 a0.length ca0, .agg ((carr 2 (ci .i64)).enc a1).toArray].toArray w fun v w' => v = .bool r ∧ Ext w w' := by
 have hS := ((St.init w no).param (carr 2 (ci .i64)) Aa0 ca0 a0 hr0 hc0)
 unfold spec_HasPair.f at H
 refine CV.body Tryz.func27 Z Tryz.ntmps27 Z ?_
 refine CJ.seq (CJ.region ?_)
 refine OJ.ef Z Z Z (Ef.box hS Z Z ((carr 2 (ci .i64)).enc a1) Z) ?_
 rintro _ w1 ⟨b1, rfl, hS⟩
 refine OJ.pures oU 1 Z (OJ.nil (EJ.next ?_))
 refine CJ.seq ?_
 refine CJ.seq (CJ.region ?_)
 refine OJ.pures oU 1 Z (OJ.nil (EJ.next ?_))
 obtain ⟨j313, H, K313⟩ := pbind H
 refine CJ.cut1 (fun F w1 => (some (Sum.inr ()) : Option (Bool ⊕ Unit)) = some j313 ∧ F = [] ∧ St w no w1 [] [roC (carr 2 (ci .i64)) Aa0 ca0 a0]) ?_ ?_
 ·skip
  refine CJ.block ?_
  refine CJ.loop (fun k F w1 => ∃ (y2 : Int), F = [(0, .slice Aa0 a0.length ca0), (3, .pointer (some ⟨b1, 0, none⟩)), (5, .int .i64 y2)] ∧ St w no w1 [box b1 ((carr 2 (ci .i64)).enc a1) 61] [roC (carr 2 (ci .i64)) Aa0 ca0 a0] ∧ spec_HasPair.l1 a0 a1 k y2 = some j313) k (F' := [(0, .slice Aa0 a0.length ca0), (3, .pointer (some ⟨b1, 0, none⟩)), (5, .int .i64 0)]) ⟨Z, Z, Z, trivial⟩ ⟨0, Z, hS.pick [0] [0] Z, H⟩ ?_
  rintro k F w1 ⟨y2, rfl, hS, H⟩
  cases k with
  | zero => rw [spec_HasPair.l1] at H; cases H
  | succ k =>
    rw [spec_HasPair.l1] at H
    refine CJ.seq ?_
    refine CJ.seq (CJ.region ?_)
    refine OJ.pures oU 4 Z (OJ.nil (EJ.next ?_))
    refine CJ.cond Z (fun hb => ?_) (fun hb => ?_)
    · replace H := pif_t (of_decide_eq_true hb) H
      refine CJ.skip (EJ.next ?_)
      refine CJ.seq ?_
      refine CJ.block ?_
      refine CJ.seq ?_
      refine CJ.draw [] [0, 1, 2, 3, 4, 5] mixed (by kernel_rfl) hS fun w1 hS => ?_
      refine DJ.pures oU 2 Z ?_
      obtain ⟨t3, ht3, H⟩ := pbind H
      obtain ⟨ad3, e3⟩ := (hS.rd' (i := 0) rfl).some' ht3
      refine DJ.st Z Z Z Z Z (SR.idxS oU oI Z Z Z Z e3 Z (getI_some ht3).1) ?_
      refine DJ.st Z Z Z Z Z (SR.load Z Z (fun w' hx => ldE oU oI Z Z Z (CA.ext ((hS.rd' (i := 0) Z).at_ e3 ht3) hx) Z)) ?_
      refine DJ.st Z Z Z Z Z (SR.load Z Z (fun w' hx => ldE oU oI Z Z Z (CA.ext (hS.cells (i := 0) Z) hx) Z)) ?_
      refine DJ.st Z Z Z Z Z (SR.eqS eqT61 eqG61 Z Z Z (Z : _ = ((carr 2 (ci .i64)).enc t3).toArray) (Z : _ = ((carr 2 (ci .i64)).enc a1).toArray)) ?_
      refine DJ.nil (EJ.next ?_)
      refine CJ.cond Z (fun hb => ?_) (fun hb => ?_)
      · replace H := pif_t (of_decide_eq_true hb) H
        refine CJ.seq (CJ.region ?_)
        refine OJ.pures oU 1 Z (OJ.nil (EJ.next ?_))
        refine CJ.ret (EJ.bkR (EJ.skR (EJ.skR (EJ.bkR (EJ.skR (EJ.skR (?_)))))))
        first | (obtain rfl := Option.some.inj H; have H := K313) | (obtain ⟨q313, H2, e313⟩ := pbind H; obtain rfl := Option.some.inj e313; obtain rfl := Option.some.inj K313; have H := H2)
        obtain rfl := Option.some.inj H
        exact EJ.fin Z (.tmp Z .nil) ⟨Z, hS.ext⟩
      · replace H := pif_f (of_decide_eq_false hb) H
        refine CJ.skip (EJ.blk (EJ.next ?_))
        refine CJ.region ?_
        refine OJ.pures oU 3 Z ?_
        refine OJ.nil ?_
        exact EJ.round k (F' := [(0, .slice Aa0 a0.length ca0), (3, .pointer (some ⟨b1, 0, none⟩)), (5, .int .i64 (IntKind.i64.wrap (y2 + 1)))]) ⟨Z, Z, Z, trivial⟩ (Nat.lt_succ_self _) ⟨(IntKind.i64.wrap (y2 + 1)), Z, hS.pick [0] [0] Z, H⟩
    · replace H := pif_f (of_decide_eq_false hb) H
      refine CJ.exit (EJ.skE (EJ.skE (EJ.hit (?_))))
      exact EJ.meet (F' := []) trivial ⟨H, Z, hS.pick [] [0] Z⟩
 rintro F w1 ⟨he, rfl, hS⟩
 obtain rfl := Option.some.inj he
 have H := K313
 refine EJ.next ?_
 refine CJ.seq (CJ.region ?_)
 refine OJ.pures oU 1 Z (OJ.nil (EJ.next ?_))
 refine CJ.ret (?_)
 obtain rfl := Option.some.inj H
 exact EJ.fin Z (.tmp Z .nil) ⟨Z, hS.ext⟩

def impl_size_impl_Stake.f (a0 : List Stake) : Option Int := some (a0.length : Int)
theorem impl_size_impl_Stake.c (w : World) (Aa0 : Option Addr) (ca0 : Nat) (a0 : List Stake) (hr0 : Rd cStake w Aa0 a0) (hc0 : a0.length ≤ ca0) (r : Int) (H : impl_size_impl_Stake.f a0 = some r) :
 CV Tryz.prog 72 [.slice Aa0 a0.length ca0].toArray w fun v w' => v = .int .i64 r ∧ Ext w w' := by
 have hS := ((St.init w no).param cStake Aa0 ca0 a0 hr0 hc0)
 unfold impl_size_impl_Stake.f at H
 refine CV.body Tryz.func72 Z Tryz.ntmps72 Z ?_
 refine CJ.seq (CJ.region ?_)
 refine OJ.pures oU 1 Z (OJ.nil (EJ.next ?_))
 refine CJ.seq (CJ.region ?_)
 refine OJ.pures oU 3 Z (OJ.nil (EJ.next ?_))
 refine CJ.ret (?_)
 obtain rfl := Option.some.inj H
 exact EJ.fin Z (.tmp Z .nil) ⟨Z, hS.ext⟩

def impl_GreatestReach.l2 (a1 : List Stake) (a2 : Int) (t21 : List Spot) : Nat → Int → Int → Option Int
  | 0, _, _ => none
  | k + 1, y25, y26 => if y26 < (t21.length : Int) then ((getI t21 y26).bind fun t27 => (getI a1 a2).bind fun t29 => (impl_SquareOf.f t29.At t27).bind fun t30 => impl_GreatestReach.l2 a1 a2 t21 k (if (IntKind.i64.wrap (t30 - 1)) < y25 then (IntKind.i64.wrap (t30 - 1)) else y25) (IntKind.i64.wrap (y26 + 1))) else (some y25)
def impl_GreatestReach.l1 (a0 : Pasture) (a1 : List Stake) (a2 : Int) (t9 : List Spot) : Nat → Int → Int → Option Int
  | 0, _, _ => none
  | k + 1, y13, y14 => if y14 < (a1.length : Int) then (((getI a1 y14).bind fun t16 => if y14 = a2 then (some y13) else ((impl_Pasture_reach.f k a0 t16).bind fun t18 => (impl_common.f k t9 t18).bind fun t21 => (impl_GreatestReach.l2 a1 a2 t21 k y13 0).bind fun y24 => some y24)).bind fun y15 => impl_GreatestReach.l1 a0 a1 a2 t9 k y15 (IntKind.i64.wrap (y14 + 1))) else (some y13)
def impl_GreatestReach.f (k : Nat) (a0 : Pasture) (a1 : List Stake) (a2 : Int) : Option (Int × Int) := (impl_stakeCode.f k a0 a1).bind fun t2 => (impl_size_impl_Stake.f a1).bind fun t3 => (impl_within.f a2 0 (IntKind.i64.wrap (t3 - 1))).bind fun t4 => (impl_unless.f t4 2).bind fun t5 => (impl_firstOf.f k ([t2, t5] : List Int)).bind fun t7 => if t7 ≠ 0 then (some (0, t7)) else ((getI a1 a2).bind fun t8 => (impl_Pasture_yard.f k a0 t8.At).bind fun t9 => (impl_GreatestReach.l1 a0 a1 a2 t9 k 200 0).bind fun y12 => if y12 < 0 then (some (0, 6)) else (some (y12, 0)))
theorem impl_GreatestReach.c (k : Nat) (w : World) (a0 : Pasture) (Aa1 : Option Addr) (ca1 : Nat) (a1 : List Stake) (hr1 : Rd cStake w Aa1 a1) (hc1 : a1.length ≤ ca1) (a2 : Int) (r : Int × Int) (H : impl_GreatestReach.f k a0 a1 a2 = some r) :
 CV Tryz.prog 28 [.agg (cPasture.enc a0).toArray, .slice Aa1 a1.length ca1, .int .i64 a2].toArray w fun v w' => v = .tuple #[.int .i64 r.1, .int .i64 r.2] ∧ Ext w w' := by
 have hS := ((St.init w no).param cStake Aa1 ca1 a1 hr1 hc1)
 unfold impl_GreatestReach.f at H
 refine CV.body Tryz.func28 Z Tryz.ntmps28 Z ?_
 refine CJ.seq (CJ.region ?_)
 refine OJ.ef Z Z Z (Ef.box hS Z Z (cPasture.enc a0) Z) ?_
 rintro _ w1 ⟨b1, rfl, hS⟩
 refine OJ.pures oU 2 Z (OJ.nil (EJ.next ?_))
 refine CJ.seq ?_
 refine CJ.seq (CJ.region ?_)
 refine OJ.st Z Z Z (SR.load Z Z (fun w' hx => ldE oU oI Z Z Z (CA.ext (hS.cells (i := 0) Z) hx) Z)) ?_
 refine OJ.pures oU 1 Z ?_
 obtain ⟨t2, ht2, H⟩ := pbind H
 refine OJ.callF Z Z Z Z Z hb45 Z (impl_stakeCode.c k _ a0 Aa1 ca1 a1 (hS.rd' (i := 0) Z) (hS.le' (i := 0) Z) _ ht2) ?_
 rintro _ w1 ⟨rfl, hs⟩
 replace hS := hS.grow hs
 refine OJ.pures oU 2 Z ?_
 obtain ⟨t3, ht3, H⟩ := pbind H
 refine OJ.callF Z Z Z Z Z hb72 Z (impl_size_impl_Stake.c _ Aa1 ca1 a1 (hS.rd' (i := 0) Z) (hS.le' (i := 0) Z) _ ht3) ?_
 rintro _ w1 ⟨rfl, hs⟩
 replace hS := hS.grow hs
 refine OJ.pures oU 1 Z ?_
 obtain ⟨t4, ht4, H⟩ := pbind H
 refine OJ.callF Z Z Z Z Z hb41 Z (impl_within.c _ a2 0 (IntKind.i64.wrap (t3 - 1)) _ ht4) ?_
 rintro _ w1 ⟨rfl, hs⟩
 replace hS := hS.grow hs
 obtain ⟨t5, ht5, H⟩ := pbind H
 refine OJ.callF Z Z Z Z Z hb71 Z (impl_unless.c _ t4 2 _ ht5) ?_
 rintro _ w1 ⟨rfl, hs⟩
 replace hS := hS.grow hs
 refine OJ.ef Z Z Z (Ef.lit oU oI hS (C := (ci .i64)) Z Z Z Z Z Z ([t2, t5] : List Int) Z Z Z Z) ?_
 rintro _ w1 ⟨A6, rfl, hS⟩
 obtain ⟨t7, ht7, H⟩ := pbind H
 refine OJ.callF Z Z Z Z Z hb66 Z (impl_firstOf.c k _ A6 (([t2, t5] : List Int).length) ([t2, t5] : List Int) (hS.rd (i := 1) Z) (hS.le (i := 1) Z) _ ht7) ?_
 rintro _ w1 ⟨rfl, hs⟩
 replace hS := hS.grow hs
 refine OJ.pures oU 1 Z (OJ.nil (EJ.next ?_))
 refine CJ.seq (CJ.region ?_)
 refine OJ.pures oU 2 Z (OJ.nil (EJ.next ?_))
 refine CJ.cond Z (fun hb => ?_) (fun hb => ?_)
 ·replace H := pif_t (of_decide_eq_true hb) H
  refine CJ.seq (CJ.region ?_)
  refine OJ.pures oU 3 Z (OJ.nil (EJ.next ?_))
  refine CJ.ret (EJ.skR (?_))
  obtain rfl := Option.some.inj H
  exact EJ.fin Z (.tmp Z (.tmp Z .nil)) ⟨Z, hS.ext⟩
 replace H := pif_f (of_decide_eq_false hb) H
 refine CJ.skip (EJ.next ?_)
 refine CJ.seq (CJ.region ?_)
 refine OJ.pures oU 1 Z (OJ.nil (EJ.next ?_))
 refine CJ.seq ?_
 refine CJ.draw [] [0, 1, 2, 3, 4, 5, 6, 7] mixed (by kernel_rfl) hS fun w1 hS => ?_
 refine DJ.st Z Z Z Z Z (SR.load Z Z (fun w' hx => ldE oU oI Z Z Z (CA.ext (hS.cells (i := 0) Z) hx) Z)) ?_
 refine DJ.pures oU 2 Z ?_
 obtain ⟨t8, ht8, H⟩ := pbind H
 obtain ⟨ad8, e8⟩ := (hS.rd' (i := 0) rfl).some' ht8
 refine DJ.st Z Z Z Z Z (SR.idxS oU oI Z Z Z Z e8 Z (getI_some ht8).1) ?_
 refine DJ.st Z Z Z Z Z (SR.fieldAddr oU oI Z Z Z Z Z Z) ?_
 refine DJ.st Z Z Z Z Z (SR.load Z Z (fun w' hx => ldN oU oI Z Z Z (CA.ext (CA.sub ((hS.rd' (i := 0) Z).at_ e8 ht8) 0) hx) (cSpot.len _) Z)) ?_
 obtain ⟨t9, ht9, H⟩ := pbind H
 refine DJ.callF rfl rfl rfl rfl rfl rfl rfl hb73 rfl (impl_Pasture_yard.c k _ a0 t8.At _ ht9) (by rintro v w' ⟨A10, c11, rfl, hs⟩; exact hs.ext) ?_
 rintro _ w1 ⟨A10, c11, rfl, hs⟩
 replace hS := hS.addN hs
 refine DJ.pures oU 1 Z ?_
 refine DJ.nil (EJ.next ?_)
 refine CJ.seq ?_
 refine CJ.seq (CJ.region ?_)
 refine OJ.pures oU 3 Z (OJ.nil (EJ.next ?_))
 obtain ⟨j314, H, K314⟩ := pbind H
 refine CJ.cut1 (fun F w1 => ∃ (y12 : Int) , (some y12 : Option Int) = some j314 ∧ F = [(9, .int .i64 y12)] ∧ St w no w1 [] [roC cStake Aa1 ca1 a1]) ?_ ?_
 ·skip
  refine CJ.block ?_
  refine CJ.loop (fun k F w1 => ∃ (y13 : Int) (y14 : Int), F = [(1, .slice Aa1 a1.length ca1), (2, .int .i64 a2), (3, .pointer (some ⟨b1, 0, none⟩)), (9, .int .i64 y13), (10, .slice A10 t9.length c11), (36, .slice Aa1 a1.length ca1), (37, .int .i64 (a1.length : Int)), (38, .int .i64 y14)] ∧ St w no w1 [box b1 (cPasture.enc a0) 31, rowC cSpot A10 c11 49 t9] [roC cStake Aa1 ca1 a1] ∧ impl_GreatestReach.l1 a0 a1 a2 t9 k y13 y14 = some j314) k (F' := [(1, .slice Aa1 a1.length ca1), (2, .int .i64 a2), (3, .pointer (some ⟨b1, 0, none⟩)), (9, .int .i64 200), (10, .slice A10 t9.length c11), (36, .slice Aa1 a1.length ca1), (37, .int .i64 (a1.length : Int)), (38, .int .i64 0)]) ⟨Z, Z, Z, Z, Z, Z, Z, Z, trivial⟩ ⟨200, 0, Z, hS.pick [0, 2] [0] Z, H⟩ ?_
  rintro k F w1 ⟨y13, y14, rfl, hS, H⟩
  cases k with
  | zero => rw [impl_GreatestReach.l1] at H; cases H
  | succ k =>
    rw [impl_GreatestReach.l1] at H
    refine CJ.seq (CJ.region ?_)
    refine OJ.pures oU 1 Z (OJ.nil (EJ.next ?_))
    refine CJ.seq ?_
    refine CJ.cond Z (fun hb => ?_) (fun hb => ?_)
    · replace H := pif_t (of_decide_eq_true hb) H
      refine CJ.skip (EJ.next ?_)
      obtain ⟨j321, H, K321⟩ := pbind H
      refine CJ.cut (fun F w1 => ∃ (y15 : Int) , (some y15 : Option Int) = some j321 ∧ F = [(1, .slice Aa1 a1.length ca1), (2, .int .i64 a2), (3, .pointer (some ⟨b1, 0, none⟩)), (9, .int .i64 y15), (10, .slice A10 t9.length c11), (36, .slice Aa1 a1.length ca1), (37, .int .i64 (a1.length : Int)), (38, .int .i64 y14)] ∧ St w no w1 [box b1 (cPasture.enc a0) 31, rowC cSpot A10 c11 49 t9] [roC cStake Aa1 ca1 a1]) ?_ ?_
      · skip
        refine CJ.block ?_
        refine CJ.seq (CJ.region ?_)
        refine OJ.pures oU 1 Z ?_
        obtain ⟨t16, ht16, H⟩ := pbind H
        obtain ⟨ad16, e16⟩ := (hS.rd' (i := 0) rfl).some' ht16
        refine OJ.st Z Z Z (SR.idxS oU oI Z Z Z Z e16 Z (getI_some ht16).1) ?_
        refine OJ.st Z Z Z (SR.load Z Z (fun w' hx => ldE oU oI Z Z Z (CA.ext ((hS.rd' (i := 0) Z).at_ e16 ht16) hx) Z)) ?_
        refine OJ.ef Z Z Z (Ef.alloc hS oI Z Z (cStake.enc (⟨(⟨0, 0⟩ : Spot), 0⟩ : Stake)) Z) ?_
        rintro _ w1 ⟨b17, rfl, hS⟩
        refine OJ.pures oU 1 Z ?_
        refine OJ.es Z Z (Es.store oI hS (i := 2) Z Z Z Z Z Z (vs := cStake.enc t16) Z (cStake.len _) (cStake.one _) (Nat.le_of_ble_eq_true Z) (cStake.enc t16) Z) ?_
        intro w1 hS
        refine OJ.nil (EJ.next ?_)
        refine CJ.seq ?_
        refine CJ.seq (CJ.region ?_)
        refine OJ.pures oU 3 Z (OJ.nil (EJ.next ?_))
        refine CJ.cond Z (fun hb => ?_) (fun hb => ?_)
        · replace H := pif_t (of_decide_eq_true hb) H
          refine CJ.exit (EJ.skE (EJ.hit (?_)))
          exact EJ.meet (F' := [(1, .slice Aa1 a1.length ca1), (2, .int .i64 a2), (3, .pointer (some ⟨b1, 0, none⟩)), (9, .int .i64 y13), (10, .slice A10 t9.length c11), (36, .slice Aa1 a1.length ca1), (37, .int .i64 (a1.length : Int)), (38, .int .i64 y14)]) ⟨Z, Z, Z, Z, Z, Z, Z, Z, trivial⟩ ⟨y13, H, Z, hS.pick [0, 1] [0] Z⟩
        · replace H := pif_f (of_decide_eq_false hb) H
          refine CJ.skip (EJ.next ?_)
          refine CJ.seq (CJ.region ?_)
          refine OJ.pures oU 1 Z ?_
          refine OJ.st Z Z Z (SR.load Z Z (fun w' hx => ldE oU oI Z Z Z (CA.ext (hS.cells (i := 0) Z) hx) Z)) ?_
          refine OJ.st Z Z Z (SR.load Z Z (fun w' hx => ldE oU oI Z Z Z (CA.ext (hS.cells (i := 2) Z) hx) Z)) ?_
          obtain ⟨t18, ht18, H⟩ := pbind H
          refine OJ.callF Z Z Z Z Z hb57 Z (impl_Pasture_reach.c k _ a0 t16 _ ht18) ?_
          rintro _ w1 ⟨A19, c20, rfl, hs⟩
          replace hS := hS.addN hs
          obtain ⟨t21, ht21, H⟩ := pbind H
          refine OJ.callF Z Z Z Z Z hb67 Z (impl_common.c k _ A10 c11 t9 (hS.rd (i := 1) Z) (hS.le (i := 1) Z) A19 c20 t18 (hS.rd (i := 3) Z) (hS.le (i := 3) Z) _ ht21) ?_
          rintro _ w1 ⟨A22, c23, rfl, hs⟩
          replace hS := hS.addN hs
          refine OJ.pures oU 2 Z (OJ.nil (EJ.next ?_))
          obtain ⟨j323, H, K323⟩ := pbind H
          refine CJ.cut1 (fun F w1 => ∃ (y24 : Int) , (some y24 : Option Int) = some j323 ∧ F = [(1, .slice Aa1 a1.length ca1), (2, .int .i64 a2), (3, .pointer (some ⟨b1, 0, none⟩)), (9, .int .i64 y24), (10, .slice A10 t9.length c11), (36, .slice Aa1 a1.length ca1), (37, .int .i64 (a1.length : Int)), (38, .int .i64 y14)] ∧ St w no w1 [box b1 (cPasture.enc a0) 31, rowC cSpot A10 c11 49 t9] [roC cStake Aa1 ca1 a1]) ?_ ?_
          · skip
            refine CJ.block ?_
            refine CJ.loop (fun k F w1 => ∃ (y25 : Int) (y26 : Int), F = [(1, .slice Aa1 a1.length ca1), (2, .int .i64 a2), (3, .pointer (some ⟨b1, 0, none⟩)), (9, .int .i64 y25), (10, .slice A10 t9.length c11), (36, .slice Aa1 a1.length ca1), (37, .int .i64 (a1.length : Int)), (38, .int .i64 y14), (50, .slice A22 t21.length c23), (51, .int .i64 (t21.length : Int)), (52, .int .i64 y26)] ∧ St w no w1 [box b1 (cPasture.enc a0) 31, rowC cSpot A10 c11 49 t9, rowC cSpot A22 c23 49 t21] [roC cStake Aa1 ca1 a1] ∧ impl_GreatestReach.l2 a1 a2 t21 k y25 y26 = some j323) k (F' := [(1, .slice Aa1 a1.length ca1), (2, .int .i64 a2), (3, .pointer (some ⟨b1, 0, none⟩)), (9, .int .i64 y13), (10, .slice A10 t9.length c11), (36, .slice Aa1 a1.length ca1), (37, .int .i64 (a1.length : Int)), (38, .int .i64 y14), (50, .slice A22 t21.length c23), (51, .int .i64 (t21.length : Int)), (52, .int .i64 0)]) ⟨Z, Z, Z, Z, Z, Z, Z, Z, Z, Z, Z, trivial⟩ ⟨y13, 0, Z, hS.pick [0, 1, 4] [0] Z, H⟩ ?_
            rintro k F w1 ⟨y25, y26, rfl, hS, H⟩
            cases k with
            | zero => rw [impl_GreatestReach.l2] at H; cases H
            | succ k =>
              rw [impl_GreatestReach.l2] at H
              refine CJ.seq (CJ.region ?_)
              refine OJ.pures oU 1 Z (OJ.nil (EJ.next ?_))
              refine CJ.seq ?_
              refine CJ.cond Z (fun hb => ?_) (fun hb => ?_)
              · replace H := pif_t (of_decide_eq_true hb) H
                refine CJ.skip (EJ.next ?_)
                refine CJ.seq ?_
                refine CJ.block ?_
                refine CJ.seq (CJ.region ?_)
                obtain ⟨t27, ht27, H⟩ := pbind H
                obtain ⟨ad27, e27⟩ := (hS.rd (i := 2) rfl).some' ht27
                refine OJ.st Z Z Z (SR.idxS oU oI Z Z Z Z e27 Z (getI_some ht27).1) ?_
                refine OJ.st Z Z Z (SR.load Z Z (fun w' hx => ldE oU oI Z Z Z (CA.ext ((hS.rd (i := 2) Z).at_ e27 ht27) hx) Z)) ?_
                refine OJ.ef Z Z Z (Ef.alloc hS oI Z Z (cSpot.enc (⟨0, 0⟩ : Spot)) Z) ?_
                rintro _ w1 ⟨b28, rfl, hS⟩
                refine OJ.es Z Z (Es.store oI hS (i := 3) Z Z Z Z Z Z (vs := cSpot.enc t27) Z (cSpot.len _) (cSpot.one _) (Nat.le_of_ble_eq_true Z) (cSpot.enc t27) Z) ?_
                intro w1 hS
                refine OJ.nil (EJ.next ?_)
                refine CJ.draw [] [0, 1, 2, 3, 4, 5, 6, 7, 8, 9, 10] mixed (by kernel_rfl) hS fun w1 hS => ?_
                refine DJ.pures oU 3 Z ?_
                obtain ⟨t29, ht29, H⟩ := pbind H
                obtain ⟨ad29, e29⟩ := (hS.rd' (i := 0) rfl).some' ht29
                refine DJ.st Z Z Z Z Z (SR.idxS oU oI Z Z Z Z e29 Z (getI_some ht29).1) ?_
                refine DJ.st Z Z Z Z Z (SR.fieldAddr oU oI Z Z Z Z Z Z) ?_
                refine DJ.st Z Z Z Z Z (SR.load Z Z (fun w' hx => ldN oU oI Z Z Z (CA.ext (CA.sub ((hS.rd' (i := 0) Z).at_ e29 ht29) 0) hx) (cSpot.len _) Z)) ?_
                refine DJ.st Z Z Z Z Z (SR.load Z Z (fun w' hx => ldE oU oI Z Z Z (CA.ext (hS.cells (i := 3) Z) hx) Z)) ?_
                obtain ⟨t30, ht30, H⟩ := pbind H
                refine DJ.callF rfl rfl rfl rfl rfl rfl rfl hb24 rfl (impl_SquareOf.c _ t29.At t27 _ ht30) (by rintro v w' ⟨rfl, hs⟩; exact hs) ?_
                rintro _ w1 ⟨rfl, hs⟩
                replace hS := hS.grow hs
                refine DJ.pures oU 3 Z ?_
                refine DJ.nil (EJ.blk (EJ.next ?_))
                refine CJ.region ?_
                refine OJ.pures oU 2 Z ?_
                refine OJ.nil ?_
                exact EJ.round k (F' := [(1, .slice Aa1 a1.length ca1), (2, .int .i64 a2), (3, .pointer (some ⟨b1, 0, none⟩)), (9, .int .i64 (if (IntKind.i64.wrap (t30 - 1)) < y25 then (IntKind.i64.wrap (t30 - 1)) else y25)), (10, .slice A10 t9.length c11), (36, .slice Aa1 a1.length ca1), (37, .int .i64 (a1.length : Int)), (38, .int .i64 y14), (50, .slice A22 t21.length c23), (51, .int .i64 (t21.length : Int)), (52, .int .i64 (IntKind.i64.wrap (y26 + 1)))]) ⟨Z, Z, Z, Z, Z, Z, Z, Z, Z, Z, Z, trivial⟩ (Nat.lt_succ_self _) ⟨(if (IntKind.i64.wrap (t30 - 1)) < y25 then (IntKind.i64.wrap (t30 - 1)) else y25), (IntKind.i64.wrap (y26 + 1)), Z, hS.pick [0, 1, 2] [0] Z, H⟩
              · replace H := pif_f (of_decide_eq_false hb) H
                refine CJ.exit (EJ.skE (EJ.skE (EJ.hit (?_))))
                exact EJ.meet (F' := [(1, .slice Aa1 a1.length ca1), (2, .int .i64 a2), (3, .pointer (some ⟨b1, 0, none⟩)), (9, .int .i64 y25), (10, .slice A10 t9.length c11), (36, .slice Aa1 a1.length ca1), (37, .int .i64 (a1.length : Int)), (38, .int .i64 y14)]) ⟨Z, Z, Z, Z, Z, Z, Z, Z, trivial⟩ ⟨y25, H, Z, hS.pick [0, 1] [0] Z⟩
          · rintro F w1 ⟨y24, he, rfl, hS⟩
            obtain rfl := Option.some.inj he
            have H := K323
            refine EJ.blk (?_)
            exact EJ.meet (F' := [(1, .slice Aa1 a1.length ca1), (2, .int .i64 a2), (3, .pointer (some ⟨b1, 0, none⟩)), (9, .int .i64 y24), (10, .slice A10 t9.length c11), (36, .slice Aa1 a1.length ca1), (37, .int .i64 (a1.length : Int)), (38, .int .i64 y14)]) ⟨Z, Z, Z, Z, Z, Z, Z, Z, trivial⟩ ⟨y24, H, Z, hS.pick [0, 1] [0] Z⟩
      · rintro F w1 ⟨y15, he, rfl, hS⟩
        obtain rfl := Option.some.inj he
        have H := K321
        refine CJ.region ?_
        refine OJ.pures oU 2 Z ?_
        refine OJ.nil ?_
        exact EJ.round k (F' := [(1, .slice Aa1 a1.length ca1), (2, .int .i64 a2), (3, .pointer (some ⟨b1, 0, none⟩)), (9, .int .i64 y15), (10, .slice A10 t9.length c11), (36, .slice Aa1 a1.length ca1), (37, .int .i64 (a1.length : Int)), (38, .int .i64 (IntKind.i64.wrap (y14 + 1)))]) ⟨Z, Z, Z, Z, Z, Z, Z, Z, trivial⟩ (Nat.lt_succ_self _) ⟨y15, (IntKind.i64.wrap (y14 + 1)), Z, hS.pick [0, 1] [0] Z, H⟩
    · replace H := pif_f (of_decide_eq_false hb) H
      refine CJ.exit (EJ.skE (EJ.skE (EJ.hit (?_))))
      exact EJ.meet (F' := [(9, .int .i64 y13)]) ⟨Z, trivial⟩ ⟨y13, H, Z, hS.pick [] [0] Z⟩
 rintro F w1 ⟨y12, he, rfl, hS⟩
 obtain rfl := Option.some.inj he
 have H := K314
 refine EJ.next ?_
 refine CJ.seq ?_
 refine CJ.seq (CJ.region ?_)
 refine OJ.pures oU 2 Z (OJ.nil (EJ.next ?_))
 refine CJ.cond Z (fun hb => ?_) (fun hb => ?_)
 ·replace H := pif_t (of_decide_eq_true hb) H
  refine CJ.seq (CJ.region ?_)
  refine OJ.pures oU 2 Z (OJ.nil (EJ.next ?_))
  refine CJ.ret (EJ.skR (?_))
  obtain rfl := Option.some.inj H
  exact EJ.fin Z (.tmp Z (.tmp Z .nil)) ⟨Z, hS.ext⟩
 replace H := pif_f (of_decide_eq_false hb) H
 refine CJ.skip (EJ.next ?_)
 refine CJ.seq (CJ.region ?_)
 refine OJ.pures oU 3 Z (OJ.nil (EJ.next ?_))
 refine CJ.ret (?_)
 obtain rfl := Option.some.inj H
 exact EJ.fin Z (.tmp Z (.tmp Z .nil)) ⟨Z, hS.ext⟩

def spec_l00Min.f (a0 : Int) (a1 : Int) : Option Int := if a0 < a1 then (some a0) else (some a1)
theorem spec_l00Min.c (w : World) (a0 : Int) (a1 : Int) (r : Int) (H : spec_l00Min.f a0 a1 = some r) :
 CV Tryz.prog 76 [.int .i64 a0, .int .i64 a1].toArray w fun v w' => v = .int .i64 r ∧ Ext w w' := by
 have hS := (St.init w no)
 unfold spec_l00Min.f at H
 refine CV.body Tryz.func76 Z Tryz.ntmps76 Z ?_
 refine CJ.seq (CJ.region ?_)
 refine OJ.pures oU 1 Z (OJ.nil (EJ.next ?_))
 refine CJ.seq ?_
 refine CJ.seq (CJ.region ?_)
 refine OJ.pures oU 3 Z (OJ.nil (EJ.next ?_))
 refine CJ.cond Z (fun hb => ?_) (fun hb => ?_)
 ·replace H := pif_t (of_decide_eq_true hb) H
  refine CJ.seq (CJ.region ?_)
  refine OJ.pures oU 2 Z (OJ.nil (EJ.next ?_))
  refine CJ.ret (EJ.skR (?_))
  obtain rfl := Option.some.inj H
  exact EJ.fin Z (.tmp Z .nil) ⟨Z, hS.ext⟩
 replace H := pif_f (of_decide_eq_false hb) H
 refine CJ.skip (EJ.next ?_)
 refine CJ.seq (CJ.region ?_)
 refine OJ.pures oU 2 Z (OJ.nil (EJ.next ?_))
 refine CJ.ret (?_)
 obtain rfl := Option.some.inj H
 exact EJ.fin Z (.tmp Z .nil) ⟨Z, hS.ext⟩

def spec_GreatestReach.l2 (a0 : Pasture) (a1 : List Stake) (a2 : Int) (t18 : Arr 10 (Arr 10 Int)) (t21 : Arr 10 (Arr 10 Int)) (y25 : Int) : Nat → Int → Int → Option Int
  | 0, _, _ => none
  | k + 1, y28, y29 => if y29 < a0.Wide then (((getI t18.l y25).bind fun t31 => (getI t31.l y29).bind fun t32 => if 0 < t32 then ((getI t21.l y25).bind fun t33 => (getI t33.l y29).bind fun t34 => some (decide (0 < t34))) else (some false)).bind fun y30 => if y30 = true then ((getI a1 a2).bind fun t35 => (spec_SquareOf.f t35.At (⟨y29, y25⟩ : Spot)).bind fun t36 => (spec_l00Min.f y28 (IntKind.i64.wrap (t36 - 1))).bind fun t37 => spec_GreatestReach.l2 a0 a1 a2 t18 t21 y25 k t37 (IntKind.i8.wrap (y29 + 1))) else (spec_GreatestReach.l2 a0 a1 a2 t18 t21 y25 k y28 (IntKind.i8.wrap (y29 + 1)))) else (some y28)
def spec_GreatestReach.l1 (a0 : Pasture) (a1 : List Stake) (a2 : Int) (t18 : Arr 10 (Arr 10 Int)) (t21 : Arr 10 (Arr 10 Int)) : Nat → Int → Int → Option Int
  | 0, _, _ => none
  | k + 1, y24, y25 => if y25 < a0.High then (((spec_GreatestReach.l2 a0 a1 a2 t18 t21 y25 k y24 0).bind fun y27 => some y27).bind fun y26 => spec_GreatestReach.l1 a0 a1 a2 t18 t21 k y26 (IntKind.i8.wrap (y25 + 1))) else (some y24)
def spec_GreatestReach.f (k : Nat) (a0 : Pasture) (a1 : List Stake) (a2 : Int) : Option (Int × Int) := (spec_l00In.f a2 0 (IntKind.i64.wrap ((a1.length : Int) - 1))).bind fun t2 => (spec_l05Asked.f k a0 a1 t2).bind fun t3 => if t3 ≠ 0 then (some (0, t3)) else ((chk ((0 : Int) ≤ 0 ∧ 0 ≤ a2 ∧ a2 ≤ (a1.length : Int))).bind fun u4 => (chk ((0 : Int) ≤ (IntKind.i64.wrap (a2 + 1)) ∧ (IntKind.i64.wrap (a2 + 1)) ≤ (a1.length : Int) ∧ (a1.length : Int) ≤ (a1.length : Int))).bind fun u5 => (chk (([] : List Stake).length + ((a1.drop 0).take (a2.toNat - 0)).length ≤ 4294967296)).bind fun u7 => (chk ((([] : List Stake) ++ ((a1.drop 0).take (a2.toNat - 0))).length + ((a1.drop ((IntKind.i64.wrap (a2 + 1)).toNat)).take (a1.length - ((IntKind.i64.wrap (a2 + 1)).toNat))).length ≤ 4294967296)).bind fun u10 => (spec_l05Times.f k a0 ((([] : List Stake) ++ ((a1.drop 0).take (a2.toNat - 0))) ++ ((a1.drop ((IntKind.i64.wrap (a2 + 1)).toNat)).take (a1.length - ((IntKind.i64.wrap (a2 + 1)).toNat))))).bind fun t18 => (getI a1 a2).bind fun t20 => (spec_l01Steps.f k a0 t20.At).bind fun t21 => (spec_GreatestReach.l1 a0 a1 a2 t18 t21 k 200 0).bind fun y23 => if y23 < 0 then (some (0, 6)) else (some (y23, 0)))
theorem spec_GreatestReach.c (k : Nat) (w : World) (a0 : Pasture) (Aa1 : Option Addr) (ca1 : Nat) (a1 : List Stake) (hr1 : Rd cStake w Aa1 a1) (hc1 : a1.length ≤ ca1) (a2 : Int) (r : Int × Int) (H : spec_GreatestReach.f k a0 a1 a2 = some r) :
 CV Tryz.prog 29 [.agg (cPasture.enc a0).toArray, .slice Aa1 a1.length ca1, .int .i64 a2].toArray w fun v w' => v = .tuple #[.int .i64 r.1, .int .i64 r.2] ∧ Ext w w' := by
 have hS := ((St.init w no).param cStake Aa1 ca1 a1 hr1 hc1)
 unfold spec_GreatestReach.f at H
 refine CV.body Tryz.func29 Z Tryz.ntmps29 Z ?_
 refine CJ.seq (CJ.region ?_)
 refine OJ.ef Z Z Z (Ef.box hS Z Z (cPasture.enc a0) Z) ?_
 rintro _ w1 ⟨b1, rfl, hS⟩
 refine OJ.pures oU 2 Z (OJ.nil (EJ.next ?_))
 refine CJ.seq ?_
 refine CJ.seq (CJ.region ?_)
 refine OJ.pures oU 5 Z ?_
 obtain ⟨t2, ht2, H⟩ := pbind H
 refine OJ.callF Z Z Z Z Z hb74 Z (spec_l00In.c _ a2 0 (IntKind.i64.wrap ((a1.length : Int) - 1)) _ ht2) ?_
 rintro _ w1 ⟨rfl, hs⟩
 replace hS := hS.grow hs
 obtain ⟨t3, ht3, H⟩ := pbind H
 refine OJ.callF Z Z Z Z Z hb50 Z (spec_l05Asked.c k _ _ a0 (hS.cells (i := 0) Z) Aa1 ca1 a1 (hS.rd' (i := 0) Z) (hS.le' (i := 0) Z) t2 _ ht3) ?_
 rintro _ w1 ⟨rfl, hs⟩
 replace hS := hS.grow hs
 refine OJ.pures oU 1 Z (OJ.nil (EJ.next ?_))
 refine CJ.seq (CJ.region ?_)
 refine OJ.pures oU 2 Z (OJ.nil (EJ.next ?_))
 refine CJ.cond Z (fun hb => ?_) (fun hb => ?_)
 ·replace H := pif_t (of_decide_eq_true hb) H
  refine CJ.seq (CJ.region ?_)
  refine OJ.pures oU 3 Z (OJ.nil (EJ.next ?_))
  refine CJ.ret (EJ.skR (?_))
  obtain rfl := Option.some.inj H
  exact EJ.fin Z (.tmp Z (.tmp Z .nil)) ⟨Z, hS.ext⟩
 replace H := pif_f (of_decide_eq_false hb) H
 refine CJ.skip (EJ.next ?_)
 refine CJ.seq ?_
 obtain ⟨u4, hu4, H⟩ := pbind H
 obtain ⟨u5, hu5, H⟩ := pbind H
 obtain ⟨u7, hu7, H⟩ := pbind H
 obtain ⟨u10, hu10, H⟩ := pbind H
 refine CJ.cut1 (fun F w1 => ∃ (A11 : Option Addr) (c12 : Nat), F = [(1, .slice Aa1 a1.length ca1), (2, .int .i64 a2), (3, .pointer (some ⟨b1, 0, none⟩)), (6, .int .i64 0), (7, .int .i64 0), (9, .slice A11 ((([] : List Stake) ++ ((a1.drop 0).take (a2.toNat - 0))) ++ ((a1.drop ((IntKind.i64.wrap (a2 + 1)).toNat)).take (a1.length - ((IntKind.i64.wrap (a2 + 1)).toNat)))).length c12)] ∧ St w no w1 [box b1 (cPasture.enc a0) 31, rowC cStake A11 c12 51 ((([] : List Stake) ++ ((a1.drop 0).take (a2.toNat - 0))) ++ ((a1.drop ((IntKind.i64.wrap (a2 + 1)).toNat)).take (a1.length - ((IntKind.i64.wrap (a2 + 1)).toNat))))] [roC cStake Aa1 ca1 a1, roC cStake (cutA Aa1 ca1 0 cStake.sz) (ca1 - 0) ((a1.drop 0).take (a2.toNat - 0)), roC cStake (cutA Aa1 ca1 ((IntKind.i64.wrap (a2 + 1)).toNat) cStake.sz) (ca1 - ((IntKind.i64.wrap (a2 + 1)).toNat)) ((a1.drop ((IntKind.i64.wrap (a2 + 1)).toNat)).take (a1.length - ((IntKind.i64.wrap (a2 + 1)).toNat)))]) ?_ ?_
 ·skip
  refine CJ.drawT [] [0, 4, 9] (.one 1 (.one 2 (.one 3 (.one 5 (.one 6 (.one 7 (.one 8 (.one 0 (.one 4 (.one 9 (.one 10 (.fin)))))))))))) mixed (by kernel_rfl) hS [] fun w1 hS hY hV => ?_
  refine TJ.pures oU 2 Z ?_
  refine TJ.st hY rfl rfl rfl rfl rfl (fun w2 hY => SR.cutS oU oI (0) (a2.toNat) rfl rfl rfl rfl rfl rfl (.inl ⟨rfl, rfl⟩) (.inr ⟨_, _, rfl, (by have := (chk_some hu4); omega), rfl⟩) (by have := (chk_some hu4); omega) (by have := (chk_some hu4); have := ((hV w2 hY).le' (i := 0) rfl : a1.length ≤ ca1); omega)) ?_
  replace hS := hS.cutR (i := 0) (lo := 0) (hi := a2.toNat) rfl (by have := (chk_some hu4); omega) (by have := (chk_some hu4); omega)
  refine TJ.as (t := 28) rfl (show _ = (.slice (cutA Aa1 ca1 0 cStake.sz) ((a1.drop 0).take (a2.toNat - 0)).length (ca1 - 0) : Value) by rw [cutLen (by have := (chk_some hu4); omega) (by have := (chk_some hu4); omega)]; rfl) ?_
  refine TJ.pures oU 3 Z ?_
  refine TJ.st hY rfl rfl rfl rfl rfl (fun w2 hY => SR.cutS oU oI ((IntKind.i64.wrap (a2 + 1)).toNat) (a1.length) rfl rfl rfl rfl rfl rfl (.inr ⟨_, _, rfl, (chk_some hu5).1, rfl⟩) (.inl ⟨rfl, rfl⟩) (by have := (chk_some hu5); omega) (by have := (chk_some hu5); have := ((hV w2 hY).le' (i := 0) rfl : a1.length ≤ ca1); omega)) ?_
  replace hS := hS.cutR (i := 0) (lo := (IntKind.i64.wrap (a2 + 1)).toNat) (hi := a1.length) rfl (by have := (chk_some hu5); omega) (by have := (chk_some hu5); omega)
  refine TJ.as (t := 33) rfl (show _ = (.slice (cutA Aa1 ca1 ((IntKind.i64.wrap (a2 + 1)).toNat) cStake.sz) ((a1.drop ((IntKind.i64.wrap (a2 + 1)).toNat)).take (a1.length - ((IntKind.i64.wrap (a2 + 1)).toNat))).length (ca1 - ((IntKind.i64.wrap (a2 + 1)).toNat)) : Value) by rw [cutLen (by have := (chk_some hu5); omega) (by have := (chk_some hu5); omega)]; rfl) ?_
  refine TJ.ef hY Z Z Z Z Z (Ef.lit oU oI hS (C := cStake) Z Z Z Z Z Z ([] : List Stake) Z Z Z Z) ?_
  rintro _ w1 hY ⟨A13, rfl, hS⟩
  have hO := hS
  refine TJ.ew rfl rfl rfl rfl rfl (Ew.append oU oI (C := cStake) (xs := ([] : List Stake)) (ys := ((a1.drop 0).take (a2.toNat - 0))) (hS.inn []) (i := 1) rfl rfl rfl rfl rfl rfl rfl rfl rfl rfl rfl rfl rfl (hS.rd' (i := 1) rfl) (chk_some hu7)) (by rintro _ w1 ⟨A14, c15, rfl, hS⟩; exact hY.wr (hO.inY [] 1 rfl rfl) hS.chg) ?_
  rintro _ w1 hY ⟨A14, c15, rfl, hS⟩
  have hS : St w no w1 [box b1 (cPasture.enc a0) 31, rowC cStake A14 c15 51 (([] : List Stake) ++ ((a1.drop 0).take (a2.toNat - 0)))] [roC cStake Aa1 ca1 a1, roC cStake (cutA Aa1 ca1 0 cStake.sz) (ca1 - 0) ((a1.drop 0).take (a2.toNat - 0)), roC cStake (cutA Aa1 ca1 ((IntKind.i64.wrap (a2 + 1)).toNat) cStake.sz) (ca1 - ((IntKind.i64.wrap (a2 + 1)).toNat)) ((a1.drop ((IntKind.i64.wrap (a2 + 1)).toNat)).take (a1.length - ((IntKind.i64.wrap (a2 + 1)).toNat)))] := hO.out [] hS
  have hO := hS
  refine TJ.ew rfl rfl rfl rfl rfl (Ew.append oU oI (C := cStake) (xs := (([] : List Stake) ++ ((a1.drop 0).take (a2.toNat - 0)))) (ys := ((a1.drop ((IntKind.i64.wrap (a2 + 1)).toNat)).take (a1.length - ((IntKind.i64.wrap (a2 + 1)).toNat)))) (hS.inn []) (i := 1) rfl rfl rfl rfl rfl rfl rfl rfl rfl rfl rfl rfl rfl (hS.rd' (i := 2) rfl) (chk_some hu10)) (by rintro _ w1 ⟨A16, c17, rfl, hS⟩; exact hY.wr (hO.inY [] 1 rfl rfl) hS.chg) ?_
  rintro _ w1 hY ⟨A16, c17, rfl, hS⟩
  have hS : St w no w1 [box b1 (cPasture.enc a0) 31, rowC cStake A16 c17 51 ((([] : List Stake) ++ ((a1.drop 0).take (a2.toNat - 0))) ++ ((a1.drop ((IntKind.i64.wrap (a2 + 1)).toNat)).take (a1.length - ((IntKind.i64.wrap (a2 + 1)).toNat))))] [roC cStake Aa1 ca1 a1, roC cStake (cutA Aa1 ca1 0 cStake.sz) (ca1 - 0) ((a1.drop 0).take (a2.toNat - 0)), roC cStake (cutA Aa1 ca1 ((IntKind.i64.wrap (a2 + 1)).toNat) cStake.sz) (ca1 - ((IntKind.i64.wrap (a2 + 1)).toNat)) ((a1.drop ((IntKind.i64.wrap (a2 + 1)).toNat)).take (a1.length - ((IntKind.i64.wrap (a2 + 1)).toNat)))] := hO.out [] hS
  refine TJ.pures oU 1 Z ?_
  refine TJ.nil ?_
  exact EJ.meet (F' := [(1, .slice Aa1 a1.length ca1), (2, .int .i64 a2), (3, .pointer (some ⟨b1, 0, none⟩)), (6, .int .i64 0), (7, .int .i64 0), (9, .slice A16 ((([] : List Stake) ++ ((a1.drop 0).take (a2.toNat - 0))) ++ ((a1.drop ((IntKind.i64.wrap (a2 + 1)).toNat)).take (a1.length - ((IntKind.i64.wrap (a2 + 1)).toNat)))).length c17)]) ⟨Z, Z, Z, Z, Z, Z, trivial⟩ ⟨A16, c17, Z, hS.pick [0, 1] [0, 1, 2] Z⟩
 rintro F w1 ⟨A11, c12, rfl, hS⟩
 refine EJ.next ?_
 refine CJ.seq (CJ.region ?_)
 refine OJ.pures oU 1 Z ?_
 obtain ⟨t18, ht18, H⟩ := pbind H
 refine OJ.callF Z Z Z Z Z hb75 Z (spec_l05Times.c k _ _ a0 (hS.cells (i := 0) Z) A11 c12 ((([] : List Stake) ++ ((a1.drop 0).take (a2.toNat - 0))) ++ ((a1.drop ((IntKind.i64.wrap (a2 + 1)).toNat)).take (a1.length - ((IntKind.i64.wrap (a2 + 1)).toNat)))) (hS.rd (i := 1) Z) (hS.le (i := 1) Z) _ ht18) ?_
 rintro _ w1 ⟨rfl, hs⟩
 replace hS := hS.grow hs
 refine OJ.ef rfl rfl rfl (Ef.alloc hS oI rfl rfl ((carr 10 (carr 10 (ci .i64))).enc (Arr.mk' (Arr.mk' 0 : Arr 10 Int) : Arr 10 (Arr 10 Int))) (by kernel_rfl)) ?_
 rintro _ w1 ⟨b19, rfl, hS⟩
 refine OJ.es rfl rfl (Es.put oI hS (i := 2) rfl rfl rfl rfl rfl (vs := (carr 10 (carr 10 (ci .i64))).enc t18) rfl ((carr 10 (carr 10 (ci .i64))).len _) ((carr 10 (carr 10 (ci .i64))).one _) (Put.all (carr 10 (carr 10 (ci .i64))) (Arr.mk' (Arr.mk' 0 : Arr 10 Int) : Arr 10 (Arr 10 Int)) t18) (by (try simp only [add_lit, Nat.add_assoc, Nat.zero_add, Nat.add_zero]) <;> rfl)) ?_
 intro w1 hS
 refine OJ.nil (EJ.next ?_)
 refine CJ.seq (CJ.region ?_)
 refine OJ.pures oU 2 Z ?_
 obtain ⟨t20, ht20, H⟩ := pbind H
 obtain ⟨ad20, e20⟩ := (hS.rd' (i := 0) rfl).some' ht20
 refine OJ.st Z Z Z (SR.idxS oU oI Z Z Z Z e20 Z (getI_some ht20).1) ?_
 refine OJ.st Z Z Z (SR.fieldAddr oU oI Z Z Z Z Z Z) ?_
 refine OJ.st Z Z Z (SR.load Z Z (fun w' hx => ldN oU oI Z Z Z (CA.ext (CA.sub ((hS.rd' (i := 0) Z).at_ e20 ht20) 0) hx) (cSpot.len _) Z)) ?_
 obtain ⟨t21, ht21, H⟩ := pbind H
 refine OJ.callF Z Z Z Z Z hb65 Z (spec_l01Steps.c k _ _ a0 (hS.cells (i := 0) Z) t20.At _ ht21) ?_
 rintro _ w1 ⟨rfl, hs⟩
 replace hS := hS.grow hs
 refine OJ.ef rfl rfl rfl (Ef.alloc hS oI rfl rfl ((carr 10 (carr 10 (ci .i64))).enc (Arr.mk' (Arr.mk' 0 : Arr 10 Int) : Arr 10 (Arr 10 Int))) (by kernel_rfl)) ?_
 rintro _ w1 ⟨b22, rfl, hS⟩
 refine OJ.es rfl rfl (Es.put oI hS (i := 3) rfl rfl rfl rfl rfl (vs := (carr 10 (carr 10 (ci .i64))).enc t21) rfl ((carr 10 (carr 10 (ci .i64))).len _) ((carr 10 (carr 10 (ci .i64))).one _) (Put.all (carr 10 (carr 10 (ci .i64))) (Arr.mk' (Arr.mk' 0 : Arr 10 Int) : Arr 10 (Arr 10 Int)) t21) (by (try simp only [add_lit, Nat.add_assoc, Nat.zero_add, Nat.add_zero]) <;> rfl)) ?_
 intro w1 hS
 refine OJ.nil (EJ.next ?_)
 refine CJ.seq (CJ.region ?_)
 refine OJ.pures oU 1 Z (OJ.nil (EJ.next ?_))
 refine CJ.seq ?_
 refine CJ.seq (CJ.region ?_)
 refine OJ.pures oU 1 Z (OJ.nil (EJ.next ?_))
 obtain ⟨j324, H, K324⟩ := pbind H
 refine CJ.cut1 (fun F w1 => ∃ (y23 : Int) , (some y23 : Option Int) = some j324 ∧ F = [(12, .int .i64 y23)] ∧ St w no w1 [] [roC cStake Aa1 ca1 a1, roC cStake (cutA Aa1 ca1 0 cStake.sz) (ca1 - 0) ((a1.drop 0).take (a2.toNat - 0)), roC cStake (cutA Aa1 ca1 ((IntKind.i64.wrap (a2 + 1)).toNat) cStake.sz) (ca1 - ((IntKind.i64.wrap (a2 + 1)).toNat)) ((a1.drop ((IntKind.i64.wrap (a2 + 1)).toNat)).take (a1.length - ((IntKind.i64.wrap (a2 + 1)).toNat)))]) ?_ ?_
 ·skip
  refine CJ.block ?_
  refine CJ.loop (fun k F w1 => ∃ (y24 : Int) (y25 : Int), F = [(1, .slice Aa1 a1.length ca1), (2, .int .i64 a2), (3, .pointer (some ⟨b1, 0, none⟩)), (10, .pointer (some ⟨b19, 0, none⟩)), (11, .pointer (some ⟨b22, 0, none⟩)), (12, .int .i64 y24), (13, .int .i8 y25)] ∧ St w no w1 [box b1 (cPasture.enc a0) 31, box b19 ((carr 10 (carr 10 (ci .i64))).enc t18) 106, box b22 ((carr 10 (carr 10 (ci .i64))).enc t21) 106] [roC cStake Aa1 ca1 a1, roC cStake (cutA Aa1 ca1 0 cStake.sz) (ca1 - 0) ((a1.drop 0).take (a2.toNat - 0)), roC cStake (cutA Aa1 ca1 ((IntKind.i64.wrap (a2 + 1)).toNat) cStake.sz) (ca1 - ((IntKind.i64.wrap (a2 + 1)).toNat)) ((a1.drop ((IntKind.i64.wrap (a2 + 1)).toNat)).take (a1.length - ((IntKind.i64.wrap (a2 + 1)).toNat)))] ∧ spec_GreatestReach.l1 a0 a1 a2 t18 t21 k y24 y25 = some j324) k (F' := [(1, .slice Aa1 a1.length ca1), (2, .int .i64 a2), (3, .pointer (some ⟨b1, 0, none⟩)), (10, .pointer (some ⟨b19, 0, none⟩)), (11, .pointer (some ⟨b22, 0, none⟩)), (12, .int .i64 200), (13, .int .i8 0)]) ⟨Z, Z, Z, Z, Z, Z, Z, trivial⟩ ⟨200, 0, Z, hS.pick [0, 2, 3] [0, 1, 2] Z, H⟩ ?_
  rintro k F w1 ⟨y24, y25, rfl, hS, H⟩
  cases k with
  | zero => rw [spec_GreatestReach.l1] at H; cases H
  | succ k =>
    rw [spec_GreatestReach.l1] at H
    refine CJ.seq ?_
    refine CJ.seq (CJ.region ?_)
    refine OJ.pures oU 1 Z ?_
    refine OJ.st Z Z Z (SR.fieldAddr oU oI Z Z Z Z Z Z) ?_
    refine OJ.st Z Z Z (SR.load Z Z (fun w' hx => ld1 oU Z Z (CA.ext (CA.fld (hS.cells (i := 0) Z) (mid_part (fe_Pasture_1 _) (fl_Pasture_1 _) ((ci .i8).len _))) hx) Z)) ?_
    refine OJ.pures oU 1 Z (OJ.nil (EJ.next ?_))
    refine CJ.cond Z (fun hb => ?_) (fun hb => ?_)
    · replace H := pif_t (of_decide_eq_true hb) H
      refine CJ.skip (EJ.next ?_)
      obtain ⟨j343, H, K343⟩ := pbind H
      refine CJ.cut (fun F w1 => ∃ (y26 : Int) , (some y26 : Option Int) = some j343 ∧ F = [(1, .slice Aa1 a1.length ca1), (2, .int .i64 a2), (3, .pointer (some ⟨b1, 0, none⟩)), (10, .pointer (some ⟨b19, 0, none⟩)), (11, .pointer (some ⟨b22, 0, none⟩)), (12, .int .i64 y26), (13, .int .i8 y25)] ∧ St w no w1 [box b1 (cPasture.enc a0) 31, box b19 ((carr 10 (carr 10 (ci .i64))).enc t18) 106, box b22 ((carr 10 (carr 10 (ci .i64))).enc t21) 106] [roC cStake Aa1 ca1 a1, roC cStake (cutA Aa1 ca1 0 cStake.sz) (ca1 - 0) ((a1.drop 0).take (a2.toNat - 0)), roC cStake (cutA Aa1 ca1 ((IntKind.i64.wrap (a2 + 1)).toNat) cStake.sz) (ca1 - ((IntKind.i64.wrap (a2 + 1)).toNat)) ((a1.drop ((IntKind.i64.wrap (a2 + 1)).toNat)).take (a1.length - ((IntKind.i64.wrap (a2 + 1)).toNat)))]) ?_ ?_
      · skip
        refine CJ.block ?_
        refine CJ.seq (CJ.region ?_)
        refine OJ.pures oU 1 Z (OJ.nil (EJ.next ?_))
        obtain ⟨j348, H, K348⟩ := pbind H
        refine CJ.cut1 (fun F w1 => ∃ (y27 : Int) , (some y27 : Option Int) = some j348 ∧ F = [(1, .slice Aa1 a1.length ca1), (2, .int .i64 a2), (3, .pointer (some ⟨b1, 0, none⟩)), (10, .pointer (some ⟨b19, 0, none⟩)), (11, .pointer (some ⟨b22, 0, none⟩)), (12, .int .i64 y27), (13, .int .i8 y25)] ∧ St w no w1 [box b1 (cPasture.enc a0) 31, box b19 ((carr 10 (carr 10 (ci .i64))).enc t18) 106, box b22 ((carr 10 (carr 10 (ci .i64))).enc t21) 106] [roC cStake Aa1 ca1 a1, roC cStake (cutA Aa1 ca1 0 cStake.sz) (ca1 - 0) ((a1.drop 0).take (a2.toNat - 0)), roC cStake (cutA Aa1 ca1 ((IntKind.i64.wrap (a2 + 1)).toNat) cStake.sz) (ca1 - ((IntKind.i64.wrap (a2 + 1)).toNat)) ((a1.drop ((IntKind.i64.wrap (a2 + 1)).toNat)).take (a1.length - ((IntKind.i64.wrap (a2 + 1)).toNat)))]) ?_ ?_
        · skip
          refine CJ.block ?_
          refine CJ.loop (fun k F w1 => ∃ (y28 : Int) (y29 : Int), F = [(1, .slice Aa1 a1.length ca1), (2, .int .i64 a2), (3, .pointer (some ⟨b1, 0, none⟩)), (10, .pointer (some ⟨b19, 0, none⟩)), (11, .pointer (some ⟨b22, 0, none⟩)), (12, .int .i64 y28), (13, .int .i8 y25), (14, .int .i8 y29)] ∧ St w no w1 [box b1 (cPasture.enc a0) 31, box b19 ((carr 10 (carr 10 (ci .i64))).enc t18) 106, box b22 ((carr 10 (carr 10 (ci .i64))).enc t21) 106] [roC cStake Aa1 ca1 a1, roC cStake (cutA Aa1 ca1 0 cStake.sz) (ca1 - 0) ((a1.drop 0).take (a2.toNat - 0)), roC cStake (cutA Aa1 ca1 ((IntKind.i64.wrap (a2 + 1)).toNat) cStake.sz) (ca1 - ((IntKind.i64.wrap (a2 + 1)).toNat)) ((a1.drop ((IntKind.i64.wrap (a2 + 1)).toNat)).take (a1.length - ((IntKind.i64.wrap (a2 + 1)).toNat)))] ∧ spec_GreatestReach.l2 a0 a1 a2 t18 t21 y25 k y28 y29 = some j348) k (F' := [(1, .slice Aa1 a1.length ca1), (2, .int .i64 a2), (3, .pointer (some ⟨b1, 0, none⟩)), (10, .pointer (some ⟨b19, 0, none⟩)), (11, .pointer (some ⟨b22, 0, none⟩)), (12, .int .i64 y24), (13, .int .i8 y25), (14, .int .i8 0)]) ⟨Z, Z, Z, Z, Z, Z, Z, Z, trivial⟩ ⟨y24, 0, Z, hS.pick [0, 1, 2] [0, 1, 2] Z, H⟩ ?_
          rintro k F w1 ⟨y28, y29, rfl, hS, H⟩
          cases k with
          | zero => rw [spec_GreatestReach.l2] at H; cases H
          | succ k =>
            rw [spec_GreatestReach.l2] at H
            refine CJ.seq ?_
            refine CJ.seq (CJ.region ?_)
            refine OJ.pures oU 1 Z ?_
            refine OJ.st Z Z Z (SR.fieldAddr oU oI Z Z Z Z Z Z) ?_
            refine OJ.st Z Z Z (SR.load Z Z (fun w' hx => ld1 oU Z Z (CA.ext (CA.fld (hS.cells (i := 0) Z) (mid_part (fe_Pasture_0 _) (fl_Pasture_0 _) ((ci .i8).len _))) hx) Z)) ?_
            refine OJ.pures oU 1 Z (OJ.nil (EJ.next ?_))
            refine CJ.cond Z (fun hb => ?_) (fun hb => ?_)
            · replace H := pif_t (of_decide_eq_true hb) H
              refine CJ.skip (EJ.next ?_)
              refine CJ.seq ?_
              refine CJ.block ?_
              obtain ⟨j351, H, K351⟩ := pbind H
              refine CJ.cut (fun F w1 => ∃ (y30 : Bool) , (some y30 : Option Bool) = some j351 ∧ F = [(1, .slice Aa1 a1.length ca1), (2, .int .i64 a2), (3, .pointer (some ⟨b1, 0, none⟩)), (10, .pointer (some ⟨b19, 0, none⟩)), (11, .pointer (some ⟨b22, 0, none⟩)), (12, .int .i64 y28), (13, .int .i8 y25), (14, .int .i8 y29), (68, .bool y30)] ∧ St w no w1 [box b1 (cPasture.enc a0) 31, box b19 ((carr 10 (carr 10 (ci .i64))).enc t18) 106, box b22 ((carr 10 (carr 10 (ci .i64))).enc t21) 106] [roC cStake Aa1 ca1 a1, roC cStake (cutA Aa1 ca1 0 cStake.sz) (ca1 - 0) ((a1.drop 0).take (a2.toNat - 0)), roC cStake (cutA Aa1 ca1 ((IntKind.i64.wrap (a2 + 1)).toNat) cStake.sz) (ca1 - ((IntKind.i64.wrap (a2 + 1)).toNat)) ((a1.drop ((IntKind.i64.wrap (a2 + 1)).toNat)).take (a1.length - ((IntKind.i64.wrap (a2 + 1)).toNat)))]) ?_ ?_
              · skip
                refine CJ.region ?_
                refine OJ.pures oU 2 Z ?_
                obtain ⟨t31, ht31, H⟩ := pbind H
                refine OJ.st Z Z Z (SR.idxA oU oI Z Z Z Z Z (Arr.lt ht31)) ?_
                obtain ⟨t32, ht32, H⟩ := pbind H
                refine OJ.st Z Z Z (SR.idxA oU oI Z Z Z Z Z (Arr.lt ht32)) ?_
                refine OJ.st Z Z Z (SR.load Z Z (fun w' hx => ld1 oU Z Z (CA.ext (CA.idx (CA.idx (hS.cells (i := 1) Z) ht31) ht32) hx) Z)) ?_
                refine OJ.pures oU 2 Z ?_
                refine OJ.split (t := 61) Z (fun hb => ?_) (fun hb => ?_)
                · replace H := pif_t (of_decide_eq_true hb) H
                  refine OJ.pures oU 2 Z ?_
                  obtain ⟨t33, ht33, H⟩ := pbind H
                  refine OJ.st Z Z Z (SR.idxA oU oI Z Z Z Z Z (Arr.lt ht33)) ?_
                  obtain ⟨t34, ht34, H⟩ := pbind H
                  refine OJ.st Z Z Z (SR.idxA oU oI Z Z Z Z Z (Arr.lt ht34)) ?_
                  refine OJ.st Z Z Z (SR.load Z Z (fun w' hx => ld1 oU Z Z (CA.ext (CA.idx (CA.idx (hS.cells (i := 2) Z) ht33) ht34) hx) Z)) ?_
                  refine OJ.pures oU 2 Z ?_
                  refine OJ.nil ?_
                  exact EJ.meet (F' := [(1, .slice Aa1 a1.length ca1), (2, .int .i64 a2), (3, .pointer (some ⟨b1, 0, none⟩)), (10, .pointer (some ⟨b19, 0, none⟩)), (11, .pointer (some ⟨b22, 0, none⟩)), (12, .int .i64 y28), (13, .int .i8 y25), (14, .int .i8 y29), (68, .bool (decide (0 < t34)))]) ⟨Z, Z, Z, Z, Z, Z, Z, Z, Z, trivial⟩ ⟨(decide (0 < t34)), H, Z, hS.pick [0, 1, 2] [0, 1, 2] Z⟩
                · replace H := pif_f (of_decide_eq_false hb) H
                  refine OJ.pures oU 7 Z ?_
                  refine OJ.nil ?_
                  exact EJ.meet (F' := [(1, .slice Aa1 a1.length ca1), (2, .int .i64 a2), (3, .pointer (some ⟨b1, 0, none⟩)), (10, .pointer (some ⟨b19, 0, none⟩)), (11, .pointer (some ⟨b22, 0, none⟩)), (12, .int .i64 y28), (13, .int .i8 y25), (14, .int .i8 y29), (68, .bool false)]) ⟨Z, Z, Z, Z, Z, Z, Z, Z, Z, trivial⟩ ⟨false, H, Z, hS.pick [0, 1, 2] [0, 1, 2] Z⟩
              · rintro F w1 ⟨y30, he, rfl, hS⟩
                obtain rfl := Option.some.inj he
                have H := K351
                refine CJ.cond Z (fun hb => ?_) (fun hb => ?_)
                · replace H := pif_t hb H
                  refine CJ.region ?_
                  refine OJ.pures oU 3 Z ?_
                  obtain ⟨t35, ht35, H⟩ := pbind H
                  obtain ⟨ad35, e35⟩ := (hS.rd' (i := 0) rfl).some' ht35
                  refine OJ.st Z Z Z (SR.idxS oU oI Z Z Z Z e35 Z (getI_some ht35).1) ?_
                  refine OJ.st Z Z Z (SR.fieldAddr oU oI Z Z Z Z Z Z) ?_
                  refine OJ.st Z Z Z (SR.load Z Z (fun w' hx => ldN oU oI Z Z Z (CA.ext (CA.sub ((hS.rd' (i := 0) Z).at_ e35 ht35) 0) hx) (cSpot.len _) Z)) ?_
                  refine OJ.pures oU 2 Z ?_
                  refine OJ.st Z Z Z (SR.build (C := cSpot) oU oI Z Z Z (zs := [.int .i8 0, .int .i8 0]) Z Z Z (⟨y29, y25⟩ : Spot) Z) ?_
                  obtain ⟨t36, ht36, H⟩ := pbind H
                  refine OJ.callF Z Z Z Z Z hb77 Z (spec_SquareOf.c _ t35.At (⟨y29, y25⟩ : Spot) _ ht36) ?_
                  rintro _ w1 ⟨rfl, hs⟩
                  replace hS := hS.grow hs
                  refine OJ.pures oU 1 Z ?_
                  obtain ⟨t37, ht37, H⟩ := pbind H
                  refine OJ.callF Z Z Z Z Z hb76 Z (spec_l00Min.c _ y28 (IntKind.i64.wrap (t36 - 1)) _ ht37) ?_
                  rintro _ w1 ⟨rfl, hs⟩
                  replace hS := hS.grow hs
                  refine OJ.pures oU 1 Z ?_
                  refine OJ.nil (EJ.blk (EJ.next ?_))
                  refine CJ.region ?_
                  refine OJ.pures oU 3 Z ?_
                  refine OJ.nil ?_
                  exact EJ.round k (F' := [(1, .slice Aa1 a1.length ca1), (2, .int .i64 a2), (3, .pointer (some ⟨b1, 0, none⟩)), (10, .pointer (some ⟨b19, 0, none⟩)), (11, .pointer (some ⟨b22, 0, none⟩)), (12, .int .i64 t37), (13, .int .i8 y25), (14, .int .i8 (IntKind.i8.wrap (y29 + 1)))]) ⟨Z, Z, Z, Z, Z, Z, Z, Z, trivial⟩ (Nat.lt_succ_self _) ⟨t37, (IntKind.i8.wrap (y29 + 1)), Z, hS.pick [0, 1, 2] [0, 1, 2] Z, H⟩
                · replace H := pifb_f hb H
                  refine CJ.skip (EJ.blk (EJ.next ?_))
                  refine CJ.region ?_
                  refine OJ.pures oU 3 Z ?_
                  refine OJ.nil ?_
                  exact EJ.round k (F' := [(1, .slice Aa1 a1.length ca1), (2, .int .i64 a2), (3, .pointer (some ⟨b1, 0, none⟩)), (10, .pointer (some ⟨b19, 0, none⟩)), (11, .pointer (some ⟨b22, 0, none⟩)), (12, .int .i64 y28), (13, .int .i8 y25), (14, .int .i8 (IntKind.i8.wrap (y29 + 1)))]) ⟨Z, Z, Z, Z, Z, Z, Z, Z, trivial⟩ (Nat.lt_succ_self _) ⟨y28, (IntKind.i8.wrap (y29 + 1)), Z, hS.pick [0, 1, 2] [0, 1, 2] Z, H⟩
            · replace H := pif_f (of_decide_eq_false hb) H
              refine CJ.exit (EJ.skE (EJ.skE (EJ.hit (?_))))
              exact EJ.meet (F' := [(1, .slice Aa1 a1.length ca1), (2, .int .i64 a2), (3, .pointer (some ⟨b1, 0, none⟩)), (10, .pointer (some ⟨b19, 0, none⟩)), (11, .pointer (some ⟨b22, 0, none⟩)), (12, .int .i64 y28), (13, .int .i8 y25)]) ⟨Z, Z, Z, Z, Z, Z, Z, trivial⟩ ⟨y28, H, Z, hS.pick [0, 1, 2] [0, 1, 2] Z⟩
        · rintro F w1 ⟨y27, he, rfl, hS⟩
          obtain rfl := Option.some.inj he
          have H := K348
          refine EJ.blk (?_)
          exact EJ.meet (F' := [(1, .slice Aa1 a1.length ca1), (2, .int .i64 a2), (3, .pointer (some ⟨b1, 0, none⟩)), (10, .pointer (some ⟨b19, 0, none⟩)), (11, .pointer (some ⟨b22, 0, none⟩)), (12, .int .i64 y27), (13, .int .i8 y25)]) ⟨Z, Z, Z, Z, Z, Z, Z, trivial⟩ ⟨y27, H, Z, hS.pick [0, 1, 2] [0, 1, 2] Z⟩
      · rintro F w1 ⟨y26, he, rfl, hS⟩
        obtain rfl := Option.some.inj he
        have H := K343
        refine CJ.region ?_
        refine OJ.pures oU 3 Z ?_
        refine OJ.nil ?_
        exact EJ.round k (F' := [(1, .slice Aa1 a1.length ca1), (2, .int .i64 a2), (3, .pointer (some ⟨b1, 0, none⟩)), (10, .pointer (some ⟨b19, 0, none⟩)), (11, .pointer (some ⟨b22, 0, none⟩)), (12, .int .i64 y26), (13, .int .i8 (IntKind.i8.wrap (y25 + 1)))]) ⟨Z, Z, Z, Z, Z, Z, Z, trivial⟩ (Nat.lt_succ_self _) ⟨y26, (IntKind.i8.wrap (y25 + 1)), Z, hS.pick [0, 1, 2] [0, 1, 2] Z, H⟩
    · replace H := pif_f (of_decide_eq_false hb) H
      refine CJ.exit (EJ.skE (EJ.skE (EJ.hit (?_))))
      exact EJ.meet (F' := [(12, .int .i64 y24)]) ⟨Z, trivial⟩ ⟨y24, H, Z, hS.pick [] [0, 1, 2] Z⟩
 rintro F w1 ⟨y23, he, rfl, hS⟩
 obtain rfl := Option.some.inj he
 have H := K324
 refine EJ.next ?_
 refine CJ.seq ?_
 refine CJ.seq (CJ.region ?_)
 refine OJ.pures oU 2 Z (OJ.nil (EJ.next ?_))
 refine CJ.cond Z (fun hb => ?_) (fun hb => ?_)
 ·replace H := pif_t (of_decide_eq_true hb) H
  refine CJ.seq (CJ.region ?_)
  refine OJ.pures oU 2 Z (OJ.nil (EJ.next ?_))
  refine CJ.ret (EJ.skR (?_))
  obtain rfl := Option.some.inj H
  exact EJ.fin Z (.tmp Z (.tmp Z .nil)) ⟨Z, hS.ext⟩
 replace H := pif_f (of_decide_eq_false hb) H
 refine CJ.skip (EJ.next ?_)
 refine CJ.seq (CJ.region ?_)
 refine OJ.pures oU 3 Z (OJ.nil (EJ.next ?_))
 refine CJ.ret (?_)
 obtain rfl := Option.some.inj H
 exact EJ.fin Z (.tmp Z (.tmp Z .nil)) ⟨Z, hS.ext⟩

def slices_ContainsFunc_impl_Spot_impl_Spot.f (k : Nat) (a0 : List Spot) (a1 : Spot → Option Bool) : Option Bool := (slices_IndexFunc_impl_Spot_impl_Spot.f k a0 a1).bind fun t1 => some (decide (0 ≤ t1))
theorem slices_ContainsFunc_impl_Spot_impl_Spot.c (k : Nat) (w : World) (Aa0 : Option Addr) (ca0 : Nat) (a0 : List Spot) (hr0 : Rd cSpot w Aa0 a0) (hc0 : a0.length ≤ ca0) (na1 : Nat) (fsa1 capa1 : Array Value) (hb1 : hasBody Tryz.prog na1) (a1 : Spot → Option Bool) (hf1 : ∀ (z0 : Spot) (r : Bool), a1 z0 = some r → ∀ w', Chg no w w' → CV Tryz.prog na1 (fsa1 ++ [.agg (cSpot.enc z0).toArray].toArray ++ capa1) w' fun v w'' => v = .bool r ∧ Ext w' w'') (r : Bool) (H : slices_ContainsFunc_impl_Spot_impl_Spot.f k a0 a1 = some r) :
 CV Tryz.prog 108 [.slice Aa0 a0.length ca0, .func (.func na1) fsa1 capa1].toArray w fun v w' => v = .bool r ∧ Ext w w' := by
 have hS := ((St.init w no).param cSpot Aa0 ca0 a0 hr0 hc0)
 unfold slices_ContainsFunc_impl_Spot_impl_Spot.f at H
 refine CV.body Tryz.func108 Z Tryz.ntmps108 Z ?_
 refine CJ.seq (CJ.region ?_)
 refine OJ.pures oU 1 Z (OJ.nil (EJ.next ?_))
 refine CJ.seq (CJ.region ?_)
 refine OJ.pures oU 2 Z ?_
 obtain ⟨t1, ht1, H⟩ := pbind H
 refine OJ.callF Z Z Z Z Z hb121 Z (slices_IndexFunc_impl_Spot_impl_Spot.c k _ Aa0 ca0 a0 (hS.rd' (i := 0) Z) (hS.le' (i := 0) Z) na1 fsa1 capa1 hb1 a1 (fun z0 r h w' hx => hf1 z0 r h w' (hS.chg.then hx (fun _ _ e => e.elim))) _ ht1) ?_
 rintro _ w1 ⟨rfl, hs⟩
 replace hS := hS.grow hs
 refine OJ.pures oU 2 Z (OJ.nil (EJ.next ?_))
 refine CJ.ret (?_)
 obtain rfl := Option.some.inj H
 exact EJ.fin Z (.tmp Z .nil) ⟨Z, hS.ext⟩

def impl_cellCode_1.f (a1 : Pasture) (a0 : Spot) : Option Bool := (impl_Pasture_isCell.f a1 a0).bind fun t2 => some (!t2)
theorem impl_cellCode_1.c (w : World) (pa1 : Addr) (a1 : Pasture) (hp1 : CA w pa1 (cPasture.enc a1)) (a0 : Spot) (r : Bool) (H : impl_cellCode_1.f a1 a0 = some r) :
 CV Tryz.prog 109 [.agg (cSpot.enc a0).toArray, .pointer (some pa1)].toArray w fun v w' => v = .bool r ∧ Ext w w' := by
 have hS := ((St.init w no).paramP pa1 (cPasture.enc a1) hp1)
 unfold impl_cellCode_1.f at H
 refine CV.body Tryz.func109 Z Tryz.ntmps109 Z ?_
 refine CJ.seq (CJ.region ?_)
 refine OJ.ef Z Z Z (Ef.box hS Z Z (cSpot.enc a0) Z) ?_
 rintro _ w1 ⟨b1, rfl, hS⟩
 refine OJ.pures oU 1 Z (OJ.nil (EJ.next ?_))
 refine CJ.seq (CJ.region ?_)
 refine OJ.st Z Z Z (SR.load Z Z (fun w' hx => ldE oU oI Z Z Z (CA.ext (hS.ca (i := 0) Z) hx) Z)) ?_
 refine OJ.st Z Z Z (SR.load Z Z (fun w' hx => ldE oU oI Z Z Z (CA.ext (hS.cells (i := 0) Z) hx) Z)) ?_
 obtain ⟨t2, ht2, H⟩ := pbind H
 refine OJ.callF Z Z Z Z Z hb55 Z (impl_Pasture_isCell.c _ a1 a0 _ ht2) ?_
 rintro _ w1 ⟨rfl, hs⟩
 replace hS := hS.grow hs
 refine OJ.pures oU 2 Z (OJ.nil (EJ.next ?_))
 refine CJ.ret (?_)
 obtain rfl := Option.some.inj H
 exact EJ.fin Z (.tmp Z .nil) ⟨Z, hS.ext⟩

def impl_cellCode.f (k : Nat) (a0 : Pasture) (a1 : List Spot) : Option Int := (impl_ValidPasture.f k a0).bind fun t2 => if (!t2) = true then (some 1) else ((slices_ContainsFunc_impl_Spot_impl_Spot.f k a1 (impl_cellCode_1.f a0)).bind fun t3 => (impl_unless.f (!t3) 2).bind fun t4 => some t4)
theorem impl_cellCode.c (k : Nat) (w : World) (a0 : Pasture) (Aa1 : Option Addr) (ca1 : Nat) (a1 : List Spot) (hr1 : Rd cSpot w Aa1 a1) (hc1 : a1.length ≤ ca1) (r : Int) (H : impl_cellCode.f k a0 a1 = some r) :
 CV Tryz.prog 78 [.agg (cPasture.enc a0).toArray, .slice Aa1 a1.length ca1].toArray w fun v w' => v = .int .i64 r ∧ Ext w w' := by
 have hS := ((St.init w no).param cSpot Aa1 ca1 a1 hr1 hc1)
 unfold impl_cellCode.f at H
 refine CV.body Tryz.func78 Z Tryz.ntmps78 Z ?_
 refine CJ.seq (CJ.region ?_)
 refine OJ.ef Z Z Z (Ef.box hS Z Z (cPasture.enc a0) Z) ?_
 rintro _ w1 ⟨b1, rfl, hS⟩
 refine OJ.pures oU 1 Z (OJ.nil (EJ.next ?_))
 refine CJ.seq ?_
 refine CJ.seq (CJ.region ?_)
 refine OJ.st Z Z Z (SR.load Z Z (fun w' hx => ldE oU oI Z Z Z (CA.ext (hS.cells (i := 0) Z) hx) Z)) ?_
 obtain ⟨t2, ht2, H⟩ := pbind H
 refine OJ.callF Z Z Z Z Z hb56 Z (impl_ValidPasture.c k _ a0 _ ht2) ?_
 rintro _ w1 ⟨rfl, hs⟩
 replace hS := hS.grow hs
 refine OJ.pures oU 1 Z (OJ.nil (EJ.next ?_))
 refine CJ.cond Z (fun hb => ?_) (fun hb => ?_)
 ·replace H := pif_t hb H
  refine CJ.seq (CJ.region ?_)
  refine OJ.pures oU 1 Z (OJ.nil (EJ.next ?_))
  refine CJ.ret (EJ.skR (?_))
  obtain rfl := Option.some.inj H
  exact EJ.fin Z (.tmp Z .nil) ⟨Z, hS.ext⟩
 replace H := pifb_f hb H
 refine CJ.skip (EJ.next ?_)
 refine CJ.seq (CJ.region ?_)
 refine OJ.pures oU 2 Z ?_
 obtain ⟨t3, ht3, H⟩ := pbind H
 refine OJ.callF rfl rfl rfl rfl rfl hb108 rfl (slices_ContainsFunc_impl_Spot_impl_Spot.c k _ Aa1 ca1 a1 (hS.rd' (i := 0) rfl) (hS.le' (i := 0) rfl) 109 #[] #[.pointer (some ⟨b1, 0, none⟩)] hb109 (impl_cellCode_1.f a0) (fun z0 r h w' hx => CV.cast (impl_cellCode_1.c w' ⟨b1, 0, none⟩ a0 (CA.ext (hS.cells (i := 0) rfl) hx)  z0 r h) (by simp)) _ ht3) ?_
 rintro _ w1 ⟨rfl, hs⟩
 replace hS := hS.grow hs
 refine OJ.pures oU 1 Z ?_
 obtain ⟨t4, ht4, H⟩ := pbind H
 refine OJ.callF Z Z Z Z Z hb71 Z (impl_unless.c _ (!t3) 2 _ ht4) ?_
 rintro _ w1 ⟨rfl, hs⟩
 replace hS := hS.grow hs
 refine OJ.pures oU 1 Z (OJ.nil (EJ.next ?_))
 refine CJ.ret (?_)
 obtain rfl := Option.some.inj H
 exact EJ.fin Z (.tmp Z .nil) ⟨Z, hS.ext⟩

def impl_LeastReach.l1 (a0 : Pasture) (a1 : Spot) (a2 : Int) : Nat → Int → Option ((Int × Int) ⊕ Unit)
  | 0, _ => none
  | k + 1, y8 => if y8 < 201 then ((impl_Pasture_reach.f k a0 (⟨a1, IntKind.i16.wrap y8⟩ : Stake)).bind fun t9 => (impl_Pasture_sumOf.f k a0 t9).bind fun t12 => if a2 ≤ t12 then (some (Sum.inl (y8, 0))) else (impl_LeastReach.l1 a0 a1 a2 k (IntKind.i64.wrap (y8 + 1)))) else (some (Sum.inr ()))
def impl_LeastReach.f (k : Nat) (a0 : Pasture) (a1 : Spot) (a2 : Int) : Option (Int × Int) := (impl_cellCode.f k a0 ([a1] : List Spot)).bind fun t4 => (impl_unless.f (decide (0 ≤ a2)) 2).bind fun t5 => (impl_firstOf.f k ([t4, t5] : List Int)).bind fun t7 => if t7 ≠ 0 then (some (0, t7)) else ((impl_LeastReach.l1 a0 a1 a2 k 0).bind fun s362 => match s362 with | .inl r => some r | .inr _ => some (0, 6))
theorem impl_LeastReach.c (k : Nat) (w : World) (a0 : Pasture) (a1 : Spot) (a2 : Int) (r : Int × Int) (H : impl_LeastReach.f k a0 a1 a2 = some r) :
 CV Tryz.prog 30 [.agg (cPasture.enc a0).toArray, .agg (cSpot.enc a1).toArray, .int .i64 a2].toArray w fun v w' => v = .tuple #[.int .i64 r.1, .int .i64 r.2] ∧ Ext w w' := by
 have hS := (St.init w no)
 unfold impl_LeastReach.f at H
 refine CV.body Tryz.func30 Z Tryz.ntmps30 Z ?_
 refine CJ.seq (CJ.region ?_)
 refine OJ.ef Z Z Z (Ef.box hS Z Z (cPasture.enc a0) Z) ?_
 rintro _ w1 ⟨b1, rfl, hS⟩
 refine OJ.ef Z Z Z (Ef.box hS Z Z (cSpot.enc a1) Z) ?_
 rintro _ w1 ⟨b2, rfl, hS⟩
 refine OJ.pures oU 2 Z (OJ.nil (EJ.next ?_))
 refine CJ.seq ?_
 refine CJ.seq (CJ.region ?_)
 refine OJ.st Z Z Z (SR.load Z Z (fun w' hx => ldE oU oI Z Z Z (CA.ext (hS.cells (i := 0) Z) hx) Z)) ?_
 refine OJ.st Z Z Z (SR.load Z Z (fun w' hx => ldE oU oI Z Z Z (CA.ext (hS.cells (i := 1) Z) hx) Z)) ?_
 refine OJ.ef Z Z Z (Ef.lit oU oI hS (C := cSpot) Z Z Z Z Z Z ([a1] : List Spot) Z Z Z Z) ?_
 rintro _ w1 ⟨A3, rfl, hS⟩
 obtain ⟨t4, ht4, H⟩ := pbind H
 refine OJ.callF Z Z Z Z Z hb78 Z (impl_cellCode.c k _ a0 A3 (([a1] : List Spot).length) ([a1] : List Spot) (hS.rd (i := 2) Z) (hS.le (i := 2) Z) _ ht4) ?_
 rintro _ w1 ⟨rfl, hs⟩
 replace hS := hS.grow hs
 refine OJ.pures oU 2 Z ?_
 obtain ⟨t5, ht5, H⟩ := pbind H
 refine OJ.callF Z Z Z Z Z hb71 Z (impl_unless.c _ (decide (0 ≤ a2)) 2 _ ht5) ?_
 rintro _ w1 ⟨rfl, hs⟩
 replace hS := hS.grow hs
 refine OJ.ef Z Z Z (Ef.lit oU oI hS (C := (ci .i64)) Z Z Z Z Z Z ([t4, t5] : List Int) Z Z Z Z) ?_
 rintro _ w1 ⟨A6, rfl, hS⟩
 obtain ⟨t7, ht7, H⟩ := pbind H
 refine OJ.callF Z Z Z Z Z hb66 Z (impl_firstOf.c k _ A6 (([t4, t5] : List Int).length) ([t4, t5] : List Int) (hS.rd (i := 3) Z) (hS.le (i := 3) Z) _ ht7) ?_
 rintro _ w1 ⟨rfl, hs⟩
 replace hS := hS.grow hs
 refine OJ.pures oU 1 Z (OJ.nil (EJ.next ?_))
 refine CJ.seq (CJ.region ?_)
 refine OJ.pures oU 2 Z (OJ.nil (EJ.next ?_))
 refine CJ.cond Z (fun hb => ?_) (fun hb => ?_)
 ·replace H := pif_t (of_decide_eq_true hb) H
  refine CJ.seq (CJ.region ?_)
  refine OJ.pures oU 3 Z (OJ.nil (EJ.next ?_))
  refine CJ.ret (EJ.skR (?_))
  obtain rfl := Option.some.inj H
  exact EJ.fin Z (.tmp Z (.tmp Z .nil)) ⟨Z, hS.ext⟩
 replace H := pif_f (of_decide_eq_false hb) H
 refine CJ.skip (EJ.next ?_)
 refine CJ.seq ?_
 refine CJ.seq (CJ.region ?_)
 refine OJ.pures oU 1 Z (OJ.nil (EJ.next ?_))
 obtain ⟨j362, H, K362⟩ := pbind H
 refine CJ.cut1 (fun F w1 => (some (Sum.inr ()) : Option ((Int × Int) ⊕ Unit)) = some j362 ∧ F = [] ∧ St w no w1 [] []) ?_ ?_
 ·skip
  refine CJ.block ?_
  refine CJ.loop (fun k F w1 => ∃ (y8 : Int), F = [(2, .int .i64 a2), (3, .pointer (some ⟨b1, 0, none⟩)), (4, .pointer (some ⟨b2, 0, none⟩)), (22, .int .i64 y8)] ∧ St w no w1 [box b1 (cPasture.enc a0) 31, box b2 (cSpot.enc a1) 49] [] ∧ impl_LeastReach.l1 a0 a1 a2 k y8 = some j362) k (F' := [(2, .int .i64 a2), (3, .pointer (some ⟨b1, 0, none⟩)), (4, .pointer (some ⟨b2, 0, none⟩)), (22, .int .i64 0)]) ⟨Z, Z, Z, Z, trivial⟩ ⟨0, Z, hS.pick [0, 1] [] Z, H⟩ ?_
  rintro k F w1 ⟨y8, rfl, hS, H⟩
  cases k with
  | zero => rw [impl_LeastReach.l1] at H; cases H
  | succ k =>
    rw [impl_LeastReach.l1] at H
    refine CJ.seq (CJ.region ?_)
    refine OJ.pures oU 1 Z (OJ.nil (EJ.next ?_))
    refine CJ.seq ?_
    refine CJ.cond Z (fun hb => ?_) (fun hb => ?_)
    · replace H := pif_t (of_decide_eq_true hb) H
      refine CJ.skip (EJ.next ?_)
      refine CJ.seq ?_
      refine CJ.block ?_
      refine CJ.seq (CJ.region ?_)
      refine OJ.pures oU 2 Z (OJ.nil (EJ.next ?_))
      refine CJ.seq ?_
      refine CJ.draw [] [0, 1, 2, 3, 4, 8, 5, 6, 7, 9] mixed (by kernel_rfl) hS fun w1 hS => ?_
      refine DJ.st Z Z Z Z Z (SR.load Z Z (fun w' hx => ldE oU oI Z Z Z (CA.ext (hS.cells (i := 0) Z) hx) Z)) ?_
      refine DJ.st Z Z Z Z Z (SR.load Z Z (fun w' hx => ldE oU oI Z Z Z (CA.ext (hS.cells (i := 0) Z) hx) Z)) ?_
      refine DJ.st Z Z Z Z Z (SR.load Z Z (fun w' hx => ldE oU oI Z Z Z (CA.ext (hS.cells (i := 1) Z) hx) Z)) ?_
      refine DJ.pures oU 3 Z ?_
      refine DJ.ef Z Z Z Z Z ((SR.build (C := cStake) oU oI Z Z Z (zs := [.int .i8 0, .int .i8 0, .int .i16 0]) Z Z Z (⟨a1, IntKind.i16.wrap y8⟩ : Stake) Z).ef) ?_
      rintro _ w1 ⟨rfl, hx⟩
      replace hS := hS.grow hx
      obtain ⟨t9, ht9, H⟩ := pbind H
      refine DJ.callF rfl rfl rfl rfl rfl rfl rfl hb57 rfl (impl_Pasture_reach.c k _ a0 (⟨a1, IntKind.i16.wrap y8⟩ : Stake) _ ht9) (by rintro v w' ⟨A10, c11, rfl, hs⟩; exact hs.ext) ?_
      rintro _ w1 ⟨A10, c11, rfl, hs⟩
      replace hS := hS.addN hs
      obtain ⟨t12, ht12, H⟩ := pbind H
      refine DJ.callF rfl rfl rfl rfl rfl rfl rfl hb61 rfl (impl_Pasture_sumOf.c k _ a0 A10 c11 t9 (hS.rd (i := 2) rfl) (hS.le (i := 2) rfl) _ ht12) (by rintro v w' ⟨rfl, hs⟩; exact hs) ?_
      rintro _ w1 ⟨rfl, hs⟩
      replace hS := hS.grow hs
      refine DJ.pures oU 1 Z ?_
      refine DJ.nil (EJ.next ?_)
      refine CJ.cond Z (fun hb => ?_) (fun hb => ?_)
      · replace H := pif_t (of_decide_eq_true hb) H
        refine CJ.seq (CJ.region ?_)
        refine OJ.pures oU 3 Z (OJ.nil (EJ.next ?_))
        refine CJ.ret (EJ.bkR (EJ.skR (EJ.skR (EJ.bkR (EJ.skR (EJ.skR (?_)))))))
        first | (obtain rfl := Option.some.inj H; have H := K362) | (obtain ⟨q362, H2, e362⟩ := pbind H; obtain rfl := Option.some.inj e362; obtain rfl := Option.some.inj K362; have H := H2)
        obtain rfl := Option.some.inj H
        exact EJ.fin Z (.tmp Z (.tmp Z .nil)) ⟨Z, hS.ext⟩
      · replace H := pif_f (of_decide_eq_false hb) H
        refine CJ.skip (EJ.blk (EJ.next ?_))
        refine CJ.region ?_
        refine OJ.pures oU 2 Z ?_
        refine OJ.nil ?_
        exact EJ.round k (F' := [(2, .int .i64 a2), (3, .pointer (some ⟨b1, 0, none⟩)), (4, .pointer (some ⟨b2, 0, none⟩)), (22, .int .i64 (IntKind.i64.wrap (y8 + 1)))]) ⟨Z, Z, Z, Z, trivial⟩ (Nat.lt_succ_self _) ⟨(IntKind.i64.wrap (y8 + 1)), Z, hS.pick [0, 1] [] Z, H⟩
    · replace H := pif_f (of_decide_eq_false hb) H
      refine CJ.exit (EJ.skE (EJ.skE (EJ.hit (?_))))
      exact EJ.meet (F' := []) trivial ⟨H, Z, hS.pick [] [] Z⟩
 rintro F w1 ⟨he, rfl, hS⟩
 obtain rfl := Option.some.inj he
 have H := K362
 refine EJ.next ?_
 refine CJ.seq (CJ.region ?_)
 refine OJ.pures oU 2 Z (OJ.nil (EJ.next ?_))
 refine CJ.ret (?_)
 obtain rfl := Option.some.inj H
 exact EJ.fin Z (.tmp Z (.tmp Z .nil)) ⟨Z, hS.ext⟩
end Go.Proofs.YtklgpejnogkccaaGreatDoor
