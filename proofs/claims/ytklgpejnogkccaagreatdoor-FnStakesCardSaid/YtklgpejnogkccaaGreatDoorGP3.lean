/-
  What the functions come to.
-/
import Derived.Test.YtklgpejnogkccaaGreatDoorGP2
namespace Go.Proofs.YtklgpejnogkccaaGreatDoor
open G
set_option linter.unusedVariables false
set_option linter.unusedSimpArgs false
set_option maxRecDepth 100000
set_option maxHeartbeats 4000000
def laws_FnStakes.l2 (t4 : Pasture) (t6 : List Stake) (t19 : List Spot × Int) (y36 : Int) (t43 : List Spot × Int) : Nat → Int → Option (((Bool ⊕ Int) ⊕ Int) ⊕ Unit)
  | 0, _ => none
  | k + 1, y61 => if y61 < (t43.1.length : Int) then ((getI t6 y36).bind fun t62 => (getI t43.1 y61).bind fun t63 => (spec_SameYard.f k t4 t62.At t63).bind fun t64 => if t64.2 ≠ 0 then (some (Sum.inl (Sum.inl (Sum.inl false)))) else (if (!t64.1) = true then (some (Sum.inl (Sum.inl (Sum.inl false)))) else ((getI t6 y36).bind fun t65 => (getI t43.1 y61).bind fun t66 => (getI t6 y36).bind fun t67 => (impl_SquareOf.f t65.At t66).bind fun t68 => if (IntKind.i64.wrap t67.Reach) < t68 then (some (Sum.inl (Sum.inl (Sum.inl false)))) else ((getI t43.1 y61).bind fun t69 => (spec_HasSpot.f k t19.1 t69).bind fun t70 => if t70 = true then (some (Sum.inl (Sum.inl (Sum.inl false)))) else (laws_FnStakes.l2 t4 t6 t19 y36 t43 k (IntKind.i64.wrap (y61 + 1))))))) else (some (Sum.inr ()))
def laws_FnStakes.l3 (t4 : Pasture) (t6 : List Stake) (t13 : List (Arr 2 Int) × Int) (y36 : Int) : Nat → Int → Option (((Bool ⊕ Int) ⊕ Int) ⊕ Unit)
  | 0, _ => none
  | k + 1, y71 => if y71 < (t6.length : Int) then ((getI t6 y36).bind fun t72 => (getI t6 y71).bind fun t73 => (impl_CommonOf.f k t4 t72 t73).bind fun t74 => (getI t6 y36).bind fun t77 => (getI t6 y71).bind fun t78 => (spec_CommonOf.f k t4 t77 t78).bind fun t79 => if t74.2 ≠ t79.2 then (some (Sum.inl (Sum.inl (Sum.inl false)))) else (if t74.2 ≠ 0 then (some (Sum.inl (Sum.inl (Sum.inl false)))) else ((spec_SameSpots.f k t74.1 t79.1).bind fun t82 => if (!t82) = true then (some (Sum.inl (Sum.inl (Sum.inl false)))) else ((spec_HasPair.f k t13.1 (⟨[y36, y71], rfl⟩ : Arr 2 Int)).bind fun t83 => if t83 ≠ (decide (0 < (t79.1.length : Int))) then (some (Sum.inl (Sum.inl (Sum.inl false)))) else (laws_FnStakes.l3 t4 t6 t13 y36 k (IntKind.i64.wrap (y71 + 1))))))) else (some (Sum.inr ()))
def laws_FnStakes.l4 (t4 : Pasture) (t6 : List Stake) (y36 : Int) (t84 : Int × Int) (t85 : Int × Int) : Nat → Int → Option (((Bool ⊕ Int) ⊕ Int) ⊕ Unit)
  | 0, _ => none
  | k + 1, y87 => if y87 < (t6.length : Int) then ((if y87 = y36 then (some true) else (some (decide (t84.2 ≠ 0)))).bind fun y88 => if y88 = true then (laws_FnStakes.l4 t4 t6 y36 t84 t85 k (IntKind.i64.wrap (y87 + 1))) else ((getI t6 y36).bind fun t89 => (getI t6 y87).bind fun t90 => (impl_CommonOf.f k t4 (⟨t89.At, IntKind.i16.wrap t85.1⟩ : Stake) t90).bind fun t91 => if t91.2 ≠ 0 then (some (Sum.inl (Sum.inl (Sum.inl false)))) else (if 0 < (t91.1.length : Int) then (some (Sum.inl (Sum.inl (Sum.inl false)))) else (laws_FnStakes.l4 t4 t6 y36 t84 t85 k (IntKind.i64.wrap (y87 + 1)))))) else (some (Sum.inr ()))
def laws_FnStakes.l5 (t4 : Pasture) (t6 : List Stake) (y36 : Int) (t85 : Int × Int) : Nat → Bool → Int → Option Bool
  | 0, _, _ => none
  | k + 1, y96, y97 => if y97 < (t6.length : Int) then ((getI t6 y36).bind fun t98 => (getI t6 y97).bind fun t99 => (spec_CommonOf.f k t4 (⟨t98.At, IntKind.i16.wrap ((IntKind.i16.wrap t85.1) + 1)⟩ : Stake) t99).bind fun t100 => if y96 = true then (laws_FnStakes.l5 t4 t6 y36 t85 k true (IntKind.i64.wrap (y97 + 1))) else (if y97 ≠ y36 then (if t100.2 = 0 then (laws_FnStakes.l5 t4 t6 y36 t85 k (decide (0 < (t100.1.length : Int))) (IntKind.i64.wrap (y97 + 1))) else (laws_FnStakes.l5 t4 t6 y36 t85 k false (IntKind.i64.wrap (y97 + 1)))) else (laws_FnStakes.l5 t4 t6 y36 t85 k false (IntKind.i64.wrap (y97 + 1))))) else (some y96)
def laws_FnStakes.l1 (t4 : Pasture) (t6 : List Stake) (t13 : List (Arr 2 Int) × Int) (t19 : List Spot × Int) : Nat → Int → Int → Option (Bool ⊕ Int)
  | 0, _, _ => none
  | k + 1, y35, y36 => if y36 < (t6.length : Int) then (((getI t6 y36).bind fun t38 => (impl_ReachOf.f k t4 t38).bind fun t39 => (getI t6 y36).bind fun t42 => (spec_ReachOf.f k t4 t42).bind fun t43 => (getI t6 y36).bind fun t46 => (impl_FoodOf.f k t4 t46).bind fun t47 => (spec_GrassOf.f k t4 t43.1).bind fun t48 => (getI t6 y36).bind fun t49 => (getI t6 y36).bind fun t50 => (impl_ReachOf.f k t4 (⟨t49.At, IntKind.i16.wrap (t50.Reach + 1)⟩ : Stake)).bind fun t54 => (if t39.2 ≠ t43.2 then (some true) else (if t39.2 ≠ 0 then (some true) else ((spec_SameSpots.f k t39.1 t43.1).bind fun t58 => if (!t58) = true then (some true) else (if t47.2 ≠ 0 then (some true) else (if t48.2 ≠ 0 then (some true) else (if t47.1 ≠ t48.1 then (some true) else (if t54.2 ≠ 0 then (some true) else (if (t54.1.length : Int) < (t43.1.length : Int) then (some true) else ((getI t6 y36).bind fun t59 => (spec_HasSpot.f k t43.1 t59.At).bind fun t60 => some (!t60)))))))))).bind fun y57 => if y57 = true then (some (Sum.inl (Sum.inl false))) else ((laws_FnStakes.l2 t4 t6 t19 y36 t43 k 0).bind fun s418 => match s418 with | .inl r => some r | .inr _ => (laws_FnStakes.l3 t4 t6 t13 y36 k (IntKind.i64.wrap (y36 + 1))).bind fun s419 => match s419 with | .inl r => some r | .inr _ => (impl_GreatestReach.f k t4 t6 y36).bind fun t84 => (spec_GreatestReach.f k t4 t6 y36).bind fun t85 => (if t84.2 ≠ t85.2 then (some true) else (if t84.1 ≠ t85.1 then (some true) else (if t84.2 ≠ 0 then (some (decide (t84.2 ≠ 6))) else (some false)))).bind fun y86 => if y86 = true then (some (Sum.inl (Sum.inl false))) else ((laws_FnStakes.l4 t4 t6 y36 t84 t85 k 0).bind fun s421 => match s421 with | .inl r => some r | .inr _ => ((if t84.2 = 0 then (some (decide (t85.1 < 200))) else (some false)).bind fun y94 => if y94 = true then ((laws_FnStakes.l5 t4 t6 y36 t85 k false 0).bind fun y95 => if (!y95) = true then (some (Sum.inl (Sum.inl (Sum.inl false)))) else (some (Sum.inr ()))) else (some (Sum.inr ()))).bind fun s425 => match s425 with | .inl r => some r | .inr _ => (getI t6 y36).bind fun t103 => (impl_LeastReach.f k t4 t103.At t47.1).bind fun t104 => if t104.2 ≠ 0 then (some (Sum.inl (Sum.inl false))) else ((getI t6 y36).bind fun t105 => if (IntKind.i64.wrap t105.Reach) < t104.1 then (some (Sum.inl (Sum.inl false))) else (some (Sum.inr (IntKind.i64.wrap (y35 + (t43.1.length : Int))))))))).bind fun s403 => match s403 with | .inl r => some r | .inr y37 => laws_FnStakes.l1 t4 t6 t13 t19 k y37 (IntKind.i64.wrap (y36 + 1))) else (some (Sum.inr y35))
def laws_FnStakes.f (k : Nat) (a0 : List Int) (a1 : List Int) : Option Bool := ((laws_f6big.f a0).bind fun t2 => if t2 = true then (some true) else ((laws_f6big.f a1).bind fun t3 => some t3)).bind fun y1 => if y1 = true then (some true) else ((spec_P6Pasture.f k a0).bind fun t4 => (spec_P6Stakes.f k a1 t4).bind fun t6 => (impl_StakesText.f k t6).bind fun t9 => (impl_ReadStakes.f k t9).bind fun t10 => (impl_MeetingPairs.f k t4 t6).bind fun t13 => (impl_UncoveredBy.f k t4 t6).bind fun t16 => (spec_UncoveredBy.f k t4 t6).bind fun t19 => (impl_SharedCells.f k t4 t6).bind fun t22 => (spec_SharedCells.f k t4 t6).bind fun t25 => (if t10.2 ≠ 0 then (some true) else ((spec_SameStakes.f k t10.1 t6).bind fun t29 => if (!t29) = true then (some true) else ((impl_SameStakes.f k t10.1 t6).bind fun t30 => if (!t30) = true then (some true) else ((impl_ValidStakes.f k t4 t6).bind fun t31 => if (!t31) = true then (some true) else (if t13.2 ≠ 0 then (some true) else (if t16.2 ≠ t19.2 then (some true) else (if t16.2 ≠ 0 then (some true) else ((spec_SameSpots.f k t16.1 t19.1).bind fun t32 => if (!t32) = true then (some true) else (if t22.2 ≠ t25.2 then (some true) else (if t22.2 ≠ 0 then (some true) else ((spec_SameSpots.f k t22.1 t25.1).bind fun t33 => if (!t33) = true then (some true) else (some (decide ((decide (0 < (t13.1.length : Int))) ≠ (decide (0 < (t25.1.length : Int))))))))))))))))).bind fun y28 => if y28 = true then (some false) else ((laws_FnStakes.l1 t4 t6 t13 t19 k 0 0).bind fun s291 => match s291 with | .inl r => some r | .inr y34 => if 0 < (t25.1.length : Int) then (some true) else (some (decide ((IntKind.i64.wrap (y34 + (t19.1.length : Int))) = (IntKind.i64.wrap ((IntKind.i64.wrap t4.Wide) * (IntKind.i64.wrap t4.High))))))))
theorem laws_FnStakes.c (k : Nat) (w : World) (Aa0 : Option Addr) (ca0 : Nat) (a0 : List Int) (hr0 : Rd (ci .u8) w Aa0 a0) (hc0 : a0.length ≤ ca0) (Aa1 : Option Addr) (ca1 : Nat) (a1 : List Int) (hr1 : Rd (ci .u8) w Aa1 a1) (hc1 : a1.length ≤ ca1) (hT : (envC Tryz.prog 0).holds w) (r : Bool) (H : laws_FnStakes.f k a0 a1 = some r) :
 CV Tryz.prog 3 [.slice Aa0 a0.length ca0, .slice Aa1 a1.length ca1].toArray w fun v w' => v = .bool r ∧ Ext w w' := by
 have hS := ((((St.init w no).param (ci .u8) Aa0 ca0 a0 hr0 hc0).param (ci .u8) Aa1 ca1 a1 hr1 hc1).paramT (envC Tryz.prog 0) hT)
 unfold laws_FnStakes.f at H
 refine CV.body Tryz.func3 Z Tryz.ntmps3 Z ?_
 refine CJ.seq (CJ.region ?_)
 refine OJ.pures oU 1 Z (OJ.nil (EJ.next ?_))
 refine CJ.seq ?_
 obtain ⟨j86, H, K86⟩ := pbind H
 refine CJ.cut (fun F w1 => ∃ (y1 : Bool) , (some y1 : Option Bool) = some j86 ∧ F = [(0, .slice Aa0 a0.length ca0), (1, .slice Aa1 a1.length ca1), (58, .bool y1)] ∧ St w no w1 [] [roC (ci .u8) Aa0 ca0 a0, roC (ci .u8) Aa1 ca1 a1, envC Tryz.prog 0]) ?_ ?_
 ·skip
  refine CJ.region ?_
  refine OJ.pures oU 1 Z ?_
  obtain ⟨t2, ht2, H⟩ := pbind H
  refine OJ.callF Z Z Z Z Z hb4 Z (laws_f6big.c _ Aa0 ca0 a0 (hS.rd' (i := 0) Z) (hS.le' (i := 0) Z) _ ht2) ?_
  rintro _ w1 ⟨rfl, hs⟩
  replace hS := hS.grow hs
  refine OJ.pures oU 1 Z ?_
  refine OJ.split (t := 55) Z (fun hb => ?_) (fun hb => ?_)
  ·replace H := pif_t hb H
   refine OJ.pures oU 3 Z ?_
   refine OJ.nil ?_
   exact EJ.meet (F' := [(0, .slice Aa0 a0.length ca0), (1, .slice Aa1 a1.length ca1), (58, .bool true)]) ⟨Z, Z, Z, trivial⟩ ⟨true, H, Z, hS.pick [] [0, 1, 2] Z⟩
  replace H := pifb_f hb H
  refine OJ.pures oU 1 Z ?_
  obtain ⟨t3, ht3, H⟩ := pbind H
  refine OJ.callF Z Z Z Z Z hb4 Z (laws_f6big.c _ Aa1 ca1 a1 (hS.rd' (i := 1) Z) (hS.le' (i := 1) Z) _ ht3) ?_
  rintro _ w1 ⟨rfl, hs⟩
  replace hS := hS.grow hs
  refine OJ.pures oU 1 Z ?_
  refine OJ.nil ?_
  exact EJ.meet (F' := [(0, .slice Aa0 a0.length ca0), (1, .slice Aa1 a1.length ca1), (58, .bool t3)]) ⟨Z, Z, Z, trivial⟩ ⟨t3, H, Z, hS.pick [] [0, 1, 2] Z⟩
 rintro F w1 ⟨y1, he, rfl, hS⟩
 obtain rfl := Option.some.inj he
 have H := K86
 refine CJ.cond Z (fun hb => ?_) (fun hb => ?_)
 ·replace H := pif_t hb H
  refine CJ.seq (CJ.region ?_)
  refine OJ.pures oU 1 Z (OJ.nil (EJ.next ?_))
  refine CJ.ret (EJ.skR (?_))
  obtain rfl := Option.some.inj H
  exact EJ.fin Z (.tmp Z .nil) ⟨Z, hS.ext⟩
 replace H := pifb_f hb H
 refine CJ.skip (EJ.next ?_)
 refine CJ.seq (CJ.region ?_)
 refine OJ.pures oU 1 Z ?_
 obtain ⟨t4, ht4, H⟩ := pbind H
 refine OJ.callF Z Z Z Z Z hb5 Z (spec_P6Pasture.c k _ Aa0 ca0 a0 (hS.rd' (i := 0) Z) (hS.le' (i := 0) Z) _ ht4) ?_
 rintro _ w1 ⟨rfl, hs⟩
 replace hS := hS.grow hs
 refine OJ.ef rfl rfl rfl (Ef.alloc hS oI rfl rfl (cPasture.enc (⟨0, 0, (Arr.mk' (Arr.mk' 0 : Arr 10 Int) : Arr 10 (Arr 10 Int)), (Arr.mk' 0 : Arr 10 Int), (Arr.mk' 0 : Arr 10 Int)⟩ : Pasture)) (by kernel_rfl)) ?_
 rintro _ w1 ⟨b5, rfl, hS⟩
 refine OJ.es rfl rfl (Es.put oI hS (i := 0) rfl rfl rfl rfl rfl (vs := cPasture.enc t4) rfl (cPasture.len _) (cPasture.one _) (Put.all cPasture (⟨0, 0, (Arr.mk' (Arr.mk' 0 : Arr 10 Int) : Arr 10 (Arr 10 Int)), (Arr.mk' 0 : Arr 10 Int), (Arr.mk' 0 : Arr 10 Int)⟩ : Pasture) t4) (by (try simp only [add_lit, Nat.add_assoc, Nat.zero_add, Nat.add_zero]) <;> rfl)) ?_
 intro w1 hS
 refine OJ.nil (EJ.next ?_)
 refine CJ.seq (CJ.region ?_)
 refine OJ.pures oU 1 Z ?_
 refine OJ.st Z Z Z (SR.load Z Z (fun w' hx => ldE oU oI Z Z Z (CA.ext (hS.cells (i := 0) Z) hx) Z)) ?_
 obtain ⟨t6, ht6, H⟩ := pbind H
 refine OJ.callF Z Z Z Z Z hb6 Z (spec_P6Stakes.c k _ Aa1 ca1 a1 (hS.rd' (i := 1) Z) (hS.le' (i := 1) Z) t4 _ ht6) ?_
 rintro _ w1 ⟨A7, c8, rfl, hs⟩
 replace hS := hS.addN hs
 refine OJ.pures oU 1 Z (OJ.nil (EJ.next ?_))
 refine CJ.seq (CJ.region ?_)
 refine OJ.pures oU 1 Z ?_
 obtain ⟨t9, ht9, H⟩ := pbind H
 refine OJ.callF Z Z Z Z Z hb8 Z (impl_StakesText.c k _ A7 c8 t6 (hS.rd (i := 1) Z) (hS.le (i := 1) Z) (hS.ro (i := 2) Z) _ ht9) ?_
 rintro _ w1 ⟨rfl, hs⟩
 replace hS := hS.grow hs
 obtain ⟨t10, ht10, H⟩ := pbind H
 refine OJ.callF Z Z Z Z Z hb7 Z (impl_ReadStakes.c k _ t9 (hS.ro (i := 2) Z) _ ht10) ?_
 rintro _ w1 ⟨A11, c12, rfl, hs⟩
 replace hS := hS.addN hs
 refine OJ.pures oU 5 Z (OJ.nil (EJ.next ?_))
 refine CJ.seq (CJ.region ?_)
 refine OJ.st Z Z Z (SR.load Z Z (fun w' hx => ldE oU oI Z Z Z (CA.ext (hS.cells (i := 0) Z) hx) Z)) ?_
 refine OJ.pures oU 1 Z ?_
 obtain ⟨t13, ht13, H⟩ := pbind H
 refine OJ.callF Z Z Z Z Z hb9 Z (impl_MeetingPairs.c k _ t4 A7 c8 t6 (hS.rd (i := 1) Z) (hS.le (i := 1) Z) _ ht13) ?_
 rintro _ w1 ⟨A14, c15, rfl, hs⟩
 replace hS := hS.addN hs
 refine OJ.pures oU 5 Z (OJ.nil (EJ.next ?_))
 refine CJ.seq (CJ.region ?_)
 refine OJ.st Z Z Z (SR.load Z Z (fun w' hx => ldE oU oI Z Z Z (CA.ext (hS.cells (i := 0) Z) hx) Z)) ?_
 refine OJ.pures oU 1 Z ?_
 obtain ⟨t16, ht16, H⟩ := pbind H
 refine OJ.callF Z Z Z Z Z hb10 Z (impl_UncoveredBy.c k _ t4 A7 c8 t6 (hS.rd (i := 1) Z) (hS.le (i := 1) Z) _ ht16) ?_
 rintro _ w1 ⟨A17, c18, rfl, hs⟩
 replace hS := hS.addN hs
 refine OJ.pures oU 5 Z (OJ.nil (EJ.next ?_))
 refine CJ.seq (CJ.region ?_)
 refine OJ.st Z Z Z (SR.load Z Z (fun w' hx => ldE oU oI Z Z Z (CA.ext (hS.cells (i := 0) Z) hx) Z)) ?_
 refine OJ.pures oU 1 Z ?_
 obtain ⟨t19, ht19, H⟩ := pbind H
 refine OJ.callF Z Z Z Z Z hb11 Z (spec_UncoveredBy.c k _ t4 A7 c8 t6 (hS.rd (i := 1) Z) (hS.le (i := 1) Z) _ ht19) ?_
 rintro _ w1 ⟨A20, c21, rfl, hs⟩
 replace hS := hS.addN hs
 have hS : St w no w1 [box b5 (cPasture.enc t4) 31, rowC cStake A7 c8 51 t6, rowC cStake A11 c12 51 t10.1, rowC (carr 2 (ci .i64)) A14 c15 61 t13.1, rowC cSpot A17 c18 49 t16.1, rowC cSpot A20 c21 49 t19.1] [roC (ci .u8) Aa0 ca0 a0, roC (ci .u8) Aa1 ca1 a1, envC Tryz.prog 0] := hS
 refine OJ.pures oU 5 Z (OJ.nil (EJ.next ?_))
 refine CJ.seq (CJ.region ?_)
 refine OJ.st Z Z Z (SR.load Z Z (fun w' hx => ldE oU oI Z Z Z (CA.ext (hS.cells (i := 0) Z) hx) Z)) ?_
 refine OJ.pures oU 1 Z ?_
 obtain ⟨t22, ht22, H⟩ := pbind H
 refine OJ.callF Z Z Z Z Z hb12 Z (impl_SharedCells.c k _ t4 A7 c8 t6 (hS.rd (i := 1) Z) (hS.le (i := 1) Z) _ ht22) ?_
 rintro _ w1 ⟨A23, c24, rfl, hs⟩
 replace hS := hS.addN hs
 have hS : St w no w1 [box b5 (cPasture.enc t4) 31, rowC cStake A7 c8 51 t6, rowC cStake A11 c12 51 t10.1, rowC (carr 2 (ci .i64)) A14 c15 61 t13.1, rowC cSpot A17 c18 49 t16.1, rowC cSpot A20 c21 49 t19.1, rowC cSpot A23 c24 49 t22.1] [roC (ci .u8) Aa0 ca0 a0, roC (ci .u8) Aa1 ca1 a1, envC Tryz.prog 0] := hS
 refine OJ.pures oU 5 Z (OJ.nil (EJ.next ?_))
 refine CJ.seq (CJ.region ?_)
 refine OJ.st Z Z Z (SR.load Z Z (fun w' hx => ldE oU oI Z Z Z (CA.ext (hS.cells (i := 0) Z) hx) Z)) ?_
 refine OJ.pures oU 1 Z ?_
 obtain ⟨t25, ht25, H⟩ := pbind H
 refine OJ.callF Z Z Z Z Z hb13 Z (spec_SharedCells.c k _ t4 A7 c8 t6 (hS.rd (i := 1) Z) (hS.le (i := 1) Z) _ ht25) ?_
 rintro _ w1 ⟨A26, c27, rfl, hs⟩
 replace hS := hS.addN hs
 have hS : St w no w1 [box b5 (cPasture.enc t4) 31, rowC cStake A7 c8 51 t6, rowC cStake A11 c12 51 t10.1, rowC (carr 2 (ci .i64)) A14 c15 61 t13.1, rowC cSpot A17 c18 49 t16.1, rowC cSpot A20 c21 49 t19.1, rowC cSpot A23 c24 49 t22.1, rowC cSpot A26 c27 49 t25.1] [roC (ci .u8) Aa0 ca0 a0, roC (ci .u8) Aa1 ca1 a1, envC Tryz.prog 0] := hS
 refine OJ.pures oU 5 Z (OJ.nil (EJ.next ?_))
 refine CJ.seq ?_
 obtain ⟨j287, H, K287⟩ := pbind H
 refine CJ.cut (fun F w1 => ∃ (y28 : Bool) , (some y28 : Option Bool) = some j287 ∧ F = [(5, .pointer (some ⟨b5, 0, none⟩)), (6, .slice A7 t6.length c8), (9, .slice A14 t13.1.length c15), (13, .slice A20 t19.1.length c21), (17, .slice A26 t25.1.length c27), (162, .bool y28)] ∧ St w no w1 [box b5 (cPasture.enc t4) 31, rowC cStake A7 c8 51 t6, rowC (carr 2 (ci .i64)) A14 c15 61 t13.1, rowC cSpot A20 c21 49 t19.1, rowC cSpot A26 c27 49 t25.1] [roC (ci .u8) Aa0 ca0 a0, roC (ci .u8) Aa1 ca1 a1, envC Tryz.prog 0]) ?_ ?_
 ·skip
  refine CJ.region ?_
  refine OJ.pures oU 3 Z ?_
  refine OJ.split (t := 102) Z (fun hb => ?_) (fun hb => ?_)
  ·replace H := pif_t (of_decide_eq_true hb) H
   refine OJ.pures oU 60 Z ?_
   refine OJ.nil ?_
   exact EJ.meet (F' := [(5, .pointer (some ⟨b5, 0, none⟩)), (6, .slice A7 t6.length c8), (9, .slice A14 t13.1.length c15), (13, .slice A20 t19.1.length c21), (17, .slice A26 t25.1.length c27), (162, .bool true)]) ⟨Z, Z, Z, Z, Z, Z, trivial⟩ ⟨true, H, Z, hS.pick [0, 1, 3, 5, 7] [0, 1, 2] Z⟩
  replace H := pif_f (of_decide_eq_false hb) H
  refine OJ.pures oU 2 Z ?_
  obtain ⟨t29, ht29, H⟩ := pbind H
  refine OJ.callF Z Z Z Z Z hb14 Z (spec_SameStakes.c k _ A11 c12 t10.1 (hS.rd (i := 2) Z) (hS.le (i := 2) Z) A7 c8 t6 (hS.rd (i := 1) Z) (hS.le (i := 1) Z) _ ht29) ?_
  rintro _ w1 ⟨rfl, hs⟩
  replace hS := hS.grow hs
  refine OJ.pures oU 3 Z ?_
  refine OJ.split (t := 108) Z (fun hb => ?_) (fun hb => ?_)
  ·replace H := pif_t hb H
   refine OJ.pures oU 54 Z ?_
   refine OJ.nil ?_
   exact EJ.meet (F' := [(5, .pointer (some ⟨b5, 0, none⟩)), (6, .slice A7 t6.length c8), (9, .slice A14 t13.1.length c15), (13, .slice A20 t19.1.length c21), (17, .slice A26 t25.1.length c27), (162, .bool true)]) ⟨Z, Z, Z, Z, Z, Z, trivial⟩ ⟨true, H, Z, hS.pick [0, 1, 3, 5, 7] [0, 1, 2] Z⟩
  replace H := pifb_f hb H
  refine OJ.pures oU 2 Z ?_
  obtain ⟨t30, ht30, H⟩ := pbind H
  refine OJ.callF Z Z Z Z Z hb15 Z (impl_SameStakes.c k _ A11 c12 t10.1 (hS.rd (i := 2) Z) (hS.le (i := 2) Z) A7 c8 t6 (hS.rd (i := 1) Z) (hS.le (i := 1) Z) _ ht30) ?_
  rintro _ w1 ⟨rfl, hs⟩
  replace hS := hS.grow hs
  refine OJ.pures oU 3 Z ?_
  refine OJ.split (t := 114) Z (fun hb => ?_) (fun hb => ?_)
  ·replace H := pif_t hb H
   refine OJ.pures oU 48 Z ?_
   refine OJ.nil ?_
   exact EJ.meet (F' := [(5, .pointer (some ⟨b5, 0, none⟩)), (6, .slice A7 t6.length c8), (9, .slice A14 t13.1.length c15), (13, .slice A20 t19.1.length c21), (17, .slice A26 t25.1.length c27), (162, .bool true)]) ⟨Z, Z, Z, Z, Z, Z, trivial⟩ ⟨true, H, Z, hS.pick [0, 1, 3, 5, 7] [0, 1, 2] Z⟩
  replace H := pifb_f hb H
  refine OJ.st Z Z Z (SR.load Z Z (fun w' hx => ldE oU oI Z Z Z (CA.ext (hS.cells (i := 0) Z) hx) Z)) ?_
  refine OJ.pures oU 1 Z ?_
  obtain ⟨t31, ht31, H⟩ := pbind H
  refine OJ.callF Z Z Z Z Z hb16 Z (impl_ValidStakes.c k _ t4 A7 c8 t6 (hS.rd (i := 1) Z) (hS.le (i := 1) Z) _ ht31) ?_
  rintro _ w1 ⟨rfl, hs⟩
  replace hS := hS.grow hs
  refine OJ.pures oU 3 Z ?_
  refine OJ.split (t := 120) Z (fun hb => ?_) (fun hb => ?_)
  ·replace H := pif_t hb H
   refine OJ.pures oU 42 Z ?_
   refine OJ.nil ?_
   exact EJ.meet (F' := [(5, .pointer (some ⟨b5, 0, none⟩)), (6, .slice A7 t6.length c8), (9, .slice A14 t13.1.length c15), (13, .slice A20 t19.1.length c21), (17, .slice A26 t25.1.length c27), (162, .bool true)]) ⟨Z, Z, Z, Z, Z, Z, trivial⟩ ⟨true, H, Z, hS.pick [0, 1, 3, 5, 7] [0, 1, 2] Z⟩
  replace H := pifb_f hb H
  refine OJ.pures oU 4 Z ?_
  refine OJ.split (t := 124) Z (fun hb => ?_) (fun hb => ?_)
  ·replace H := pif_t (of_decide_eq_true hb) H
   refine OJ.pures oU 38 Z ?_
   refine OJ.nil ?_
   exact EJ.meet (F' := [(5, .pointer (some ⟨b5, 0, none⟩)), (6, .slice A7 t6.length c8), (9, .slice A14 t13.1.length c15), (13, .slice A20 t19.1.length c21), (17, .slice A26 t25.1.length c27), (162, .bool true)]) ⟨Z, Z, Z, Z, Z, Z, trivial⟩ ⟨true, H, Z, hS.pick [0, 1, 3, 5, 7] [0, 1, 2] Z⟩
  replace H := pif_f (of_decide_eq_false hb) H
  refine OJ.pures oU 5 Z ?_
  refine OJ.split (t := 129) Z (fun hb => ?_) (fun hb => ?_)
  ·replace H := pif_t (of_decide_eq_true hb) H
   refine OJ.pures oU 33 Z ?_
   refine OJ.nil ?_
   exact EJ.meet (F' := [(5, .pointer (some ⟨b5, 0, none⟩)), (6, .slice A7 t6.length c8), (9, .slice A14 t13.1.length c15), (13, .slice A20 t19.1.length c21), (17, .slice A26 t25.1.length c27), (162, .bool true)]) ⟨Z, Z, Z, Z, Z, Z, trivial⟩ ⟨true, H, Z, hS.pick [0, 1, 3, 5, 7] [0, 1, 2] Z⟩
  replace H := pif_f (of_decide_eq_false hb) H
  refine OJ.pures oU 4 Z ?_
  refine OJ.split (t := 133) Z (fun hb => ?_) (fun hb => ?_)
  ·replace H := pif_t (of_decide_eq_true hb) H
   refine OJ.pures oU 29 Z ?_
   refine OJ.nil ?_
   exact EJ.meet (F' := [(5, .pointer (some ⟨b5, 0, none⟩)), (6, .slice A7 t6.length c8), (9, .slice A14 t13.1.length c15), (13, .slice A20 t19.1.length c21), (17, .slice A26 t25.1.length c27), (162, .bool true)]) ⟨Z, Z, Z, Z, Z, Z, trivial⟩ ⟨true, H, Z, hS.pick [0, 1, 3, 5, 7] [0, 1, 2] Z⟩
  replace H := pif_f (of_decide_eq_false hb) H
  refine OJ.pures oU 2 Z ?_
  obtain ⟨t32, ht32, H⟩ := pbind H
  refine OJ.callF Z Z Z Z Z hb17 Z (spec_SameSpots.c k _ A17 c18 t16.1 (hS.rd (i := 4) Z) (hS.le (i := 4) Z) A20 c21 t19.1 (hS.rd (i := 5) Z) (hS.le (i := 5) Z) _ ht32) ?_
  rintro _ w1 ⟨rfl, hs⟩
  replace hS := hS.grow hs
  refine OJ.pures oU 3 Z ?_
  refine OJ.split (t := 139) Z (fun hb => ?_) (fun hb => ?_)
  ·replace H := pif_t hb H
   refine OJ.pures oU 23 Z ?_
   refine OJ.nil ?_
   exact EJ.meet (F' := [(5, .pointer (some ⟨b5, 0, none⟩)), (6, .slice A7 t6.length c8), (9, .slice A14 t13.1.length c15), (13, .slice A20 t19.1.length c21), (17, .slice A26 t25.1.length c27), (162, .bool true)]) ⟨Z, Z, Z, Z, Z, Z, trivial⟩ ⟨true, H, Z, hS.pick [0, 1, 3, 5, 7] [0, 1, 2] Z⟩
  replace H := pifb_f hb H
  refine OJ.pures oU 5 Z ?_
  refine OJ.split (t := 144) Z (fun hb => ?_) (fun hb => ?_)
  ·replace H := pif_t (of_decide_eq_true hb) H
   refine OJ.pures oU 18 Z ?_
   refine OJ.nil ?_
   exact EJ.meet (F' := [(5, .pointer (some ⟨b5, 0, none⟩)), (6, .slice A7 t6.length c8), (9, .slice A14 t13.1.length c15), (13, .slice A20 t19.1.length c21), (17, .slice A26 t25.1.length c27), (162, .bool true)]) ⟨Z, Z, Z, Z, Z, Z, trivial⟩ ⟨true, H, Z, hS.pick [0, 1, 3, 5, 7] [0, 1, 2] Z⟩
  replace H := pif_f (of_decide_eq_false hb) H
  refine OJ.pures oU 4 Z ?_
  refine OJ.split (t := 148) Z (fun hb => ?_) (fun hb => ?_)
  ·replace H := pif_t (of_decide_eq_true hb) H
   refine OJ.pures oU 14 Z ?_
   refine OJ.nil ?_
   exact EJ.meet (F' := [(5, .pointer (some ⟨b5, 0, none⟩)), (6, .slice A7 t6.length c8), (9, .slice A14 t13.1.length c15), (13, .slice A20 t19.1.length c21), (17, .slice A26 t25.1.length c27), (162, .bool true)]) ⟨Z, Z, Z, Z, Z, Z, trivial⟩ ⟨true, H, Z, hS.pick [0, 1, 3, 5, 7] [0, 1, 2] Z⟩
  replace H := pif_f (of_decide_eq_false hb) H
  refine OJ.pures oU 2 Z ?_
  obtain ⟨t33, ht33, H⟩ := pbind H
  refine OJ.callF Z Z Z Z Z hb17 Z (spec_SameSpots.c k _ A23 c24 t22.1 (hS.rd (i := 6) Z) (hS.le (i := 6) Z) A26 c27 t25.1 (hS.rd (i := 7) Z) (hS.le (i := 7) Z) _ ht33) ?_
  rintro _ w1 ⟨rfl, hs⟩
  replace hS := hS.grow hs
  refine OJ.pures oU 3 Z ?_
  refine OJ.split (t := 154) Z (fun hb => ?_) (fun hb => ?_)
  ·replace H := pif_t hb H
   refine OJ.pures oU 8 Z ?_
   refine OJ.nil ?_
   exact EJ.meet (F' := [(5, .pointer (some ⟨b5, 0, none⟩)), (6, .slice A7 t6.length c8), (9, .slice A14 t13.1.length c15), (13, .slice A20 t19.1.length c21), (17, .slice A26 t25.1.length c27), (162, .bool true)]) ⟨Z, Z, Z, Z, Z, Z, trivial⟩ ⟨true, H, Z, hS.pick [0, 1, 3, 5, 7] [0, 1, 2] Z⟩
  replace H := pifb_f hb H
  refine OJ.pures oU 6 Z ?_
  refine OJ.st Z Z Z (SR.neB oU Z Z Z Z) ?_
  refine OJ.pures oU 1 Z ?_
  refine OJ.nil ?_
  exact EJ.meet (F' := [(5, .pointer (some ⟨b5, 0, none⟩)), (6, .slice A7 t6.length c8), (9, .slice A14 t13.1.length c15), (13, .slice A20 t19.1.length c21), (17, .slice A26 t25.1.length c27), (162, .bool (decide ((decide (0 < (t13.1.length : Int))) ≠ (decide (0 < (t25.1.length : Int))))))]) ⟨Z, Z, Z, Z, Z, Z, trivial⟩ ⟨(decide ((decide (0 < (t13.1.length : Int))) ≠ (decide (0 < (t25.1.length : Int))))), H, Z, hS.pick [0, 1, 3, 5, 7] [0, 1, 2] Z⟩
 rintro F w1 ⟨y28, he, rfl, hS⟩
 obtain rfl := Option.some.inj he
 have H := K287
 refine CJ.cond Z (fun hb => ?_) (fun hb => ?_)
 ·replace H := pif_t hb H
  refine CJ.seq (CJ.region ?_)
  refine OJ.pures oU 1 Z (OJ.nil (EJ.next ?_))
  refine CJ.ret (EJ.skR (?_))
  obtain rfl := Option.some.inj H
  exact EJ.fin Z (.tmp Z .nil) ⟨Z, hS.ext⟩
 replace H := pifb_f hb H
 refine CJ.skip (EJ.next ?_)
 refine CJ.seq (CJ.region ?_)
 refine OJ.pures oU 1 Z (OJ.nil (EJ.next ?_))
 refine CJ.seq ?_
 refine CJ.seq (CJ.region ?_)
 refine OJ.pures oU 1 Z (OJ.nil (EJ.next ?_))
 obtain ⟨j291, H, K291⟩ := pbind H
 refine CJ.cut1 (fun F w1 => ∃ (y34 : Int) , (some (Sum.inr y34) : Option (Bool ⊕ Int)) = some j291 ∧ F = [(5, .pointer (some ⟨b5, 0, none⟩)), (13, .slice A20 t19.1.length c21), (17, .slice A26 t25.1.length c27), (19, .int .i64 y34)] ∧ St w no w1 [box b5 (cPasture.enc t4) 31, rowC cSpot A20 c21 49 t19.1, rowC cSpot A26 c27 49 t25.1] [roC (ci .u8) Aa0 ca0 a0, roC (ci .u8) Aa1 ca1 a1, envC Tryz.prog 0]) ?_ ?_
 ·skip
  refine CJ.block ?_
  refine CJ.loop (fun k F w1 => ∃ (y35 : Int) (y36 : Int), F = [(5, .pointer (some ⟨b5, 0, none⟩)), (6, .slice A7 t6.length c8), (9, .slice A14 t13.1.length c15), (13, .slice A20 t19.1.length c21), (17, .slice A26 t25.1.length c27), (19, .int .i64 y35), (20, .int .i64 y36)] ∧ St w no w1 [box b5 (cPasture.enc t4) 31, rowC cStake A7 c8 51 t6, rowC (carr 2 (ci .i64)) A14 c15 61 t13.1, rowC cSpot A20 c21 49 t19.1, rowC cSpot A26 c27 49 t25.1] [roC (ci .u8) Aa0 ca0 a0, roC (ci .u8) Aa1 ca1 a1, envC Tryz.prog 0] ∧ laws_FnStakes.l1 t4 t6 t13 t19 k y35 y36 = some j291) k (F' := [(5, .pointer (some ⟨b5, 0, none⟩)), (6, .slice A7 t6.length c8), (9, .slice A14 t13.1.length c15), (13, .slice A20 t19.1.length c21), (17, .slice A26 t25.1.length c27), (19, .int .i64 0), (20, .int .i64 0)]) ⟨Z, Z, Z, Z, Z, Z, Z, trivial⟩ ⟨0, 0, Z, hS.pick [0, 1, 2, 3, 4] [0, 1, 2] Z, H⟩ ?_
  rintro k F w1 ⟨y35, y36, rfl, hS, H⟩
  cases k with
  | zero => rw [laws_FnStakes.l1] at H; cases H
  | succ k =>
    rw [laws_FnStakes.l1] at H
    refine CJ.seq ?_
    refine CJ.seq (CJ.region ?_)
    refine OJ.pures oU 4 Z (OJ.nil (EJ.next ?_))
    refine CJ.cond Z (fun hb => ?_) (fun hb => ?_)
    · replace H := pif_t (of_decide_eq_true hb) H
      refine CJ.skip (EJ.next ?_)
      obtain ⟨j403, H, K403⟩ := pbind H
      refine CJ.cut (fun F w1 => ∃ (y37 : Int) , (some (Sum.inr y37) : Option ((Bool ⊕ Int) ⊕ Int)) = some j403 ∧ F = [(5, .pointer (some ⟨b5, 0, none⟩)), (6, .slice A7 t6.length c8), (9, .slice A14 t13.1.length c15), (13, .slice A20 t19.1.length c21), (17, .slice A26 t25.1.length c27), (19, .int .i64 y37), (20, .int .i64 y36)] ∧ St w no w1 [box b5 (cPasture.enc t4) 31, rowC cStake A7 c8 51 t6, rowC (carr 2 (ci .i64)) A14 c15 61 t13.1, rowC cSpot A20 c21 49 t19.1, rowC cSpot A26 c27 49 t25.1] [roC (ci .u8) Aa0 ca0 a0, roC (ci .u8) Aa1 ca1 a1, envC Tryz.prog 0]) ?_ ?_
      · skip
        refine CJ.block ?_
        refine CJ.seq ?_
        refine CJ.draw [] [0, 1, 2, 3, 4, 5, 6, 7, 8, 9, 10] mixed (by kernel_rfl) hS fun w1 hS => ?_
        refine DJ.st Z Z Z Z Z (SR.load Z Z (fun w' hx => ldE oU oI Z Z Z (CA.ext (hS.cells (i := 0) Z) hx) Z)) ?_
        refine DJ.pures oU 2 Z ?_
        obtain ⟨t38, ht38, H⟩ := pbind H
        obtain ⟨ad38, e38⟩ := (hS.rd (i := 1) rfl).some' ht38
        refine DJ.st Z Z Z Z Z (SR.idxS oU oI Z Z Z Z e38 Z (getI_some ht38).1) ?_
        refine DJ.st Z Z Z Z Z (SR.load Z Z (fun w' hx => ldE oU oI Z Z Z (CA.ext ((hS.rd (i := 1) Z).at_ e38 ht38) hx) Z)) ?_
        obtain ⟨t39, ht39, H⟩ := pbind H
        refine DJ.callF rfl rfl rfl rfl rfl rfl rfl hb18 rfl (impl_ReachOf.c k _ t4 t38 _ ht39) (by rintro v w' ⟨A40, c41, rfl, hs⟩; exact hs.ext) ?_
        rintro _ w1 ⟨A40, c41, rfl, hs⟩
        replace hS := hS.addN hs
        have hS : St w no w1 [box b5 (cPasture.enc t4) 31, rowC cStake A7 c8 51 t6, rowC (carr 2 (ci .i64)) A14 c15 61 t13.1, rowC cSpot A20 c21 49 t19.1, rowC cSpot A26 c27 49 t25.1, rowC cSpot A40 c41 49 t39.1] [roC (ci .u8) Aa0 ca0 a0, roC (ci .u8) Aa1 ca1 a1, envC Tryz.prog 0] := hS
        refine DJ.pures oU 5 Z ?_
        refine DJ.nil (EJ.next ?_)
        refine CJ.seq ?_
        refine CJ.draw [] [0, 1, 2, 3, 4, 5, 6, 7, 8, 9, 10] mixed (by kernel_rfl) hS fun w1 hS => ?_
        refine DJ.st Z Z Z Z Z (SR.load Z Z (fun w' hx => ldE oU oI Z Z Z (CA.ext (hS.cells (i := 0) Z) hx) Z)) ?_
        refine DJ.pures oU 2 Z ?_
        obtain ⟨t42, ht42, H⟩ := pbind H
        obtain ⟨ad42, e42⟩ := (hS.rd (i := 1) rfl).some' ht42
        refine DJ.st Z Z Z Z Z (SR.idxS oU oI Z Z Z Z e42 Z (getI_some ht42).1) ?_
        refine DJ.st Z Z Z Z Z (SR.load Z Z (fun w' hx => ldE oU oI Z Z Z (CA.ext ((hS.rd (i := 1) Z).at_ e42 ht42) hx) Z)) ?_
        obtain ⟨t43, ht43, H⟩ := pbind H
        refine DJ.callF rfl rfl rfl rfl rfl rfl rfl hb19 rfl (spec_ReachOf.c k _ t4 t42 _ ht43) (by rintro v w' ⟨A44, c45, rfl, hs⟩; exact hs.ext) ?_
        rintro _ w1 ⟨A44, c45, rfl, hs⟩
        replace hS := hS.addN hs
        have hS : St w no w1 [box b5 (cPasture.enc t4) 31, rowC cStake A7 c8 51 t6, rowC (carr 2 (ci .i64)) A14 c15 61 t13.1, rowC cSpot A20 c21 49 t19.1, rowC cSpot A26 c27 49 t25.1, rowC cSpot A40 c41 49 t39.1, rowC cSpot A44 c45 49 t43.1] [roC (ci .u8) Aa0 ca0 a0, roC (ci .u8) Aa1 ca1 a1, envC Tryz.prog 0] := hS
        refine DJ.pures oU 5 Z ?_
        refine DJ.nil (EJ.next ?_)
        refine CJ.seq ?_
        refine CJ.draw [] [0, 1, 2, 3, 4, 5, 6, 7, 8, 9, 10] mixed (by kernel_rfl) hS fun w1 hS => ?_
        refine DJ.st Z Z Z Z Z (SR.load Z Z (fun w' hx => ldE oU oI Z Z Z (CA.ext (hS.cells (i := 0) Z) hx) Z)) ?_
        refine DJ.pures oU 2 Z ?_
        obtain ⟨t46, ht46, H⟩ := pbind H
        obtain ⟨ad46, e46⟩ := (hS.rd (i := 1) rfl).some' ht46
        refine DJ.st Z Z Z Z Z (SR.idxS oU oI Z Z Z Z e46 Z (getI_some ht46).1) ?_
        refine DJ.st Z Z Z Z Z (SR.load Z Z (fun w' hx => ldE oU oI Z Z Z (CA.ext ((hS.rd (i := 1) Z).at_ e46 ht46) hx) Z)) ?_
        obtain ⟨t47, ht47, H⟩ := pbind H
        refine DJ.callF rfl rfl rfl rfl rfl rfl rfl hb20 rfl (impl_FoodOf.c k _ t4 t46 _ ht47) (by rintro v w' ⟨rfl, hs⟩; exact hs) ?_
        rintro _ w1 ⟨rfl, hs⟩
        replace hS := hS.grow hs
        refine DJ.pures oU 5 Z ?_
        refine DJ.nil (EJ.next ?_)
        refine CJ.seq (CJ.region ?_)
        refine OJ.st Z Z Z (SR.load Z Z (fun w' hx => ldE oU oI Z Z Z (CA.ext (hS.cells (i := 0) Z) hx) Z)) ?_
        refine OJ.pures oU 1 Z ?_
        obtain ⟨t48, ht48, H⟩ := pbind H
        refine OJ.callF Z Z Z Z Z hb21 Z (spec_GrassOf.c k _ t4 A44 c45 t43.1 (hS.rd (i := 6) Z) (hS.le (i := 6) Z) _ ht48) ?_
        rintro _ w1 ⟨rfl, hs⟩
        replace hS := hS.grow hs
        refine OJ.pures oU 5 Z (OJ.nil (EJ.next ?_))
        refine CJ.seq ?_
        obtain ⟨t49, ht49, H⟩ := pbind H
        obtain ⟨t50, ht50, H⟩ := pbind H
        refine CJ.cut1 (fun F w1 => ∃ (b51 : Nat), F = [(5, .pointer (some ⟨b5, 0, none⟩)), (6, .slice A7 t6.length c8), (9, .slice A14 t13.1.length c15), (13, .slice A20 t19.1.length c21), (17, .slice A26 t25.1.length c27), (19, .int .i64 y35), (20, .int .i64 y36), (21, .slice A40 t39.1.length c41), (22, .int .i64 t39.2), (23, .slice A44 t43.1.length c45), (24, .int .i64 t43.2), (25, .int .i64 t47.1), (26, .int .i64 t47.2), (27, .int .i64 t48.1), (28, .int .i64 t48.2), (29, .pointer (some ⟨b51, 0, none⟩))] ∧ St w no w1 [box b5 (cPasture.enc t4) 31, rowC cStake A7 c8 51 t6, rowC (carr 2 (ci .i64)) A14 c15 61 t13.1, rowC cSpot A20 c21 49 t19.1, rowC cSpot A26 c27 49 t25.1, rowC cSpot A40 c41 49 t39.1, rowC cSpot A44 c45 49 t43.1, box b51 (cStake.enc (⟨t49.At, IntKind.i16.wrap (t50.Reach + 1)⟩ : Stake)) 51] [roC (ci .u8) Aa0 ca0 a0, roC (ci .u8) Aa1 ca1 a1, envC Tryz.prog 0]) ?_ ?_
        · skip
          refine CJ.drawT [] [11, 12, 13] (.one 0 (.one 1 (.one 2 (.one 3 (.one 4 (.one 5 (.one 6 (.one 7 (.one 8 (.one 9 (.one 10 (.br (.alt 11 (.one 12 (.one 13 (.fin))) (.alt 12 (.one 11 (.one 13 (.fin))) (.stop))))))))))))))) mixed (by kernel_rfl) hS [1] fun w1 hS hY hV => ?_
          refine TJ.pures oU 2 Z ?_
          obtain ⟨ad49, e49⟩ := (hS.rd (i := 1) rfl).some' ht49
          refine TJ.sp Z Z Z Z Z (fun w2 => SR.idxS oU oI Z Z Z Z e49 Z (getI_some ht49).1) ?_
          refine TJ.sp Z Z Z Z Z (fun w2 => SR.fieldAddr oU oI Z Z Z Z Z Z) ?_
          refine TJ.st hY Z Z Z Z Z (fun w2 hY => SR.load Z Z (fun w' hx => ldN oU oI Z Z Z (CA.ext (CA.sub (((hV w2 hY).rdR (i := 3) Z).at_ e49 ht49) 0) hx) (cSpot.len _) Z)) ?_
          refine TJ.pures oU 2 Z ?_
          obtain ⟨ad50, e50⟩ := (hS.rd (i := 1) rfl).some' ht50
          refine TJ.sp Z Z Z Z Z (fun w2 => SR.idxS oU oI Z Z Z Z e50 Z (getI_some ht50).1) ?_
          refine TJ.sp Z Z Z Z Z (fun w2 => SR.fieldAddr oU oI Z Z Z Z Z Z) ?_
          refine TJ.st hY Z Z Z Z Z (fun w2 hY => SR.load Z Z (fun w' hx => ld1 oU Z Z (CA.ext (CA.sub (((hV w2 hY).rdR (i := 3) Z).at_ e50 ht50) 2) hx) Z)) ?_
          refine TJ.pures oU 1 Z ?_
          refine TJ.br ?_
          refine TJ.alt ?_ ?_
          · skip
            refine TJ.ef hY Z Z Z Z Z ((SR.build (C := cStake) oU oI Z Z Z (zs := [.int .i8 0, .int .i8 0, .int .i16 0]) Z Z Z (⟨t49.At, IntKind.i16.wrap (t50.Reach + 1)⟩ : Stake) Z).ef) ?_
            rintro _ w1 hY ⟨rfl, hx⟩
            replace hS := hS.grow hx
            refine TJ.ef hY Z Z Z Z Z (Ef.alloc hS oI Z Z (cStake.enc (⟨(⟨0, 0⟩ : Spot), 0⟩ : Stake)) Z) ?_
            rintro _ w1 hY ⟨b52, rfl, hS⟩
            have hO := hS
            refine TJ.es rfl rfl rfl rfl (Es.store oI (hS.inn [1]) (i := 7) rfl rfl rfl rfl rfl rfl (vs := cStake.enc (⟨t49.At, IntKind.i16.wrap (t50.Reach + 1)⟩ : Stake)) rfl (cStake.len _) (cStake.one _) (Nat.le_of_ble_eq_true rfl) (cStake.enc (⟨t49.At, IntKind.i16.wrap (t50.Reach + 1)⟩ : Stake)) rfl) (by intro w1 hS; exact hY.wr (hO.inY [1] 3 rfl rfl) hS.chg) ?_
            intro w1 hY hS
            have hS : St w no w1 [box b5 (cPasture.enc t4) 31, rowC cStake A7 c8 51 t6, rowC (carr 2 (ci .i64)) A14 c15 61 t13.1, rowC cSpot A20 c21 49 t19.1, rowC cSpot A26 c27 49 t25.1, rowC cSpot A40 c41 49 t39.1, rowC cSpot A44 c45 49 t43.1, box b52 (cStake.enc (⟨t49.At, IntKind.i16.wrap (t50.Reach + 1)⟩ : Stake)) 51] [roC (ci .u8) Aa0 ca0 a0, roC (ci .u8) Aa1 ca1 a1, envC Tryz.prog 0] := hO.out [1] hS
            refine TJ.nil ?_
            exact EJ.meet (F' := [(5, .pointer (some ⟨b5, 0, none⟩)), (6, .slice A7 t6.length c8), (9, .slice A14 t13.1.length c15), (13, .slice A20 t19.1.length c21), (17, .slice A26 t25.1.length c27), (19, .int .i64 y35), (20, .int .i64 y36), (21, .slice A40 t39.1.length c41), (22, .int .i64 t39.2), (23, .slice A44 t43.1.length c45), (24, .int .i64 t43.2), (25, .int .i64 t47.1), (26, .int .i64 t47.2), (27, .int .i64 t48.1), (28, .int .i64 t48.2), (29, .pointer (some ⟨b52, 0, none⟩))]) ⟨Z, Z, Z, Z, Z, Z, Z, Z, Z, Z, Z, Z, Z, Z, Z, Z, trivial⟩ ⟨b52, Z, hS.pick [0, 1, 2, 3, 4, 5, 6, 7] [0, 1, 2] Z⟩
          refine TJ.alt ?_ ?_
          · skip
            refine TJ.ef hY Z Z Z Z Z (Ef.alloc hS oI Z Z (cStake.enc (⟨(⟨0, 0⟩ : Spot), 0⟩ : Stake)) Z) ?_
            rintro _ w1 hY ⟨b53, rfl, hS⟩
            refine TJ.ef hY Z Z Z Z Z ((SR.build (C := cStake) oU oI Z Z Z (zs := [.int .i8 0, .int .i8 0, .int .i16 0]) Z Z Z (⟨t49.At, IntKind.i16.wrap (t50.Reach + 1)⟩ : Stake) Z).ef) ?_
            rintro _ w1 hY ⟨rfl, hx⟩
            replace hS := hS.grow hx
            have hO := hS
            refine TJ.es rfl rfl rfl rfl (Es.store oI (hS.inn [1]) (i := 7) rfl rfl rfl rfl rfl rfl (vs := cStake.enc (⟨t49.At, IntKind.i16.wrap (t50.Reach + 1)⟩ : Stake)) rfl (cStake.len _) (cStake.one _) (Nat.le_of_ble_eq_true rfl) (cStake.enc (⟨t49.At, IntKind.i16.wrap (t50.Reach + 1)⟩ : Stake)) rfl) (by intro w1 hS; exact hY.wr (hO.inY [1] 3 rfl rfl) hS.chg) ?_
            intro w1 hY hS
            have hS : St w no w1 [box b5 (cPasture.enc t4) 31, rowC cStake A7 c8 51 t6, rowC (carr 2 (ci .i64)) A14 c15 61 t13.1, rowC cSpot A20 c21 49 t19.1, rowC cSpot A26 c27 49 t25.1, rowC cSpot A40 c41 49 t39.1, rowC cSpot A44 c45 49 t43.1, box b53 (cStake.enc (⟨t49.At, IntKind.i16.wrap (t50.Reach + 1)⟩ : Stake)) 51] [roC (ci .u8) Aa0 ca0 a0, roC (ci .u8) Aa1 ca1 a1, envC Tryz.prog 0] := hO.out [1] hS
            refine TJ.nil ?_
            exact EJ.meet (F' := [(5, .pointer (some ⟨b5, 0, none⟩)), (6, .slice A7 t6.length c8), (9, .slice A14 t13.1.length c15), (13, .slice A20 t19.1.length c21), (17, .slice A26 t25.1.length c27), (19, .int .i64 y35), (20, .int .i64 y36), (21, .slice A40 t39.1.length c41), (22, .int .i64 t39.2), (23, .slice A44 t43.1.length c45), (24, .int .i64 t43.2), (25, .int .i64 t47.1), (26, .int .i64 t47.2), (27, .int .i64 t48.1), (28, .int .i64 t48.2), (29, .pointer (some ⟨b53, 0, none⟩))]) ⟨Z, Z, Z, Z, Z, Z, Z, Z, Z, Z, Z, Z, Z, Z, Z, Z, trivial⟩ ⟨b53, Z, hS.pick [0, 1, 2, 3, 4, 5, 6, 7] [0, 1, 2] Z⟩
          exact TJ.stop
        · rintro F w1 ⟨b51, rfl, hS⟩
          refine EJ.next ?_
          refine CJ.seq (CJ.region ?_)
          refine OJ.st Z Z Z (SR.load Z Z (fun w' hx => ldE oU oI Z Z Z (CA.ext (hS.cells (i := 0) Z) hx) Z)) ?_
          refine OJ.st Z Z Z (SR.load Z Z (fun w' hx => ldE oU oI Z Z Z (CA.ext (hS.cells (i := 7) Z) hx) Z)) ?_
          obtain ⟨t54, ht54, H⟩ := pbind H
          refine OJ.callF Z Z Z Z Z hb18 Z (impl_ReachOf.c k _ t4 (⟨t49.At, IntKind.i16.wrap (t50.Reach + 1)⟩ : Stake) _ ht54) ?_
          rintro _ w1 ⟨A55, c56, rfl, hs⟩
          replace hS := hS.addN hs
          have hS : St w no w1 [box b5 (cPasture.enc t4) 31, rowC cStake A7 c8 51 t6, rowC (carr 2 (ci .i64)) A14 c15 61 t13.1, rowC cSpot A20 c21 49 t19.1, rowC cSpot A26 c27 49 t25.1, rowC cSpot A40 c41 49 t39.1, rowC cSpot A44 c45 49 t43.1, box b51 (cStake.enc (⟨t49.At, IntKind.i16.wrap (t50.Reach + 1)⟩ : Stake)) 51, rowC cSpot A55 c56 49 t54.1] [roC (ci .u8) Aa0 ca0 a0, roC (ci .u8) Aa1 ca1 a1, envC Tryz.prog 0] := hS
          refine OJ.pures oU 5 Z (OJ.nil (EJ.next ?_))
          refine CJ.seq ?_
          obtain ⟨j417, H, K417⟩ := pbind H
          refine CJ.cut (fun F w1 => ∃ (y57 : Bool) , (some y57 : Option Bool) = some j417 ∧ F = [(5, .pointer (some ⟨b5, 0, none⟩)), (6, .slice A7 t6.length c8), (9, .slice A14 t13.1.length c15), (13, .slice A20 t19.1.length c21), (17, .slice A26 t25.1.length c27), (19, .int .i64 y35), (20, .int .i64 y36), (23, .slice A44 t43.1.length c45), (25, .int .i64 t47.1), (266, .bool y57)] ∧ St w no w1 [box b5 (cPasture.enc t4) 31, rowC cStake A7 c8 51 t6, rowC (carr 2 (ci .i64)) A14 c15 61 t13.1, rowC cSpot A20 c21 49 t19.1, rowC cSpot A26 c27 49 t25.1, rowC cSpot A44 c45 49 t43.1] [roC (ci .u8) Aa0 ca0 a0, roC (ci .u8) Aa1 ca1 a1, envC Tryz.prog 0]) ?_ ?_
          · skip
            refine CJ.region ?_
            refine OJ.pures oU 4 Z ?_
            refine OJ.split (t := 223) Z (fun hb => ?_) (fun hb => ?_)
            · replace H := pif_t (of_decide_eq_true hb) H
              refine OJ.pures oU 43 Z ?_
              refine OJ.nil ?_
              exact EJ.meet (F' := [(5, .pointer (some ⟨b5, 0, none⟩)), (6, .slice A7 t6.length c8), (9, .slice A14 t13.1.length c15), (13, .slice A20 t19.1.length c21), (17, .slice A26 t25.1.length c27), (19, .int .i64 y35), (20, .int .i64 y36), (23, .slice A44 t43.1.length c45), (25, .int .i64 t47.1), (266, .bool true)]) ⟨Z, Z, Z, Z, Z, Z, Z, Z, Z, Z, trivial⟩ ⟨true, H, Z, hS.pick [0, 1, 2, 3, 4, 6] [0, 1, 2] Z⟩
            · replace H := pif_f (of_decide_eq_false hb) H
              refine OJ.pures oU 4 Z ?_
              refine OJ.split (t := 227) Z (fun hb => ?_) (fun hb => ?_)
              · replace H := pif_t (of_decide_eq_true hb) H
                refine OJ.pures oU 39 Z ?_
                refine OJ.nil ?_
                exact EJ.meet (F' := [(5, .pointer (some ⟨b5, 0, none⟩)), (6, .slice A7 t6.length c8), (9, .slice A14 t13.1.length c15), (13, .slice A20 t19.1.length c21), (17, .slice A26 t25.1.length c27), (19, .int .i64 y35), (20, .int .i64 y36), (23, .slice A44 t43.1.length c45), (25, .int .i64 t47.1), (266, .bool true)]) ⟨Z, Z, Z, Z, Z, Z, Z, Z, Z, Z, trivial⟩ ⟨true, H, Z, hS.pick [0, 1, 2, 3, 4, 6] [0, 1, 2] Z⟩
              · replace H := pif_f (of_decide_eq_false hb) H
                refine OJ.pures oU 2 Z ?_
                obtain ⟨t58, ht58, H⟩ := pbind H
                refine OJ.callF Z Z Z Z Z hb17 Z (spec_SameSpots.c k _ A40 c41 t39.1 (hS.rd (i := 5) Z) (hS.le (i := 5) Z) A44 c45 t43.1 (hS.rd (i := 6) Z) (hS.le (i := 6) Z) _ ht58) ?_
                rintro _ w1 ⟨rfl, hs⟩
                replace hS := hS.grow hs
                refine OJ.pures oU 3 Z ?_
                refine OJ.split (t := 233) Z (fun hb => ?_) (fun hb => ?_)
                · replace H := pif_t hb H
                  refine OJ.pures oU 33 Z ?_
                  refine OJ.nil ?_
                  exact EJ.meet (F' := [(5, .pointer (some ⟨b5, 0, none⟩)), (6, .slice A7 t6.length c8), (9, .slice A14 t13.1.length c15), (13, .slice A20 t19.1.length c21), (17, .slice A26 t25.1.length c27), (19, .int .i64 y35), (20, .int .i64 y36), (23, .slice A44 t43.1.length c45), (25, .int .i64 t47.1), (266, .bool true)]) ⟨Z, Z, Z, Z, Z, Z, Z, Z, Z, Z, trivial⟩ ⟨true, H, Z, hS.pick [0, 1, 2, 3, 4, 6] [0, 1, 2] Z⟩
                · replace H := pifb_f hb H
                  refine OJ.pures oU 4 Z ?_
                  refine OJ.split (t := 237) Z (fun hb => ?_) (fun hb => ?_)
                  · replace H := pif_t (of_decide_eq_true hb) H
                    refine OJ.pures oU 29 Z ?_
                    refine OJ.nil ?_
                    exact EJ.meet (F' := [(5, .pointer (some ⟨b5, 0, none⟩)), (6, .slice A7 t6.length c8), (9, .slice A14 t13.1.length c15), (13, .slice A20 t19.1.length c21), (17, .slice A26 t25.1.length c27), (19, .int .i64 y35), (20, .int .i64 y36), (23, .slice A44 t43.1.length c45), (25, .int .i64 t47.1), (266, .bool true)]) ⟨Z, Z, Z, Z, Z, Z, Z, Z, Z, Z, trivial⟩ ⟨true, H, Z, hS.pick [0, 1, 2, 3, 4, 6] [0, 1, 2] Z⟩
                  · replace H := pif_f (of_decide_eq_false hb) H
                    refine OJ.pures oU 4 Z ?_
                    refine OJ.split (t := 241) Z (fun hb => ?_) (fun hb => ?_)
                    · replace H := pif_t (of_decide_eq_true hb) H
                      refine OJ.pures oU 25 Z ?_
                      refine OJ.nil ?_
                      exact EJ.meet (F' := [(5, .pointer (some ⟨b5, 0, none⟩)), (6, .slice A7 t6.length c8), (9, .slice A14 t13.1.length c15), (13, .slice A20 t19.1.length c21), (17, .slice A26 t25.1.length c27), (19, .int .i64 y35), (20, .int .i64 y36), (23, .slice A44 t43.1.length c45), (25, .int .i64 t47.1), (266, .bool true)]) ⟨Z, Z, Z, Z, Z, Z, Z, Z, Z, Z, trivial⟩ ⟨true, H, Z, hS.pick [0, 1, 2, 3, 4, 6] [0, 1, 2] Z⟩
                    · replace H := pif_f (of_decide_eq_false hb) H
                      refine OJ.pures oU 5 Z ?_
                      refine OJ.split (t := 246) Z (fun hb => ?_) (fun hb => ?_)
                      · replace H := pif_t (of_decide_eq_true hb) H
                        refine OJ.pures oU 20 Z ?_
                        refine OJ.nil ?_
                        exact EJ.meet (F' := [(5, .pointer (some ⟨b5, 0, none⟩)), (6, .slice A7 t6.length c8), (9, .slice A14 t13.1.length c15), (13, .slice A20 t19.1.length c21), (17, .slice A26 t25.1.length c27), (19, .int .i64 y35), (20, .int .i64 y36), (23, .slice A44 t43.1.length c45), (25, .int .i64 t47.1), (266, .bool true)]) ⟨Z, Z, Z, Z, Z, Z, Z, Z, Z, Z, trivial⟩ ⟨true, H, Z, hS.pick [0, 1, 2, 3, 4, 6] [0, 1, 2] Z⟩
                      · replace H := pif_f (of_decide_eq_false hb) H
                        refine OJ.pures oU 4 Z ?_
                        refine OJ.split (t := 250) Z (fun hb => ?_) (fun hb => ?_)
                        · replace H := pif_t (of_decide_eq_true hb) H
                          refine OJ.pures oU 16 Z ?_
                          refine OJ.nil ?_
                          exact EJ.meet (F' := [(5, .pointer (some ⟨b5, 0, none⟩)), (6, .slice A7 t6.length c8), (9, .slice A14 t13.1.length c15), (13, .slice A20 t19.1.length c21), (17, .slice A26 t25.1.length c27), (19, .int .i64 y35), (20, .int .i64 y36), (23, .slice A44 t43.1.length c45), (25, .int .i64 t47.1), (266, .bool true)]) ⟨Z, Z, Z, Z, Z, Z, Z, Z, Z, Z, trivial⟩ ⟨true, H, Z, hS.pick [0, 1, 2, 3, 4, 6] [0, 1, 2] Z⟩
                        · replace H := pif_f (of_decide_eq_false hb) H
                          refine OJ.pures oU 7 Z ?_
                          refine OJ.split (t := 257) Z (fun hb => ?_) (fun hb => ?_)
                          · replace H := pif_t (of_decide_eq_true hb) H
                            refine OJ.pures oU 9 Z ?_
                            refine OJ.nil ?_
                            exact EJ.meet (F' := [(5, .pointer (some ⟨b5, 0, none⟩)), (6, .slice A7 t6.length c8), (9, .slice A14 t13.1.length c15), (13, .slice A20 t19.1.length c21), (17, .slice A26 t25.1.length c27), (19, .int .i64 y35), (20, .int .i64 y36), (23, .slice A44 t43.1.length c45), (25, .int .i64 t47.1), (266, .bool true)]) ⟨Z, Z, Z, Z, Z, Z, Z, Z, Z, Z, trivial⟩ ⟨true, H, Z, hS.pick [0, 1, 2, 3, 4, 6] [0, 1, 2] Z⟩
                          · replace H := pif_f (of_decide_eq_false hb) H
                            refine OJ.pures oU 3 Z ?_
                            obtain ⟨t59, ht59, H⟩ := pbind H
                            obtain ⟨ad59, e59⟩ := (hS.rd (i := 1) rfl).some' ht59
                            refine OJ.st Z Z Z (SR.idxS oU oI Z Z Z Z e59 Z (getI_some ht59).1) ?_
                            refine OJ.st Z Z Z (SR.fieldAddr oU oI Z Z Z Z Z Z) ?_
                            refine OJ.st Z Z Z (SR.load Z Z (fun w' hx => ldN oU oI Z Z Z (CA.ext (CA.sub ((hS.rd (i := 1) Z).at_ e59 ht59) 0) hx) (cSpot.len _) Z)) ?_
                            obtain ⟨t60, ht60, H⟩ := pbind H
                            refine OJ.callF Z Z Z Z Z hb22 Z (spec_HasSpot.c k _ A44 c45 t43.1 (hS.rd (i := 6) Z) (hS.le (i := 6) Z) t59.At _ ht60) ?_
                            rintro _ w1 ⟨rfl, hs⟩
                            replace hS := hS.grow hs
                            refine OJ.pures oU 2 Z ?_
                            refine OJ.nil ?_
                            exact EJ.meet (F' := [(5, .pointer (some ⟨b5, 0, none⟩)), (6, .slice A7 t6.length c8), (9, .slice A14 t13.1.length c15), (13, .slice A20 t19.1.length c21), (17, .slice A26 t25.1.length c27), (19, .int .i64 y35), (20, .int .i64 y36), (23, .slice A44 t43.1.length c45), (25, .int .i64 t47.1), (266, .bool (!t60))]) ⟨Z, Z, Z, Z, Z, Z, Z, Z, Z, Z, trivial⟩ ⟨(!t60), H, Z, hS.pick [0, 1, 2, 3, 4, 6] [0, 1, 2] Z⟩
          · rintro F w1 ⟨y57, he, rfl, hS⟩
            obtain rfl := Option.some.inj he
            have H := K417
            refine CJ.cond Z (fun hb => ?_) (fun hb => ?_)
            · replace H := pif_t hb H
              refine CJ.seq (CJ.region ?_)
              refine OJ.pures oU 1 Z (OJ.nil (EJ.next ?_))
              refine CJ.ret (EJ.skR (EJ.bkR (EJ.skR (EJ.skR (EJ.bkR (EJ.skR (EJ.skR (?_))))))))
              first | (obtain rfl := Option.some.inj H; have H := K403) | (obtain ⟨q403, H2, e403⟩ := pbind H; obtain rfl := Option.some.inj e403; obtain rfl := Option.some.inj K403; have H := H2)
              first | (obtain rfl := Option.some.inj H; have H := K291) | (obtain ⟨q291, H2, e291⟩ := pbind H; obtain rfl := Option.some.inj e291; obtain rfl := Option.some.inj K291; have H := H2)
              obtain rfl := Option.some.inj H
              exact EJ.fin Z (.tmp Z .nil) ⟨Z, hS.ext⟩
            · replace H := pifb_f hb H
              refine CJ.skip (EJ.next ?_)
              refine CJ.seq ?_
              refine CJ.seq (CJ.region ?_)
              refine OJ.pures oU 1 Z (OJ.nil (EJ.next ?_))
              obtain ⟨j418, H, K418⟩ := pbind H
              refine CJ.cut1 (fun F w1 => (some (Sum.inr ()) : Option (((Bool ⊕ Int) ⊕ Int) ⊕ Unit)) = some j418 ∧ F = [(5, .pointer (some ⟨b5, 0, none⟩)), (6, .slice A7 t6.length c8), (9, .slice A14 t13.1.length c15), (13, .slice A20 t19.1.length c21), (17, .slice A26 t25.1.length c27), (19, .int .i64 y35), (20, .int .i64 y36), (23, .slice A44 t43.1.length c45), (25, .int .i64 t47.1)] ∧ St w no w1 [box b5 (cPasture.enc t4) 31, rowC cStake A7 c8 51 t6, rowC (carr 2 (ci .i64)) A14 c15 61 t13.1, rowC cSpot A20 c21 49 t19.1, rowC cSpot A26 c27 49 t25.1, rowC cSpot A44 c45 49 t43.1] [roC (ci .u8) Aa0 ca0 a0, roC (ci .u8) Aa1 ca1 a1, envC Tryz.prog 0]) ?_ ?_
              · skip
                refine CJ.block ?_
                refine CJ.loop (fun k F w1 => ∃ (y61 : Int), F = [(5, .pointer (some ⟨b5, 0, none⟩)), (6, .slice A7 t6.length c8), (9, .slice A14 t13.1.length c15), (13, .slice A20 t19.1.length c21), (17, .slice A26 t25.1.length c27), (19, .int .i64 y35), (20, .int .i64 y36), (23, .slice A44 t43.1.length c45), (25, .int .i64 t47.1), (32, .int .i64 y61)] ∧ St w no w1 [box b5 (cPasture.enc t4) 31, rowC cStake A7 c8 51 t6, rowC (carr 2 (ci .i64)) A14 c15 61 t13.1, rowC cSpot A20 c21 49 t19.1, rowC cSpot A26 c27 49 t25.1, rowC cSpot A44 c45 49 t43.1] [roC (ci .u8) Aa0 ca0 a0, roC (ci .u8) Aa1 ca1 a1, envC Tryz.prog 0] ∧ laws_FnStakes.l2 t4 t6 t19 y36 t43 k y61 = some j418) k (F' := [(5, .pointer (some ⟨b5, 0, none⟩)), (6, .slice A7 t6.length c8), (9, .slice A14 t13.1.length c15), (13, .slice A20 t19.1.length c21), (17, .slice A26 t25.1.length c27), (19, .int .i64 y35), (20, .int .i64 y36), (23, .slice A44 t43.1.length c45), (25, .int .i64 t47.1), (32, .int .i64 0)]) ⟨Z, Z, Z, Z, Z, Z, Z, Z, Z, Z, trivial⟩ ⟨0, Z, hS.pick [0, 1, 2, 3, 4, 5] [0, 1, 2] Z, H⟩ ?_
                rintro k F w1 ⟨y61, rfl, hS, H⟩
                cases k with
                | zero => rw [laws_FnStakes.l2] at H; cases H
                | succ k =>
                  rw [laws_FnStakes.l2] at H
                  refine CJ.seq ?_
                  refine CJ.seq (CJ.region ?_)
                  refine OJ.pures oU 4 Z (OJ.nil (EJ.next ?_))
                  refine CJ.cond Z (fun hb => ?_) (fun hb => ?_)
                  · replace H := pif_t (of_decide_eq_true hb) H
                    refine CJ.skip (EJ.next ?_)
                    refine CJ.seq ?_
                    refine CJ.block ?_
                    refine CJ.seq ?_
                    refine CJ.draw [] [0, 1, 2, 3, 4, 5, 6, 7, 8, 9, 10, 11, 12, 13, 14, 15] mixed (by kernel_rfl) hS fun w1 hS => ?_
                    refine DJ.st Z Z Z Z Z (SR.load Z Z (fun w' hx => ldE oU oI Z Z Z (CA.ext (hS.cells (i := 0) Z) hx) Z)) ?_
                    refine DJ.pures oU 2 Z ?_
                    obtain ⟨t62, ht62, H⟩ := pbind H
                    obtain ⟨ad62, e62⟩ := (hS.rd (i := 1) rfl).some' ht62
                    refine DJ.st Z Z Z Z Z (SR.idxS oU oI Z Z Z Z e62 Z (getI_some ht62).1) ?_
                    refine DJ.st Z Z Z Z Z (SR.fieldAddr oU oI Z Z Z Z Z Z) ?_
                    refine DJ.st Z Z Z Z Z (SR.load Z Z (fun w' hx => ldN oU oI Z Z Z (CA.ext (CA.sub ((hS.rd (i := 1) Z).at_ e62 ht62) 0) hx) (cSpot.len _) Z)) ?_
                    refine DJ.pures oU 2 Z ?_
                    obtain ⟨t63, ht63, H⟩ := pbind H
                    obtain ⟨ad63, e63⟩ := (hS.rd (i := 5) rfl).some' ht63
                    refine DJ.st Z Z Z Z Z (SR.idxS oU oI Z Z Z Z e63 Z (getI_some ht63).1) ?_
                    refine DJ.st Z Z Z Z Z (SR.load Z Z (fun w' hx => ldE oU oI Z Z Z (CA.ext ((hS.rd (i := 5) Z).at_ e63 ht63) hx) Z)) ?_
                    obtain ⟨t64, ht64, H⟩ := pbind H
                    refine DJ.callF rfl rfl rfl rfl rfl rfl rfl hb23 rfl (spec_SameYard.c k _ t4 t62.At t63 _ ht64) (by rintro v w' ⟨rfl, hs⟩; exact hs) ?_
                    rintro _ w1 ⟨rfl, hs⟩
                    replace hS := hS.grow hs
                    refine DJ.pures oU 5 Z ?_
                    refine DJ.nil (EJ.next ?_)
                    refine CJ.seq ?_
                    refine CJ.draw [] [0, 1, 2, 3, 4, 5, 6, 7, 8, 9, 10, 11, 12, 13, 14, 15, 17, 18, 19, 20, 21, 22, 16, 23, 24, 25, 26, 27, 28, 29, 30, 31, 32] mixed (by kernel_rfl) hS fun w1 hS => ?_
                    refine DJ.pures oU 3 Z ?_
                    refine DJ.split (t := 289) Z (fun hb => ?_) (fun hb => ?_)
                    · replace H := pif_t (of_decide_eq_true hb) H
                      refine DJ.pures oU 30 Z ?_
                      refine DJ.nil (EJ.next ?_)
                      refine CJ.condT Z ?_
                      refine CJ.seq (CJ.region ?_)
                      refine OJ.pures oU 1 Z (OJ.nil (EJ.next ?_))
                      refine CJ.ret (EJ.bkR (EJ.skR (EJ.skR (EJ.bkR (EJ.skR (EJ.skR (EJ.bkR (EJ.skR (EJ.skR (EJ.bkR (EJ.skR (EJ.skR (?_)))))))))))))
                      first | (obtain rfl := Option.some.inj H; have H := K418) | (obtain ⟨q418, H2, e418⟩ := pbind H; obtain rfl := Option.some.inj e418; obtain rfl := Option.some.inj K418; have H := H2)
                      first | (obtain rfl := Option.some.inj H; have H := K403) | (obtain ⟨q403, H2, e403⟩ := pbind H; obtain rfl := Option.some.inj e403; obtain rfl := Option.some.inj K403; have H := H2)
                      first | (obtain rfl := Option.some.inj H; have H := K291) | (obtain ⟨q291, H2, e291⟩ := pbind H; obtain rfl := Option.some.inj e291; obtain rfl := Option.some.inj K291; have H := H2)
                      obtain rfl := Option.some.inj H
                      exact EJ.fin Z (.tmp Z .nil) ⟨Z, hS.ext⟩
                    · replace H := pif_f (of_decide_eq_false hb) H
                      refine DJ.pures oU 4 Z ?_
                      refine DJ.split (t := 293) Z (fun hb => ?_) (fun hb => ?_)
                      · replace H := pif_t hb H
                        refine DJ.pures oU 26 Z ?_
                        refine DJ.nil (EJ.next ?_)
                        refine CJ.condT Z ?_
                        refine CJ.seq (CJ.region ?_)
                        refine OJ.pures oU 1 Z (OJ.nil (EJ.next ?_))
                        refine CJ.ret (EJ.bkR (EJ.skR (EJ.skR (EJ.bkR (EJ.skR (EJ.skR (EJ.bkR (EJ.skR (EJ.skR (EJ.bkR (EJ.skR (EJ.skR (?_)))))))))))))
                        first | (obtain rfl := Option.some.inj H; have H := K418) | (obtain ⟨q418, H2, e418⟩ := pbind H; obtain rfl := Option.some.inj e418; obtain rfl := Option.some.inj K418; have H := H2)
                        first | (obtain rfl := Option.some.inj H; have H := K403) | (obtain ⟨q403, H2, e403⟩ := pbind H; obtain rfl := Option.some.inj e403; obtain rfl := Option.some.inj K403; have H := H2)
                        first | (obtain rfl := Option.some.inj H; have H := K291) | (obtain ⟨q291, H2, e291⟩ := pbind H; obtain rfl := Option.some.inj e291; obtain rfl := Option.some.inj K291; have H := H2)
                        obtain rfl := Option.some.inj H
                        exact EJ.fin Z (.tmp Z .nil) ⟨Z, hS.ext⟩
                      · replace H := pifb_f hb H
                        refine DJ.pures oU 2 Z ?_
                        obtain ⟨t65, ht65, H⟩ := pbind H
                        obtain ⟨ad65, e65⟩ := (hS.rd (i := 1) rfl).some' ht65
                        refine DJ.st Z Z Z Z Z (SR.idxS oU oI Z Z Z Z e65 Z (getI_some ht65).1) ?_
                        refine DJ.st Z Z Z Z Z (SR.fieldAddr oU oI Z Z Z Z Z Z) ?_
                        refine DJ.st Z Z Z Z Z (SR.load Z Z (fun w' hx => ldN oU oI Z Z Z (CA.ext (CA.sub ((hS.rd (i := 1) Z).at_ e65 ht65) 0) hx) (cSpot.len _) Z)) ?_
                        refine DJ.pures oU 2 Z ?_
                        obtain ⟨t66, ht66, H⟩ := pbind H
                        obtain ⟨ad66, e66⟩ := (hS.rd (i := 5) rfl).some' ht66
                        refine DJ.st Z Z Z Z Z (SR.idxS oU oI Z Z Z Z e66 Z (getI_some ht66).1) ?_
                        refine DJ.st Z Z Z Z Z (SR.load Z Z (fun w' hx => ldE oU oI Z Z Z (CA.ext ((hS.rd (i := 5) Z).at_ e66 ht66) hx) Z)) ?_
                        refine DJ.pures oU 2 Z ?_
                        obtain ⟨t67, ht67, H⟩ := pbind H
                        obtain ⟨ad67, e67⟩ := (hS.rd (i := 1) rfl).some' ht67
                        refine DJ.st Z Z Z Z Z (SR.idxS oU oI Z Z Z Z e67 Z (getI_some ht67).1) ?_
                        refine DJ.st Z Z Z Z Z (SR.fieldAddr oU oI Z Z Z Z Z Z) ?_
                        refine DJ.st Z Z Z Z Z (SR.load Z Z (fun w' hx => ld1 oU Z Z (CA.ext (CA.sub ((hS.rd (i := 1) Z).at_ e67 ht67) 2) hx) Z)) ?_
                        refine DJ.pures oU 1 Z ?_
                        obtain ⟨t68, ht68, H⟩ := pbind H
                        refine DJ.callF rfl rfl rfl rfl rfl rfl rfl hb24 rfl (impl_SquareOf.c _ t65.At t66 _ ht68) (by rintro v w' ⟨rfl, hs⟩; exact hs) ?_
                        rintro _ w1 ⟨rfl, hs⟩
                        replace hS := hS.grow hs
                        refine DJ.pures oU 3 Z ?_
                        refine DJ.split (t := 312) Z (fun hb => ?_) (fun hb => ?_)
                        · replace H := pif_t (of_decide_eq_true hb) H
                          refine DJ.pures oU 7 Z ?_
                          refine DJ.nil (EJ.next ?_)
                          refine CJ.condT Z ?_
                          refine CJ.seq (CJ.region ?_)
                          refine OJ.pures oU 1 Z (OJ.nil (EJ.next ?_))
                          refine CJ.ret (EJ.bkR (EJ.skR (EJ.skR (EJ.bkR (EJ.skR (EJ.skR (EJ.bkR (EJ.skR (EJ.skR (EJ.bkR (EJ.skR (EJ.skR (?_)))))))))))))
                          first | (obtain rfl := Option.some.inj H; have H := K418) | (obtain ⟨q418, H2, e418⟩ := pbind H; obtain rfl := Option.some.inj e418; obtain rfl := Option.some.inj K418; have H := H2)
                          first | (obtain rfl := Option.some.inj H; have H := K403) | (obtain ⟨q403, H2, e403⟩ := pbind H; obtain rfl := Option.some.inj e403; obtain rfl := Option.some.inj K403; have H := H2)
                          first | (obtain rfl := Option.some.inj H; have H := K291) | (obtain ⟨q291, H2, e291⟩ := pbind H; obtain rfl := Option.some.inj e291; obtain rfl := Option.some.inj K291; have H := H2)
                          obtain rfl := Option.some.inj H
                          exact EJ.fin Z (.tmp Z .nil) ⟨Z, hS.ext⟩
                        · replace H := pif_f (of_decide_eq_false hb) H
                          refine DJ.pures oU 3 Z ?_
                          obtain ⟨t69, ht69, H⟩ := pbind H
                          obtain ⟨ad69, e69⟩ := (hS.rd (i := 5) rfl).some' ht69
                          refine DJ.st Z Z Z Z Z (SR.idxS oU oI Z Z Z Z e69 Z (getI_some ht69).1) ?_
                          refine DJ.st Z Z Z Z Z (SR.load Z Z (fun w' hx => ldE oU oI Z Z Z (CA.ext ((hS.rd (i := 5) Z).at_ e69 ht69) hx) Z)) ?_
                          obtain ⟨t70, ht70, H⟩ := pbind H
                          refine DJ.callF rfl rfl rfl rfl rfl rfl rfl hb22 rfl (spec_HasSpot.c k _ A20 c21 t19.1 (hS.rd (i := 3) rfl) (hS.le (i := 3) rfl) t69 _ ht70) (by rintro v w' ⟨rfl, hs⟩; exact hs) ?_
                          rintro _ w1 ⟨rfl, hs⟩
                          replace hS := hS.grow hs
                          refine DJ.pures oU 1 Z ?_
                          refine DJ.nil (EJ.next ?_)
                          refine CJ.cond Z (fun hb => ?_) (fun hb => ?_)
                          · replace H := pif_t hb H
                            refine CJ.seq (CJ.region ?_)
                            refine OJ.pures oU 1 Z (OJ.nil (EJ.next ?_))
                            refine CJ.ret (EJ.bkR (EJ.skR (EJ.skR (EJ.bkR (EJ.skR (EJ.skR (EJ.bkR (EJ.skR (EJ.skR (EJ.bkR (EJ.skR (EJ.skR (?_)))))))))))))
                            first | (obtain rfl := Option.some.inj H; have H := K418) | (obtain ⟨q418, H2, e418⟩ := pbind H; obtain rfl := Option.some.inj e418; obtain rfl := Option.some.inj K418; have H := H2)
                            first | (obtain rfl := Option.some.inj H; have H := K403) | (obtain ⟨q403, H2, e403⟩ := pbind H; obtain rfl := Option.some.inj e403; obtain rfl := Option.some.inj K403; have H := H2)
                            first | (obtain rfl := Option.some.inj H; have H := K291) | (obtain ⟨q291, H2, e291⟩ := pbind H; obtain rfl := Option.some.inj e291; obtain rfl := Option.some.inj K291; have H := H2)
                            obtain rfl := Option.some.inj H
                            exact EJ.fin Z (.tmp Z .nil) ⟨Z, hS.ext⟩
                          · replace H := pifb_f hb H
                            refine CJ.skip (EJ.blk (EJ.next ?_))
                            refine CJ.region ?_
                            refine OJ.pures oU 3 Z ?_
                            refine OJ.nil ?_
                            exact EJ.round k (F' := [(5, .pointer (some ⟨b5, 0, none⟩)), (6, .slice A7 t6.length c8), (9, .slice A14 t13.1.length c15), (13, .slice A20 t19.1.length c21), (17, .slice A26 t25.1.length c27), (19, .int .i64 y35), (20, .int .i64 y36), (23, .slice A44 t43.1.length c45), (25, .int .i64 t47.1), (32, .int .i64 (IntKind.i64.wrap (y61 + 1)))]) ⟨Z, Z, Z, Z, Z, Z, Z, Z, Z, Z, trivial⟩ (Nat.lt_succ_self _) ⟨(IntKind.i64.wrap (y61 + 1)), Z, hS.pick [0, 1, 2, 3, 4, 5] [0, 1, 2] Z, H⟩
                  · replace H := pif_f (of_decide_eq_false hb) H
                    refine CJ.exit (EJ.skE (EJ.skE (EJ.hit (?_))))
                    exact EJ.meet (F' := [(5, .pointer (some ⟨b5, 0, none⟩)), (6, .slice A7 t6.length c8), (9, .slice A14 t13.1.length c15), (13, .slice A20 t19.1.length c21), (17, .slice A26 t25.1.length c27), (19, .int .i64 y35), (20, .int .i64 y36), (23, .slice A44 t43.1.length c45), (25, .int .i64 t47.1)]) ⟨Z, Z, Z, Z, Z, Z, Z, Z, Z, trivial⟩ ⟨H, Z, hS.pick [0, 1, 2, 3, 4, 5] [0, 1, 2] Z⟩
              · rintro F w1 ⟨he, rfl, hS⟩
                obtain rfl := Option.some.inj he
                have H := K418
                refine EJ.next ?_
                refine CJ.seq ?_
                refine CJ.seq (CJ.region ?_)
                refine OJ.pures oU 3 Z (OJ.nil (EJ.next ?_))
                obtain ⟨j419, H, K419⟩ := pbind H
                refine CJ.cut1 (fun F w1 => (some (Sum.inr ()) : Option (((Bool ⊕ Int) ⊕ Int) ⊕ Unit)) = some j419 ∧ F = [(5, .pointer (some ⟨b5, 0, none⟩)), (6, .slice A7 t6.length c8), (9, .slice A14 t13.1.length c15), (13, .slice A20 t19.1.length c21), (17, .slice A26 t25.1.length c27), (19, .int .i64 y35), (20, .int .i64 y36), (23, .slice A44 t43.1.length c45), (25, .int .i64 t47.1)] ∧ St w no w1 [box b5 (cPasture.enc t4) 31, rowC cStake A7 c8 51 t6, rowC (carr 2 (ci .i64)) A14 c15 61 t13.1, rowC cSpot A20 c21 49 t19.1, rowC cSpot A26 c27 49 t25.1, rowC cSpot A44 c45 49 t43.1] [roC (ci .u8) Aa0 ca0 a0, roC (ci .u8) Aa1 ca1 a1, envC Tryz.prog 0]) ?_ ?_
                · skip
                  refine CJ.block ?_
                  refine CJ.loop (fun k F w1 => ∃ (y71 : Int), F = [(5, .pointer (some ⟨b5, 0, none⟩)), (6, .slice A7 t6.length c8), (9, .slice A14 t13.1.length c15), (13, .slice A20 t19.1.length c21), (17, .slice A26 t25.1.length c27), (19, .int .i64 y35), (20, .int .i64 y36), (23, .slice A44 t43.1.length c45), (25, .int .i64 t47.1), (35, .int .i64 y71)] ∧ St w no w1 [box b5 (cPasture.enc t4) 31, rowC cStake A7 c8 51 t6, rowC (carr 2 (ci .i64)) A14 c15 61 t13.1, rowC cSpot A20 c21 49 t19.1, rowC cSpot A26 c27 49 t25.1, rowC cSpot A44 c45 49 t43.1] [roC (ci .u8) Aa0 ca0 a0, roC (ci .u8) Aa1 ca1 a1, envC Tryz.prog 0] ∧ laws_FnStakes.l3 t4 t6 t13 y36 k y71 = some j419) k (F' := [(5, .pointer (some ⟨b5, 0, none⟩)), (6, .slice A7 t6.length c8), (9, .slice A14 t13.1.length c15), (13, .slice A20 t19.1.length c21), (17, .slice A26 t25.1.length c27), (19, .int .i64 y35), (20, .int .i64 y36), (23, .slice A44 t43.1.length c45), (25, .int .i64 t47.1), (35, .int .i64 (IntKind.i64.wrap (y36 + 1)))]) ⟨Z, Z, Z, Z, Z, Z, Z, Z, Z, Z, trivial⟩ ⟨(IntKind.i64.wrap (y36 + 1)), Z, hS.pick [0, 1, 2, 3, 4, 5] [0, 1, 2] Z, H⟩ ?_
                  rintro k F w1 ⟨y71, rfl, hS, H⟩
                  cases k with
                  | zero => rw [laws_FnStakes.l3] at H; cases H
                  | succ k =>
                    rw [laws_FnStakes.l3] at H
                    refine CJ.seq ?_
                    refine CJ.seq (CJ.region ?_)
                    refine OJ.pures oU 4 Z (OJ.nil (EJ.next ?_))
                    refine CJ.cond Z (fun hb => ?_) (fun hb => ?_)
                    · replace H := pif_t (of_decide_eq_true hb) H
                      refine CJ.skip (EJ.next ?_)
                      refine CJ.seq ?_
                      refine CJ.block ?_
                      refine CJ.seq ?_
                      refine CJ.draw [] [0, 1, 2, 3, 4, 5, 6, 7, 8, 9, 10, 11, 12, 13, 14] mixed (by kernel_rfl) hS fun w1 hS => ?_
                      refine DJ.st Z Z Z Z Z (SR.load Z Z (fun w' hx => ldE oU oI Z Z Z (CA.ext (hS.cells (i := 0) Z) hx) Z)) ?_
                      refine DJ.pures oU 2 Z ?_
                      obtain ⟨t72, ht72, H⟩ := pbind H
                      obtain ⟨ad72, e72⟩ := (hS.rd (i := 1) rfl).some' ht72
                      refine DJ.st Z Z Z Z Z (SR.idxS oU oI Z Z Z Z e72 Z (getI_some ht72).1) ?_
                      refine DJ.st Z Z Z Z Z (SR.load Z Z (fun w' hx => ldE oU oI Z Z Z (CA.ext ((hS.rd (i := 1) Z).at_ e72 ht72) hx) Z)) ?_
                      refine DJ.pures oU 2 Z ?_
                      obtain ⟨t73, ht73, H⟩ := pbind H
                      obtain ⟨ad73, e73⟩ := (hS.rd (i := 1) rfl).some' ht73
                      refine DJ.st Z Z Z Z Z (SR.idxS oU oI Z Z Z Z e73 Z (getI_some ht73).1) ?_
                      refine DJ.st Z Z Z Z Z (SR.load Z Z (fun w' hx => ldE oU oI Z Z Z (CA.ext ((hS.rd (i := 1) Z).at_ e73 ht73) hx) Z)) ?_
                      obtain ⟨t74, ht74, H⟩ := pbind H
                      refine DJ.callF rfl rfl rfl rfl rfl rfl rfl hb25 rfl (impl_CommonOf.c k _ t4 t72 t73 _ ht74) (by rintro v w' ⟨A75, c76, rfl, hs⟩; exact hs.ext) ?_
                      rintro _ w1 ⟨A75, c76, rfl, hs⟩
                      replace hS := hS.addN hs
                      have hS : St w no w1 [box b5 (cPasture.enc t4) 31, rowC cStake A7 c8 51 t6, rowC (carr 2 (ci .i64)) A14 c15 61 t13.1, rowC cSpot A20 c21 49 t19.1, rowC cSpot A26 c27 49 t25.1, rowC cSpot A44 c45 49 t43.1, rowC cSpot A75 c76 49 t74.1] [roC (ci .u8) Aa0 ca0 a0, roC (ci .u8) Aa1 ca1 a1, envC Tryz.prog 0] := hS
                      refine DJ.pures oU 5 Z ?_
                      refine DJ.nil (EJ.next ?_)
                      refine CJ.seq ?_
                      refine CJ.draw [] [0, 1, 2, 3, 4, 5, 6, 7, 8, 9, 10, 11, 12, 13, 14] mixed (by kernel_rfl) hS fun w1 hS => ?_
                      refine DJ.st Z Z Z Z Z (SR.load Z Z (fun w' hx => ldE oU oI Z Z Z (CA.ext (hS.cells (i := 0) Z) hx) Z)) ?_
                      refine DJ.pures oU 2 Z ?_
                      obtain ⟨t77, ht77, H⟩ := pbind H
                      obtain ⟨ad77, e77⟩ := (hS.rd (i := 1) rfl).some' ht77
                      refine DJ.st Z Z Z Z Z (SR.idxS oU oI Z Z Z Z e77 Z (getI_some ht77).1) ?_
                      refine DJ.st Z Z Z Z Z (SR.load Z Z (fun w' hx => ldE oU oI Z Z Z (CA.ext ((hS.rd (i := 1) Z).at_ e77 ht77) hx) Z)) ?_
                      refine DJ.pures oU 2 Z ?_
                      obtain ⟨t78, ht78, H⟩ := pbind H
                      obtain ⟨ad78, e78⟩ := (hS.rd (i := 1) rfl).some' ht78
                      refine DJ.st Z Z Z Z Z (SR.idxS oU oI Z Z Z Z e78 Z (getI_some ht78).1) ?_
                      refine DJ.st Z Z Z Z Z (SR.load Z Z (fun w' hx => ldE oU oI Z Z Z (CA.ext ((hS.rd (i := 1) Z).at_ e78 ht78) hx) Z)) ?_
                      obtain ⟨t79, ht79, H⟩ := pbind H
                      refine DJ.callF rfl rfl rfl rfl rfl rfl rfl hb26 rfl (spec_CommonOf.c k _ t4 t77 t78 _ ht79) (by rintro v w' ⟨A80, c81, rfl, hs⟩; exact hs.ext) ?_
                      rintro _ w1 ⟨A80, c81, rfl, hs⟩
                      replace hS := hS.addN hs
                      have hS : St w no w1 [box b5 (cPasture.enc t4) 31, rowC cStake A7 c8 51 t6, rowC (carr 2 (ci .i64)) A14 c15 61 t13.1, rowC cSpot A20 c21 49 t19.1, rowC cSpot A26 c27 49 t25.1, rowC cSpot A44 c45 49 t43.1, rowC cSpot A75 c76 49 t74.1, rowC cSpot A80 c81 49 t79.1] [roC (ci .u8) Aa0 ca0 a0, roC (ci .u8) Aa1 ca1 a1, envC Tryz.prog 0] := hS
                      refine DJ.pures oU 5 Z ?_
                      refine DJ.nil (EJ.next ?_)
                      refine CJ.seq (CJ.region ?_)
                      refine OJ.pures oU 4 Z ?_
                      refine OJ.split (t := 357) Z (fun hb => ?_) (fun hb => ?_)
                      · replace H := pif_t (of_decide_eq_true hb) H
                        refine OJ.pures oU 20 Z (OJ.nil (EJ.next ?_))
                        refine CJ.condT Z ?_
                        refine CJ.seq (CJ.region ?_)
                        refine OJ.pures oU 1 Z (OJ.nil (EJ.next ?_))
                        refine CJ.ret (EJ.bkR (EJ.skR (EJ.skR (EJ.bkR (EJ.skR (EJ.skR (EJ.bkR (EJ.skR (EJ.skR (EJ.bkR (EJ.skR (EJ.skR (?_)))))))))))))
                        first | (obtain rfl := Option.some.inj H; have H := K419) | (obtain ⟨q419, H2, e419⟩ := pbind H; obtain rfl := Option.some.inj e419; obtain rfl := Option.some.inj K419; have H := H2)
                        first | (obtain rfl := Option.some.inj H; have H := K403) | (obtain ⟨q403, H2, e403⟩ := pbind H; obtain rfl := Option.some.inj e403; obtain rfl := Option.some.inj K403; have H := H2)
                        first | (obtain rfl := Option.some.inj H; have H := K291) | (obtain ⟨q291, H2, e291⟩ := pbind H; obtain rfl := Option.some.inj e291; obtain rfl := Option.some.inj K291; have H := H2)
                        obtain rfl := Option.some.inj H
                        exact EJ.fin Z (.tmp Z .nil) ⟨Z, hS.ext⟩
                      · replace H := pif_f (of_decide_eq_false hb) H
                        refine OJ.pures oU 4 Z ?_
                        refine OJ.split (t := 361) Z (fun hb => ?_) (fun hb => ?_)
                        · replace H := pif_t (of_decide_eq_true hb) H
                          refine OJ.pures oU 16 Z (OJ.nil (EJ.next ?_))
                          refine CJ.condT Z ?_
                          refine CJ.seq (CJ.region ?_)
                          refine OJ.pures oU 1 Z (OJ.nil (EJ.next ?_))
                          refine CJ.ret (EJ.bkR (EJ.skR (EJ.skR (EJ.bkR (EJ.skR (EJ.skR (EJ.bkR (EJ.skR (EJ.skR (EJ.bkR (EJ.skR (EJ.skR (?_)))))))))))))
                          first | (obtain rfl := Option.some.inj H; have H := K419) | (obtain ⟨q419, H2, e419⟩ := pbind H; obtain rfl := Option.some.inj e419; obtain rfl := Option.some.inj K419; have H := H2)
                          first | (obtain rfl := Option.some.inj H; have H := K403) | (obtain ⟨q403, H2, e403⟩ := pbind H; obtain rfl := Option.some.inj e403; obtain rfl := Option.some.inj K403; have H := H2)
                          first | (obtain rfl := Option.some.inj H; have H := K291) | (obtain ⟨q291, H2, e291⟩ := pbind H; obtain rfl := Option.some.inj e291; obtain rfl := Option.some.inj K291; have H := H2)
                          obtain rfl := Option.some.inj H
                          exact EJ.fin Z (.tmp Z .nil) ⟨Z, hS.ext⟩
                        · replace H := pif_f (of_decide_eq_false hb) H
                          refine OJ.pures oU 2 Z ?_
                          obtain ⟨t82, ht82, H⟩ := pbind H
                          refine OJ.callF Z Z Z Z Z hb17 Z (spec_SameSpots.c k _ A75 c76 t74.1 (hS.rd (i := 6) Z) (hS.le (i := 6) Z) A80 c81 t79.1 (hS.rd (i := 7) Z) (hS.le (i := 7) Z) _ ht82) ?_
                          rintro _ w1 ⟨rfl, hs⟩
                          replace hS := hS.grow hs
                          refine OJ.pures oU 3 Z ?_
                          refine OJ.split (t := 367) Z (fun hb => ?_) (fun hb => ?_)
                          · replace H := pif_t hb H
                            refine OJ.pures oU 10 Z (OJ.nil (EJ.next ?_))
                            refine CJ.condT Z ?_
                            refine CJ.seq (CJ.region ?_)
                            refine OJ.pures oU 1 Z (OJ.nil (EJ.next ?_))
                            refine CJ.ret (EJ.bkR (EJ.skR (EJ.skR (EJ.bkR (EJ.skR (EJ.skR (EJ.bkR (EJ.skR (EJ.skR (EJ.bkR (EJ.skR (EJ.skR (?_)))))))))))))
                            first | (obtain rfl := Option.some.inj H; have H := K419) | (obtain ⟨q419, H2, e419⟩ := pbind H; obtain rfl := Option.some.inj e419; obtain rfl := Option.some.inj K419; have H := H2)
                            first | (obtain rfl := Option.some.inj H; have H := K403) | (obtain ⟨q403, H2, e403⟩ := pbind H; obtain rfl := Option.some.inj e403; obtain rfl := Option.some.inj K403; have H := H2)
                            first | (obtain rfl := Option.some.inj H; have H := K291) | (obtain ⟨q291, H2, e291⟩ := pbind H; obtain rfl := Option.some.inj e291; obtain rfl := Option.some.inj K291; have H := H2)
                            obtain rfl := Option.some.inj H
                            exact EJ.fin Z (.tmp Z .nil) ⟨Z, hS.ext⟩
                          · replace H := pifb_f hb H
                            refine OJ.pures oU 3 Z ?_
                            refine OJ.st rfl rfl rfl (SR.buildA oU oI rfl rfl rfl rfl (zs := [.int .i64 0, .int .i64 0]) rfl rfl ((carr 2 (ci .i64)).enc (⟨[y36, y71], rfl⟩ : Arr 2 Int)) (by kernel_rfl)) ?_
                            obtain ⟨t83, ht83, H⟩ := pbind H
                            refine OJ.callF Z Z Z Z Z hb27 Z (spec_HasPair.c k _ A14 c15 t13.1 (hS.rd (i := 2) Z) (hS.le (i := 2) Z) (⟨[y36, y71], Z⟩ : Arr 2 Int) _ ht83) ?_
                            rintro _ w1 ⟨rfl, hs⟩
                            replace hS := hS.grow hs
                            refine OJ.pures oU 3 Z ?_
                            refine OJ.st Z Z Z (SR.neB oU Z Z Z Z) ?_
                            refine OJ.pures oU 1 Z (OJ.nil (EJ.next ?_))
                            refine CJ.cond Z (fun hb => ?_) (fun hb => ?_)
                            · replace H := pif_t (of_decide_eq_true hb) H
                              refine CJ.seq (CJ.region ?_)
                              refine OJ.pures oU 1 Z (OJ.nil (EJ.next ?_))
                              refine CJ.ret (EJ.bkR (EJ.skR (EJ.skR (EJ.bkR (EJ.skR (EJ.skR (EJ.bkR (EJ.skR (EJ.skR (EJ.bkR (EJ.skR (EJ.skR (?_)))))))))))))
                              first | (obtain rfl := Option.some.inj H; have H := K419) | (obtain ⟨q419, H2, e419⟩ := pbind H; obtain rfl := Option.some.inj e419; obtain rfl := Option.some.inj K419; have H := H2)
                              first | (obtain rfl := Option.some.inj H; have H := K403) | (obtain ⟨q403, H2, e403⟩ := pbind H; obtain rfl := Option.some.inj e403; obtain rfl := Option.some.inj K403; have H := H2)
                              first | (obtain rfl := Option.some.inj H; have H := K291) | (obtain ⟨q291, H2, e291⟩ := pbind H; obtain rfl := Option.some.inj e291; obtain rfl := Option.some.inj K291; have H := H2)
                              obtain rfl := Option.some.inj H
                              exact EJ.fin Z (.tmp Z .nil) ⟨Z, hS.ext⟩
                            · replace H := pif_f (of_decide_eq_false hb) H
                              refine CJ.skip (EJ.blk (EJ.next ?_))
                              refine CJ.region ?_
                              refine OJ.pures oU 3 Z ?_
                              refine OJ.nil ?_
                              exact EJ.round k (F' := [(5, .pointer (some ⟨b5, 0, none⟩)), (6, .slice A7 t6.length c8), (9, .slice A14 t13.1.length c15), (13, .slice A20 t19.1.length c21), (17, .slice A26 t25.1.length c27), (19, .int .i64 y35), (20, .int .i64 y36), (23, .slice A44 t43.1.length c45), (25, .int .i64 t47.1), (35, .int .i64 (IntKind.i64.wrap (y71 + 1)))]) ⟨Z, Z, Z, Z, Z, Z, Z, Z, Z, Z, trivial⟩ (Nat.lt_succ_self _) ⟨(IntKind.i64.wrap (y71 + 1)), Z, hS.pick [0, 1, 2, 3, 4, 5] [0, 1, 2] Z, H⟩
                    · replace H := pif_f (of_decide_eq_false hb) H
                      refine CJ.exit (EJ.skE (EJ.skE (EJ.hit (?_))))
                      exact EJ.meet (F' := [(5, .pointer (some ⟨b5, 0, none⟩)), (6, .slice A7 t6.length c8), (9, .slice A14 t13.1.length c15), (13, .slice A20 t19.1.length c21), (17, .slice A26 t25.1.length c27), (19, .int .i64 y35), (20, .int .i64 y36), (23, .slice A44 t43.1.length c45), (25, .int .i64 t47.1)]) ⟨Z, Z, Z, Z, Z, Z, Z, Z, Z, trivial⟩ ⟨H, Z, hS.pick [0, 1, 2, 3, 4, 5] [0, 1, 2] Z⟩
                · rintro F w1 ⟨he, rfl, hS⟩
                  obtain rfl := Option.some.inj he
                  have H := K419
                  refine EJ.next ?_
                  refine CJ.seq (CJ.region ?_)
                  refine OJ.st Z Z Z (SR.load Z Z (fun w' hx => ldE oU oI Z Z Z (CA.ext (hS.cells (i := 0) Z) hx) Z)) ?_
                  refine OJ.pures oU 2 Z ?_
                  obtain ⟨t84, ht84, H⟩ := pbind H
                  refine OJ.callF Z Z Z Z Z hb28 Z (impl_GreatestReach.c k _ t4 A7 c8 t6 (hS.rd (i := 1) Z) (hS.le (i := 1) Z) y36 _ ht84) ?_
                  rintro _ w1 ⟨rfl, hs⟩
                  replace hS := hS.grow hs
                  refine OJ.pures oU 5 Z (OJ.nil (EJ.next ?_))
                  refine CJ.seq (CJ.region ?_)
                  refine OJ.st Z Z Z (SR.load Z Z (fun w' hx => ldE oU oI Z Z Z (CA.ext (hS.cells (i := 0) Z) hx) Z)) ?_
                  refine OJ.pures oU 2 Z ?_
                  obtain ⟨t85, ht85, H⟩ := pbind H
                  refine OJ.callF Z Z Z Z Z hb29 Z (spec_GreatestReach.c k _ t4 A7 c8 t6 (hS.rd (i := 1) Z) (hS.le (i := 1) Z) y36 _ ht85) ?_
                  rintro _ w1 ⟨rfl, hs⟩
                  replace hS := hS.grow hs
                  refine OJ.pures oU 5 Z (OJ.nil (EJ.next ?_))
                  refine CJ.seq ?_
                  obtain ⟨j420, H, K420⟩ := pbind H
                  refine CJ.cut (fun F w1 => ∃ (y86 : Bool) , (some y86 : Option Bool) = some j420 ∧ F = [(5, .pointer (some ⟨b5, 0, none⟩)), (6, .slice A7 t6.length c8), (9, .slice A14 t13.1.length c15), (13, .slice A20 t19.1.length c21), (17, .slice A26 t25.1.length c27), (19, .int .i64 y35), (20, .int .i64 y36), (23, .slice A44 t43.1.length c45), (25, .int .i64 t47.1), (41, .int .i64 t84.2), (42, .int .i64 t85.1), (407, .bool y86)] ∧ St w no w1 [box b5 (cPasture.enc t4) 31, rowC cStake A7 c8 51 t6, rowC (carr 2 (ci .i64)) A14 c15 61 t13.1, rowC cSpot A20 c21 49 t19.1, rowC cSpot A26 c27 49 t25.1, rowC cSpot A44 c45 49 t43.1] [roC (ci .u8) Aa0 ca0 a0, roC (ci .u8) Aa1 ca1 a1, envC Tryz.prog 0]) ?_ ?_
                  · skip
                    refine CJ.region ?_
                    refine OJ.pures oU 4 Z ?_
                    refine OJ.split (t := 395) Z (fun hb => ?_) (fun hb => ?_)
                    · replace H := pif_t (of_decide_eq_true hb) H
                      refine OJ.pures oU 12 Z ?_
                      refine OJ.nil ?_
                      exact EJ.meet (F' := [(5, .pointer (some ⟨b5, 0, none⟩)), (6, .slice A7 t6.length c8), (9, .slice A14 t13.1.length c15), (13, .slice A20 t19.1.length c21), (17, .slice A26 t25.1.length c27), (19, .int .i64 y35), (20, .int .i64 y36), (23, .slice A44 t43.1.length c45), (25, .int .i64 t47.1), (41, .int .i64 t84.2), (42, .int .i64 t85.1), (407, .bool true)]) ⟨Z, Z, Z, Z, Z, Z, Z, Z, Z, Z, Z, Z, trivial⟩ ⟨true, H, Z, hS.pick [0, 1, 2, 3, 4, 5] [0, 1, 2] Z⟩
                    · replace H := pif_f (of_decide_eq_false hb) H
                      refine OJ.pures oU 5 Z ?_
                      refine OJ.split (t := 400) Z (fun hb => ?_) (fun hb => ?_)
                      · replace H := pif_t (of_decide_eq_true hb) H
                        refine OJ.pures oU 7 Z ?_
                        refine OJ.nil ?_
                        exact EJ.meet (F' := [(5, .pointer (some ⟨b5, 0, none⟩)), (6, .slice A7 t6.length c8), (9, .slice A14 t13.1.length c15), (13, .slice A20 t19.1.length c21), (17, .slice A26 t25.1.length c27), (19, .int .i64 y35), (20, .int .i64 y36), (23, .slice A44 t43.1.length c45), (25, .int .i64 t47.1), (41, .int .i64 t84.2), (42, .int .i64 t85.1), (407, .bool true)]) ⟨Z, Z, Z, Z, Z, Z, Z, Z, Z, Z, Z, Z, trivial⟩ ⟨true, H, Z, hS.pick [0, 1, 2, 3, 4, 5] [0, 1, 2] Z⟩
                      · replace H := pif_f (of_decide_eq_false hb) H
                        refine OJ.pures oU 3 Z ?_
                        refine OJ.split (t := 403) Z (fun hb => ?_) (fun hb => ?_)
                        · replace H := pif_t (of_decide_eq_true hb) H
                          refine OJ.pures oU 4 Z ?_
                          refine OJ.nil ?_
                          exact EJ.meet (F' := [(5, .pointer (some ⟨b5, 0, none⟩)), (6, .slice A7 t6.length c8), (9, .slice A14 t13.1.length c15), (13, .slice A20 t19.1.length c21), (17, .slice A26 t25.1.length c27), (19, .int .i64 y35), (20, .int .i64 y36), (23, .slice A44 t43.1.length c45), (25, .int .i64 t47.1), (41, .int .i64 t84.2), (42, .int .i64 t85.1), (407, .bool (decide (t84.2 ≠ 6)))]) ⟨Z, Z, Z, Z, Z, Z, Z, Z, Z, Z, Z, Z, trivial⟩ ⟨(decide (t84.2 ≠ 6)), H, Z, hS.pick [0, 1, 2, 3, 4, 5] [0, 1, 2] Z⟩
                        · replace H := pif_f (of_decide_eq_false hb) H
                          refine OJ.pures oU 4 Z ?_
                          refine OJ.nil ?_
                          exact EJ.meet (F' := [(5, .pointer (some ⟨b5, 0, none⟩)), (6, .slice A7 t6.length c8), (9, .slice A14 t13.1.length c15), (13, .slice A20 t19.1.length c21), (17, .slice A26 t25.1.length c27), (19, .int .i64 y35), (20, .int .i64 y36), (23, .slice A44 t43.1.length c45), (25, .int .i64 t47.1), (41, .int .i64 t84.2), (42, .int .i64 t85.1), (407, .bool false)]) ⟨Z, Z, Z, Z, Z, Z, Z, Z, Z, Z, Z, Z, trivial⟩ ⟨false, H, Z, hS.pick [0, 1, 2, 3, 4, 5] [0, 1, 2] Z⟩
                  · rintro F w1 ⟨y86, he, rfl, hS⟩
                    obtain rfl := Option.some.inj he
                    have H := K420
                    refine CJ.cond Z (fun hb => ?_) (fun hb => ?_)
                    · replace H := pif_t hb H
                      refine CJ.seq (CJ.region ?_)
                      refine OJ.pures oU 1 Z (OJ.nil (EJ.next ?_))
                      refine CJ.ret (EJ.skR (EJ.bkR (EJ.skR (EJ.skR (EJ.bkR (EJ.skR (EJ.skR (?_))))))))
                      first | (obtain rfl := Option.some.inj H; have H := K403) | (obtain ⟨q403, H2, e403⟩ := pbind H; obtain rfl := Option.some.inj e403; obtain rfl := Option.some.inj K403; have H := H2)
                      first | (obtain rfl := Option.some.inj H; have H := K291) | (obtain ⟨q291, H2, e291⟩ := pbind H; obtain rfl := Option.some.inj e291; obtain rfl := Option.some.inj K291; have H := H2)
                      obtain rfl := Option.some.inj H
                      exact EJ.fin Z (.tmp Z .nil) ⟨Z, hS.ext⟩
                    · replace H := pifb_f hb H
                      refine CJ.skip (EJ.next ?_)
                      refine CJ.seq ?_
                      refine CJ.seq (CJ.region ?_)
                      refine OJ.pures oU 1 Z (OJ.nil (EJ.next ?_))
                      obtain ⟨j421, H, K421⟩ := pbind H
                      refine CJ.cut1 (fun F w1 => (some (Sum.inr ()) : Option (((Bool ⊕ Int) ⊕ Int) ⊕ Unit)) = some j421 ∧ F = [(5, .pointer (some ⟨b5, 0, none⟩)), (6, .slice A7 t6.length c8), (9, .slice A14 t13.1.length c15), (13, .slice A20 t19.1.length c21), (17, .slice A26 t25.1.length c27), (19, .int .i64 y35), (20, .int .i64 y36), (23, .slice A44 t43.1.length c45), (25, .int .i64 t47.1), (41, .int .i64 t84.2), (42, .int .i64 t85.1)] ∧ St w no w1 [box b5 (cPasture.enc t4) 31, rowC cStake A7 c8 51 t6, rowC (carr 2 (ci .i64)) A14 c15 61 t13.1, rowC cSpot A20 c21 49 t19.1, rowC cSpot A26 c27 49 t25.1, rowC cSpot A44 c45 49 t43.1] [roC (ci .u8) Aa0 ca0 a0, roC (ci .u8) Aa1 ca1 a1, envC Tryz.prog 0]) ?_ ?_
                      · skip
                        refine CJ.block ?_
                        refine CJ.loop (fun k F w1 => ∃ (y87 : Int), F = [(5, .pointer (some ⟨b5, 0, none⟩)), (6, .slice A7 t6.length c8), (9, .slice A14 t13.1.length c15), (13, .slice A20 t19.1.length c21), (17, .slice A26 t25.1.length c27), (19, .int .i64 y35), (20, .int .i64 y36), (23, .slice A44 t43.1.length c45), (25, .int .i64 t47.1), (41, .int .i64 t84.2), (42, .int .i64 t85.1), (44, .int .i64 y87)] ∧ St w no w1 [box b5 (cPasture.enc t4) 31, rowC cStake A7 c8 51 t6, rowC (carr 2 (ci .i64)) A14 c15 61 t13.1, rowC cSpot A20 c21 49 t19.1, rowC cSpot A26 c27 49 t25.1, rowC cSpot A44 c45 49 t43.1] [roC (ci .u8) Aa0 ca0 a0, roC (ci .u8) Aa1 ca1 a1, envC Tryz.prog 0] ∧ laws_FnStakes.l4 t4 t6 y36 t84 t85 k y87 = some j421) k (F' := [(5, .pointer (some ⟨b5, 0, none⟩)), (6, .slice A7 t6.length c8), (9, .slice A14 t13.1.length c15), (13, .slice A20 t19.1.length c21), (17, .slice A26 t25.1.length c27), (19, .int .i64 y35), (20, .int .i64 y36), (23, .slice A44 t43.1.length c45), (25, .int .i64 t47.1), (41, .int .i64 t84.2), (42, .int .i64 t85.1), (44, .int .i64 0)]) ⟨Z, Z, Z, Z, Z, Z, Z, Z, Z, Z, Z, Z, trivial⟩ ⟨0, Z, hS.pick [0, 1, 2, 3, 4, 5] [0, 1, 2] Z, H⟩ ?_
                        rintro k F w1 ⟨y87, rfl, hS, H⟩
                        cases k with
                        | zero => rw [laws_FnStakes.l4] at H; cases H
                        | succ k =>
                          rw [laws_FnStakes.l4] at H
                          refine CJ.seq ?_
                          refine CJ.seq (CJ.region ?_)
                          refine OJ.pures oU 4 Z (OJ.nil (EJ.next ?_))
                          refine CJ.cond Z (fun hb => ?_) (fun hb => ?_)
                          · replace H := pif_t (of_decide_eq_true hb) H
                            refine CJ.skip (EJ.next ?_)
                            refine CJ.seq ?_
                            refine CJ.block ?_
                            refine CJ.seq ?_
                            obtain ⟨j424, H, K424⟩ := pbind H
                            refine CJ.cut (fun F w1 => ∃ (y88 : Bool) , (some y88 : Option Bool) = some j424 ∧ F = [(5, .pointer (some ⟨b5, 0, none⟩)), (6, .slice A7 t6.length c8), (9, .slice A14 t13.1.length c15), (13, .slice A20 t19.1.length c21), (17, .slice A26 t25.1.length c27), (19, .int .i64 y35), (20, .int .i64 y36), (23, .slice A44 t43.1.length c45), (25, .int .i64 t47.1), (41, .int .i64 t84.2), (42, .int .i64 t85.1), (44, .int .i64 y87), (420, .bool y88)] ∧ St w no w1 [box b5 (cPasture.enc t4) 31, rowC cStake A7 c8 51 t6, rowC (carr 2 (ci .i64)) A14 c15 61 t13.1, rowC cSpot A20 c21 49 t19.1, rowC cSpot A26 c27 49 t25.1, rowC cSpot A44 c45 49 t43.1] [roC (ci .u8) Aa0 ca0 a0, roC (ci .u8) Aa1 ca1 a1, envC Tryz.prog 0]) ?_ ?_
                            · skip
                              refine CJ.region ?_
                              refine OJ.pures oU 4 Z ?_
                              refine OJ.split (t := 417) Z (fun hb => ?_) (fun hb => ?_)
                              · replace H := pif_t (of_decide_eq_true hb) H
                                refine OJ.pures oU 3 Z ?_
                                refine OJ.nil ?_
                                exact EJ.meet (F' := [(5, .pointer (some ⟨b5, 0, none⟩)), (6, .slice A7 t6.length c8), (9, .slice A14 t13.1.length c15), (13, .slice A20 t19.1.length c21), (17, .slice A26 t25.1.length c27), (19, .int .i64 y35), (20, .int .i64 y36), (23, .slice A44 t43.1.length c45), (25, .int .i64 t47.1), (41, .int .i64 t84.2), (42, .int .i64 t85.1), (44, .int .i64 y87), (420, .bool true)]) ⟨Z, Z, Z, Z, Z, Z, Z, Z, Z, Z, Z, Z, Z, trivial⟩ ⟨true, H, Z, hS.pick [0, 1, 2, 3, 4, 5] [0, 1, 2] Z⟩
                              · replace H := pif_f (of_decide_eq_false hb) H
                                refine OJ.pures oU 3 Z ?_
                                refine OJ.nil ?_
                                exact EJ.meet (F' := [(5, .pointer (some ⟨b5, 0, none⟩)), (6, .slice A7 t6.length c8), (9, .slice A14 t13.1.length c15), (13, .slice A20 t19.1.length c21), (17, .slice A26 t25.1.length c27), (19, .int .i64 y35), (20, .int .i64 y36), (23, .slice A44 t43.1.length c45), (25, .int .i64 t47.1), (41, .int .i64 t84.2), (42, .int .i64 t85.1), (44, .int .i64 y87), (420, .bool (decide (t84.2 ≠ 0)))]) ⟨Z, Z, Z, Z, Z, Z, Z, Z, Z, Z, Z, Z, Z, trivial⟩ ⟨(decide (t84.2 ≠ 0)), H, Z, hS.pick [0, 1, 2, 3, 4, 5] [0, 1, 2] Z⟩
                            · rintro F w1 ⟨y88, he, rfl, hS⟩
                              obtain rfl := Option.some.inj he
                              have H := K424
                              refine CJ.cond Z (fun hb => ?_) (fun hb => ?_)
                              · replace H := pif_t hb H
                                refine CJ.exit (EJ.skE (EJ.hit (EJ.next ?_)))
                                refine CJ.region ?_
                                refine OJ.pures oU 3 Z ?_
                                refine OJ.nil ?_
                                exact EJ.round k (F' := [(5, .pointer (some ⟨b5, 0, none⟩)), (6, .slice A7 t6.length c8), (9, .slice A14 t13.1.length c15), (13, .slice A20 t19.1.length c21), (17, .slice A26 t25.1.length c27), (19, .int .i64 y35), (20, .int .i64 y36), (23, .slice A44 t43.1.length c45), (25, .int .i64 t47.1), (41, .int .i64 t84.2), (42, .int .i64 t85.1), (44, .int .i64 (IntKind.i64.wrap (y87 + 1)))]) ⟨Z, Z, Z, Z, Z, Z, Z, Z, Z, Z, Z, Z, trivial⟩ (Nat.lt_succ_self _) ⟨(IntKind.i64.wrap (y87 + 1)), Z, hS.pick [0, 1, 2, 3, 4, 5] [0, 1, 2] Z, H⟩
                              · replace H := pifb_f hb H
                                refine CJ.skip (EJ.next ?_)
                                refine CJ.seq ?_
                                refine CJ.draw [] [0, 1, 2, 3, 4, 5, 6, 7, 9, 10, 11, 12, 8, 13, 14, 15, 16, 17, 18] mixed (by kernel_rfl) hS fun w1 hS => ?_
                                refine DJ.st Z Z Z Z Z (SR.load Z Z (fun w' hx => ldE oU oI Z Z Z (CA.ext (hS.cells (i := 0) Z) hx) Z)) ?_
                                refine DJ.pures oU 2 Z ?_
                                obtain ⟨t89, ht89, H⟩ := pbind H
                                obtain ⟨ad89, e89⟩ := (hS.rd (i := 1) rfl).some' ht89
                                refine DJ.st Z Z Z Z Z (SR.idxS oU oI Z Z Z Z e89 Z (getI_some ht89).1) ?_
                                refine DJ.st Z Z Z Z Z (SR.fieldAddr oU oI Z Z Z Z Z Z) ?_
                                refine DJ.st Z Z Z Z Z (SR.load Z Z (fun w' hx => ldN oU oI Z Z Z (CA.ext (CA.sub ((hS.rd (i := 1) Z).at_ e89 ht89) 0) hx) (cSpot.len _) Z)) ?_
                                refine DJ.pures oU 4 Z ?_
                                obtain ⟨t90, ht90, H⟩ := pbind H
                                obtain ⟨ad90, e90⟩ := (hS.rd (i := 1) rfl).some' ht90
                                refine DJ.st Z Z Z Z Z (SR.idxS oU oI Z Z Z Z e90 Z (getI_some ht90).1) ?_
                                refine DJ.st Z Z Z Z Z (SR.load Z Z (fun w' hx => ldE oU oI Z Z Z (CA.ext ((hS.rd (i := 1) Z).at_ e90 ht90) hx) Z)) ?_
                                refine DJ.ef Z Z Z Z Z ((SR.build (C := cStake) oU oI Z Z Z (zs := [.int .i8 0, .int .i8 0, .int .i16 0]) Z Z Z (⟨t89.At, IntKind.i16.wrap t85.1⟩ : Stake) Z).ef) ?_
                                rintro _ w1 ⟨rfl, hx⟩
                                replace hS := hS.grow hx
                                obtain ⟨t91, ht91, H⟩ := pbind H
                                refine DJ.callF rfl rfl rfl rfl rfl rfl rfl hb25 rfl (impl_CommonOf.c k _ t4 (⟨t89.At, IntKind.i16.wrap t85.1⟩ : Stake) t90 _ ht91) (by rintro v w' ⟨A92, c93, rfl, hs⟩; exact hs.ext) ?_
                                rintro _ w1 ⟨A92, c93, rfl, hs⟩
                                replace hS := hS.addN hs
                                have hS : St w no w1 [box b5 (cPasture.enc t4) 31, rowC cStake A7 c8 51 t6, rowC (carr 2 (ci .i64)) A14 c15 61 t13.1, rowC cSpot A20 c21 49 t19.1, rowC cSpot A26 c27 49 t25.1, rowC cSpot A44 c45 49 t43.1, rowC cSpot A92 c93 49 t91.1] [roC (ci .u8) Aa0 ca0 a0, roC (ci .u8) Aa1 ca1 a1, envC Tryz.prog 0] := hS
                                refine DJ.pures oU 5 Z ?_
                                refine DJ.nil (EJ.next ?_)
                                refine CJ.seq (CJ.region ?_)
                                refine OJ.pures oU 3 Z ?_
                                refine OJ.split (t := 440) Z (fun hb => ?_) (fun hb => ?_)
                                · replace H := pif_t (of_decide_eq_true hb) H
                                  refine OJ.pures oU 4 Z (OJ.nil (EJ.next ?_))
                                  refine CJ.condT Z ?_
                                  refine CJ.seq (CJ.region ?_)
                                  refine OJ.pures oU 1 Z (OJ.nil (EJ.next ?_))
                                  refine CJ.ret (EJ.bkR (EJ.skR (EJ.skR (EJ.bkR (EJ.skR (EJ.skR (EJ.bkR (EJ.skR (EJ.skR (EJ.bkR (EJ.skR (EJ.skR (?_)))))))))))))
                                  first | (obtain rfl := Option.some.inj H; have H := K421) | (obtain ⟨q421, H2, e421⟩ := pbind H; obtain rfl := Option.some.inj e421; obtain rfl := Option.some.inj K421; have H := H2)
                                  first | (obtain rfl := Option.some.inj H; have H := K403) | (obtain ⟨q403, H2, e403⟩ := pbind H; obtain rfl := Option.some.inj e403; obtain rfl := Option.some.inj K403; have H := H2)
                                  first | (obtain rfl := Option.some.inj H; have H := K291) | (obtain ⟨q291, H2, e291⟩ := pbind H; obtain rfl := Option.some.inj e291; obtain rfl := Option.some.inj K291; have H := H2)
                                  obtain rfl := Option.some.inj H
                                  exact EJ.fin Z (.tmp Z .nil) ⟨Z, hS.ext⟩
                                · replace H := pif_f (of_decide_eq_false hb) H
                                  refine OJ.pures oU 4 Z (OJ.nil (EJ.next ?_))
                                  refine CJ.cond Z (fun hb => ?_) (fun hb => ?_)
                                  · replace H := pif_t (of_decide_eq_true hb) H
                                    refine CJ.seq (CJ.region ?_)
                                    refine OJ.pures oU 1 Z (OJ.nil (EJ.next ?_))
                                    refine CJ.ret (EJ.bkR (EJ.skR (EJ.skR (EJ.bkR (EJ.skR (EJ.skR (EJ.bkR (EJ.skR (EJ.skR (EJ.bkR (EJ.skR (EJ.skR (?_)))))))))))))
                                    first | (obtain rfl := Option.some.inj H; have H := K421) | (obtain ⟨q421, H2, e421⟩ := pbind H; obtain rfl := Option.some.inj e421; obtain rfl := Option.some.inj K421; have H := H2)
                                    first | (obtain rfl := Option.some.inj H; have H := K403) | (obtain ⟨q403, H2, e403⟩ := pbind H; obtain rfl := Option.some.inj e403; obtain rfl := Option.some.inj K403; have H := H2)
                                    first | (obtain rfl := Option.some.inj H; have H := K291) | (obtain ⟨q291, H2, e291⟩ := pbind H; obtain rfl := Option.some.inj e291; obtain rfl := Option.some.inj K291; have H := H2)
                                    obtain rfl := Option.some.inj H
                                    exact EJ.fin Z (.tmp Z .nil) ⟨Z, hS.ext⟩
                                  · replace H := pif_f (of_decide_eq_false hb) H
                                    refine CJ.skip (EJ.blk (EJ.next ?_))
                                    refine CJ.region ?_
                                    refine OJ.pures oU 3 Z ?_
                                    refine OJ.nil ?_
                                    exact EJ.round k (F' := [(5, .pointer (some ⟨b5, 0, none⟩)), (6, .slice A7 t6.length c8), (9, .slice A14 t13.1.length c15), (13, .slice A20 t19.1.length c21), (17, .slice A26 t25.1.length c27), (19, .int .i64 y35), (20, .int .i64 y36), (23, .slice A44 t43.1.length c45), (25, .int .i64 t47.1), (41, .int .i64 t84.2), (42, .int .i64 t85.1), (44, .int .i64 (IntKind.i64.wrap (y87 + 1)))]) ⟨Z, Z, Z, Z, Z, Z, Z, Z, Z, Z, Z, Z, trivial⟩ (Nat.lt_succ_self _) ⟨(IntKind.i64.wrap (y87 + 1)), Z, hS.pick [0, 1, 2, 3, 4, 5] [0, 1, 2] Z, H⟩
                          · replace H := pif_f (of_decide_eq_false hb) H
                            refine CJ.exit (EJ.skE (EJ.skE (EJ.hit (?_))))
                            exact EJ.meet (F' := [(5, .pointer (some ⟨b5, 0, none⟩)), (6, .slice A7 t6.length c8), (9, .slice A14 t13.1.length c15), (13, .slice A20 t19.1.length c21), (17, .slice A26 t25.1.length c27), (19, .int .i64 y35), (20, .int .i64 y36), (23, .slice A44 t43.1.length c45), (25, .int .i64 t47.1), (41, .int .i64 t84.2), (42, .int .i64 t85.1)]) ⟨Z, Z, Z, Z, Z, Z, Z, Z, Z, Z, Z, trivial⟩ ⟨H, Z, hS.pick [0, 1, 2, 3, 4, 5] [0, 1, 2] Z⟩
                      · rintro F w1 ⟨he, rfl, hS⟩
                        obtain rfl := Option.some.inj he
                        have H := K421
                        refine EJ.next ?_
                        obtain ⟨j425, H, K425⟩ := pbind H
                        refine CJ.cut (fun F w1 => (some (Sum.inr ()) : Option (((Bool ⊕ Int) ⊕ Int) ⊕ Unit)) = some j425 ∧ F = [(5, .pointer (some ⟨b5, 0, none⟩)), (6, .slice A7 t6.length c8), (9, .slice A14 t13.1.length c15), (13, .slice A20 t19.1.length c21), (17, .slice A26 t25.1.length c27), (19, .int .i64 y35), (20, .int .i64 y36), (23, .slice A44 t43.1.length c45), (25, .int .i64 t47.1)] ∧ St w no w1 [box b5 (cPasture.enc t4) 31, rowC cStake A7 c8 51 t6, rowC (carr 2 (ci .i64)) A14 c15 61 t13.1, rowC cSpot A20 c21 49 t19.1, rowC cSpot A26 c27 49 t25.1, rowC cSpot A44 c45 49 t43.1] [roC (ci .u8) Aa0 ca0 a0, roC (ci .u8) Aa1 ca1 a1, envC Tryz.prog 0]) ?_ ?_
                        · skip
                          obtain ⟨j428, H, K428⟩ := pbind H
                          refine CJ.cut (fun F w1 => ∃ (y94 : Bool) , (some y94 : Option Bool) = some j428 ∧ F = [(5, .pointer (some ⟨b5, 0, none⟩)), (6, .slice A7 t6.length c8), (9, .slice A14 t13.1.length c15), (13, .slice A20 t19.1.length c21), (17, .slice A26 t25.1.length c27), (19, .int .i64 y35), (20, .int .i64 y36), (23, .slice A44 t43.1.length c45), (25, .int .i64 t47.1), (42, .int .i64 t85.1), (450, .bool y94)] ∧ St w no w1 [box b5 (cPasture.enc t4) 31, rowC cStake A7 c8 51 t6, rowC (carr 2 (ci .i64)) A14 c15 61 t13.1, rowC cSpot A20 c21 49 t19.1, rowC cSpot A26 c27 49 t25.1, rowC cSpot A44 c45 49 t43.1] [roC (ci .u8) Aa0 ca0 a0, roC (ci .u8) Aa1 ca1 a1, envC Tryz.prog 0]) ?_ ?_
                          · skip
                            refine CJ.region ?_
                            refine OJ.pures oU 3 Z ?_
                            refine OJ.split (t := 447) Z (fun hb => ?_) (fun hb => ?_)
                            · replace H := pif_t (of_decide_eq_true hb) H
                              refine OJ.pures oU 3 Z ?_
                              refine OJ.nil ?_
                              exact EJ.meet (F' := [(5, .pointer (some ⟨b5, 0, none⟩)), (6, .slice A7 t6.length c8), (9, .slice A14 t13.1.length c15), (13, .slice A20 t19.1.length c21), (17, .slice A26 t25.1.length c27), (19, .int .i64 y35), (20, .int .i64 y36), (23, .slice A44 t43.1.length c45), (25, .int .i64 t47.1), (42, .int .i64 t85.1), (450, .bool (decide (t85.1 < 200)))]) ⟨Z, Z, Z, Z, Z, Z, Z, Z, Z, Z, Z, trivial⟩ ⟨(decide (t85.1 < 200)), H, Z, hS.pick [0, 1, 2, 3, 4, 5] [0, 1, 2] Z⟩
                            · replace H := pif_f (of_decide_eq_false hb) H
                              refine OJ.pures oU 3 Z ?_
                              refine OJ.nil ?_
                              exact EJ.meet (F' := [(5, .pointer (some ⟨b5, 0, none⟩)), (6, .slice A7 t6.length c8), (9, .slice A14 t13.1.length c15), (13, .slice A20 t19.1.length c21), (17, .slice A26 t25.1.length c27), (19, .int .i64 y35), (20, .int .i64 y36), (23, .slice A44 t43.1.length c45), (25, .int .i64 t47.1), (42, .int .i64 t85.1), (450, .bool false)]) ⟨Z, Z, Z, Z, Z, Z, Z, Z, Z, Z, Z, trivial⟩ ⟨false, H, Z, hS.pick [0, 1, 2, 3, 4, 5] [0, 1, 2] Z⟩
                          · rintro F w1 ⟨y94, he, rfl, hS⟩
                            obtain rfl := Option.some.inj he
                            have H := K428
                            refine CJ.cond Z (fun hb => ?_) (fun hb => ?_)
                            · replace H := pif_t hb H
                              refine CJ.seq (CJ.region ?_)
                              refine OJ.pures oU 1 Z (OJ.nil (EJ.next ?_))
                              refine CJ.seq ?_
                              refine CJ.seq (CJ.region ?_)
                              refine OJ.pures oU 1 Z (OJ.nil (EJ.next ?_))
                              obtain ⟨j429, H, K429⟩ := pbind H
                              refine CJ.cut1 (fun F w1 => ∃ (y95 : Bool) , (some y95 : Option Bool) = some j429 ∧ F = [(5, .pointer (some ⟨b5, 0, none⟩)), (6, .slice A7 t6.length c8), (9, .slice A14 t13.1.length c15), (13, .slice A20 t19.1.length c21), (17, .slice A26 t25.1.length c27), (19, .int .i64 y35), (20, .int .i64 y36), (23, .slice A44 t43.1.length c45), (25, .int .i64 t47.1), (47, .bool y95)] ∧ St w no w1 [box b5 (cPasture.enc t4) 31, rowC cStake A7 c8 51 t6, rowC (carr 2 (ci .i64)) A14 c15 61 t13.1, rowC cSpot A20 c21 49 t19.1, rowC cSpot A26 c27 49 t25.1, rowC cSpot A44 c45 49 t43.1] [roC (ci .u8) Aa0 ca0 a0, roC (ci .u8) Aa1 ca1 a1, envC Tryz.prog 0]) ?_ ?_
                              · skip
                                refine CJ.block ?_
                                refine CJ.loop (fun k F w1 => ∃ (y96 : Bool) (y97 : Int), F = [(5, .pointer (some ⟨b5, 0, none⟩)), (6, .slice A7 t6.length c8), (9, .slice A14 t13.1.length c15), (13, .slice A20 t19.1.length c21), (17, .slice A26 t25.1.length c27), (19, .int .i64 y35), (20, .int .i64 y36), (23, .slice A44 t43.1.length c45), (25, .int .i64 t47.1), (42, .int .i64 t85.1), (47, .bool y96), (48, .int .i64 y97)] ∧ St w no w1 [box b5 (cPasture.enc t4) 31, rowC cStake A7 c8 51 t6, rowC (carr 2 (ci .i64)) A14 c15 61 t13.1, rowC cSpot A20 c21 49 t19.1, rowC cSpot A26 c27 49 t25.1, rowC cSpot A44 c45 49 t43.1] [roC (ci .u8) Aa0 ca0 a0, roC (ci .u8) Aa1 ca1 a1, envC Tryz.prog 0] ∧ laws_FnStakes.l5 t4 t6 y36 t85 k y96 y97 = some j429) k (F' := [(5, .pointer (some ⟨b5, 0, none⟩)), (6, .slice A7 t6.length c8), (9, .slice A14 t13.1.length c15), (13, .slice A20 t19.1.length c21), (17, .slice A26 t25.1.length c27), (19, .int .i64 y35), (20, .int .i64 y36), (23, .slice A44 t43.1.length c45), (25, .int .i64 t47.1), (42, .int .i64 t85.1), (47, .bool false), (48, .int .i64 0)]) ⟨Z, Z, Z, Z, Z, Z, Z, Z, Z, Z, Z, Z, trivial⟩ ⟨false, 0, Z, hS.pick [0, 1, 2, 3, 4, 5] [0, 1, 2] Z, H⟩ ?_
                                rintro k F w1 ⟨y96, y97, rfl, hS, H⟩
                                cases k with
                                | zero => rw [laws_FnStakes.l5] at H; cases H
                                | succ k =>
                                  rw [laws_FnStakes.l5] at H
                                  refine CJ.seq ?_
                                  refine CJ.seq (CJ.region ?_)
                                  refine OJ.pures oU 4 Z (OJ.nil (EJ.next ?_))
                                  refine CJ.cond Z (fun hb => ?_) (fun hb => ?_)
                                  · replace H := pif_t (of_decide_eq_true hb) H
                                    refine CJ.skip (EJ.next ?_)
                                    refine CJ.seq ?_
                                    refine CJ.block ?_
                                    refine CJ.seq ?_
                                    refine CJ.draw [] [0, 1, 2, 3, 4, 5, 6, 7, 8, 10, 11, 12, 13, 9, 14, 15, 16, 17, 18, 19] mixed (by kernel_rfl) hS fun w1 hS => ?_
                                    refine DJ.st Z Z Z Z Z (SR.load Z Z (fun w' hx => ldE oU oI Z Z Z (CA.ext (hS.cells (i := 0) Z) hx) Z)) ?_
                                    refine DJ.pures oU 2 Z ?_
                                    obtain ⟨t98, ht98, H⟩ := pbind H
                                    obtain ⟨ad98, e98⟩ := (hS.rd (i := 1) rfl).some' ht98
                                    refine DJ.st Z Z Z Z Z (SR.idxS oU oI Z Z Z Z e98 Z (getI_some ht98).1) ?_
                                    refine DJ.st Z Z Z Z Z (SR.fieldAddr oU oI Z Z Z Z Z Z) ?_
                                    refine DJ.st Z Z Z Z Z (SR.load Z Z (fun w' hx => ldN oU oI Z Z Z (CA.ext (CA.sub ((hS.rd (i := 1) Z).at_ e98 ht98) 0) hx) (cSpot.len _) Z)) ?_
                                    refine DJ.pures oU 5 Z ?_
                                    obtain ⟨t99, ht99, H⟩ := pbind H
                                    obtain ⟨ad99, e99⟩ := (hS.rd (i := 1) rfl).some' ht99
                                    refine DJ.st Z Z Z Z Z (SR.idxS oU oI Z Z Z Z e99 Z (getI_some ht99).1) ?_
                                    refine DJ.st Z Z Z Z Z (SR.load Z Z (fun w' hx => ldE oU oI Z Z Z (CA.ext ((hS.rd (i := 1) Z).at_ e99 ht99) hx) Z)) ?_
                                    refine DJ.ef Z Z Z Z Z ((SR.build (C := cStake) oU oI Z Z Z (zs := [.int .i8 0, .int .i8 0, .int .i16 0]) Z Z Z (⟨t98.At, IntKind.i16.wrap ((IntKind.i16.wrap t85.1) + 1)⟩ : Stake) Z).ef) ?_
                                    rintro _ w1 ⟨rfl, hx⟩
                                    replace hS := hS.grow hx
                                    obtain ⟨t100, ht100, H⟩ := pbind H
                                    refine DJ.callF rfl rfl rfl rfl rfl rfl rfl hb26 rfl (spec_CommonOf.c k _ t4 (⟨t98.At, IntKind.i16.wrap ((IntKind.i16.wrap t85.1) + 1)⟩ : Stake) t99 _ ht100) (by rintro v w' ⟨A101, c102, rfl, hs⟩; exact hs.ext) ?_
                                    rintro _ w1 ⟨A101, c102, rfl, hs⟩
                                    replace hS := hS.addN hs
                                    have hS : St w no w1 [box b5 (cPasture.enc t4) 31, rowC cStake A7 c8 51 t6, rowC (carr 2 (ci .i64)) A14 c15 61 t13.1, rowC cSpot A20 c21 49 t19.1, rowC cSpot A26 c27 49 t25.1, rowC cSpot A44 c45 49 t43.1, rowC cSpot A101 c102 49 t100.1] [roC (ci .u8) Aa0 ca0 a0, roC (ci .u8) Aa1 ca1 a1, envC Tryz.prog 0] := hS
                                    refine DJ.pures oU 5 Z ?_
                                    refine DJ.nil (EJ.next ?_)
                                    refine CJ.region ?_
                                    refine OJ.pures oU 2 Z ?_
                                    refine OJ.split (t := 476) Z (fun hb => ?_) (fun hb => ?_)
                                    · replace H := pif_t hb H
                                      refine OJ.pures oU 14 Z ?_
                                      refine OJ.nil (EJ.blk (EJ.next ?_))
                                      refine CJ.region ?_
                                      refine OJ.pures oU 3 Z ?_
                                      refine OJ.nil ?_
                                      exact EJ.round k (F' := [(5, .pointer (some ⟨b5, 0, none⟩)), (6, .slice A7 t6.length c8), (9, .slice A14 t13.1.length c15), (13, .slice A20 t19.1.length c21), (17, .slice A26 t25.1.length c27), (19, .int .i64 y35), (20, .int .i64 y36), (23, .slice A44 t43.1.length c45), (25, .int .i64 t47.1), (42, .int .i64 t85.1), (47, .bool true), (48, .int .i64 (IntKind.i64.wrap (y97 + 1)))]) ⟨Z, Z, Z, Z, Z, Z, Z, Z, Z, Z, Z, Z, trivial⟩ (Nat.lt_succ_self _) ⟨true, (IntKind.i64.wrap (y97 + 1)), Z, hS.pick [0, 1, 2, 3, 4, 5] [0, 1, 2] Z, H⟩
                                    · replace H := pifb_f hb H
                                      refine OJ.pures oU 4 Z ?_
                                      refine OJ.split (t := 480) Z (fun hb => ?_) (fun hb => ?_)
                                      · replace H := pif_t (of_decide_eq_true hb) H
                                        refine OJ.pures oU 4 Z ?_
                                        refine OJ.split (t := 484) Z (fun hb => ?_) (fun hb => ?_)
                                        · replace H := pif_t (of_decide_eq_true hb) H
                                          refine OJ.pures oU 6 Z ?_
                                          refine OJ.nil (EJ.blk (EJ.next ?_))
                                          refine CJ.region ?_
                                          refine OJ.pures oU 3 Z ?_
                                          refine OJ.nil ?_
                                          exact EJ.round k (F' := [(5, .pointer (some ⟨b5, 0, none⟩)), (6, .slice A7 t6.length c8), (9, .slice A14 t13.1.length c15), (13, .slice A20 t19.1.length c21), (17, .slice A26 t25.1.length c27), (19, .int .i64 y35), (20, .int .i64 y36), (23, .slice A44 t43.1.length c45), (25, .int .i64 t47.1), (42, .int .i64 t85.1), (47, .bool (decide (0 < (t100.1.length : Int)))), (48, .int .i64 (IntKind.i64.wrap (y97 + 1)))]) ⟨Z, Z, Z, Z, Z, Z, Z, Z, Z, Z, Z, Z, trivial⟩ (Nat.lt_succ_self _) ⟨(decide (0 < (t100.1.length : Int))), (IntKind.i64.wrap (y97 + 1)), Z, hS.pick [0, 1, 2, 3, 4, 5] [0, 1, 2] Z, H⟩
                                        · replace H := pif_f (of_decide_eq_false hb) H
                                          refine OJ.pures oU 6 Z ?_
                                          refine OJ.nil (EJ.blk (EJ.next ?_))
                                          refine CJ.region ?_
                                          refine OJ.pures oU 3 Z ?_
                                          refine OJ.nil ?_
                                          exact EJ.round k (F' := [(5, .pointer (some ⟨b5, 0, none⟩)), (6, .slice A7 t6.length c8), (9, .slice A14 t13.1.length c15), (13, .slice A20 t19.1.length c21), (17, .slice A26 t25.1.length c27), (19, .int .i64 y35), (20, .int .i64 y36), (23, .slice A44 t43.1.length c45), (25, .int .i64 t47.1), (42, .int .i64 t85.1), (47, .bool false), (48, .int .i64 (IntKind.i64.wrap (y97 + 1)))]) ⟨Z, Z, Z, Z, Z, Z, Z, Z, Z, Z, Z, Z, trivial⟩ (Nat.lt_succ_self _) ⟨false, (IntKind.i64.wrap (y97 + 1)), Z, hS.pick [0, 1, 2, 3, 4, 5] [0, 1, 2] Z, H⟩
                                      · replace H := pif_f (of_decide_eq_false hb) H
                                        refine OJ.pures oU 10 Z ?_
                                        refine OJ.nil (EJ.blk (EJ.next ?_))
                                        refine CJ.region ?_
                                        refine OJ.pures oU 3 Z ?_
                                        refine OJ.nil ?_
                                        exact EJ.round k (F' := [(5, .pointer (some ⟨b5, 0, none⟩)), (6, .slice A7 t6.length c8), (9, .slice A14 t13.1.length c15), (13, .slice A20 t19.1.length c21), (17, .slice A26 t25.1.length c27), (19, .int .i64 y35), (20, .int .i64 y36), (23, .slice A44 t43.1.length c45), (25, .int .i64 t47.1), (42, .int .i64 t85.1), (47, .bool false), (48, .int .i64 (IntKind.i64.wrap (y97 + 1)))]) ⟨Z, Z, Z, Z, Z, Z, Z, Z, Z, Z, Z, Z, trivial⟩ (Nat.lt_succ_self _) ⟨false, (IntKind.i64.wrap (y97 + 1)), Z, hS.pick [0, 1, 2, 3, 4, 5] [0, 1, 2] Z, H⟩
                                  · replace H := pif_f (of_decide_eq_false hb) H
                                    refine CJ.exit (EJ.skE (EJ.skE (EJ.hit (?_))))
                                    exact EJ.meet (F' := [(5, .pointer (some ⟨b5, 0, none⟩)), (6, .slice A7 t6.length c8), (9, .slice A14 t13.1.length c15), (13, .slice A20 t19.1.length c21), (17, .slice A26 t25.1.length c27), (19, .int .i64 y35), (20, .int .i64 y36), (23, .slice A44 t43.1.length c45), (25, .int .i64 t47.1), (47, .bool y96)]) ⟨Z, Z, Z, Z, Z, Z, Z, Z, Z, Z, trivial⟩ ⟨y96, H, Z, hS.pick [0, 1, 2, 3, 4, 5] [0, 1, 2] Z⟩
                              · rintro F w1 ⟨y95, he, rfl, hS⟩
                                obtain rfl := Option.some.inj he
                                have H := K429
                                refine EJ.next ?_
                                refine CJ.seq (CJ.region ?_)
                                refine OJ.pures oU 2 Z (OJ.nil (EJ.next ?_))
                                refine CJ.cond Z (fun hb => ?_) (fun hb => ?_)
                                · replace H := pif_t hb H
                                  refine CJ.seq (CJ.region ?_)
                                  refine OJ.pures oU 1 Z (OJ.nil (EJ.next ?_))
                                  refine CJ.ret (EJ.skR (EJ.bkR (EJ.skR (EJ.skR (EJ.bkR (EJ.skR (EJ.skR (?_))))))))
                                  first | (obtain rfl := Option.some.inj H; have H := K425) | (obtain ⟨q425, H2, e425⟩ := pbind H; obtain rfl := Option.some.inj e425; obtain rfl := Option.some.inj K425; have H := H2)
                                  first | (obtain rfl := Option.some.inj H; have H := K403) | (obtain ⟨q403, H2, e403⟩ := pbind H; obtain rfl := Option.some.inj e403; obtain rfl := Option.some.inj K403; have H := H2)
                                  first | (obtain rfl := Option.some.inj H; have H := K291) | (obtain ⟨q291, H2, e291⟩ := pbind H; obtain rfl := Option.some.inj e291; obtain rfl := Option.some.inj K291; have H := H2)
                                  obtain rfl := Option.some.inj H
                                  exact EJ.fin Z (.tmp Z .nil) ⟨Z, hS.ext⟩
                                · replace H := pifb_f hb H
                                  refine CJ.skip (?_)
                                  exact EJ.meet (F' := [(5, .pointer (some ⟨b5, 0, none⟩)), (6, .slice A7 t6.length c8), (9, .slice A14 t13.1.length c15), (13, .slice A20 t19.1.length c21), (17, .slice A26 t25.1.length c27), (19, .int .i64 y35), (20, .int .i64 y36), (23, .slice A44 t43.1.length c45), (25, .int .i64 t47.1)]) ⟨Z, Z, Z, Z, Z, Z, Z, Z, Z, trivial⟩ ⟨H, Z, hS.pick [0, 1, 2, 3, 4, 5] [0, 1, 2] Z⟩
                            · replace H := pifb_f hb H
                              refine CJ.skip (?_)
                              exact EJ.meet (F' := [(5, .pointer (some ⟨b5, 0, none⟩)), (6, .slice A7 t6.length c8), (9, .slice A14 t13.1.length c15), (13, .slice A20 t19.1.length c21), (17, .slice A26 t25.1.length c27), (19, .int .i64 y35), (20, .int .i64 y36), (23, .slice A44 t43.1.length c45), (25, .int .i64 t47.1)]) ⟨Z, Z, Z, Z, Z, Z, Z, Z, Z, trivial⟩ ⟨H, Z, hS.pick [0, 1, 2, 3, 4, 5] [0, 1, 2] Z⟩
                        · rintro F w1 ⟨he, rfl, hS⟩
                          obtain rfl := Option.some.inj he
                          have H := K425
                          refine CJ.seq ?_
                          refine CJ.draw [] [0, 1, 2, 3, 4, 5, 6, 7, 8, 9, 10, 11, 12] mixed (by kernel_rfl) hS fun w1 hS => ?_
                          refine DJ.st Z Z Z Z Z (SR.load Z Z (fun w' hx => ldE oU oI Z Z Z (CA.ext (hS.cells (i := 0) Z) hx) Z)) ?_
                          refine DJ.pures oU 2 Z ?_
                          obtain ⟨t103, ht103, H⟩ := pbind H
                          obtain ⟨ad103, e103⟩ := (hS.rd (i := 1) rfl).some' ht103
                          refine DJ.st Z Z Z Z Z (SR.idxS oU oI Z Z Z Z e103 Z (getI_some ht103).1) ?_
                          refine DJ.st Z Z Z Z Z (SR.fieldAddr oU oI Z Z Z Z Z Z) ?_
                          refine DJ.st Z Z Z Z Z (SR.load Z Z (fun w' hx => ldN oU oI Z Z Z (CA.ext (CA.sub ((hS.rd (i := 1) Z).at_ e103 ht103) 0) hx) (cSpot.len _) Z)) ?_
                          refine DJ.pures oU 1 Z ?_
                          obtain ⟨t104, ht104, H⟩ := pbind H
                          refine DJ.callF rfl rfl rfl rfl rfl rfl rfl hb30 rfl (impl_LeastReach.c k _ t4 t103.At t47.1 _ ht104) (by rintro v w' ⟨rfl, hs⟩; exact hs) ?_
                          rintro _ w1 ⟨rfl, hs⟩
                          replace hS := hS.grow hs
                          refine DJ.pures oU 5 Z ?_
                          refine DJ.nil (EJ.next ?_)
                          refine CJ.seq ?_
                          refine CJ.seq (CJ.region ?_)
                          refine OJ.pures oU 3 Z ?_
                          refine OJ.split (t := 505) Z (fun hb => ?_) (fun hb => ?_)
                          · replace H := pif_t (of_decide_eq_true hb) H
                            refine OJ.pures oU 9 Z (OJ.nil (EJ.next ?_))
                            refine CJ.condT Z ?_
                            refine CJ.seq (CJ.region ?_)
                            refine OJ.pures oU 1 Z (OJ.nil (EJ.next ?_))
                            refine CJ.ret (EJ.skR (EJ.bkR (EJ.skR (EJ.skR (EJ.bkR (EJ.skR (EJ.skR (?_))))))))
                            first | (obtain rfl := Option.some.inj H; have H := K403) | (obtain ⟨q403, H2, e403⟩ := pbind H; obtain rfl := Option.some.inj e403; obtain rfl := Option.some.inj K403; have H := H2)
                            first | (obtain rfl := Option.some.inj H; have H := K291) | (obtain ⟨q291, H2, e291⟩ := pbind H; obtain rfl := Option.some.inj e291; obtain rfl := Option.some.inj K291; have H := H2)
                            obtain rfl := Option.some.inj H
                            exact EJ.fin Z (.tmp Z .nil) ⟨Z, hS.ext⟩
                          · replace H := pif_f (of_decide_eq_false hb) H
                            refine OJ.pures oU 3 Z ?_
                            obtain ⟨t105, ht105, H⟩ := pbind H
                            obtain ⟨ad105, e105⟩ := (hS.rd (i := 1) rfl).some' ht105
                            refine OJ.st Z Z Z (SR.idxS oU oI Z Z Z Z e105 Z (getI_some ht105).1) ?_
                            refine OJ.st Z Z Z (SR.fieldAddr oU oI Z Z Z Z Z Z) ?_
                            refine OJ.st Z Z Z (SR.load Z Z (fun w' hx => ld1 oU Z Z (CA.ext (CA.sub ((hS.rd (i := 1) Z).at_ e105 ht105) 2) hx) Z)) ?_
                            refine OJ.pures oU 3 Z (OJ.nil (EJ.next ?_))
                            refine CJ.cond Z (fun hb => ?_) (fun hb => ?_)
                            · replace H := pif_t (of_decide_eq_true hb) H
                              refine CJ.seq (CJ.region ?_)
                              refine OJ.pures oU 1 Z (OJ.nil (EJ.next ?_))
                              refine CJ.ret (EJ.skR (EJ.bkR (EJ.skR (EJ.skR (EJ.bkR (EJ.skR (EJ.skR (?_))))))))
                              first | (obtain rfl := Option.some.inj H; have H := K403) | (obtain ⟨q403, H2, e403⟩ := pbind H; obtain rfl := Option.some.inj e403; obtain rfl := Option.some.inj K403; have H := H2)
                              first | (obtain rfl := Option.some.inj H; have H := K291) | (obtain ⟨q291, H2, e291⟩ := pbind H; obtain rfl := Option.some.inj e291; obtain rfl := Option.some.inj K291; have H := H2)
                              obtain rfl := Option.some.inj H
                              exact EJ.fin Z (.tmp Z .nil) ⟨Z, hS.ext⟩
                            · replace H := pif_f (of_decide_eq_false hb) H
                              refine CJ.skip (EJ.next ?_)
                              refine CJ.region ?_
                              refine OJ.pures oU 5 Z ?_
                              refine OJ.nil (EJ.blk (?_))
                              exact EJ.meet (F' := [(5, .pointer (some ⟨b5, 0, none⟩)), (6, .slice A7 t6.length c8), (9, .slice A14 t13.1.length c15), (13, .slice A20 t19.1.length c21), (17, .slice A26 t25.1.length c27), (19, .int .i64 (IntKind.i64.wrap (y35 + (t43.1.length : Int)))), (20, .int .i64 y36)]) ⟨Z, Z, Z, Z, Z, Z, Z, trivial⟩ ⟨(IntKind.i64.wrap (y35 + (t43.1.length : Int))), H, Z, hS.pick [0, 1, 2, 3, 4] [0, 1, 2] Z⟩
      · rintro F w1 ⟨y37, he, rfl, hS⟩
        obtain rfl := Option.some.inj he
        have H := K403
        refine CJ.region ?_
        refine OJ.pures oU 3 Z ?_
        refine OJ.nil ?_
        exact EJ.round k (F' := [(5, .pointer (some ⟨b5, 0, none⟩)), (6, .slice A7 t6.length c8), (9, .slice A14 t13.1.length c15), (13, .slice A20 t19.1.length c21), (17, .slice A26 t25.1.length c27), (19, .int .i64 y37), (20, .int .i64 (IntKind.i64.wrap (y36 + 1)))]) ⟨Z, Z, Z, Z, Z, Z, Z, trivial⟩ (Nat.lt_succ_self _) ⟨y37, (IntKind.i64.wrap (y36 + 1)), Z, hS.pick [0, 1, 2, 3, 4] [0, 1, 2] Z, H⟩
    · replace H := pif_f (of_decide_eq_false hb) H
      refine CJ.exit (EJ.skE (EJ.skE (EJ.hit (?_))))
      exact EJ.meet (F' := [(5, .pointer (some ⟨b5, 0, none⟩)), (13, .slice A20 t19.1.length c21), (17, .slice A26 t25.1.length c27), (19, .int .i64 y35)]) ⟨Z, Z, Z, Z, trivial⟩ ⟨y35, H, Z, hS.pick [0, 3, 4] [0, 1, 2] Z⟩
 rintro F w1 ⟨y34, he, rfl, hS⟩
 obtain rfl := Option.some.inj he
 have H := K291
 refine EJ.next ?_
 refine CJ.seq (CJ.region ?_)
 refine OJ.pures oU 4 Z ?_
 refine OJ.split (t := 522) Z (fun hb => ?_) (fun hb => ?_)
 ·replace H := pif_t (of_decide_eq_true hb) H
  refine OJ.pures oU 14 Z (OJ.nil (EJ.next ?_))
  refine CJ.ret (?_)
  obtain rfl := Option.some.inj H
  exact EJ.fin Z (.tmp Z .nil) ⟨Z, hS.ext⟩
 replace H := pif_f (of_decide_eq_false hb) H
 refine OJ.pures oU 4 Z ?_
 refine OJ.st Z Z Z (SR.fieldAddr oU oI Z Z Z Z Z Z) ?_
 refine OJ.st Z Z Z (SR.load Z Z (fun w' hx => ld1 oU Z Z (CA.ext (CA.fld (hS.cells (i := 0) Z) (mid_part (fe_Pasture_0 _) (fl_Pasture_0 _) ((ci .i8).len _))) hx) Z)) ?_
 refine OJ.pures oU 1 Z ?_
 refine OJ.st Z Z Z (SR.fieldAddr oU oI Z Z Z Z Z Z) ?_
 refine OJ.st Z Z Z (SR.load Z Z (fun w' hx => ld1 oU Z Z (CA.ext (CA.fld (hS.cells (i := 0) Z) (mid_part (fe_Pasture_1 _) (fl_Pasture_1 _) ((ci .i8).len _))) hx) Z)) ?_
 refine OJ.pures oU 5 Z (OJ.nil (EJ.next ?_))
 refine CJ.ret (?_)
 obtain rfl := Option.some.inj H
 exact EJ.fin Z (.tmp Z .nil) ⟨Z, hS.ext⟩
end Go.Proofs.YtklgpejnogkccaaGreatDoor
