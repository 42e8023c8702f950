/-
  What the functions come to.
-/
import Derived.Test.YtokanemjghfadaaGreatDoorGP2
namespace Go.Proofs.YtokanemjghfadaaGreatDoor
open G
set_option linter.unusedVariables false
set_option linter.unusedSimpArgs false
set_option maxRecDepth 100000
set_option maxHeartbeats 4000000
def laws_FnTied.l2 (t2 : Pasture) (t4 : List Goat) (y25 : Int) (t26 : Goat) (t28 : List Spot × Int) (t31 : List Spot × Int) (t34 : List Spot × Int) : Nat → Bool → Int → Option (((Bool ⊕ Unit) ⊕ Unit) ⊕ Bool)
  | 0, _, _ => none
  | k + 1, y40, y41 => if y41 < (t31.1.length : Int) then ((getI t31.1 y41).bind fun t42 => (getI t31.1 y41).bind fun t43 => ((getI t28.1 y41).bind fun t45 => (getI t31.1 y41).bind fun t46 => if t45 ≠ t46 then (some true) else ((getI t31.1 y41).bind fun t47 => (spec_A2HasSpot.f k t34.1 t47).bind fun t48 => if (!t48) = true then (some true) else (if 0 ≤ t26.Rope then (some (decide ((IntKind.i64.wrap t26.Rope) < (IntKind.i64.wrap ((IntKind.i64.wrap ((IntKind.i64.wrap ((IntKind.i64.wrap t42.X) - (IntKind.i64.wrap t26.Stake.X))) * (IntKind.i64.wrap ((IntKind.i64.wrap t42.X) - (IntKind.i64.wrap t26.Stake.X))))) + (IntKind.i64.wrap ((IntKind.i64.wrap ((IntKind.i64.wrap t43.Y) - (IntKind.i64.wrap t26.Stake.Y))) * (IntKind.i64.wrap ((IntKind.i64.wrap t43.Y) - (IntKind.i64.wrap t26.Stake.Y)))))))))) else (some false)))).bind fun y44 => if y44 = true then (some (Sum.inl (Sum.inl (Sum.inl false)))) else ((if y40 = true then (some true) else ((getI t31.1 y41).bind fun t50 => (getI t31.1 y41).bind fun t51 => (getI t2.Grass.l t50.Y).bind fun t52 => (getI t52.l t51.X).bind fun t53 => some (decide (0 < t53)))).bind fun y49 => (getI t31.1 y41).bind fun t54 => (impl_WhoEatsAt.f k t2 t4 t54).bind fun t55 => if t55.2 ≠ 0 then (some (Sum.inl (Sum.inl (Sum.inl false)))) else ((spec_A2Has.f k t55.1 y25).bind fun t58 => if (!t58) = true then (some (Sum.inl (Sum.inl (Sum.inl false)))) else (laws_FnTied.l2 t2 t4 y25 t26 t28 t31 t34 k y49 (IntKind.i64.wrap (y41 + 1)))))) else (some (Sum.inr y40))
def laws_FnTied.l3 (t2 : Pasture) (t26 : Goat) (t31 : List Spot × Int) (t64 : Int × Int) (t66 : Int) : Nat → Int → Option (((Bool ⊕ Unit) ⊕ Unit) ⊕ Unit)
  | 0, _ => none
  | k + 1, y70 => if y70 < (t31.1.length : Int) then ((getI t31.1 y70).bind fun t71 => (getI t31.1 y70).bind fun t72 => (getI t2.Grass.l t71.Y).bind fun t73 => (getI t73.l t72.X).bind fun t74 => (getI t31.1 y70).bind fun t75 => (spec_StepsBetween.f k t2 t26.At t75).bind fun t76 => if t76.2 ≠ 0 then (some (Sum.inl (Sum.inl (Sum.inl false)))) else (if 0 < t74 then (if t26.Likes = 0 then (if t66 < t74 then (some (Sum.inl (Sum.inl (Sum.inl false)))) else (if t74 = t66 then (if t76.1 < t64.1 then (some (Sum.inl (Sum.inl (Sum.inl false)))) else (if t26.Likes = 1 then (if t76.1 < t64.1 then (some (Sum.inl (Sum.inl (Sum.inl false)))) else (if t76.1 = t64.1 then (if t66 < t74 then (some (Sum.inl (Sum.inl (Sum.inl false)))) else (laws_FnTied.l3 t2 t26 t31 t64 t66 k (IntKind.i64.wrap (y70 + 1)))) else (laws_FnTied.l3 t2 t26 t31 t64 t66 k (IntKind.i64.wrap (y70 + 1))))) else (laws_FnTied.l3 t2 t26 t31 t64 t66 k (IntKind.i64.wrap (y70 + 1))))) else (if t26.Likes = 1 then (if t76.1 < t64.1 then (some (Sum.inl (Sum.inl (Sum.inl false)))) else (if t76.1 = t64.1 then (if t66 < t74 then (some (Sum.inl (Sum.inl (Sum.inl false)))) else (laws_FnTied.l3 t2 t26 t31 t64 t66 k (IntKind.i64.wrap (y70 + 1)))) else (laws_FnTied.l3 t2 t26 t31 t64 t66 k (IntKind.i64.wrap (y70 + 1))))) else (laws_FnTied.l3 t2 t26 t31 t64 t66 k (IntKind.i64.wrap (y70 + 1)))))) else (if t26.Likes = 1 then (if t76.1 < t64.1 then (some (Sum.inl (Sum.inl (Sum.inl false)))) else (if t76.1 = t64.1 then (if t66 < t74 then (some (Sum.inl (Sum.inl (Sum.inl false)))) else (laws_FnTied.l3 t2 t26 t31 t64 t66 k (IntKind.i64.wrap (y70 + 1)))) else (laws_FnTied.l3 t2 t26 t31 t64 t66 k (IntKind.i64.wrap (y70 + 1))))) else (laws_FnTied.l3 t2 t26 t31 t64 t66 k (IntKind.i64.wrap (y70 + 1))))) else (laws_FnTied.l3 t2 t26 t31 t64 t66 k (IntKind.i64.wrap (y70 + 1))))) else (some (Sum.inr ()))
def laws_FnTied.l1 (t2 : Pasture) (t4 : List Goat) (t17 : List Spot × Int) : Nat → Int → Option (Bool ⊕ Unit)
  | 0, _ => none
  | k + 1, y25 => if y25 < (t4.length : Int) then (((getI t4 y25).bind fun t26 => (impl_CellsFor.f k t2 t26).bind fun t28 => (spec_CellsFor.f k t2 t26).bind fun t31 => (impl_YardOf.f k t2 t26.At).bind fun t34 => (if t28.2 ≠ t31.2 then (some true) else (if t28.2 ≠ 0 then (some true) else (if (t28.1.length : Int) ≠ (t31.1.length : Int) then (some true) else (if t34.2 ≠ 0 then (some true) else (if (t31.1.length : Int) < 1 then (some true) else ((spec_A2HasSpot.f k t31.1 t26.At).bind fun t38 => some (!t38))))))).bind fun y37 => if y37 = true then (some (Sum.inl (Sum.inl false))) else ((laws_FnTied.l2 t2 t4 y25 t26 t28 t31 t34 k false 0).bind fun s338 => match s338 with | .inl r => some r | .inr y39 => (impl_ChoiceOf.f k t2 t26 5).bind fun t59 => (spec_ChoiceOf.f k t2 t26 5).bind fun t61 => (if t59.2 ≠ t61.2 then (some true) else (if t59.1 ≠ t61.1 then (some true) else (if (decide (t59.2 = 0)) ≠ y39 then (some true) else (if t59.2 ≠ 0 then (some (decide (t59.2 ≠ 6))) else (some false))))).bind fun y63 => if y63 = true then (some (Sum.inl (Sum.inl false))) else (if t59.2 ≠ 0 then (some (Sum.inr ())) else ((impl_StepsBetween.f k t2 t26.At t61.1).bind fun t64 => (getI t2.Grass.l t61.1.Y).bind fun t65 => (getI t65.l t61.1.X).bind fun t66 => (if t64.2 ≠ 0 then (some true) else (if t66 < 1 then (some true) else ((spec_A2HasSpot.f k t31.1 t61.1).bind fun t68 => if (!t68) = true then (some true) else ((spec_A2HasSpot.f k t17.1 t61.1).bind fun t69 => some t69)))).bind fun y67 => if y67 = true then (some (Sum.inl (Sum.inl false))) else ((laws_FnTied.l3 t2 t26 t31 t64 t66 k 0).bind fun s347 => match s347 with | .inl r => some r | .inr _ => (impl_TieGoat.f k t2 t26 2).bind fun t77 => (if t77.2 ≠ 0 then (some true) else (if t77.1.Rope ≠ 2 then (some true) else (if t77.1.Stake ≠ t26.At then (some true) else (some (decide (t77.1.At ≠ t26.At)))))).bind fun y79 => if y79 = true then (some (Sum.inl (Sum.inl false))) else ((impl_CellsFor.f k t2 t77.1).bind fun t80 => if t80.2 ≠ 0 then (some (Sum.inl (Sum.inl false))) else (if (t80.1.length : Int) < 1 then (some (Sum.inl (Sum.inl false))) else (if 9 < (t80.1.length : Int) then (some (Sum.inl (Sum.inl false))) else (some (Sum.inr ())))))))))).bind fun s324 => match s324 with | .inl r => some r | .inr _ => laws_FnTied.l1 t2 t4 t17 k (IntKind.i64.wrap (y25 + 1))) else (some (Sum.inr ()))
def laws_FnTied.f (k : Nat) (a0 : List Int) (a1 : List Int) : Option Bool := (laws_a2Long.f a0 a1).bind fun t1 => if t1 = true then (some true) else ((spec_A2Pasture.f k a0).bind fun t2 => (spec_A2Goats.f k a1 t2).bind fun t4 => (impl_GoatsText.f k t4).bind fun t7 => (impl_ReadGoats.f k t7).bind fun t8 => (impl_CanMeet.f k t2 t4).bind fun t11 => (spec_CanMeet.f k t2 t4).bind fun t14 => (impl_BareCells.f k t2).bind fun t17 => (if t8.2 ≠ 0 then (some true) else (if (t8.1.length : Int) ≠ (t4.length : Int) then (some true) else ((spec_SameGoats.f k t8.1 t4).bind fun t21 => if (!t21) = true then (some true) else ((impl_SameGoats.f k t8.1 t4).bind fun t22 => if (!t22) = true then (some true) else ((impl_ValidGoats.f k t2 t4).bind fun t23 => if (!t23) = true then (some true) else (if t11.2 ≠ t14.2 then (some true) else (if t11.2 ≠ 0 then (some true) else ((spec_A2SamePairs.f k t11.1 t14.1).bind fun t24 => if (!t24) = true then (some true) else (some (decide (t17.2 ≠ 0))))))))))).bind fun y20 => if y20 = true then (some false) else ((laws_FnTied.l1 t2 t4 t17 k 0).bind fun s261 => match s261 with | .inl r => some r | .inr _ => some true))
theorem laws_FnTied.c (k : Nat) (w : World) (Aa0 : Option Addr) (ca0 : Nat) (a0 : List Int) (hr0 : Rd (ci .u8) w Aa0 a0) (hc0 : a0.length ≤ ca0) (Aa1 : Option Addr) (ca1 : Nat) (a1 : List Int) (hr1 : Rd (ci .u8) w Aa1 a1) (hc1 : a1.length ≤ ca1) (hT : (envC Tryz.prog 0).holds w) (r : Bool) (H : laws_FnTied.f k a0 a1 = some r) :
 CV Tryz.prog 3 [.slice Aa0 a0.length ca0, .slice Aa1 a1.length ca1].toArray w fun v w' => v = .bool r ∧ Ext w w' := by
 have hS := ((((St.init w no).param (ci .u8) Aa0 ca0 a0 hr0 hc0).param (ci .u8) Aa1 ca1 a1 hr1 hc1).paramT (envC Tryz.prog 0) hT)
 unfold laws_FnTied.f at H
 refine CV.body Tryz.func3 Z Tryz.ntmps3 Z ?_
 refine CJ.seq (CJ.region ?_)
 refine OJ.pures oU 1 Z (OJ.nil (EJ.next ?_))
 refine CJ.seq ?_
 refine CJ.seq (CJ.region ?_)
 refine OJ.pures oU 2 Z ?_
 obtain ⟨t1, ht1, H⟩ := pbind H
 refine OJ.callF Z Z Z Z Z hb4 Z (laws_a2Long.c _ Aa0 ca0 a0 (hS.rd' (i := 0) Z) (hS.le' (i := 0) Z) Aa1 ca1 a1 (hS.rd' (i := 1) Z) (hS.le' (i := 1) Z) _ ht1) ?_
 rintro _ w1 ⟨rfl, hs⟩
 replace hS := hS.grow hs
 refine OJ.nil (EJ.next ?_)
 refine CJ.cond Z (fun hb => ?_) (fun hb => ?_)
 ·replace H := pif_t hb H
  refine CJ.seq (CJ.region ?_)
  refine OJ.pures oU 1 Z (OJ.nil (EJ.next ?_))
  refine CJ.ret (EJ.skR (?_))
  obtain rfl := Option.some.inj H
  exact EJ.fin Z (.tmp Z .nil) ⟨Z, hS.ext⟩
 replace H := pifb_f hb H
 refine CJ.skip (EJ.next ?_)
 refine CJ.seq (CJ.region ?_)
 refine OJ.pures oU 1 Z ?_
 obtain ⟨t2, ht2, H⟩ := pbind H
 refine OJ.callF Z Z Z Z Z hb5 Z (spec_A2Pasture.c k _ Aa0 ca0 a0 (hS.rd' (i := 0) Z) (hS.le' (i := 0) Z) _ ht2) ?_
 rintro _ w1 ⟨rfl, hs⟩
 replace hS := hS.grow hs
 refine OJ.ef rfl rfl rfl (Ef.alloc hS oI rfl rfl (cPasture.enc (⟨0, 0, (Arr.mk' (Arr.mk' 0 : Arr 10 Int) : Arr 10 (Arr 10 Int)), (Arr.mk' 0 : Arr 10 Int), (Arr.mk' 0 : Arr 10 Int)⟩ : Pasture)) (by kernel_rfl)) ?_
 rintro _ w1 ⟨b3, rfl, hS⟩
 refine OJ.es rfl rfl (Es.put oI hS (i := 0) rfl rfl rfl rfl rfl (vs := cPasture.enc t2) rfl (cPasture.len _) (cPasture.one _) (Put.all cPasture (⟨0, 0, (Arr.mk' (Arr.mk' 0 : Arr 10 Int) : Arr 10 (Arr 10 Int)), (Arr.mk' 0 : Arr 10 Int), (Arr.mk' 0 : Arr 10 Int)⟩ : Pasture) t2) (by (try simp only [add_lit, Nat.add_assoc, Nat.zero_add, Nat.add_zero]) <;> rfl)) ?_
 intro w1 hS
 refine OJ.nil (EJ.next ?_)
 refine CJ.seq (CJ.region ?_)
 refine OJ.pures oU 1 Z ?_
 refine OJ.st Z Z Z (SR.load Z Z (fun w' hx => ldE oU oI Z Z Z (CA.ext (hS.cells (i := 0) Z) hx) Z)) ?_
 obtain ⟨t4, ht4, H⟩ := pbind H
 refine OJ.callF Z Z Z Z Z hb6 Z (spec_A2Goats.c k _ Aa1 ca1 a1 (hS.rd' (i := 1) Z) (hS.le' (i := 1) Z) t2 _ ht4) ?_
 rintro _ w1 ⟨A5, c6, rfl, hs⟩
 replace hS := hS.addN hs
 refine OJ.pures oU 1 Z (OJ.nil (EJ.next ?_))
 refine CJ.seq (CJ.region ?_)
 refine OJ.pures oU 1 Z ?_
 obtain ⟨t7, ht7, H⟩ := pbind H
 refine OJ.callF Z Z Z Z Z hb8 Z (impl_GoatsText.c k _ A5 c6 t4 (hS.rd (i := 1) Z) (hS.le (i := 1) Z) (hS.ro (i := 2) Z) _ ht7) ?_
 rintro _ w1 ⟨rfl, hs⟩
 replace hS := hS.grow hs
 obtain ⟨t8, ht8, H⟩ := pbind H
 refine OJ.callF Z Z Z Z Z hb7 Z (impl_ReadGoats.c k _ t7 (hS.ro (i := 2) Z) _ ht8) ?_
 rintro _ w1 ⟨A9, c10, rfl, hs⟩
 replace hS := hS.addN hs
 refine OJ.pures oU 5 Z (OJ.nil (EJ.next ?_))
 refine CJ.seq (CJ.region ?_)
 refine OJ.st Z Z Z (SR.load Z Z (fun w' hx => ldE oU oI Z Z Z (CA.ext (hS.cells (i := 0) Z) hx) Z)) ?_
 refine OJ.pures oU 1 Z ?_
 obtain ⟨t11, ht11, H⟩ := pbind H
 refine OJ.callF Z Z Z Z Z hb9 Z (impl_CanMeet.c k _ t2 A5 c6 t4 (hS.rd (i := 1) Z) (hS.le (i := 1) Z) _ ht11) ?_
 rintro _ w1 ⟨A12, c13, rfl, hs⟩
 replace hS := hS.addN hs
 refine OJ.pures oU 5 Z (OJ.nil (EJ.next ?_))
 refine CJ.seq (CJ.region ?_)
 refine OJ.st Z Z Z (SR.load Z Z (fun w' hx => ldE oU oI Z Z Z (CA.ext (hS.cells (i := 0) Z) hx) Z)) ?_
 refine OJ.pures oU 1 Z ?_
 obtain ⟨t14, ht14, H⟩ := pbind H
 refine OJ.callF Z Z Z Z Z hb10 Z (spec_CanMeet.c k _ t2 A5 c6 t4 (hS.rd (i := 1) Z) (hS.le (i := 1) Z) _ ht14) ?_
 rintro _ w1 ⟨A15, c16, rfl, hs⟩
 replace hS := hS.addN hs
 refine OJ.pures oU 5 Z (OJ.nil (EJ.next ?_))
 refine CJ.seq (CJ.region ?_)
 refine OJ.st Z Z Z (SR.load Z Z (fun w' hx => ldE oU oI Z Z Z (CA.ext (hS.cells (i := 0) Z) hx) Z)) ?_
 obtain ⟨t17, ht17, H⟩ := pbind H
 refine OJ.callF Z Z Z Z Z hb11 Z (impl_BareCells.c k _ t2 _ ht17) ?_
 rintro _ w1 ⟨A18, c19, rfl, hs⟩
 replace hS := hS.addN hs
 have hS : St w no w1 [box b3 (cPasture.enc t2) 31, rowC cGoat A5 c6 50 t4, rowC cGoat A9 c10 50 t8.1, rowC (carr 2 (ci .i64)) A12 c13 101 t11.1, rowC (carr 2 (ci .i64)) A15 c16 101 t14.1, rowC cSpot A18 c19 48 t17.1] [roC (ci .u8) Aa0 ca0 a0, roC (ci .u8) Aa1 ca1 a1, envC Tryz.prog 0] := hS
 refine OJ.pures oU 5 Z (OJ.nil (EJ.next ?_))
 refine CJ.seq ?_
 obtain ⟨j257, H, K257⟩ := pbind H
 refine CJ.cut (fun F w1 => ∃ (y20 : Bool) , (some y20 : Option Bool) = some j257 ∧ F = [(5, .pointer (some ⟨b3, 0, none⟩)), (6, .slice A5 t4.length c6), (13, .slice A18 t17.1.length c19), (120, .bool y20)] ∧ St w no w1 [box b3 (cPasture.enc t2) 31, rowC cGoat A5 c6 50 t4, rowC cSpot A18 c19 48 t17.1] [roC (ci .u8) Aa0 ca0 a0, roC (ci .u8) Aa1 ca1 a1, envC Tryz.prog 0]) ?_ ?_
 ·skip
  refine CJ.region ?_
  refine OJ.pures oU 3 Z ?_
  refine OJ.split (t := 77) Z (fun hb => ?_) (fun hb => ?_)
  ·replace H := pif_t (of_decide_eq_true hb) H
   refine OJ.pures oU 43 Z ?_
   refine OJ.nil ?_
   exact EJ.meet (F' := [(5, .pointer (some ⟨b3, 0, none⟩)), (6, .slice A5 t4.length c6), (13, .slice A18 t17.1.length c19), (120, .bool true)]) ⟨Z, Z, Z, Z, trivial⟩ ⟨true, H, Z, hS.pick [0, 1, 5] [0, 1, 2] Z⟩
  replace H := pif_f (of_decide_eq_false hb) H
  refine OJ.pures oU 7 Z ?_
  refine OJ.split (t := 84) Z (fun hb => ?_) (fun hb => ?_)
  ·replace H := pif_t (of_decide_eq_true hb) H
   refine OJ.pures oU 36 Z ?_
   refine OJ.nil ?_
   exact EJ.meet (F' := [(5, .pointer (some ⟨b3, 0, none⟩)), (6, .slice A5 t4.length c6), (13, .slice A18 t17.1.length c19), (120, .bool true)]) ⟨Z, Z, Z, Z, trivial⟩ ⟨true, H, Z, hS.pick [0, 1, 5] [0, 1, 2] Z⟩
  replace H := pif_f (of_decide_eq_false hb) H
  refine OJ.pures oU 2 Z ?_
  obtain ⟨t21, ht21, H⟩ := pbind H
  refine OJ.callF Z Z Z Z Z hb12 Z (spec_SameGoats.c k _ A9 c10 t8.1 (hS.rd (i := 2) Z) (hS.le (i := 2) Z) A5 c6 t4 (hS.rd (i := 1) Z) (hS.le (i := 1) Z) _ ht21) ?_
  rintro _ w1 ⟨rfl, hs⟩
  replace hS := hS.grow hs
  refine OJ.pures oU 3 Z ?_
  refine OJ.split (t := 90) Z (fun hb => ?_) (fun hb => ?_)
  ·replace H := pif_t hb H
   refine OJ.pures oU 30 Z ?_
   refine OJ.nil ?_
   exact EJ.meet (F' := [(5, .pointer (some ⟨b3, 0, none⟩)), (6, .slice A5 t4.length c6), (13, .slice A18 t17.1.length c19), (120, .bool true)]) ⟨Z, Z, Z, Z, trivial⟩ ⟨true, H, Z, hS.pick [0, 1, 5] [0, 1, 2] Z⟩
  replace H := pifb_f hb H
  refine OJ.pures oU 2 Z ?_
  obtain ⟨t22, ht22, H⟩ := pbind H
  refine OJ.callF Z Z Z Z Z hb13 Z (impl_SameGoats.c k _ A9 c10 t8.1 (hS.rd (i := 2) Z) (hS.le (i := 2) Z) A5 c6 t4 (hS.rd (i := 1) Z) (hS.le (i := 1) Z) _ ht22) ?_
  rintro _ w1 ⟨rfl, hs⟩
  replace hS := hS.grow hs
  refine OJ.pures oU 3 Z ?_
  refine OJ.split (t := 96) Z (fun hb => ?_) (fun hb => ?_)
  ·replace H := pif_t hb H
   refine OJ.pures oU 24 Z ?_
   refine OJ.nil ?_
   exact EJ.meet (F' := [(5, .pointer (some ⟨b3, 0, none⟩)), (6, .slice A5 t4.length c6), (13, .slice A18 t17.1.length c19), (120, .bool true)]) ⟨Z, Z, Z, Z, trivial⟩ ⟨true, H, Z, hS.pick [0, 1, 5] [0, 1, 2] Z⟩
  replace H := pifb_f hb H
  refine OJ.st Z Z Z (SR.load Z Z (fun w' hx => ldE oU oI Z Z Z (CA.ext (hS.cells (i := 0) Z) hx) Z)) ?_
  refine OJ.pures oU 1 Z ?_
  obtain ⟨t23, ht23, H⟩ := pbind H
  refine OJ.callF Z Z Z Z Z hb14 Z (impl_ValidGoats.c k _ t2 A5 c6 t4 (hS.rd (i := 1) Z) (hS.le (i := 1) Z) _ ht23) ?_
  rintro _ w1 ⟨rfl, hs⟩
  replace hS := hS.grow hs
  refine OJ.pures oU 3 Z ?_
  refine OJ.split (t := 102) Z (fun hb => ?_) (fun hb => ?_)
  ·replace H := pif_t hb H
   refine OJ.pures oU 18 Z ?_
   refine OJ.nil ?_
   exact EJ.meet (F' := [(5, .pointer (some ⟨b3, 0, none⟩)), (6, .slice A5 t4.length c6), (13, .slice A18 t17.1.length c19), (120, .bool true)]) ⟨Z, Z, Z, Z, trivial⟩ ⟨true, H, Z, hS.pick [0, 1, 5] [0, 1, 2] Z⟩
  replace H := pifb_f hb H
  refine OJ.pures oU 5 Z ?_
  refine OJ.split (t := 107) Z (fun hb => ?_) (fun hb => ?_)
  ·replace H := pif_t (of_decide_eq_true hb) H
   refine OJ.pures oU 13 Z ?_
   refine OJ.nil ?_
   exact EJ.meet (F' := [(5, .pointer (some ⟨b3, 0, none⟩)), (6, .slice A5 t4.length c6), (13, .slice A18 t17.1.length c19), (120, .bool true)]) ⟨Z, Z, Z, Z, trivial⟩ ⟨true, H, Z, hS.pick [0, 1, 5] [0, 1, 2] Z⟩
  replace H := pif_f (of_decide_eq_false hb) H
  refine OJ.pures oU 4 Z ?_
  refine OJ.split (t := 111) Z (fun hb => ?_) (fun hb => ?_)
  ·replace H := pif_t (of_decide_eq_true hb) H
   refine OJ.pures oU 9 Z ?_
   refine OJ.nil ?_
   exact EJ.meet (F' := [(5, .pointer (some ⟨b3, 0, none⟩)), (6, .slice A5 t4.length c6), (13, .slice A18 t17.1.length c19), (120, .bool true)]) ⟨Z, Z, Z, Z, trivial⟩ ⟨true, H, Z, hS.pick [0, 1, 5] [0, 1, 2] Z⟩
  replace H := pif_f (of_decide_eq_false hb) H
  refine OJ.pures oU 2 Z ?_
  obtain ⟨t24, ht24, H⟩ := pbind H
  refine OJ.callF Z Z Z Z Z hb15 Z (spec_A2SamePairs.c k _ A12 c13 t11.1 (hS.rd (i := 3) Z) (hS.le (i := 3) Z) A15 c16 t14.1 (hS.rd (i := 4) Z) (hS.le (i := 4) Z) _ ht24) ?_
  rintro _ w1 ⟨rfl, hs⟩
  replace hS := hS.grow hs
  refine OJ.pures oU 3 Z ?_
  refine OJ.split (t := 117) Z (fun hb => ?_) (fun hb => ?_)
  ·replace H := pif_t hb H
   refine OJ.pures oU 3 Z ?_
   refine OJ.nil ?_
   exact EJ.meet (F' := [(5, .pointer (some ⟨b3, 0, none⟩)), (6, .slice A5 t4.length c6), (13, .slice A18 t17.1.length c19), (120, .bool true)]) ⟨Z, Z, Z, Z, trivial⟩ ⟨true, H, Z, hS.pick [0, 1, 5] [0, 1, 2] Z⟩
  replace H := pifb_f hb H
  refine OJ.pures oU 3 Z ?_
  refine OJ.nil ?_
  exact EJ.meet (F' := [(5, .pointer (some ⟨b3, 0, none⟩)), (6, .slice A5 t4.length c6), (13, .slice A18 t17.1.length c19), (120, .bool (decide (t17.2 ≠ 0)))]) ⟨Z, Z, Z, Z, trivial⟩ ⟨(decide (t17.2 ≠ 0)), H, Z, hS.pick [0, 1, 5] [0, 1, 2] Z⟩
 rintro F w1 ⟨y20, he, rfl, hS⟩
 obtain rfl := Option.some.inj he
 have H := K257
 refine CJ.cond Z (fun hb => ?_) (fun hb => ?_)
 ·replace H := pif_t hb H
  refine CJ.seq (CJ.region ?_)
  refine OJ.pures oU 1 Z (OJ.nil (EJ.next ?_))
  refine CJ.ret (EJ.skR (?_))
  obtain rfl := Option.some.inj H
  exact EJ.fin Z (.tmp Z .nil) ⟨Z, hS.ext⟩
 replace H := pifb_f hb H
 refine CJ.skip (EJ.next ?_)
 refine CJ.seq ?_
 refine CJ.seq (CJ.region ?_)
 refine OJ.pures oU 1 Z (OJ.nil (EJ.next ?_))
 obtain ⟨j261, H, K261⟩ := pbind H
 refine CJ.cut1 (fun F w1 => (some (Sum.inr ()) : Option (Bool ⊕ Unit)) = some j261 ∧ F = [] ∧ St w no w1 [] [roC (ci .u8) Aa0 ca0 a0, roC (ci .u8) Aa1 ca1 a1, envC Tryz.prog 0]) ?_ ?_
 ·skip
  refine CJ.block ?_
  refine CJ.loop (fun k F w1 => ∃ (y25 : Int), F = [(5, .pointer (some ⟨b3, 0, none⟩)), (6, .slice A5 t4.length c6), (13, .slice A18 t17.1.length c19), (15, .int .i64 y25)] ∧ St w no w1 [box b3 (cPasture.enc t2) 31, rowC cGoat A5 c6 50 t4, rowC cSpot A18 c19 48 t17.1] [roC (ci .u8) Aa0 ca0 a0, roC (ci .u8) Aa1 ca1 a1, envC Tryz.prog 0] ∧ laws_FnTied.l1 t2 t4 t17 k y25 = some j261) k (F' := [(5, .pointer (some ⟨b3, 0, none⟩)), (6, .slice A5 t4.length c6), (13, .slice A18 t17.1.length c19), (15, .int .i64 0)]) ⟨Z, Z, Z, Z, trivial⟩ ⟨0, Z, hS.pick [0, 1, 2] [0, 1, 2] Z, H⟩ ?_
  rintro k F w1 ⟨y25, rfl, hS, H⟩
  cases k with
  | zero => rw [laws_FnTied.l1] at H; cases H
  | succ k =>
    rw [laws_FnTied.l1] at H
    refine CJ.seq ?_
    refine CJ.seq (CJ.region ?_)
    refine OJ.pures oU 4 Z (OJ.nil (EJ.next ?_))
    refine CJ.cond Z (fun hb => ?_) (fun hb => ?_)
    · replace H := pif_t (of_decide_eq_true hb) H
      refine CJ.skip (EJ.next ?_)
      obtain ⟨j324, H, K324⟩ := pbind H
      refine CJ.cut (fun F w1 => (some (Sum.inr ()) : Option ((Bool ⊕ Unit) ⊕ Unit)) = some j324 ∧ F = [(5, .pointer (some ⟨b3, 0, none⟩)), (6, .slice A5 t4.length c6), (13, .slice A18 t17.1.length c19), (15, .int .i64 y25)] ∧ St w no w1 [box b3 (cPasture.enc t2) 31, rowC cGoat A5 c6 50 t4, rowC cSpot A18 c19 48 t17.1] [roC (ci .u8) Aa0 ca0 a0, roC (ci .u8) Aa1 ca1 a1, envC Tryz.prog 0]) ?_ ?_
      · skip
        refine CJ.block ?_
        refine CJ.seq (CJ.region ?_)
        refine OJ.pures oU 2 Z ?_
        obtain ⟨t26, ht26, H⟩ := pbind H
        obtain ⟨ad26, e26⟩ := (hS.rd (i := 1) rfl).some' ht26
        refine OJ.st Z Z Z (SR.idxS oU oI Z Z Z Z e26 Z (getI_some ht26).1) ?_
        refine OJ.st Z Z Z (SR.load Z Z (fun w' hx => ldE oU oI Z Z Z (CA.ext ((hS.rd (i := 1) Z).at_ e26 ht26) hx) Z)) ?_
        refine OJ.ef Z Z Z (Ef.alloc hS oI Z Z (cGoat.enc (⟨(⟨0, 0⟩ : Spot), (⟨0, 0⟩ : Spot), 0, 0, 0⟩ : Goat)) Z) ?_
        rintro _ w1 ⟨b27, rfl, hS⟩
        refine OJ.es Z Z (Es.store oI hS (i := 3) Z Z Z Z Z Z (vs := cGoat.enc t26) Z (cGoat.len _) (cGoat.one _) (Nat.le_of_ble_eq_true Z) (cGoat.enc t26) Z) ?_
        intro w1 hS
        refine OJ.nil (EJ.next ?_)
        refine CJ.seq (CJ.region ?_)
        refine OJ.st Z Z Z (SR.load Z Z (fun w' hx => ldE oU oI Z Z Z (CA.ext (hS.cells (i := 0) Z) hx) Z)) ?_
        refine OJ.st Z Z Z (SR.load Z Z (fun w' hx => ldE oU oI Z Z Z (CA.ext (hS.cells (i := 3) Z) hx) Z)) ?_
        obtain ⟨t28, ht28, H⟩ := pbind H
        refine OJ.callF Z Z Z Z Z hb16 Z (impl_CellsFor.c k _ t2 t26 _ ht28) ?_
        rintro _ w1 ⟨A29, c30, rfl, hs⟩
        replace hS := hS.addN hs
        refine OJ.pures oU 5 Z (OJ.nil (EJ.next ?_))
        refine CJ.seq (CJ.region ?_)
        refine OJ.st Z Z Z (SR.load Z Z (fun w' hx => ldE oU oI Z Z Z (CA.ext (hS.cells (i := 0) Z) hx) Z)) ?_
        refine OJ.st Z Z Z (SR.load Z Z (fun w' hx => ldE oU oI Z Z Z (CA.ext (hS.cells (i := 3) Z) hx) Z)) ?_
        obtain ⟨t31, ht31, H⟩ := pbind H
        refine OJ.callF Z Z Z Z Z hb17 Z (spec_CellsFor.c k _ t2 t26 _ ht31) ?_
        rintro _ w1 ⟨A32, c33, rfl, hs⟩
        replace hS := hS.addN hs
        have hS : St w no w1 [box b3 (cPasture.enc t2) 31, rowC cGoat A5 c6 50 t4, rowC cSpot A18 c19 48 t17.1, box b27 (cGoat.enc t26) 50, rowC cSpot A29 c30 48 t28.1, rowC cSpot A32 c33 48 t31.1] [roC (ci .u8) Aa0 ca0 a0, roC (ci .u8) Aa1 ca1 a1, envC Tryz.prog 0] := hS
        refine OJ.pures oU 5 Z (OJ.nil (EJ.next ?_))
        refine CJ.seq (CJ.region ?_)
        refine OJ.st Z Z Z (SR.load Z Z (fun w' hx => ldE oU oI Z Z Z (CA.ext (hS.cells (i := 0) Z) hx) Z)) ?_
        refine OJ.st Z Z Z (SR.fieldAddr oU oI Z Z Z Z Z Z) ?_
        refine OJ.st Z Z Z (SR.load Z Z (fun w' hx => ldN oU oI Z Z Z (CA.ext (CA.sub (hS.cells (i := 3) Z) 0) hx) (cSpot.len _) Z)) ?_
        obtain ⟨t34, ht34, H⟩ := pbind H
        refine OJ.callF Z Z Z Z Z hb18 Z (impl_YardOf.c k _ t2 t26.At _ ht34) ?_
        rintro _ w1 ⟨A35, c36, rfl, hs⟩
        replace hS := hS.addN hs
        have hS : St w no w1 [box b3 (cPasture.enc t2) 31, rowC cGoat A5 c6 50 t4, rowC cSpot A18 c19 48 t17.1, box b27 (cGoat.enc t26) 50, rowC cSpot A29 c30 48 t28.1, rowC cSpot A32 c33 48 t31.1, rowC cSpot A35 c36 48 t34.1] [roC (ci .u8) Aa0 ca0 a0, roC (ci .u8) Aa1 ca1 a1, envC Tryz.prog 0] := hS
        refine OJ.pures oU 5 Z (OJ.nil (EJ.next ?_))
        refine CJ.seq ?_
        obtain ⟨j337, H, K337⟩ := pbind H
        refine CJ.cut (fun F w1 => ∃ (y37 : Bool) , (some y37 : Option Bool) = some j337 ∧ F = [(5, .pointer (some ⟨b3, 0, none⟩)), (6, .slice A5 t4.length c6), (13, .slice A18 t17.1.length c19), (15, .int .i64 y25), (16, .pointer (some ⟨b27, 0, none⟩)), (17, .slice A29 t28.1.length c30), (19, .slice A32 t31.1.length c33), (21, .slice A35 t34.1.length c36), (179, .bool y37)] ∧ St w no w1 [box b3 (cPasture.enc t2) 31, rowC cGoat A5 c6 50 t4, rowC cSpot A18 c19 48 t17.1, box b27 (cGoat.enc t26) 50, rowC cSpot A29 c30 48 t28.1, rowC cSpot A32 c33 48 t31.1, rowC cSpot A35 c36 48 t34.1] [roC (ci .u8) Aa0 ca0 a0, roC (ci .u8) Aa1 ca1 a1, envC Tryz.prog 0]) ?_ ?_
        · skip
          refine CJ.region ?_
          refine OJ.pures oU 4 Z ?_
          refine OJ.split (t := 153) Z (fun hb => ?_) (fun hb => ?_)
          · replace H := pif_t (of_decide_eq_true hb) H
            refine OJ.pures oU 26 Z ?_
            refine OJ.nil ?_
            exact EJ.meet (F' := [(5, .pointer (some ⟨b3, 0, none⟩)), (6, .slice A5 t4.length c6), (13, .slice A18 t17.1.length c19), (15, .int .i64 y25), (16, .pointer (some ⟨b27, 0, none⟩)), (17, .slice A29 t28.1.length c30), (19, .slice A32 t31.1.length c33), (21, .slice A35 t34.1.length c36), (179, .bool true)]) ⟨Z, Z, Z, Z, Z, Z, Z, Z, Z, trivial⟩ ⟨true, H, Z, hS.pick [0, 1, 2, 3, 4, 5, 6] [0, 1, 2] Z⟩
          · replace H := pif_f (of_decide_eq_false hb) H
            refine OJ.pures oU 4 Z ?_
            refine OJ.split (t := 157) Z (fun hb => ?_) (fun hb => ?_)
            · replace H := pif_t (of_decide_eq_true hb) H
              refine OJ.pures oU 22 Z ?_
              refine OJ.nil ?_
              exact EJ.meet (F' := [(5, .pointer (some ⟨b3, 0, none⟩)), (6, .slice A5 t4.length c6), (13, .slice A18 t17.1.length c19), (15, .int .i64 y25), (16, .pointer (some ⟨b27, 0, none⟩)), (17, .slice A29 t28.1.length c30), (19, .slice A32 t31.1.length c33), (21, .slice A35 t34.1.length c36), (179, .bool true)]) ⟨Z, Z, Z, Z, Z, Z, Z, Z, Z, trivial⟩ ⟨true, H, Z, hS.pick [0, 1, 2, 3, 4, 5, 6] [0, 1, 2] Z⟩
            · replace H := pif_f (of_decide_eq_false hb) H
              refine OJ.pures oU 7 Z ?_
              refine OJ.split (t := 164) Z (fun hb => ?_) (fun hb => ?_)
              · replace H := pif_t (of_decide_eq_true hb) H
                refine OJ.pures oU 15 Z ?_
                refine OJ.nil ?_
                exact EJ.meet (F' := [(5, .pointer (some ⟨b3, 0, none⟩)), (6, .slice A5 t4.length c6), (13, .slice A18 t17.1.length c19), (15, .int .i64 y25), (16, .pointer (some ⟨b27, 0, none⟩)), (17, .slice A29 t28.1.length c30), (19, .slice A32 t31.1.length c33), (21, .slice A35 t34.1.length c36), (179, .bool true)]) ⟨Z, Z, Z, Z, Z, Z, Z, Z, Z, trivial⟩ ⟨true, H, Z, hS.pick [0, 1, 2, 3, 4, 5, 6] [0, 1, 2] Z⟩
              · replace H := pif_f (of_decide_eq_false hb) H
                refine OJ.pures oU 4 Z ?_
                refine OJ.split (t := 168) Z (fun hb => ?_) (fun hb => ?_)
                · replace H := pif_t (of_decide_eq_true hb) H
                  refine OJ.pures oU 11 Z ?_
                  refine OJ.nil ?_
                  exact EJ.meet (F' := [(5, .pointer (some ⟨b3, 0, none⟩)), (6, .slice A5 t4.length c6), (13, .slice A18 t17.1.length c19), (15, .int .i64 y25), (16, .pointer (some ⟨b27, 0, none⟩)), (17, .slice A29 t28.1.length c30), (19, .slice A32 t31.1.length c33), (21, .slice A35 t34.1.length c36), (179, .bool true)]) ⟨Z, Z, Z, Z, Z, Z, Z, Z, Z, trivial⟩ ⟨true, H, Z, hS.pick [0, 1, 2, 3, 4, 5, 6] [0, 1, 2] Z⟩
                · replace H := pif_f (of_decide_eq_false hb) H
                  refine OJ.pures oU 5 Z ?_
                  refine OJ.split (t := 173) Z (fun hb => ?_) (fun hb => ?_)
                  · replace H := pif_t (of_decide_eq_true hb) H
                    refine OJ.pures oU 6 Z ?_
                    refine OJ.nil ?_
                    exact EJ.meet (F' := [(5, .pointer (some ⟨b3, 0, none⟩)), (6, .slice A5 t4.length c6), (13, .slice A18 t17.1.length c19), (15, .int .i64 y25), (16, .pointer (some ⟨b27, 0, none⟩)), (17, .slice A29 t28.1.length c30), (19, .slice A32 t31.1.length c33), (21, .slice A35 t34.1.length c36), (179, .bool true)]) ⟨Z, Z, Z, Z, Z, Z, Z, Z, Z, trivial⟩ ⟨true, H, Z, hS.pick [0, 1, 2, 3, 4, 5, 6] [0, 1, 2] Z⟩
                  · replace H := pif_f (of_decide_eq_false hb) H
                    refine OJ.pures oU 1 Z ?_
                    refine OJ.st Z Z Z (SR.fieldAddr oU oI Z Z Z Z Z Z) ?_
                    refine OJ.st Z Z Z (SR.load Z Z (fun w' hx => ldN oU oI Z Z Z (CA.ext (CA.sub (hS.cells (i := 3) Z) 0) hx) (cSpot.len _) Z)) ?_
                    obtain ⟨t38, ht38, H⟩ := pbind H
                    refine OJ.callF Z Z Z Z Z hb19 Z (spec_A2HasSpot.c k _ A32 c33 t31.1 (hS.rd (i := 5) Z) (hS.le (i := 5) Z) t26.At _ ht38) ?_
                    rintro _ w1 ⟨rfl, hs⟩
                    replace hS := hS.grow hs
                    refine OJ.pures oU 2 Z ?_
                    refine OJ.nil ?_
                    exact EJ.meet (F' := [(5, .pointer (some ⟨b3, 0, none⟩)), (6, .slice A5 t4.length c6), (13, .slice A18 t17.1.length c19), (15, .int .i64 y25), (16, .pointer (some ⟨b27, 0, none⟩)), (17, .slice A29 t28.1.length c30), (19, .slice A32 t31.1.length c33), (21, .slice A35 t34.1.length c36), (179, .bool (!t38))]) ⟨Z, Z, Z, Z, Z, Z, Z, Z, Z, trivial⟩ ⟨(!t38), H, Z, hS.pick [0, 1, 2, 3, 4, 5, 6] [0, 1, 2] Z⟩
        · rintro F w1 ⟨y37, he, rfl, hS⟩
          obtain rfl := Option.some.inj he
          have H := K337
          refine CJ.cond Z (fun hb => ?_) (fun hb => ?_)
          · replace H := pif_t hb H
            refine CJ.seq (CJ.region ?_)
            refine OJ.pures oU 1 Z (OJ.nil (EJ.next ?_))
            refine CJ.ret (EJ.skR (EJ.bkR (EJ.skR (EJ.skR (EJ.bkR (EJ.skR (EJ.skR (?_))))))))
            first | (obtain rfl := Option.some.inj H; have H := K324) | (obtain ⟨q324, H2, e324⟩ := pbind H; obtain rfl := Option.some.inj e324; obtain rfl := Option.some.inj K324; have H := H2)
            first | (obtain rfl := Option.some.inj H; have H := K261) | (obtain ⟨q261, H2, e261⟩ := pbind H; obtain rfl := Option.some.inj e261; obtain rfl := Option.some.inj K261; have H := H2)
            obtain rfl := Option.some.inj H
            exact EJ.fin Z (.tmp Z .nil) ⟨Z, hS.ext⟩
          · replace H := pifb_f hb H
            refine CJ.skip (EJ.next ?_)
            refine CJ.seq (CJ.region ?_)
            refine OJ.pures oU 1 Z (OJ.nil (EJ.next ?_))
            refine CJ.seq ?_
            refine CJ.seq (CJ.region ?_)
            refine OJ.pures oU 1 Z (OJ.nil (EJ.next ?_))
            obtain ⟨j338, H, K338⟩ := pbind H
            refine CJ.cut1 (fun F w1 => ∃ (y39 : Bool) , (some (Sum.inr y39) : Option (((Bool ⊕ Unit) ⊕ Unit) ⊕ Bool)) = some j338 ∧ F = [(5, .pointer (some ⟨b3, 0, none⟩)), (6, .slice A5 t4.length c6), (13, .slice A18 t17.1.length c19), (15, .int .i64 y25), (16, .pointer (some ⟨b27, 0, none⟩)), (19, .slice A32 t31.1.length c33), (23, .bool y39)] ∧ St w no w1 [box b3 (cPasture.enc t2) 31, rowC cGoat A5 c6 50 t4, rowC cSpot A18 c19 48 t17.1, box b27 (cGoat.enc t26) 50, rowC cSpot A32 c33 48 t31.1] [roC (ci .u8) Aa0 ca0 a0, roC (ci .u8) Aa1 ca1 a1, envC Tryz.prog 0]) ?_ ?_
            · skip
              refine CJ.block ?_
              refine CJ.loop (fun k F w1 => ∃ (y40 : Bool) (y41 : Int), F = [(5, .pointer (some ⟨b3, 0, none⟩)), (6, .slice A5 t4.length c6), (13, .slice A18 t17.1.length c19), (15, .int .i64 y25), (16, .pointer (some ⟨b27, 0, none⟩)), (17, .slice A29 t28.1.length c30), (19, .slice A32 t31.1.length c33), (21, .slice A35 t34.1.length c36), (23, .bool y40), (24, .int .i64 y41)] ∧ St w no w1 [box b3 (cPasture.enc t2) 31, rowC cGoat A5 c6 50 t4, rowC cSpot A18 c19 48 t17.1, box b27 (cGoat.enc t26) 50, rowC cSpot A29 c30 48 t28.1, rowC cSpot A32 c33 48 t31.1, rowC cSpot A35 c36 48 t34.1] [roC (ci .u8) Aa0 ca0 a0, roC (ci .u8) Aa1 ca1 a1, envC Tryz.prog 0] ∧ laws_FnTied.l2 t2 t4 y25 t26 t28 t31 t34 k y40 y41 = some j338) k (F' := [(5, .pointer (some ⟨b3, 0, none⟩)), (6, .slice A5 t4.length c6), (13, .slice A18 t17.1.length c19), (15, .int .i64 y25), (16, .pointer (some ⟨b27, 0, none⟩)), (17, .slice A29 t28.1.length c30), (19, .slice A32 t31.1.length c33), (21, .slice A35 t34.1.length c36), (23, .bool false), (24, .int .i64 0)]) ⟨Z, Z, Z, Z, Z, Z, Z, Z, Z, Z, trivial⟩ ⟨false, 0, Z, hS.pick [0, 1, 2, 3, 4, 5, 6] [0, 1, 2] Z, H⟩ ?_
              rintro k F w1 ⟨y40, y41, rfl, hS, H⟩
              cases k with
              | zero => rw [laws_FnTied.l2] at H; cases H
              | succ k =>
                rw [laws_FnTied.l2] at H
                refine CJ.seq ?_
                refine CJ.seq (CJ.region ?_)
                refine OJ.pures oU 4 Z (OJ.nil (EJ.next ?_))
                refine CJ.cond Z (fun hb => ?_) (fun hb => ?_)
                · replace H := pif_t (of_decide_eq_true hb) H
                  refine CJ.skip (EJ.next ?_)
                  refine CJ.seq ?_
                  refine CJ.block ?_
                  refine CJ.seq ?_
                  refine CJ.draw [] [0, 1, 2, 3, 4, 5, 6, 7, 8, 9, 10, 11] mixed (by kernel_rfl) hS fun w1 hS => ?_
                  refine DJ.pures oU 2 Z ?_
                  obtain ⟨t42, ht42, H⟩ := pbind H
                  obtain ⟨ad42, e42⟩ := (hS.rd (i := 5) rfl).some' ht42
                  refine DJ.st Z Z Z Z Z (SR.idxS oU oI Z Z Z Z e42 Z (getI_some ht42).1) ?_
                  refine DJ.st Z Z Z Z Z (SR.fieldAddr oU oI Z Z Z Z Z Z) ?_
                  refine DJ.st Z Z Z Z Z (SR.load Z Z (fun w' hx => ld1 oU Z Z (CA.ext (CA.sub ((hS.rd (i := 5) Z).at_ e42 ht42) 0) hx) Z)) ?_
                  refine DJ.pures oU 1 Z ?_
                  refine DJ.st Z Z Z Z Z (SR.fieldAddr oU oI Z Z Z Z Z Z) ?_
                  refine DJ.st Z Z Z Z Z (SR.fieldAddr oU oI Z Z Z Z Z Z) ?_
                  refine DJ.st Z Z Z Z Z (SR.load Z Z (fun w' hx => ld1 oU Z Z (CA.ext (CA.sub (CA.sub (hS.cells (i := 3) Z) 2) 0) hx) Z)) ?_
                  refine DJ.pures oU 3 Z ?_
                  refine DJ.nil (EJ.next ?_)
                  refine CJ.seq ?_
                  refine CJ.draw [] [0, 1, 2, 3, 4, 5, 6, 7, 8, 9, 10, 11] mixed (by kernel_rfl) hS fun w1 hS => ?_
                  refine DJ.pures oU 2 Z ?_
                  obtain ⟨t43, ht43, H⟩ := pbind H
                  obtain ⟨ad43, e43⟩ := (hS.rd (i := 5) rfl).some' ht43
                  refine DJ.st Z Z Z Z Z (SR.idxS oU oI Z Z Z Z e43 Z (getI_some ht43).1) ?_
                  refine DJ.st Z Z Z Z Z (SR.fieldAddr oU oI Z Z Z Z Z Z) ?_
                  refine DJ.st Z Z Z Z Z (SR.load Z Z (fun w' hx => ld1 oU Z Z (CA.ext (CA.sub ((hS.rd (i := 5) Z).at_ e43 ht43) 1) hx) Z)) ?_
                  refine DJ.pures oU 1 Z ?_
                  refine DJ.st Z Z Z Z Z (SR.fieldAddr oU oI Z Z Z Z Z Z) ?_
                  refine DJ.st Z Z Z Z Z (SR.fieldAddr oU oI Z Z Z Z Z Z) ?_
                  refine DJ.st Z Z Z Z Z (SR.load Z Z (fun w' hx => ld1 oU Z Z (CA.ext (CA.sub (CA.sub (hS.cells (i := 3) Z) 2) 1) hx) Z)) ?_
                  refine DJ.pures oU 3 Z ?_
                  refine DJ.nil (EJ.next ?_)
                  refine CJ.seq ?_
                  obtain ⟨j343, H, K343⟩ := pbind H
                  refine CJ.cut (fun F w1 => ∃ (y44 : Bool) , (some y44 : Option Bool) = some j343 ∧ F = [(5, .pointer (some ⟨b3, 0, none⟩)), (6, .slice A5 t4.length c6), (13, .slice A18 t17.1.length c19), (15, .int .i64 y25), (16, .pointer (some ⟨b27, 0, none⟩)), (17, .slice A29 t28.1.length c30), (19, .slice A32 t31.1.length c33), (21, .slice A35 t34.1.length c36), (23, .bool y40), (24, .int .i64 y41), (243, .bool y44)] ∧ St w no w1 [box b3 (cPasture.enc t2) 31, rowC cGoat A5 c6 50 t4, rowC cSpot A18 c19 48 t17.1, box b27 (cGoat.enc t26) 50, rowC cSpot A29 c30 48 t28.1, rowC cSpot A32 c33 48 t31.1, rowC cSpot A35 c36 48 t34.1] [roC (ci .u8) Aa0 ca0 a0, roC (ci .u8) Aa1 ca1 a1, envC Tryz.prog 0]) ?_ ?_
                  · skip
                    refine CJ.draw [] [0, 1, 2, 3, 4, 5, 6, 7, 8, 9, 10, 11, 12, 13, 14, 15, 16, 17, 18, 19, 20, 21, 22, 23, 24, 25, 26, 27, 28, 29, 30, 31, 32, 33, 34, 35] mixed (by kernel_rfl) hS fun w1 hS => ?_
                    refine DJ.pures oU 2 Z ?_
                    obtain ⟨t45, ht45, H⟩ := pbind H
                    obtain ⟨ad45, e45⟩ := (hS.rd (i := 4) rfl).some' ht45
                    refine DJ.st Z Z Z Z Z (SR.idxS oU oI Z Z Z Z e45 Z (getI_some ht45).1) ?_
                    refine DJ.st Z Z Z Z Z (SR.load Z Z (fun w' hx => ldE oU oI Z Z Z (CA.ext ((hS.rd (i := 4) Z).at_ e45 ht45) hx) Z)) ?_
                    refine DJ.pures oU 2 Z ?_
                    obtain ⟨t46, ht46, H⟩ := pbind H
                    obtain ⟨ad46, e46⟩ := (hS.rd (i := 5) rfl).some' ht46
                    refine DJ.st Z Z Z Z Z (SR.idxS oU oI Z Z Z Z e46 Z (getI_some ht46).1) ?_
                    refine DJ.st Z Z Z Z Z (SR.load Z Z (fun w' hx => ldE oU oI Z Z Z (CA.ext ((hS.rd (i := 5) Z).at_ e46 ht46) hx) Z)) ?_
                    refine DJ.st Z Z Z Z Z (SR.neS eqT48 eqG48 Z Z Z (Z : _ = (cSpot.enc t45).toArray) (Z : _ = (cSpot.enc t46).toArray)) ?_
                    refine DJ.pures oU 1 Z ?_
                    refine DJ.split (t := 217) Z (fun hb => ?_) (fun hb => ?_)
                    · replace H := pif_t (of_decide_eq_true hb) H
                      refine DJ.pures oU 26 Z ?_
                      refine DJ.nil ?_
                      exact EJ.meet (F' := [(5, .pointer (some ⟨b3, 0, none⟩)), (6, .slice A5 t4.length c6), (13, .slice A18 t17.1.length c19), (15, .int .i64 y25), (16, .pointer (some ⟨b27, 0, none⟩)), (17, .slice A29 t28.1.length c30), (19, .slice A32 t31.1.length c33), (21, .slice A35 t34.1.length c36), (23, .bool y40), (24, .int .i64 y41), (243, .bool true)]) ⟨Z, Z, Z, Z, Z, Z, Z, Z, Z, Z, Z, trivial⟩ ⟨true, H, Z, hS.pick [0, 1, 2, 3, 4, 5, 6] [0, 1, 2] Z⟩
                    · replace H := pif_f (of_decide_eq_false hb) H
                      refine DJ.pures oU 3 Z ?_
                      obtain ⟨t47, ht47, H⟩ := pbind H
                      obtain ⟨ad47, e47⟩ := (hS.rd (i := 5) rfl).some' ht47
                      refine DJ.st Z Z Z Z Z (SR.idxS oU oI Z Z Z Z e47 Z (getI_some ht47).1) ?_
                      refine DJ.st Z Z Z Z Z (SR.load Z Z (fun w' hx => ldE oU oI Z Z Z (CA.ext ((hS.rd (i := 5) Z).at_ e47 ht47) hx) Z)) ?_
                      obtain ⟨t48, ht48, H⟩ := pbind H
                      refine DJ.callF rfl rfl rfl rfl rfl rfl rfl hb19 rfl (spec_A2HasSpot.c k _ A35 c36 t34.1 (hS.rd (i := 6) rfl) (hS.le (i := 6) rfl) t47 _ ht48) (by rintro v w' ⟨rfl, hs⟩; exact hs) ?_
                      rintro _ w1 ⟨rfl, hs⟩
                      replace hS := hS.grow hs
                      refine DJ.pures oU 3 Z ?_
                      refine DJ.split (t := 226) Z (fun hb => ?_) (fun hb => ?_)
                      · replace H := pif_t hb H
                        refine DJ.pures oU 17 Z ?_
                        refine DJ.nil ?_
                        exact EJ.meet (F' := [(5, .pointer (some ⟨b3, 0, none⟩)), (6, .slice A5 t4.length c6), (13, .slice A18 t17.1.length c19), (15, .int .i64 y25), (16, .pointer (some ⟨b27, 0, none⟩)), (17, .slice A29 t28.1.length c30), (19, .slice A32 t31.1.length c33), (21, .slice A35 t34.1.length c36), (23, .bool y40), (24, .int .i64 y41), (243, .bool true)]) ⟨Z, Z, Z, Z, Z, Z, Z, Z, Z, Z, Z, trivial⟩ ⟨true, H, Z, hS.pick [0, 1, 2, 3, 4, 5, 6] [0, 1, 2] Z⟩
                      · replace H := pifb_f hb H
                        refine DJ.st Z Z Z Z Z (SR.fieldAddr oU oI Z Z Z Z Z Z) ?_
                        refine DJ.st Z Z Z Z Z (SR.load Z Z (fun w' hx => ld1 oU Z Z (CA.ext (CA.sub (hS.cells (i := 3) Z) 4) hx) Z)) ?_
                        refine DJ.pures oU 2 Z ?_
                        refine DJ.split (t := 230) Z (fun hb => ?_) (fun hb => ?_)
                        · replace H := pif_t (of_decide_eq_true hb) H
                          refine DJ.pures oU 7 Z ?_
                          refine DJ.st Z Z Z Z Z (SR.fieldAddr oU oI Z Z Z Z Z Z) ?_
                          refine DJ.st Z Z Z Z Z (SR.load Z Z (fun w' hx => ld1 oU Z Z (CA.ext (CA.sub (hS.cells (i := 3) Z) 4) hx) Z)) ?_
                          refine DJ.pures oU 4 Z ?_
                          refine DJ.nil ?_
                          exact EJ.meet (F' := [(5, .pointer (some ⟨b3, 0, none⟩)), (6, .slice A5 t4.length c6), (13, .slice A18 t17.1.length c19), (15, .int .i64 y25), (16, .pointer (some ⟨b27, 0, none⟩)), (17, .slice A29 t28.1.length c30), (19, .slice A32 t31.1.length c33), (21, .slice A35 t34.1.length c36), (23, .bool y40), (24, .int .i64 y41), (243, .bool (decide ((IntKind.i64.wrap t26.Rope) < (IntKind.i64.wrap ((IntKind.i64.wrap ((IntKind.i64.wrap ((IntKind.i64.wrap t42.X) - (IntKind.i64.wrap t26.Stake.X))) * (IntKind.i64.wrap ((IntKind.i64.wrap t42.X) - (IntKind.i64.wrap t26.Stake.X))))) + (IntKind.i64.wrap ((IntKind.i64.wrap ((IntKind.i64.wrap t43.Y) - (IntKind.i64.wrap t26.Stake.Y))) * (IntKind.i64.wrap ((IntKind.i64.wrap t43.Y) - (IntKind.i64.wrap t26.Stake.Y))))))))))]) ⟨Z, Z, Z, Z, Z, Z, Z, Z, Z, Z, Z, trivial⟩ ⟨(decide ((IntKind.i64.wrap t26.Rope) < (IntKind.i64.wrap ((IntKind.i64.wrap ((IntKind.i64.wrap ((IntKind.i64.wrap t42.X) - (IntKind.i64.wrap t26.Stake.X))) * (IntKind.i64.wrap ((IntKind.i64.wrap t42.X) - (IntKind.i64.wrap t26.Stake.X))))) + (IntKind.i64.wrap ((IntKind.i64.wrap ((IntKind.i64.wrap t43.Y) - (IntKind.i64.wrap t26.Stake.Y))) * (IntKind.i64.wrap ((IntKind.i64.wrap t43.Y) - (IntKind.i64.wrap t26.Stake.Y))))))))), H, Z, hS.pick [0, 1, 2, 3, 4, 5, 6] [0, 1, 2] Z⟩
                        · replace H := pif_f (of_decide_eq_false hb) H
                          refine DJ.pures oU 13 Z ?_
                          refine DJ.nil ?_
                          exact EJ.meet (F' := [(5, .pointer (some ⟨b3, 0, none⟩)), (6, .slice A5 t4.length c6), (13, .slice A18 t17.1.length c19), (15, .int .i64 y25), (16, .pointer (some ⟨b27, 0, none⟩)), (17, .slice A29 t28.1.length c30), (19, .slice A32 t31.1.length c33), (21, .slice A35 t34.1.length c36), (23, .bool y40), (24, .int .i64 y41), (243, .bool false)]) ⟨Z, Z, Z, Z, Z, Z, Z, Z, Z, Z, Z, trivial⟩ ⟨false, H, Z, hS.pick [0, 1, 2, 3, 4, 5, 6] [0, 1, 2] Z⟩
                  · rintro F w1 ⟨y44, he, rfl, hS⟩
                    obtain rfl := Option.some.inj he
                    have H := K343
                    refine CJ.cond Z (fun hb => ?_) (fun hb => ?_)
                    · replace H := pif_t hb H
                      refine CJ.seq (CJ.region ?_)
                      refine OJ.pures oU 1 Z (OJ.nil (EJ.next ?_))
                      refine CJ.ret (EJ.skR (EJ.bkR (EJ.skR (EJ.skR (EJ.bkR (EJ.skR (EJ.skR (EJ.bkR (EJ.skR (EJ.skR (EJ.bkR (EJ.skR (EJ.skR (?_))))))))))))))
                      first | (obtain rfl := Option.some.inj H; have H := K338) | (obtain ⟨q338, H2, e338⟩ := pbind H; obtain rfl := Option.some.inj e338; obtain rfl := Option.some.inj K338; have H := H2)
                      first | (obtain rfl := Option.some.inj H; have H := K324) | (obtain ⟨q324, H2, e324⟩ := pbind H; obtain rfl := Option.some.inj e324; obtain rfl := Option.some.inj K324; have H := H2)
                      first | (obtain rfl := Option.some.inj H; have H := K261) | (obtain ⟨q261, H2, e261⟩ := pbind H; obtain rfl := Option.some.inj e261; obtain rfl := Option.some.inj K261; have H := H2)
                      obtain rfl := Option.some.inj H
                      exact EJ.fin Z (.tmp Z .nil) ⟨Z, hS.ext⟩
                    · replace H := pifb_f hb H
                      refine CJ.skip (EJ.next ?_)
                      obtain ⟨j344, H, K344⟩ := pbind H
                      refine CJ.cut (fun F w1 => ∃ (y49 : Bool) , (some y49 : Option Bool) = some j344 ∧ F = [(5, .pointer (some ⟨b3, 0, none⟩)), (6, .slice A5 t4.length c6), (13, .slice A18 t17.1.length c19), (15, .int .i64 y25), (16, .pointer (some ⟨b27, 0, none⟩)), (17, .slice A29 t28.1.length c30), (19, .slice A32 t31.1.length c33), (21, .slice A35 t34.1.length c36), (23, .bool y49), (24, .int .i64 y41)] ∧ St w no w1 [box b3 (cPasture.enc t2) 31, rowC cGoat A5 c6 50 t4, rowC cSpot A18 c19 48 t17.1, box b27 (cGoat.enc t26) 50, rowC cSpot A29 c30 48 t28.1, rowC cSpot A32 c33 48 t31.1, rowC cSpot A35 c36 48 t34.1] [roC (ci .u8) Aa0 ca0 a0, roC (ci .u8) Aa1 ca1 a1, envC Tryz.prog 0]) ?_ ?_
                      · skip
                        refine CJ.draw [] [0, 1, 2, 3, 4, 5, 6, 7, 8, 9, 10, 11, 12, 13, 14, 15, 16, 17, 18] mixed (by kernel_rfl) hS fun w1 hS => ?_
                        refine DJ.pures oU 2 Z ?_
                        refine DJ.split (t := 245) Z (fun hb => ?_) (fun hb => ?_)
                        · replace H := pif_t hb H
                          refine DJ.pures oU 17 Z ?_
                          refine DJ.nil ?_
                          exact EJ.meet (F' := [(5, .pointer (some ⟨b3, 0, none⟩)), (6, .slice A5 t4.length c6), (13, .slice A18 t17.1.length c19), (15, .int .i64 y25), (16, .pointer (some ⟨b27, 0, none⟩)), (17, .slice A29 t28.1.length c30), (19, .slice A32 t31.1.length c33), (21, .slice A35 t34.1.length c36), (23, .bool true), (24, .int .i64 y41)]) ⟨Z, Z, Z, Z, Z, Z, Z, Z, Z, Z, trivial⟩ ⟨true, H, Z, hS.pick [0, 1, 2, 3, 4, 5, 6] [0, 1, 2] Z⟩
                        · replace H := pifb_f hb H
                          refine DJ.pures oU 2 Z ?_
                          obtain ⟨t50, ht50, H⟩ := pbind H
                          obtain ⟨ad50, e50⟩ := (hS.rd (i := 5) rfl).some' ht50
                          refine DJ.st Z Z Z Z Z (SR.idxS oU oI Z Z Z Z e50 Z (getI_some ht50).1) ?_
                          refine DJ.st Z Z Z Z Z (SR.fieldAddr oU oI Z Z Z Z Z Z) ?_
                          refine DJ.st Z Z Z Z Z (SR.load Z Z (fun w' hx => ld1 oU Z Z (CA.ext (CA.sub ((hS.rd (i := 5) Z).at_ e50 ht50) 1) hx) Z)) ?_
                          refine DJ.pures oU 2 Z ?_
                          obtain ⟨t51, ht51, H⟩ := pbind H
                          obtain ⟨ad51, e51⟩ := (hS.rd (i := 5) rfl).some' ht51
                          refine DJ.st Z Z Z Z Z (SR.idxS oU oI Z Z Z Z e51 Z (getI_some ht51).1) ?_
                          refine DJ.st Z Z Z Z Z (SR.fieldAddr oU oI Z Z Z Z Z Z) ?_
                          refine DJ.st Z Z Z Z Z (SR.load Z Z (fun w' hx => ld1 oU Z Z (CA.ext (CA.sub ((hS.rd (i := 5) Z).at_ e51 ht51) 0) hx) Z)) ?_
                          refine DJ.st Z Z Z Z Z (SR.fieldAddr oU oI Z Z Z Z Z Z) ?_
                          obtain ⟨t52, ht52, H⟩ := pbind H
                          refine DJ.st Z Z Z Z Z (SR.idxA oU oI Z Z Z Z Z (Arr.lt ht52)) ?_
                          obtain ⟨t53, ht53, H⟩ := pbind H
                          refine DJ.st Z Z Z Z Z (SR.idxA oU oI Z Z Z Z Z (Arr.lt ht53)) ?_
                          refine DJ.st Z Z Z Z Z (SR.load Z Z (fun w' hx => ld1 oU Z Z (CA.ext (CA.idx (CA.idx (CA.fld (hS.cells (i := 0) Z) (mid_part (fe_Pasture_2 _) (fl_Pasture_2 _) ((carr 10 (carr 10 (ci .i16))).len _))) ht52) ht53) hx) Z)) ?_
                          refine DJ.pures oU 3 Z ?_
                          refine DJ.nil ?_
                          exact EJ.meet (F' := [(5, .pointer (some ⟨b3, 0, none⟩)), (6, .slice A5 t4.length c6), (13, .slice A18 t17.1.length c19), (15, .int .i64 y25), (16, .pointer (some ⟨b27, 0, none⟩)), (17, .slice A29 t28.1.length c30), (19, .slice A32 t31.1.length c33), (21, .slice A35 t34.1.length c36), (23, .bool (decide (0 < t53))), (24, .int .i64 y41)]) ⟨Z, Z, Z, Z, Z, Z, Z, Z, Z, Z, trivial⟩ ⟨(decide (0 < t53)), H, Z, hS.pick [0, 1, 2, 3, 4, 5, 6] [0, 1, 2] Z⟩
                      · rintro F w1 ⟨y49, he, rfl, hS⟩
                        obtain rfl := Option.some.inj he
                        have H := K344
                        refine CJ.seq ?_
                        refine CJ.draw [] [0, 1, 2, 3, 4, 5, 6, 7, 8, 9, 10, 11] mixed (by kernel_rfl) hS fun w1 hS => ?_
                        refine DJ.st Z Z Z Z Z (SR.load Z Z (fun w' hx => ldE oU oI Z Z Z (CA.ext (hS.cells (i := 0) Z) hx) Z)) ?_
                        refine DJ.pures oU 3 Z ?_
                        obtain ⟨t54, ht54, H⟩ := pbind H
                        obtain ⟨ad54, e54⟩ := (hS.rd (i := 5) rfl).some' ht54
                        refine DJ.st Z Z Z Z Z (SR.idxS oU oI Z Z Z Z e54 Z (getI_some ht54).1) ?_
                        refine DJ.st Z Z Z Z Z (SR.load Z Z (fun w' hx => ldE oU oI Z Z Z (CA.ext ((hS.rd (i := 5) Z).at_ e54 ht54) hx) Z)) ?_
                        obtain ⟨t55, ht55, H⟩ := pbind H
                        refine DJ.callF rfl rfl rfl rfl rfl rfl rfl hb20 rfl (impl_WhoEatsAt.c k _ t2 A5 c6 t4 (hS.rd (i := 1) rfl) (hS.le (i := 1) rfl) t54 _ ht55) (by rintro v w' ⟨A56, c57, rfl, hs⟩; exact hs.ext) ?_
                        rintro _ w1 ⟨A56, c57, rfl, hs⟩
                        replace hS := hS.addN hs
                        have hS : St w no w1 [box b3 (cPasture.enc t2) 31, rowC cGoat A5 c6 50 t4, rowC cSpot A18 c19 48 t17.1, box b27 (cGoat.enc t26) 50, rowC cSpot A29 c30 48 t28.1, rowC cSpot A32 c33 48 t31.1, rowC cSpot A35 c36 48 t34.1, rowC (ci .i64) A56 c57 2 t55.1] [roC (ci .u8) Aa0 ca0 a0, roC (ci .u8) Aa1 ca1 a1, envC Tryz.prog 0] := hS
                        refine DJ.pures oU 5 Z ?_
                        refine DJ.nil (EJ.next ?_)
                        refine CJ.seq (CJ.region ?_)
                        refine OJ.pures oU 3 Z ?_
                        refine OJ.split (t := 274) Z (fun hb => ?_) (fun hb => ?_)
                        · replace H := pif_t (of_decide_eq_true hb) H
                          refine OJ.pures oU 5 Z (OJ.nil (EJ.next ?_))
                          refine CJ.condT Z ?_
                          refine CJ.seq (CJ.region ?_)
                          refine OJ.pures oU 1 Z (OJ.nil (EJ.next ?_))
                          refine CJ.ret (EJ.bkR (EJ.skR (EJ.skR (EJ.bkR (EJ.skR (EJ.skR (EJ.bkR (EJ.skR (EJ.skR (EJ.bkR (EJ.skR (EJ.skR (?_)))))))))))))
                          first | (obtain rfl := Option.some.inj H; have H := K338) | (obtain ⟨q338, H2, e338⟩ := pbind H; obtain rfl := Option.some.inj e338; obtain rfl := Option.some.inj K338; have H := H2)
                          first | (obtain rfl := Option.some.inj H; have H := K324) | (obtain ⟨q324, H2, e324⟩ := pbind H; obtain rfl := Option.some.inj e324; obtain rfl := Option.some.inj K324; have H := H2)
                          first | (obtain rfl := Option.some.inj H; have H := K261) | (obtain ⟨q261, H2, e261⟩ := pbind H; obtain rfl := Option.some.inj e261; obtain rfl := Option.some.inj K261; have H := H2)
                          obtain rfl := Option.some.inj H
                          exact EJ.fin Z (.tmp Z .nil) ⟨Z, hS.ext⟩
                        · replace H := pif_f (of_decide_eq_false hb) H
                          refine OJ.pures oU 2 Z ?_
                          obtain ⟨t58, ht58, H⟩ := pbind H
                          refine OJ.callF Z Z Z Z Z hb21 Z (spec_A2Has.c k _ A56 c57 t55.1 (hS.rd (i := 7) Z) (hS.le (i := 7) Z) y25 _ ht58) ?_
                          rintro _ w1 ⟨rfl, hs⟩
                          replace hS := hS.grow hs
                          refine OJ.pures oU 2 Z (OJ.nil (EJ.next ?_))
                          refine CJ.cond Z (fun hb => ?_) (fun hb => ?_)
                          · replace H := pif_t hb H
                            refine CJ.seq (CJ.region ?_)
                            refine OJ.pures oU 1 Z (OJ.nil (EJ.next ?_))
                            refine CJ.ret (EJ.bkR (EJ.skR (EJ.skR (EJ.bkR (EJ.skR (EJ.skR (EJ.bkR (EJ.skR (EJ.skR (EJ.bkR (EJ.skR (EJ.skR (?_)))))))))))))
                            first | (obtain rfl := Option.some.inj H; have H := K338) | (obtain ⟨q338, H2, e338⟩ := pbind H; obtain rfl := Option.some.inj e338; obtain rfl := Option.some.inj K338; have H := H2)
                            first | (obtain rfl := Option.some.inj H; have H := K324) | (obtain ⟨q324, H2, e324⟩ := pbind H; obtain rfl := Option.some.inj e324; obtain rfl := Option.some.inj K324; have H := H2)
                            first | (obtain rfl := Option.some.inj H; have H := K261) | (obtain ⟨q261, H2, e261⟩ := pbind H; obtain rfl := Option.some.inj e261; obtain rfl := Option.some.inj K261; have H := H2)
                            obtain rfl := Option.some.inj H
                            exact EJ.fin Z (.tmp Z .nil) ⟨Z, hS.ext⟩
                          · replace H := pifb_f hb H
                            refine CJ.skip (EJ.blk (EJ.next ?_))
                            refine CJ.region ?_
                            refine OJ.pures oU 3 Z ?_
                            refine OJ.nil ?_
                            exact EJ.round k (F' := [(5, .pointer (some ⟨b3, 0, none⟩)), (6, .slice A5 t4.length c6), (13, .slice A18 t17.1.length c19), (15, .int .i64 y25), (16, .pointer (some ⟨b27, 0, none⟩)), (17, .slice A29 t28.1.length c30), (19, .slice A32 t31.1.length c33), (21, .slice A35 t34.1.length c36), (23, .bool y49), (24, .int .i64 (IntKind.i64.wrap (y41 + 1)))]) ⟨Z, Z, Z, Z, Z, Z, Z, Z, Z, Z, trivial⟩ (Nat.lt_succ_self _) ⟨y49, (IntKind.i64.wrap (y41 + 1)), Z, hS.pick [0, 1, 2, 3, 4, 5, 6] [0, 1, 2] Z, H⟩
                · replace H := pif_f (of_decide_eq_false hb) H
                  refine CJ.exit (EJ.skE (EJ.skE (EJ.hit (?_))))
                  exact EJ.meet (F' := [(5, .pointer (some ⟨b3, 0, none⟩)), (6, .slice A5 t4.length c6), (13, .slice A18 t17.1.length c19), (15, .int .i64 y25), (16, .pointer (some ⟨b27, 0, none⟩)), (19, .slice A32 t31.1.length c33), (23, .bool y40)]) ⟨Z, Z, Z, Z, Z, Z, Z, trivial⟩ ⟨y40, H, Z, hS.pick [0, 1, 2, 3, 5] [0, 1, 2] Z⟩
            · rintro F w1 ⟨y39, he, rfl, hS⟩
              obtain rfl := Option.some.inj he
              have H := K338
              refine EJ.next ?_
              refine CJ.seq (CJ.region ?_)
              refine OJ.st Z Z Z (SR.load Z Z (fun w' hx => ldE oU oI Z Z Z (CA.ext (hS.cells (i := 0) Z) hx) Z)) ?_
              refine OJ.st Z Z Z (SR.load Z Z (fun w' hx => ldE oU oI Z Z Z (CA.ext (hS.cells (i := 3) Z) hx) Z)) ?_
              obtain ⟨t59, ht59, H⟩ := pbind H
              refine OJ.callF Z Z Z Z Z hb22 Z (impl_ChoiceOf.c k _ t2 t26 5 _ ht59) ?_
              rintro _ w1 ⟨rfl, hs⟩
              replace hS := hS.grow hs
              refine OJ.pures oU 3 Z ?_
              refine OJ.ef Z Z Z (Ef.alloc hS oI Z Z (cSpot.enc (⟨0, 0⟩ : Spot)) Z) ?_
              rintro _ w1 ⟨b60, rfl, hS⟩
              refine OJ.es Z Z (Es.store oI hS (i := 5) Z Z Z Z Z Z (vs := cSpot.enc t59.1) Z (cSpot.len _) (cSpot.one _) (Nat.le_of_ble_eq_true Z) (cSpot.enc t59.1) Z) ?_
              intro w1 hS
              refine OJ.pures oU 1 Z (OJ.nil (EJ.next ?_))
              refine CJ.seq (CJ.region ?_)
              refine OJ.st Z Z Z (SR.load Z Z (fun w' hx => ldE oU oI Z Z Z (CA.ext (hS.cells (i := 0) Z) hx) Z)) ?_
              refine OJ.st Z Z Z (SR.load Z Z (fun w' hx => ldE oU oI Z Z Z (CA.ext (hS.cells (i := 3) Z) hx) Z)) ?_
              obtain ⟨t61, ht61, H⟩ := pbind H
              refine OJ.callF Z Z Z Z Z hb23 Z (spec_ChoiceOf.c k _ t2 t26 5 _ ht61) ?_
              rintro _ w1 ⟨rfl, hs⟩
              replace hS := hS.grow hs
              refine OJ.pures oU 3 Z ?_
              refine OJ.ef Z Z Z (Ef.alloc hS oI Z Z (cSpot.enc (⟨0, 0⟩ : Spot)) Z) ?_
              rintro _ w1 ⟨b62, rfl, hS⟩
              refine OJ.es Z Z (Es.store oI hS (i := 6) Z Z Z Z Z Z (vs := cSpot.enc t61.1) Z (cSpot.len _) (cSpot.one _) (Nat.le_of_ble_eq_true Z) (cSpot.enc t61.1) Z) ?_
              intro w1 hS
              refine OJ.pures oU 1 Z (OJ.nil (EJ.next ?_))
              refine CJ.seq ?_
              obtain ⟨j345, H, K345⟩ := pbind H
              refine CJ.cut (fun F w1 => ∃ (y63 : Bool) , (some y63 : Option Bool) = some j345 ∧ F = [(5, .pointer (some ⟨b3, 0, none⟩)), (6, .slice A5 t4.length c6), (13, .slice A18 t17.1.length c19), (15, .int .i64 y25), (16, .pointer (some ⟨b27, 0, none⟩)), (19, .slice A32 t31.1.length c33), (30, .int .i64 t59.2), (31, .pointer (some ⟨b62, 0, none⟩)), (313, .bool y63)] ∧ St w no w1 [box b3 (cPasture.enc t2) 31, rowC cGoat A5 c6 50 t4, rowC cSpot A18 c19 48 t17.1, box b27 (cGoat.enc t26) 50, rowC cSpot A32 c33 48 t31.1, box b62 (cSpot.enc t61.1) 48] [roC (ci .u8) Aa0 ca0 a0, roC (ci .u8) Aa1 ca1 a1, envC Tryz.prog 0]) ?_ ?_
              · skip
                refine CJ.region ?_
                refine OJ.pures oU 4 Z ?_
                refine OJ.split (t := 295) Z (fun hb => ?_) (fun hb => ?_)
                · replace H := pif_t (of_decide_eq_true hb) H
                  refine OJ.pures oU 18 Z ?_
                  refine OJ.nil ?_
                  exact EJ.meet (F' := [(5, .pointer (some ⟨b3, 0, none⟩)), (6, .slice A5 t4.length c6), (13, .slice A18 t17.1.length c19), (15, .int .i64 y25), (16, .pointer (some ⟨b27, 0, none⟩)), (19, .slice A32 t31.1.length c33), (30, .int .i64 t59.2), (31, .pointer (some ⟨b62, 0, none⟩)), (313, .bool true)]) ⟨Z, Z, Z, Z, Z, Z, Z, Z, Z, trivial⟩ ⟨true, H, Z, hS.pick [0, 1, 2, 3, 4, 6] [0, 1, 2] Z⟩
                · replace H := pif_f (of_decide_eq_false hb) H
                  refine OJ.st Z Z Z (SR.load Z Z (fun w' hx => ldE oU oI Z Z Z (CA.ext (hS.cells (i := 5) Z) hx) Z)) ?_
                  refine OJ.st Z Z Z (SR.load Z Z (fun w' hx => ldE oU oI Z Z Z (CA.ext (hS.cells (i := 6) Z) hx) Z)) ?_
                  refine OJ.st Z Z Z (SR.neS eqT48 eqG48 Z Z Z (Z : _ = (cSpot.enc t59.1).toArray) (Z : _ = (cSpot.enc t61.1).toArray)) ?_
                  refine OJ.pures oU 2 Z ?_
                  refine OJ.split (t := 300) Z (fun hb => ?_) (fun hb => ?_)
                  · replace H := pif_t (of_decide_eq_true hb) H
                    refine OJ.pures oU 13 Z ?_
                    refine OJ.nil ?_
                    exact EJ.meet (F' := [(5, .pointer (some ⟨b3, 0, none⟩)), (6, .slice A5 t4.length c6), (13, .slice A18 t17.1.length c19), (15, .int .i64 y25), (16, .pointer (some ⟨b27, 0, none⟩)), (19, .slice A32 t31.1.length c33), (30, .int .i64 t59.2), (31, .pointer (some ⟨b62, 0, none⟩)), (313, .bool true)]) ⟨Z, Z, Z, Z, Z, Z, Z, Z, Z, trivial⟩ ⟨true, H, Z, hS.pick [0, 1, 2, 3, 4, 6] [0, 1, 2] Z⟩
                  · replace H := pif_f (of_decide_eq_false hb) H
                    refine OJ.pures oU 3 Z ?_
                    refine OJ.st Z Z Z (SR.neB oU Z Z Z Z) ?_
                    refine OJ.pures oU 2 Z ?_
                    refine OJ.split (t := 306) Z (fun hb => ?_) (fun hb => ?_)
                    · replace H := pif_t (of_decide_eq_true hb) H
                      refine OJ.pures oU 7 Z ?_
                      refine OJ.nil ?_
                      exact EJ.meet (F' := [(5, .pointer (some ⟨b3, 0, none⟩)), (6, .slice A5 t4.length c6), (13, .slice A18 t17.1.length c19), (15, .int .i64 y25), (16, .pointer (some ⟨b27, 0, none⟩)), (19, .slice A32 t31.1.length c33), (30, .int .i64 t59.2), (31, .pointer (some ⟨b62, 0, none⟩)), (313, .bool true)]) ⟨Z, Z, Z, Z, Z, Z, Z, Z, Z, trivial⟩ ⟨true, H, Z, hS.pick [0, 1, 2, 3, 4, 6] [0, 1, 2] Z⟩
                    · replace H := pif_f (of_decide_eq_false hb) H
                      refine OJ.pures oU 3 Z ?_
                      refine OJ.split (t := 309) Z (fun hb => ?_) (fun hb => ?_)
                      · replace H := pif_t (of_decide_eq_true hb) H
                        refine OJ.pures oU 4 Z ?_
                        refine OJ.nil ?_
                        exact EJ.meet (F' := [(5, .pointer (some ⟨b3, 0, none⟩)), (6, .slice A5 t4.length c6), (13, .slice A18 t17.1.length c19), (15, .int .i64 y25), (16, .pointer (some ⟨b27, 0, none⟩)), (19, .slice A32 t31.1.length c33), (30, .int .i64 t59.2), (31, .pointer (some ⟨b62, 0, none⟩)), (313, .bool (decide (t59.2 ≠ 6)))]) ⟨Z, Z, Z, Z, Z, Z, Z, Z, Z, trivial⟩ ⟨(decide (t59.2 ≠ 6)), H, Z, hS.pick [0, 1, 2, 3, 4, 6] [0, 1, 2] Z⟩
                      · replace H := pif_f (of_decide_eq_false hb) H
                        refine OJ.pures oU 4 Z ?_
                        refine OJ.nil ?_
                        exact EJ.meet (F' := [(5, .pointer (some ⟨b3, 0, none⟩)), (6, .slice A5 t4.length c6), (13, .slice A18 t17.1.length c19), (15, .int .i64 y25), (16, .pointer (some ⟨b27, 0, none⟩)), (19, .slice A32 t31.1.length c33), (30, .int .i64 t59.2), (31, .pointer (some ⟨b62, 0, none⟩)), (313, .bool false)]) ⟨Z, Z, Z, Z, Z, Z, Z, Z, Z, trivial⟩ ⟨false, H, Z, hS.pick [0, 1, 2, 3, 4, 6] [0, 1, 2] Z⟩
              · rintro F w1 ⟨y63, he, rfl, hS⟩
                obtain rfl := Option.some.inj he
                have H := K345
                refine CJ.cond Z (fun hb => ?_) (fun hb => ?_)
                · replace H := pif_t hb H
                  refine CJ.seq (CJ.region ?_)
                  refine OJ.pures oU 1 Z (OJ.nil (EJ.next ?_))
                  refine CJ.ret (EJ.skR (EJ.bkR (EJ.skR (EJ.skR (EJ.bkR (EJ.skR (EJ.skR (?_))))))))
                  first | (obtain rfl := Option.some.inj H; have H := K324) | (obtain ⟨q324, H2, e324⟩ := pbind H; obtain rfl := Option.some.inj e324; obtain rfl := Option.some.inj K324; have H := H2)
                  first | (obtain rfl := Option.some.inj H; have H := K261) | (obtain ⟨q261, H2, e261⟩ := pbind H; obtain rfl := Option.some.inj e261; obtain rfl := Option.some.inj K261; have H := H2)
                  obtain rfl := Option.some.inj H
                  exact EJ.fin Z (.tmp Z .nil) ⟨Z, hS.ext⟩
                · replace H := pifb_f hb H
                  refine CJ.skip (EJ.next ?_)
                  refine CJ.seq ?_
                  refine CJ.seq (CJ.region ?_)
                  refine OJ.pures oU 2 Z (OJ.nil (EJ.next ?_))
                  refine CJ.cond Z (fun hb => ?_) (fun hb => ?_)
                  · replace H := pif_t (of_decide_eq_true hb) H
                    refine CJ.exit (EJ.skE (EJ.hit (?_)))
                    exact EJ.meet (F' := [(5, .pointer (some ⟨b3, 0, none⟩)), (6, .slice A5 t4.length c6), (13, .slice A18 t17.1.length c19), (15, .int .i64 y25)]) ⟨Z, Z, Z, Z, trivial⟩ ⟨H, Z, hS.pick [0, 1, 2] [0, 1, 2] Z⟩
                  · replace H := pif_f (of_decide_eq_false hb) H
                    refine CJ.skip (EJ.next ?_)
                    refine CJ.seq (CJ.region ?_)
                    refine OJ.st Z Z Z (SR.load Z Z (fun w' hx => ldE oU oI Z Z Z (CA.ext (hS.cells (i := 0) Z) hx) Z)) ?_
                    refine OJ.st Z Z Z (SR.fieldAddr oU oI Z Z Z Z Z Z) ?_
                    refine OJ.st Z Z Z (SR.load Z Z (fun w' hx => ldN oU oI Z Z Z (CA.ext (CA.sub (hS.cells (i := 3) Z) 0) hx) (cSpot.len _) Z)) ?_
                    refine OJ.st Z Z Z (SR.load Z Z (fun w' hx => ldE oU oI Z Z Z (CA.ext (hS.cells (i := 5) Z) hx) Z)) ?_
                    obtain ⟨t64, ht64, H⟩ := pbind H
                    refine OJ.callF Z Z Z Z Z hb24 Z (impl_StepsBetween.c k _ t2 t26.At t61.1 _ ht64) ?_
                    rintro _ w1 ⟨rfl, hs⟩
                    replace hS := hS.grow hs
                    refine OJ.pures oU 5 Z (OJ.nil (EJ.next ?_))
                    refine CJ.seq ?_
                    refine CJ.draw [] [0, 1, 2, 3, 4, 5, 6, 7, 8] mixed (by kernel_rfl) hS fun w1 hS => ?_
                    refine DJ.st Z Z Z Z Z (SR.fieldAddr oU oI Z Z Z Z Z Z) ?_
                    refine DJ.st Z Z Z Z Z (SR.load Z Z (fun w' hx => ld1 oU Z Z (CA.ext (CA.sub (hS.cells (i := 5) Z) 1) hx) Z)) ?_
                    refine DJ.st Z Z Z Z Z (SR.fieldAddr oU oI Z Z Z Z Z Z) ?_
                    refine DJ.st Z Z Z Z Z (SR.load Z Z (fun w' hx => ld1 oU Z Z (CA.ext (CA.sub (hS.cells (i := 5) Z) 0) hx) Z)) ?_
                    refine DJ.st Z Z Z Z Z (SR.fieldAddr oU oI Z Z Z Z Z Z) ?_
                    obtain ⟨t65, ht65, H⟩ := pbind H
                    refine DJ.st Z Z Z Z Z (SR.idxA oU oI Z Z Z Z Z (Arr.lt ht65)) ?_
                    obtain ⟨t66, ht66, H⟩ := pbind H
                    refine DJ.st Z Z Z Z Z (SR.idxA oU oI Z Z Z Z Z (Arr.lt ht66)) ?_
                    refine DJ.st Z Z Z Z Z (SR.load Z Z (fun w' hx => ld1 oU Z Z (CA.ext (CA.idx (CA.idx (CA.fld (hS.cells (i := 0) Z) (mid_part (fe_Pasture_2 _) (fl_Pasture_2 _) ((carr 10 (carr 10 (ci .i16))).len _))) ht65) ht66) hx) Z)) ?_
                    refine DJ.pures oU 1 Z ?_
                    refine DJ.nil (EJ.next ?_)
                    refine CJ.seq ?_
                    obtain ⟨j346, H, K346⟩ := pbind H
                    refine CJ.cut (fun F w1 => ∃ (y67 : Bool) , (some y67 : Option Bool) = some j346 ∧ F = [(5, .pointer (some ⟨b3, 0, none⟩)), (6, .slice A5 t4.length c6), (13, .slice A18 t17.1.length c19), (15, .int .i64 y25), (16, .pointer (some ⟨b27, 0, none⟩)), (19, .slice A32 t31.1.length c33), (33, .int .i64 t64.1), (35, .int .i16 t66), (348, .bool y67)] ∧ St w no w1 [box b3 (cPasture.enc t2) 31, rowC cGoat A5 c6 50 t4, rowC cSpot A18 c19 48 t17.1, box b27 (cGoat.enc t26) 50, rowC cSpot A32 c33 48 t31.1] [roC (ci .u8) Aa0 ca0 a0, roC (ci .u8) Aa1 ca1 a1, envC Tryz.prog 0]) ?_ ?_
                    · skip
                      refine CJ.region ?_
                      refine OJ.pures oU 3 Z ?_
                      refine OJ.split (t := 334) Z (fun hb => ?_) (fun hb => ?_)
                      · replace H := pif_t (of_decide_eq_true hb) H
                        refine OJ.pures oU 14 Z ?_
                        refine OJ.nil ?_
                        exact EJ.meet (F' := [(5, .pointer (some ⟨b3, 0, none⟩)), (6, .slice A5 t4.length c6), (13, .slice A18 t17.1.length c19), (15, .int .i64 y25), (16, .pointer (some ⟨b27, 0, none⟩)), (19, .slice A32 t31.1.length c33), (33, .int .i64 t64.1), (35, .int .i16 t66), (348, .bool true)]) ⟨Z, Z, Z, Z, Z, Z, Z, Z, Z, trivial⟩ ⟨true, H, Z, hS.pick [0, 1, 2, 3, 4] [0, 1, 2] Z⟩
                      · replace H := pif_f (of_decide_eq_false hb) H
                        refine OJ.pures oU 4 Z ?_
                        refine OJ.split (t := 338) Z (fun hb => ?_) (fun hb => ?_)
                        · replace H := pif_t (of_decide_eq_true hb) H
                          refine OJ.pures oU 10 Z ?_
                          refine OJ.nil ?_
                          exact EJ.meet (F' := [(5, .pointer (some ⟨b3, 0, none⟩)), (6, .slice A5 t4.length c6), (13, .slice A18 t17.1.length c19), (15, .int .i64 y25), (16, .pointer (some ⟨b27, 0, none⟩)), (19, .slice A32 t31.1.length c33), (33, .int .i64 t64.1), (35, .int .i16 t66), (348, .bool true)]) ⟨Z, Z, Z, Z, Z, Z, Z, Z, Z, trivial⟩ ⟨true, H, Z, hS.pick [0, 1, 2, 3, 4] [0, 1, 2] Z⟩
                        · replace H := pif_f (of_decide_eq_false hb) H
                          refine OJ.pures oU 1 Z ?_
                          refine OJ.st Z Z Z (SR.load Z Z (fun w' hx => ldE oU oI Z Z Z (CA.ext (hS.cells (i := 5) Z) hx) Z)) ?_
                          obtain ⟨t68, ht68, H⟩ := pbind H
                          refine OJ.callF Z Z Z Z Z hb19 Z (spec_A2HasSpot.c k _ A32 c33 t31.1 (hS.rd (i := 4) Z) (hS.le (i := 4) Z) t61.1 _ ht68) ?_
                          rintro _ w1 ⟨rfl, hs⟩
                          replace hS := hS.grow hs
                          refine OJ.pures oU 3 Z ?_
                          refine OJ.split (t := 344) Z (fun hb => ?_) (fun hb => ?_)
                          · replace H := pif_t hb H
                            refine OJ.pures oU 4 Z ?_
                            refine OJ.nil ?_
                            exact EJ.meet (F' := [(5, .pointer (some ⟨b3, 0, none⟩)), (6, .slice A5 t4.length c6), (13, .slice A18 t17.1.length c19), (15, .int .i64 y25), (16, .pointer (some ⟨b27, 0, none⟩)), (19, .slice A32 t31.1.length c33), (33, .int .i64 t64.1), (35, .int .i16 t66), (348, .bool true)]) ⟨Z, Z, Z, Z, Z, Z, Z, Z, Z, trivial⟩ ⟨true, H, Z, hS.pick [0, 1, 2, 3, 4] [0, 1, 2] Z⟩
                          · replace H := pifb_f hb H
                            refine OJ.pures oU 1 Z ?_
                            refine OJ.st Z Z Z (SR.load Z Z (fun w' hx => ldE oU oI Z Z Z (CA.ext (hS.cells (i := 5) Z) hx) Z)) ?_
                            obtain ⟨t69, ht69, H⟩ := pbind H
                            refine OJ.callF Z Z Z Z Z hb19 Z (spec_A2HasSpot.c k _ A18 c19 t17.1 (hS.rd (i := 2) Z) (hS.le (i := 2) Z) t61.1 _ ht69) ?_
                            rintro _ w1 ⟨rfl, hs⟩
                            replace hS := hS.grow hs
                            refine OJ.pures oU 1 Z ?_
                            refine OJ.nil ?_
                            exact EJ.meet (F' := [(5, .pointer (some ⟨b3, 0, none⟩)), (6, .slice A5 t4.length c6), (13, .slice A18 t17.1.length c19), (15, .int .i64 y25), (16, .pointer (some ⟨b27, 0, none⟩)), (19, .slice A32 t31.1.length c33), (33, .int .i64 t64.1), (35, .int .i16 t66), (348, .bool t69)]) ⟨Z, Z, Z, Z, Z, Z, Z, Z, Z, trivial⟩ ⟨t69, H, Z, hS.pick [0, 1, 2, 3, 4] [0, 1, 2] Z⟩
                    · rintro F w1 ⟨y67, he, rfl, hS⟩
                      obtain rfl := Option.some.inj he
                      have H := K346
                      refine CJ.cond Z (fun hb => ?_) (fun hb => ?_)
                      · replace H := pif_t hb H
                        refine CJ.seq (CJ.region ?_)
                        refine OJ.pures oU 1 Z (OJ.nil (EJ.next ?_))
                        refine CJ.ret (EJ.skR (EJ.bkR (EJ.skR (EJ.skR (EJ.bkR (EJ.skR (EJ.skR (?_))))))))
                        first | (obtain rfl := Option.some.inj H; have H := K324) | (obtain ⟨q324, H2, e324⟩ := pbind H; obtain rfl := Option.some.inj e324; obtain rfl := Option.some.inj K324; have H := H2)
                        first | (obtain rfl := Option.some.inj H; have H := K261) | (obtain ⟨q261, H2, e261⟩ := pbind H; obtain rfl := Option.some.inj e261; obtain rfl := Option.some.inj K261; have H := H2)
                        obtain rfl := Option.some.inj H
                        exact EJ.fin Z (.tmp Z .nil) ⟨Z, hS.ext⟩
                      · replace H := pifb_f hb H
                        refine CJ.skip (EJ.next ?_)
                        refine CJ.seq ?_
                        refine CJ.seq (CJ.region ?_)
                        refine OJ.pures oU 1 Z (OJ.nil (EJ.next ?_))
                        obtain ⟨j347, H, K347⟩ := pbind H
                        refine CJ.cut1 (fun F w1 => (some (Sum.inr ()) : Option (((Bool ⊕ Unit) ⊕ Unit) ⊕ Unit)) = some j347 ∧ F = [(5, .pointer (some ⟨b3, 0, none⟩)), (6, .slice A5 t4.length c6), (13, .slice A18 t17.1.length c19), (15, .int .i64 y25), (16, .pointer (some ⟨b27, 0, none⟩))] ∧ St w no w1 [box b3 (cPasture.enc t2) 31, rowC cGoat A5 c6 50 t4, rowC cSpot A18 c19 48 t17.1, box b27 (cGoat.enc t26) 50] [roC (ci .u8) Aa0 ca0 a0, roC (ci .u8) Aa1 ca1 a1, envC Tryz.prog 0]) ?_ ?_
                        · skip
                          refine CJ.block ?_
                          refine CJ.loop (fun k F w1 => ∃ (y70 : Int), F = [(5, .pointer (some ⟨b3, 0, none⟩)), (6, .slice A5 t4.length c6), (13, .slice A18 t17.1.length c19), (15, .int .i64 y25), (16, .pointer (some ⟨b27, 0, none⟩)), (19, .slice A32 t31.1.length c33), (33, .int .i64 t64.1), (35, .int .i16 t66), (36, .int .i64 y70)] ∧ St w no w1 [box b3 (cPasture.enc t2) 31, rowC cGoat A5 c6 50 t4, rowC cSpot A18 c19 48 t17.1, box b27 (cGoat.enc t26) 50, rowC cSpot A32 c33 48 t31.1] [roC (ci .u8) Aa0 ca0 a0, roC (ci .u8) Aa1 ca1 a1, envC Tryz.prog 0] ∧ laws_FnTied.l3 t2 t26 t31 t64 t66 k y70 = some j347) k (F' := [(5, .pointer (some ⟨b3, 0, none⟩)), (6, .slice A5 t4.length c6), (13, .slice A18 t17.1.length c19), (15, .int .i64 y25), (16, .pointer (some ⟨b27, 0, none⟩)), (19, .slice A32 t31.1.length c33), (33, .int .i64 t64.1), (35, .int .i16 t66), (36, .int .i64 0)]) ⟨Z, Z, Z, Z, Z, Z, Z, Z, Z, trivial⟩ ⟨0, Z, hS.pick [0, 1, 2, 3, 4] [0, 1, 2] Z, H⟩ ?_
                          rintro k F w1 ⟨y70, rfl, hS, H⟩
                          cases k with
                          | zero => rw [laws_FnTied.l3] at H; cases H
                          | succ k =>
                            rw [laws_FnTied.l3] at H
                            refine CJ.seq ?_
                            refine CJ.seq (CJ.region ?_)
                            refine OJ.pures oU 4 Z (OJ.nil (EJ.next ?_))
                            refine CJ.cond Z (fun hb => ?_) (fun hb => ?_)
                            · replace H := pif_t (of_decide_eq_true hb) H
                              refine CJ.skip (EJ.next ?_)
                              refine CJ.seq ?_
                              refine CJ.block ?_
                              refine CJ.seq ?_
                              refine CJ.draw [] [0, 1, 2, 3, 4, 5, 6, 7, 8, 9, 10, 11, 12, 13, 14] mixed (by kernel_rfl) hS fun w1 hS => ?_
                              refine DJ.pures oU 2 Z ?_
                              obtain ⟨t71, ht71, H⟩ := pbind H
                              obtain ⟨ad71, e71⟩ := (hS.rd (i := 4) rfl).some' ht71
                              refine DJ.st Z Z Z Z Z (SR.idxS oU oI Z Z Z Z e71 Z (getI_some ht71).1) ?_
                              refine DJ.st Z Z Z Z Z (SR.fieldAddr oU oI Z Z Z Z Z Z) ?_
                              refine DJ.st Z Z Z Z Z (SR.load Z Z (fun w' hx => ld1 oU Z Z (CA.ext (CA.sub ((hS.rd (i := 4) Z).at_ e71 ht71) 1) hx) Z)) ?_
                              refine DJ.pures oU 2 Z ?_
                              obtain ⟨t72, ht72, H⟩ := pbind H
                              obtain ⟨ad72, e72⟩ := (hS.rd (i := 4) rfl).some' ht72
                              refine DJ.st Z Z Z Z Z (SR.idxS oU oI Z Z Z Z e72 Z (getI_some ht72).1) ?_
                              refine DJ.st Z Z Z Z Z (SR.fieldAddr oU oI Z Z Z Z Z Z) ?_
                              refine DJ.st Z Z Z Z Z (SR.load Z Z (fun w' hx => ld1 oU Z Z (CA.ext (CA.sub ((hS.rd (i := 4) Z).at_ e72 ht72) 0) hx) Z)) ?_
                              refine DJ.st Z Z Z Z Z (SR.fieldAddr oU oI Z Z Z Z Z Z) ?_
                              obtain ⟨t73, ht73, H⟩ := pbind H
                              refine DJ.st Z Z Z Z Z (SR.idxA oU oI Z Z Z Z Z (Arr.lt ht73)) ?_
                              obtain ⟨t74, ht74, H⟩ := pbind H
                              refine DJ.st Z Z Z Z Z (SR.idxA oU oI Z Z Z Z Z (Arr.lt ht74)) ?_
                              refine DJ.st Z Z Z Z Z (SR.load Z Z (fun w' hx => ld1 oU Z Z (CA.ext (CA.idx (CA.idx (CA.fld (hS.cells (i := 0) Z) (mid_part (fe_Pasture_2 _) (fl_Pasture_2 _) ((carr 10 (carr 10 (ci .i16))).len _))) ht73) ht74) hx) Z)) ?_
                              refine DJ.pures oU 1 Z ?_
                              refine DJ.nil (EJ.next ?_)
                              refine CJ.seq ?_
                              refine CJ.draw [] [0, 1, 2, 3, 4, 5, 6, 7, 8, 9, 10, 11, 12] mixed (by kernel_rfl) hS fun w1 hS => ?_
                              refine DJ.st Z Z Z Z Z (SR.load Z Z (fun w' hx => ldE oU oI Z Z Z (CA.ext (hS.cells (i := 0) Z) hx) Z)) ?_
                              refine DJ.st Z Z Z Z Z (SR.fieldAddr oU oI Z Z Z Z Z Z) ?_
                              refine DJ.st Z Z Z Z Z (SR.load Z Z (fun w' hx => ldN oU oI Z Z Z (CA.ext (CA.sub (hS.cells (i := 3) Z) 0) hx) (cSpot.len _) Z)) ?_
                              refine DJ.pures oU 2 Z ?_
                              obtain ⟨t75, ht75, H⟩ := pbind H
                              obtain ⟨ad75, e75⟩ := (hS.rd (i := 4) rfl).some' ht75
                              refine DJ.st Z Z Z Z Z (SR.idxS oU oI Z Z Z Z e75 Z (getI_some ht75).1) ?_
                              refine DJ.st Z Z Z Z Z (SR.load Z Z (fun w' hx => ldE oU oI Z Z Z (CA.ext ((hS.rd (i := 4) Z).at_ e75 ht75) hx) Z)) ?_
                              obtain ⟨t76, ht76, H⟩ := pbind H
                              refine DJ.callF rfl rfl rfl rfl rfl rfl rfl hb25 rfl (spec_StepsBetween.c k _ t2 t26.At t75 _ ht76) (by rintro v w' ⟨rfl, hs⟩; exact hs) ?_
                              rintro _ w1 ⟨rfl, hs⟩
                              replace hS := hS.grow hs
                              refine DJ.pures oU 5 Z ?_
                              refine DJ.nil (EJ.next ?_)
                              refine CJ.seq (CJ.region ?_)
                              refine OJ.pures oU 3 Z ?_
                              refine OJ.split (t := 382) Z (fun hb => ?_) (fun hb => ?_)
                              · replace H := pif_t (of_decide_eq_true hb) H
                                refine OJ.pures oU 43 Z (OJ.nil (EJ.next ?_))
                                refine CJ.condT Z ?_
                                refine CJ.seq (CJ.region ?_)
                                refine OJ.pures oU 1 Z (OJ.nil (EJ.next ?_))
                                refine CJ.ret (EJ.bkR (EJ.skR (EJ.skR (EJ.bkR (EJ.skR (EJ.skR (EJ.bkR (EJ.skR (EJ.skR (EJ.bkR (EJ.skR (EJ.skR (?_)))))))))))))
                                first | (obtain rfl := Option.some.inj H; have H := K347) | (obtain ⟨q347, H2, e347⟩ := pbind H; obtain rfl := Option.some.inj e347; obtain rfl := Option.some.inj K347; have H := H2)
                                first | (obtain rfl := Option.some.inj H; have H := K324) | (obtain ⟨q324, H2, e324⟩ := pbind H; obtain rfl := Option.some.inj e324; obtain rfl := Option.some.inj K324; have H := H2)
                                first | (obtain rfl := Option.some.inj H; have H := K261) | (obtain ⟨q261, H2, e261⟩ := pbind H; obtain rfl := Option.some.inj e261; obtain rfl := Option.some.inj K261; have H := H2)
                                obtain rfl := Option.some.inj H
                                exact EJ.fin Z (.tmp Z .nil) ⟨Z, hS.ext⟩
                              · replace H := pif_f (of_decide_eq_false hb) H
                                refine OJ.pures oU 3 Z ?_
                                refine OJ.split (t := 385) Z (fun hb => ?_) (fun hb => ?_)
                                · replace H := pif_t (of_decide_eq_true hb) H
                                  refine OJ.st Z Z Z (SR.fieldAddr oU oI Z Z Z Z Z Z) ?_
                                  refine OJ.st Z Z Z (SR.load Z Z (fun w' hx => ld1 oU Z Z (CA.ext (CA.sub (hS.cells (i := 3) Z) 6) hx) Z)) ?_
                                  refine OJ.pures oU 2 Z ?_
                                  refine OJ.split (t := 389) Z (fun hb => ?_) (fun hb => ?_)
                                  · replace H := pif_t (of_decide_eq_true hb) H
                                    refine OJ.pures oU 4 Z ?_
                                    refine OJ.split (t := 393) Z (fun hb => ?_) (fun hb => ?_)
                                    · replace H := pif_t (of_decide_eq_true hb) H
                                      refine OJ.pures oU 32 Z (OJ.nil (EJ.next ?_))
                                      refine CJ.condT Z ?_
                                      refine CJ.seq (CJ.region ?_)
                                      refine OJ.pures oU 1 Z (OJ.nil (EJ.next ?_))
                                      refine CJ.ret (EJ.bkR (EJ.skR (EJ.skR (EJ.bkR (EJ.skR (EJ.skR (EJ.bkR (EJ.skR (EJ.skR (EJ.bkR (EJ.skR (EJ.skR (?_)))))))))))))
                                      first | (obtain rfl := Option.some.inj H; have H := K347) | (obtain ⟨q347, H2, e347⟩ := pbind H; obtain rfl := Option.some.inj e347; obtain rfl := Option.some.inj K347; have H := H2)
                                      first | (obtain rfl := Option.some.inj H; have H := K324) | (obtain ⟨q324, H2, e324⟩ := pbind H; obtain rfl := Option.some.inj e324; obtain rfl := Option.some.inj K324; have H := H2)
                                      first | (obtain rfl := Option.some.inj H; have H := K261) | (obtain ⟨q261, H2, e261⟩ := pbind H; obtain rfl := Option.some.inj e261; obtain rfl := Option.some.inj K261; have H := H2)
                                      obtain rfl := Option.some.inj H
                                      exact EJ.fin Z (.tmp Z .nil) ⟨Z, hS.ext⟩
                                    · replace H := pif_f (of_decide_eq_false hb) H
                                      refine OJ.pures oU 4 Z ?_
                                      refine OJ.split (t := 397) Z (fun hb => ?_) (fun hb => ?_)
                                      · replace H := pif_t (of_decide_eq_true hb) H
                                        refine OJ.pures oU 7 Z ?_
                                        refine OJ.split (t := 404) Z (fun hb => ?_) (fun hb => ?_)
                                        · replace H := pif_t (of_decide_eq_true hb) H
                                          refine OJ.pures oU 21 Z (OJ.nil (EJ.next ?_))
                                          refine CJ.condT Z ?_
                                          refine CJ.seq (CJ.region ?_)
                                          refine OJ.pures oU 1 Z (OJ.nil (EJ.next ?_))
                                          refine CJ.ret (EJ.bkR (EJ.skR (EJ.skR (EJ.bkR (EJ.skR (EJ.skR (EJ.bkR (EJ.skR (EJ.skR (EJ.bkR (EJ.skR (EJ.skR (?_)))))))))))))
                                          first | (obtain rfl := Option.some.inj H; have H := K347) | (obtain ⟨q347, H2, e347⟩ := pbind H; obtain rfl := Option.some.inj e347; obtain rfl := Option.some.inj K347; have H := H2)
                                          first | (obtain rfl := Option.some.inj H; have H := K324) | (obtain ⟨q324, H2, e324⟩ := pbind H; obtain rfl := Option.some.inj e324; obtain rfl := Option.some.inj K324; have H := H2)
                                          first | (obtain rfl := Option.some.inj H; have H := K261) | (obtain ⟨q261, H2, e261⟩ := pbind H; obtain rfl := Option.some.inj e261; obtain rfl := Option.some.inj K261; have H := H2)
                                          obtain rfl := Option.some.inj H
                                          exact EJ.fin Z (.tmp Z .nil) ⟨Z, hS.ext⟩
                                        · replace H := pif_f (of_decide_eq_false hb) H
                                          refine OJ.st Z Z Z (SR.fieldAddr oU oI Z Z Z Z Z Z) ?_
                                          refine OJ.st Z Z Z (SR.load Z Z (fun w' hx => ld1 oU Z Z (CA.ext (CA.sub (hS.cells (i := 3) Z) 6) hx) Z)) ?_
                                          refine OJ.pures oU 2 Z ?_
                                          refine OJ.split (t := 408) Z (fun hb => ?_) (fun hb => ?_)
                                          · replace H := pif_t (of_decide_eq_true hb) H
                                            refine OJ.pures oU 4 Z ?_
                                            refine OJ.split (t := 412) Z (fun hb => ?_) (fun hb => ?_)
                                            · replace H := pif_t (of_decide_eq_true hb) H
                                              refine OJ.pures oU 13 Z (OJ.nil (EJ.next ?_))
                                              refine CJ.condT Z ?_
                                              refine CJ.seq (CJ.region ?_)
                                              refine OJ.pures oU 1 Z (OJ.nil (EJ.next ?_))
                                              refine CJ.ret (EJ.bkR (EJ.skR (EJ.skR (EJ.bkR (EJ.skR (EJ.skR (EJ.bkR (EJ.skR (EJ.skR (EJ.bkR (EJ.skR (EJ.skR (?_)))))))))))))
                                              first | (obtain rfl := Option.some.inj H; have H := K347) | (obtain ⟨q347, H2, e347⟩ := pbind H; obtain rfl := Option.some.inj e347; obtain rfl := Option.some.inj K347; have H := H2)
                                              first | (obtain rfl := Option.some.inj H; have H := K324) | (obtain ⟨q324, H2, e324⟩ := pbind H; obtain rfl := Option.some.inj e324; obtain rfl := Option.some.inj K324; have H := H2)
                                              first | (obtain rfl := Option.some.inj H; have H := K261) | (obtain ⟨q261, H2, e261⟩ := pbind H; obtain rfl := Option.some.inj e261; obtain rfl := Option.some.inj K261; have H := H2)
                                              obtain rfl := Option.some.inj H
                                              exact EJ.fin Z (.tmp Z .nil) ⟨Z, hS.ext⟩
                                            · replace H := pif_f (of_decide_eq_false hb) H
                                              refine OJ.pures oU 4 Z ?_
                                              refine OJ.split (t := 416) Z (fun hb => ?_) (fun hb => ?_)
                                              · replace H := pif_t (of_decide_eq_true hb) H
                                                refine OJ.pures oU 9 Z (OJ.nil (EJ.next ?_))
                                                refine CJ.cond Z (fun hb => ?_) (fun hb => ?_)
                                                · replace H := pif_t (of_decide_eq_true hb) H
                                                  refine CJ.seq (CJ.region ?_)
                                                  refine OJ.pures oU 1 Z (OJ.nil (EJ.next ?_))
                                                  refine CJ.ret (EJ.bkR (EJ.skR (EJ.skR (EJ.bkR (EJ.skR (EJ.skR (EJ.bkR (EJ.skR (EJ.skR (EJ.bkR (EJ.skR (EJ.skR (?_)))))))))))))
                                                  first | (obtain rfl := Option.some.inj H; have H := K347) | (obtain ⟨q347, H2, e347⟩ := pbind H; obtain rfl := Option.some.inj e347; obtain rfl := Option.some.inj K347; have H := H2)
                                                  first | (obtain rfl := Option.some.inj H; have H := K324) | (obtain ⟨q324, H2, e324⟩ := pbind H; obtain rfl := Option.some.inj e324; obtain rfl := Option.some.inj K324; have H := H2)
                                                  first | (obtain rfl := Option.some.inj H; have H := K261) | (obtain ⟨q261, H2, e261⟩ := pbind H; obtain rfl := Option.some.inj e261; obtain rfl := Option.some.inj K261; have H := H2)
                                                  obtain rfl := Option.some.inj H
                                                  exact EJ.fin Z (.tmp Z .nil) ⟨Z, hS.ext⟩
                                                · replace H := pif_f (of_decide_eq_false hb) H
                                                  refine CJ.skip (EJ.blk (EJ.next ?_))
                                                  refine CJ.region ?_
                                                  refine OJ.pures oU 3 Z ?_
                                                  refine OJ.nil ?_
                                                  exact EJ.round k (F' := [(5, .pointer (some ⟨b3, 0, none⟩)), (6, .slice A5 t4.length c6), (13, .slice A18 t17.1.length c19), (15, .int .i64 y25), (16, .pointer (some ⟨b27, 0, none⟩)), (19, .slice A32 t31.1.length c33), (33, .int .i64 t64.1), (35, .int .i16 t66), (36, .int .i64 (IntKind.i64.wrap (y70 + 1)))]) ⟨Z, Z, Z, Z, Z, Z, Z, Z, Z, trivial⟩ (Nat.lt_succ_self _) ⟨(IntKind.i64.wrap (y70 + 1)), Z, hS.pick [0, 1, 2, 3, 4] [0, 1, 2] Z, H⟩
                                              · replace H := pif_f (of_decide_eq_false hb) H
                                                refine OJ.pures oU 9 Z (OJ.nil (EJ.next ?_))
                                                refine CJ.condF Z ?_
                                                refine CJ.skip (EJ.blk (EJ.next ?_))
                                                refine CJ.region ?_
                                                refine OJ.pures oU 3 Z ?_
                                                refine OJ.nil ?_
                                                exact EJ.round k (F' := [(5, .pointer (some ⟨b3, 0, none⟩)), (6, .slice A5 t4.length c6), (13, .slice A18 t17.1.length c19), (15, .int .i64 y25), (16, .pointer (some ⟨b27, 0, none⟩)), (19, .slice A32 t31.1.length c33), (33, .int .i64 t64.1), (35, .int .i16 t66), (36, .int .i64 (IntKind.i64.wrap (y70 + 1)))]) ⟨Z, Z, Z, Z, Z, Z, Z, Z, Z, trivial⟩ (Nat.lt_succ_self _) ⟨(IntKind.i64.wrap (y70 + 1)), Z, hS.pick [0, 1, 2, 3, 4] [0, 1, 2] Z, H⟩
                                          · replace H := pif_f (of_decide_eq_false hb) H
                                            refine OJ.pures oU 17 Z (OJ.nil (EJ.next ?_))
                                            refine CJ.condF Z ?_
                                            refine CJ.skip (EJ.blk (EJ.next ?_))
                                            refine CJ.region ?_
                                            refine OJ.pures oU 3 Z ?_
                                            refine OJ.nil ?_
                                            exact EJ.round k (F' := [(5, .pointer (some ⟨b3, 0, none⟩)), (6, .slice A5 t4.length c6), (13, .slice A18 t17.1.length c19), (15, .int .i64 y25), (16, .pointer (some ⟨b27, 0, none⟩)), (19, .slice A32 t31.1.length c33), (33, .int .i64 t64.1), (35, .int .i16 t66), (36, .int .i64 (IntKind.i64.wrap (y70 + 1)))]) ⟨Z, Z, Z, Z, Z, Z, Z, Z, Z, trivial⟩ (Nat.lt_succ_self _) ⟨(IntKind.i64.wrap (y70 + 1)), Z, hS.pick [0, 1, 2, 3, 4] [0, 1, 2] Z, H⟩
                                      · replace H := pif_f (of_decide_eq_false hb) H
                                        refine OJ.pures oU 7 Z ?_
                                        refine OJ.st Z Z Z (SR.fieldAddr oU oI Z Z Z Z Z Z) ?_
                                        refine OJ.st Z Z Z (SR.load Z Z (fun w' hx => ld1 oU Z Z (CA.ext (CA.sub (hS.cells (i := 3) Z) 6) hx) Z)) ?_
                                        refine OJ.pures oU 2 Z ?_
                                        refine OJ.split (t := 408) Z (fun hb => ?_) (fun hb => ?_)
                                        · replace H := pif_t (of_decide_eq_true hb) H
                                          refine OJ.pures oU 4 Z ?_
                                          refine OJ.split (t := 412) Z (fun hb => ?_) (fun hb => ?_)
                                          · replace H := pif_t (of_decide_eq_true hb) H
                                            refine OJ.pures oU 13 Z (OJ.nil (EJ.next ?_))
                                            refine CJ.condT Z ?_
                                            refine CJ.seq (CJ.region ?_)
                                            refine OJ.pures oU 1 Z (OJ.nil (EJ.next ?_))
                                            refine CJ.ret (EJ.bkR (EJ.skR (EJ.skR (EJ.bkR (EJ.skR (EJ.skR (EJ.bkR (EJ.skR (EJ.skR (EJ.bkR (EJ.skR (EJ.skR (?_)))))))))))))
                                            first | (obtain rfl := Option.some.inj H; have H := K347) | (obtain ⟨q347, H2, e347⟩ := pbind H; obtain rfl := Option.some.inj e347; obtain rfl := Option.some.inj K347; have H := H2)
                                            first | (obtain rfl := Option.some.inj H; have H := K324) | (obtain ⟨q324, H2, e324⟩ := pbind H; obtain rfl := Option.some.inj e324; obtain rfl := Option.some.inj K324; have H := H2)
                                            first | (obtain rfl := Option.some.inj H; have H := K261) | (obtain ⟨q261, H2, e261⟩ := pbind H; obtain rfl := Option.some.inj e261; obtain rfl := Option.some.inj K261; have H := H2)
                                            obtain rfl := Option.some.inj H
                                            exact EJ.fin Z (.tmp Z .nil) ⟨Z, hS.ext⟩
                                          · replace H := pif_f (of_decide_eq_false hb) H
                                            refine OJ.pures oU 4 Z ?_
                                            refine OJ.split (t := 416) Z (fun hb => ?_) (fun hb => ?_)
                                            · replace H := pif_t (of_decide_eq_true hb) H
                                              refine OJ.pures oU 9 Z (OJ.nil (EJ.next ?_))
                                              refine CJ.cond Z (fun hb => ?_) (fun hb => ?_)
                                              · replace H := pif_t (of_decide_eq_true hb) H
                                                refine CJ.seq (CJ.region ?_)
                                                refine OJ.pures oU 1 Z (OJ.nil (EJ.next ?_))
                                                refine CJ.ret (EJ.bkR (EJ.skR (EJ.skR (EJ.bkR (EJ.skR (EJ.skR (EJ.bkR (EJ.skR (EJ.skR (EJ.bkR (EJ.skR (EJ.skR (?_)))))))))))))
                                                first | (obtain rfl := Option.some.inj H; have H := K347) | (obtain ⟨q347, H2, e347⟩ := pbind H; obtain rfl := Option.some.inj e347; obtain rfl := Option.some.inj K347; have H := H2)
                                                first | (obtain rfl := Option.some.inj H; have H := K324) | (obtain ⟨q324, H2, e324⟩ := pbind H; obtain rfl := Option.some.inj e324; obtain rfl := Option.some.inj K324; have H := H2)
                                                first | (obtain rfl := Option.some.inj H; have H := K261) | (obtain ⟨q261, H2, e261⟩ := pbind H; obtain rfl := Option.some.inj e261; obtain rfl := Option.some.inj K261; have H := H2)
                                                obtain rfl := Option.some.inj H
                                                exact EJ.fin Z (.tmp Z .nil) ⟨Z, hS.ext⟩
                                              · replace H := pif_f (of_decide_eq_false hb) H
                                                refine CJ.skip (EJ.blk (EJ.next ?_))
                                                refine CJ.region ?_
                                                refine OJ.pures oU 3 Z ?_
                                                refine OJ.nil ?_
                                                exact EJ.round k (F' := [(5, .pointer (some ⟨b3, 0, none⟩)), (6, .slice A5 t4.length c6), (13, .slice A18 t17.1.length c19), (15, .int .i64 y25), (16, .pointer (some ⟨b27, 0, none⟩)), (19, .slice A32 t31.1.length c33), (33, .int .i64 t64.1), (35, .int .i16 t66), (36, .int .i64 (IntKind.i64.wrap (y70 + 1)))]) ⟨Z, Z, Z, Z, Z, Z, Z, Z, Z, trivial⟩ (Nat.lt_succ_self _) ⟨(IntKind.i64.wrap (y70 + 1)), Z, hS.pick [0, 1, 2, 3, 4] [0, 1, 2] Z, H⟩
                                            · replace H := pif_f (of_decide_eq_false hb) H
                                              refine OJ.pures oU 9 Z (OJ.nil (EJ.next ?_))
                                              refine CJ.condF Z ?_
                                              refine CJ.skip (EJ.blk (EJ.next ?_))
                                              refine CJ.region ?_
                                              refine OJ.pures oU 3 Z ?_
                                              refine OJ.nil ?_
                                              exact EJ.round k (F' := [(5, .pointer (some ⟨b3, 0, none⟩)), (6, .slice A5 t4.length c6), (13, .slice A18 t17.1.length c19), (15, .int .i64 y25), (16, .pointer (some ⟨b27, 0, none⟩)), (19, .slice A32 t31.1.length c33), (33, .int .i64 t64.1), (35, .int .i16 t66), (36, .int .i64 (IntKind.i64.wrap (y70 + 1)))]) ⟨Z, Z, Z, Z, Z, Z, Z, Z, Z, trivial⟩ (Nat.lt_succ_self _) ⟨(IntKind.i64.wrap (y70 + 1)), Z, hS.pick [0, 1, 2, 3, 4] [0, 1, 2] Z, H⟩
                                        · replace H := pif_f (of_decide_eq_false hb) H
                                          refine OJ.pures oU 17 Z (OJ.nil (EJ.next ?_))
                                          refine CJ.condF Z ?_
                                          refine CJ.skip (EJ.blk (EJ.next ?_))
                                          refine CJ.region ?_
                                          refine OJ.pures oU 3 Z ?_
                                          refine OJ.nil ?_
                                          exact EJ.round k (F' := [(5, .pointer (some ⟨b3, 0, none⟩)), (6, .slice A5 t4.length c6), (13, .slice A18 t17.1.length c19), (15, .int .i64 y25), (16, .pointer (some ⟨b27, 0, none⟩)), (19, .slice A32 t31.1.length c33), (33, .int .i64 t64.1), (35, .int .i16 t66), (36, .int .i64 (IntKind.i64.wrap (y70 + 1)))]) ⟨Z, Z, Z, Z, Z, Z, Z, Z, Z, trivial⟩ (Nat.lt_succ_self _) ⟨(IntKind.i64.wrap (y70 + 1)), Z, hS.pick [0, 1, 2, 3, 4] [0, 1, 2] Z, H⟩
                                  · replace H := pif_f (of_decide_eq_false hb) H
                                    refine OJ.pures oU 15 Z ?_
                                    refine OJ.st Z Z Z (SR.fieldAddr oU oI Z Z Z Z Z Z) ?_
                                    refine OJ.st Z Z Z (SR.load Z Z (fun w' hx => ld1 oU Z Z (CA.ext (CA.sub (hS.cells (i := 3) Z) 6) hx) Z)) ?_
                                    refine OJ.pures oU 2 Z ?_
                                    refine OJ.split (t := 408) Z (fun hb => ?_) (fun hb => ?_)
                                    · replace H := pif_t (of_decide_eq_true hb) H
                                      refine OJ.pures oU 4 Z ?_
                                      refine OJ.split (t := 412) Z (fun hb => ?_) (fun hb => ?_)
                                      · replace H := pif_t (of_decide_eq_true hb) H
                                        refine OJ.pures oU 13 Z (OJ.nil (EJ.next ?_))
                                        refine CJ.condT Z ?_
                                        refine CJ.seq (CJ.region ?_)
                                        refine OJ.pures oU 1 Z (OJ.nil (EJ.next ?_))
                                        refine CJ.ret (EJ.bkR (EJ.skR (EJ.skR (EJ.bkR (EJ.skR (EJ.skR (EJ.bkR (EJ.skR (EJ.skR (EJ.bkR (EJ.skR (EJ.skR (?_)))))))))))))
                                        first | (obtain rfl := Option.some.inj H; have H := K347) | (obtain ⟨q347, H2, e347⟩ := pbind H; obtain rfl := Option.some.inj e347; obtain rfl := Option.some.inj K347; have H := H2)
                                        first | (obtain rfl := Option.some.inj H; have H := K324) | (obtain ⟨q324, H2, e324⟩ := pbind H; obtain rfl := Option.some.inj e324; obtain rfl := Option.some.inj K324; have H := H2)
                                        first | (obtain rfl := Option.some.inj H; have H := K261) | (obtain ⟨q261, H2, e261⟩ := pbind H; obtain rfl := Option.some.inj e261; obtain rfl := Option.some.inj K261; have H := H2)
                                        obtain rfl := Option.some.inj H
                                        exact EJ.fin Z (.tmp Z .nil) ⟨Z, hS.ext⟩
                                      · replace H := pif_f (of_decide_eq_false hb) H
                                        refine OJ.pures oU 4 Z ?_
                                        refine OJ.split (t := 416) Z (fun hb => ?_) (fun hb => ?_)
                                        · replace H := pif_t (of_decide_eq_true hb) H
                                          refine OJ.pures oU 9 Z (OJ.nil (EJ.next ?_))
                                          refine CJ.cond Z (fun hb => ?_) (fun hb => ?_)
                                          · replace H := pif_t (of_decide_eq_true hb) H
                                            refine CJ.seq (CJ.region ?_)
                                            refine OJ.pures oU 1 Z (OJ.nil (EJ.next ?_))
                                            refine CJ.ret (EJ.bkR (EJ.skR (EJ.skR (EJ.bkR (EJ.skR (EJ.skR (EJ.bkR (EJ.skR (EJ.skR (EJ.bkR (EJ.skR (EJ.skR (?_)))))))))))))
                                            first | (obtain rfl := Option.some.inj H; have H := K347) | (obtain ⟨q347, H2, e347⟩ := pbind H; obtain rfl := Option.some.inj e347; obtain rfl := Option.some.inj K347; have H := H2)
                                            first | (obtain rfl := Option.some.inj H; have H := K324) | (obtain ⟨q324, H2, e324⟩ := pbind H; obtain rfl := Option.some.inj e324; obtain rfl := Option.some.inj K324; have H := H2)
                                            first | (obtain rfl := Option.some.inj H; have H := K261) | (obtain ⟨q261, H2, e261⟩ := pbind H; obtain rfl := Option.some.inj e261; obtain rfl := Option.some.inj K261; have H := H2)
                                            obtain rfl := Option.some.inj H
                                            exact EJ.fin Z (.tmp Z .nil) ⟨Z, hS.ext⟩
                                          · replace H := pif_f (of_decide_eq_false hb) H
                                            refine CJ.skip (EJ.blk (EJ.next ?_))
                                            refine CJ.region ?_
                                            refine OJ.pures oU 3 Z ?_
                                            refine OJ.nil ?_
                                            exact EJ.round k (F' := [(5, .pointer (some ⟨b3, 0, none⟩)), (6, .slice A5 t4.length c6), (13, .slice A18 t17.1.length c19), (15, .int .i64 y25), (16, .pointer (some ⟨b27, 0, none⟩)), (19, .slice A32 t31.1.length c33), (33, .int .i64 t64.1), (35, .int .i16 t66), (36, .int .i64 (IntKind.i64.wrap (y70 + 1)))]) ⟨Z, Z, Z, Z, Z, Z, Z, Z, Z, trivial⟩ (Nat.lt_succ_self _) ⟨(IntKind.i64.wrap (y70 + 1)), Z, hS.pick [0, 1, 2, 3, 4] [0, 1, 2] Z, H⟩
                                        · replace H := pif_f (of_decide_eq_false hb) H
                                          refine OJ.pures oU 9 Z (OJ.nil (EJ.next ?_))
                                          refine CJ.condF Z ?_
                                          refine CJ.skip (EJ.blk (EJ.next ?_))
                                          refine CJ.region ?_
                                          refine OJ.pures oU 3 Z ?_
                                          refine OJ.nil ?_
                                          exact EJ.round k (F' := [(5, .pointer (some ⟨b3, 0, none⟩)), (6, .slice A5 t4.length c6), (13, .slice A18 t17.1.length c19), (15, .int .i64 y25), (16, .pointer (some ⟨b27, 0, none⟩)), (19, .slice A32 t31.1.length c33), (33, .int .i64 t64.1), (35, .int .i16 t66), (36, .int .i64 (IntKind.i64.wrap (y70 + 1)))]) ⟨Z, Z, Z, Z, Z, Z, Z, Z, Z, trivial⟩ (Nat.lt_succ_self _) ⟨(IntKind.i64.wrap (y70 + 1)), Z, hS.pick [0, 1, 2, 3, 4] [0, 1, 2] Z, H⟩
                                    · replace H := pif_f (of_decide_eq_false hb) H
                                      refine OJ.pures oU 17 Z (OJ.nil (EJ.next ?_))
                                      refine CJ.condF Z ?_
                                      refine CJ.skip (EJ.blk (EJ.next ?_))
                                      refine CJ.region ?_
                                      refine OJ.pures oU 3 Z ?_
                                      refine OJ.nil ?_
                                      exact EJ.round k (F' := [(5, .pointer (some ⟨b3, 0, none⟩)), (6, .slice A5 t4.length c6), (13, .slice A18 t17.1.length c19), (15, .int .i64 y25), (16, .pointer (some ⟨b27, 0, none⟩)), (19, .slice A32 t31.1.length c33), (33, .int .i64 t64.1), (35, .int .i16 t66), (36, .int .i64 (IntKind.i64.wrap (y70 + 1)))]) ⟨Z, Z, Z, Z, Z, Z, Z, Z, Z, trivial⟩ (Nat.lt_succ_self _) ⟨(IntKind.i64.wrap (y70 + 1)), Z, hS.pick [0, 1, 2, 3, 4] [0, 1, 2] Z, H⟩
                                · replace H := pif_f (of_decide_eq_false hb) H
                                  refine OJ.pures oU 40 Z (OJ.nil (EJ.next ?_))
                                  refine CJ.condF Z ?_
                                  refine CJ.skip (EJ.blk (EJ.next ?_))
                                  refine CJ.region ?_
                                  refine OJ.pures oU 3 Z ?_
                                  refine OJ.nil ?_
                                  exact EJ.round k (F' := [(5, .pointer (some ⟨b3, 0, none⟩)), (6, .slice A5 t4.length c6), (13, .slice A18 t17.1.length c19), (15, .int .i64 y25), (16, .pointer (some ⟨b27, 0, none⟩)), (19, .slice A32 t31.1.length c33), (33, .int .i64 t64.1), (35, .int .i16 t66), (36, .int .i64 (IntKind.i64.wrap (y70 + 1)))]) ⟨Z, Z, Z, Z, Z, Z, Z, Z, Z, trivial⟩ (Nat.lt_succ_self _) ⟨(IntKind.i64.wrap (y70 + 1)), Z, hS.pick [0, 1, 2, 3, 4] [0, 1, 2] Z, H⟩
                            · replace H := pif_f (of_decide_eq_false hb) H
                              refine CJ.exit (EJ.skE (EJ.skE (EJ.hit (?_))))
                              exact EJ.meet (F' := [(5, .pointer (some ⟨b3, 0, none⟩)), (6, .slice A5 t4.length c6), (13, .slice A18 t17.1.length c19), (15, .int .i64 y25), (16, .pointer (some ⟨b27, 0, none⟩))]) ⟨Z, Z, Z, Z, Z, trivial⟩ ⟨H, Z, hS.pick [0, 1, 2, 3] [0, 1, 2] Z⟩
                        · rintro F w1 ⟨he, rfl, hS⟩
                          obtain rfl := Option.some.inj he
                          have H := K347
                          refine EJ.next ?_
                          refine CJ.seq (CJ.region ?_)
                          refine OJ.st Z Z Z (SR.load Z Z (fun w' hx => ldE oU oI Z Z Z (CA.ext (hS.cells (i := 0) Z) hx) Z)) ?_
                          refine OJ.st Z Z Z (SR.load Z Z (fun w' hx => ldE oU oI Z Z Z (CA.ext (hS.cells (i := 3) Z) hx) Z)) ?_
                          obtain ⟨t77, ht77, H⟩ := pbind H
                          refine OJ.callF Z Z Z Z Z hb26 Z (impl_TieGoat.c k _ t2 t26 2 _ ht77) ?_
                          rintro _ w1 ⟨rfl, hs⟩
                          replace hS := hS.grow hs
                          refine OJ.pures oU 3 Z ?_
                          refine OJ.ef Z Z Z (Ef.alloc hS oI Z Z (cGoat.enc (⟨(⟨0, 0⟩ : Spot), (⟨0, 0⟩ : Spot), 0, 0, 0⟩ : Goat)) Z) ?_
                          rintro _ w1 ⟨b78, rfl, hS⟩
                          refine OJ.es Z Z (Es.store oI hS (i := 4) Z Z Z Z Z Z (vs := cGoat.enc t77.1) Z (cGoat.len _) (cGoat.one _) (Nat.le_of_ble_eq_true Z) (cGoat.enc t77.1) Z) ?_
                          intro w1 hS
                          refine OJ.pures oU 1 Z (OJ.nil (EJ.next ?_))
                          refine CJ.seq ?_
                          obtain ⟨j348, H, K348⟩ := pbind H
                          refine CJ.cut (fun F w1 => ∃ (y79 : Bool) , (some y79 : Option Bool) = some j348 ∧ F = [(5, .pointer (some ⟨b3, 0, none⟩)), (6, .slice A5 t4.length c6), (13, .slice A18 t17.1.length c19), (15, .int .i64 y25), (40, .pointer (some ⟨b78, 0, none⟩)), (452, .bool y79)] ∧ St w no w1 [box b3 (cPasture.enc t2) 31, rowC cGoat A5 c6 50 t4, rowC cSpot A18 c19 48 t17.1, box b78 (cGoat.enc t77.1) 50] [roC (ci .u8) Aa0 ca0 a0, roC (ci .u8) Aa1 ca1 a1, envC Tryz.prog 0]) ?_ ?_
                          · skip
                            refine CJ.region ?_
                            refine OJ.pures oU 3 Z ?_
                            refine OJ.split (t := 434) Z (fun hb => ?_) (fun hb => ?_)
                            · replace H := pif_t (of_decide_eq_true hb) H
                              refine OJ.pures oU 18 Z ?_
                              refine OJ.nil ?_
                              exact EJ.meet (F' := [(5, .pointer (some ⟨b3, 0, none⟩)), (6, .slice A5 t4.length c6), (13, .slice A18 t17.1.length c19), (15, .int .i64 y25), (40, .pointer (some ⟨b78, 0, none⟩)), (452, .bool true)]) ⟨Z, Z, Z, Z, Z, Z, trivial⟩ ⟨true, H, Z, hS.pick [0, 1, 2, 4] [0, 1, 2] Z⟩
                            · replace H := pif_f (of_decide_eq_false hb) H
                              refine OJ.st Z Z Z (SR.fieldAddr oU oI Z Z Z Z Z Z) ?_
                              refine OJ.st Z Z Z (SR.load Z Z (fun w' hx => ld1 oU Z Z (CA.ext (CA.sub (hS.cells (i := 4) Z) 4) hx) Z)) ?_
                              refine OJ.pures oU 3 Z ?_
                              refine OJ.split (t := 439) Z (fun hb => ?_) (fun hb => ?_)
                              · replace H := pif_t (of_decide_eq_true hb) H
                                refine OJ.pures oU 13 Z ?_
                                refine OJ.nil ?_
                                exact EJ.meet (F' := [(5, .pointer (some ⟨b3, 0, none⟩)), (6, .slice A5 t4.length c6), (13, .slice A18 t17.1.length c19), (15, .int .i64 y25), (40, .pointer (some ⟨b78, 0, none⟩)), (452, .bool true)]) ⟨Z, Z, Z, Z, Z, Z, trivial⟩ ⟨true, H, Z, hS.pick [0, 1, 2, 4] [0, 1, 2] Z⟩
                              · replace H := pif_f (of_decide_eq_false hb) H
                                refine OJ.st Z Z Z (SR.fieldAddr oU oI Z Z Z Z Z Z) ?_
                                refine OJ.st Z Z Z (SR.load Z Z (fun w' hx => ldN oU oI Z Z Z (CA.ext (CA.sub (hS.cells (i := 4) Z) 2) hx) (cSpot.len _) Z)) ?_
                                refine OJ.st Z Z Z (SR.fieldAddr oU oI Z Z Z Z Z Z) ?_
                                refine OJ.st Z Z Z (SR.load Z Z (fun w' hx => ldN oU oI Z Z Z (CA.ext (CA.sub (hS.cells (i := 3) Z) 0) hx) (cSpot.len _) Z)) ?_
                                refine OJ.st Z Z Z (SR.neS eqT48 eqG48 Z Z Z (Z : _ = (cSpot.enc t77.1.Stake).toArray) (Z : _ = (cSpot.enc t26.At).toArray)) ?_
                                refine OJ.pures oU 2 Z ?_
                                refine OJ.split (t := 446) Z (fun hb => ?_) (fun hb => ?_)
                                · replace H := pif_t (of_decide_eq_true hb) H
                                  refine OJ.pures oU 6 Z ?_
                                  refine OJ.nil ?_
                                  exact EJ.meet (F' := [(5, .pointer (some ⟨b3, 0, none⟩)), (6, .slice A5 t4.length c6), (13, .slice A18 t17.1.length c19), (15, .int .i64 y25), (40, .pointer (some ⟨b78, 0, none⟩)), (452, .bool true)]) ⟨Z, Z, Z, Z, Z, Z, trivial⟩ ⟨true, H, Z, hS.pick [0, 1, 2, 4] [0, 1, 2] Z⟩
                                · replace H := pif_f (of_decide_eq_false hb) H
                                  refine OJ.st Z Z Z (SR.fieldAddr oU oI Z Z Z Z Z Z) ?_
                                  refine OJ.st Z Z Z (SR.load Z Z (fun w' hx => ldN oU oI Z Z Z (CA.ext (CA.sub (hS.cells (i := 4) Z) 0) hx) (cSpot.len _) Z)) ?_
                                  refine OJ.st Z Z Z (SR.fieldAddr oU oI Z Z Z Z Z Z) ?_
                                  refine OJ.st Z Z Z (SR.load Z Z (fun w' hx => ldN oU oI Z Z Z (CA.ext (CA.sub (hS.cells (i := 3) Z) 0) hx) (cSpot.len _) Z)) ?_
                                  refine OJ.st Z Z Z (SR.neS eqT48 eqG48 Z Z Z (Z : _ = (cSpot.enc t77.1.At).toArray) (Z : _ = (cSpot.enc t26.At).toArray)) ?_
                                  refine OJ.pures oU 1 Z ?_
                                  refine OJ.nil ?_
                                  exact EJ.meet (F' := [(5, .pointer (some ⟨b3, 0, none⟩)), (6, .slice A5 t4.length c6), (13, .slice A18 t17.1.length c19), (15, .int .i64 y25), (40, .pointer (some ⟨b78, 0, none⟩)), (452, .bool (decide (t77.1.At ≠ t26.At)))]) ⟨Z, Z, Z, Z, Z, Z, trivial⟩ ⟨(decide (t77.1.At ≠ t26.At)), H, Z, hS.pick [0, 1, 2, 4] [0, 1, 2] Z⟩
                          · rintro F w1 ⟨y79, he, rfl, hS⟩
                            obtain rfl := Option.some.inj he
                            have H := K348
                            refine CJ.cond Z (fun hb => ?_) (fun hb => ?_)
                            · replace H := pif_t hb H
                              refine CJ.seq (CJ.region ?_)
                              refine OJ.pures oU 1 Z (OJ.nil (EJ.next ?_))
                              refine CJ.ret (EJ.skR (EJ.bkR (EJ.skR (EJ.skR (EJ.bkR (EJ.skR (EJ.skR (?_))))))))
                              first | (obtain rfl := Option.some.inj H; have H := K324) | (obtain ⟨q324, H2, e324⟩ := pbind H; obtain rfl := Option.some.inj e324; obtain rfl := Option.some.inj K324; have H := H2)
                              first | (obtain rfl := Option.some.inj H; have H := K261) | (obtain ⟨q261, H2, e261⟩ := pbind H; obtain rfl := Option.some.inj e261; obtain rfl := Option.some.inj K261; have H := H2)
                              obtain rfl := Option.some.inj H
                              exact EJ.fin Z (.tmp Z .nil) ⟨Z, hS.ext⟩
                            · replace H := pifb_f hb H
                              refine CJ.skip (EJ.next ?_)
                              refine CJ.seq (CJ.region ?_)
                              refine OJ.st Z Z Z (SR.load Z Z (fun w' hx => ldE oU oI Z Z Z (CA.ext (hS.cells (i := 0) Z) hx) Z)) ?_
                              refine OJ.st Z Z Z (SR.load Z Z (fun w' hx => ldE oU oI Z Z Z (CA.ext (hS.cells (i := 3) Z) hx) Z)) ?_
                              obtain ⟨t80, ht80, H⟩ := pbind H
                              refine OJ.callF Z Z Z Z Z hb16 Z (impl_CellsFor.c k _ t2 t77.1 _ ht80) ?_
                              rintro _ w1 ⟨A81, c82, rfl, hs⟩
                              replace hS := hS.addN hs
                              refine OJ.pures oU 5 Z (OJ.nil (EJ.next ?_))
                              refine CJ.seq (CJ.region ?_)
                              refine OJ.pures oU 3 Z ?_
                              refine OJ.split (t := 461) Z (fun hb => ?_) (fun hb => ?_)
                              · replace H := pif_t (of_decide_eq_true hb) H
                                refine OJ.pures oU 9 Z (OJ.nil (EJ.next ?_))
                                refine CJ.condT Z ?_
                                refine CJ.seq (CJ.region ?_)
                                refine OJ.pures oU 1 Z (OJ.nil (EJ.next ?_))
                                refine CJ.ret (EJ.bkR (EJ.skR (EJ.skR (EJ.bkR (EJ.skR (EJ.skR (?_)))))))
                                first | (obtain rfl := Option.some.inj H; have H := K324) | (obtain ⟨q324, H2, e324⟩ := pbind H; obtain rfl := Option.some.inj e324; obtain rfl := Option.some.inj K324; have H := H2)
                                first | (obtain rfl := Option.some.inj H; have H := K261) | (obtain ⟨q261, H2, e261⟩ := pbind H; obtain rfl := Option.some.inj e261; obtain rfl := Option.some.inj K261; have H := H2)
                                obtain rfl := Option.some.inj H
                                exact EJ.fin Z (.tmp Z .nil) ⟨Z, hS.ext⟩
                              · replace H := pif_f (of_decide_eq_false hb) H
                                refine OJ.pures oU 5 Z ?_
                                refine OJ.split (t := 466) Z (fun hb => ?_) (fun hb => ?_)
                                · replace H := pif_t (of_decide_eq_true hb) H
                                  refine OJ.pures oU 4 Z (OJ.nil (EJ.next ?_))
                                  refine CJ.condT Z ?_
                                  refine CJ.seq (CJ.region ?_)
                                  refine OJ.pures oU 1 Z (OJ.nil (EJ.next ?_))
                                  refine CJ.ret (EJ.bkR (EJ.skR (EJ.skR (EJ.bkR (EJ.skR (EJ.skR (?_)))))))
                                  first | (obtain rfl := Option.some.inj H; have H := K324) | (obtain ⟨q324, H2, e324⟩ := pbind H; obtain rfl := Option.some.inj e324; obtain rfl := Option.some.inj K324; have H := H2)
                                  first | (obtain rfl := Option.some.inj H; have H := K261) | (obtain ⟨q261, H2, e261⟩ := pbind H; obtain rfl := Option.some.inj e261; obtain rfl := Option.some.inj K261; have H := H2)
                                  obtain rfl := Option.some.inj H
                                  exact EJ.fin Z (.tmp Z .nil) ⟨Z, hS.ext⟩
                                · replace H := pif_f (of_decide_eq_false hb) H
                                  refine OJ.pures oU 4 Z (OJ.nil (EJ.next ?_))
                                  refine CJ.cond Z (fun hb => ?_) (fun hb => ?_)
                                  · replace H := pif_t (of_decide_eq_true hb) H
                                    refine CJ.seq (CJ.region ?_)
                                    refine OJ.pures oU 1 Z (OJ.nil (EJ.next ?_))
                                    refine CJ.ret (EJ.bkR (EJ.skR (EJ.skR (EJ.bkR (EJ.skR (EJ.skR (?_)))))))
                                    first | (obtain rfl := Option.some.inj H; have H := K324) | (obtain ⟨q324, H2, e324⟩ := pbind H; obtain rfl := Option.some.inj e324; obtain rfl := Option.some.inj K324; have H := H2)
                                    first | (obtain rfl := Option.some.inj H; have H := K261) | (obtain ⟨q261, H2, e261⟩ := pbind H; obtain rfl := Option.some.inj e261; obtain rfl := Option.some.inj K261; have H := H2)
                                    obtain rfl := Option.some.inj H
                                    exact EJ.fin Z (.tmp Z .nil) ⟨Z, hS.ext⟩
                                  · replace H := pif_f (of_decide_eq_false hb) H
                                    refine CJ.skip (EJ.blk (?_))
                                    exact EJ.meet (F' := [(5, .pointer (some ⟨b3, 0, none⟩)), (6, .slice A5 t4.length c6), (13, .slice A18 t17.1.length c19), (15, .int .i64 y25)]) ⟨Z, Z, Z, Z, trivial⟩ ⟨H, Z, hS.pick [0, 1, 2] [0, 1, 2] Z⟩
      · rintro F w1 ⟨he, rfl, hS⟩
        obtain rfl := Option.some.inj he
        have H := K324
        refine CJ.region ?_
        refine OJ.pures oU 3 Z ?_
        refine OJ.nil ?_
        exact EJ.round k (F' := [(5, .pointer (some ⟨b3, 0, none⟩)), (6, .slice A5 t4.length c6), (13, .slice A18 t17.1.length c19), (15, .int .i64 (IntKind.i64.wrap (y25 + 1)))]) ⟨Z, Z, Z, Z, trivial⟩ (Nat.lt_succ_self _) ⟨(IntKind.i64.wrap (y25 + 1)), Z, hS.pick [0, 1, 2] [0, 1, 2] Z, H⟩
    · replace H := pif_f (of_decide_eq_false hb) H
      refine CJ.exit (EJ.skE (EJ.skE (EJ.hit (?_))))
      exact EJ.meet (F' := []) trivial ⟨H, Z, hS.pick [] [0, 1, 2] Z⟩
 rintro F w1 ⟨he, rfl, hS⟩
 obtain rfl := Option.some.inj he
 have H := K261
 refine EJ.next ?_
 refine CJ.seq (CJ.region ?_)
 refine OJ.pures oU 1 Z (OJ.nil (EJ.next ?_))
 refine CJ.ret (?_)
 obtain rfl := Option.some.inj H
 exact EJ.fin Z (.tmp Z .nil) ⟨Z, hS.ext⟩
end Go.Proofs.YtokanemjghfadaaGreatDoor
