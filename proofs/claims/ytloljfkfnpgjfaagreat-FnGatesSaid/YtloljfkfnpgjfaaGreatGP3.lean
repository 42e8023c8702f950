/-
  What the functions come to.
-/
import Derived.Test.YtloljfkfnpgjfaaGreatGP2
namespace Go.Proofs.YtloljfkfnpgjfaaGreat
open G
set_option linter.unusedVariables false
set_option linter.unusedSimpArgs false
set_option maxRecDepth 100000
set_option maxHeartbeats 4000000
def laws_FnGates.l1 (t4 : Pasture) (t6 : List (List Spot) × Int) (t35 : List Hurdle × Int) : Nat → Int → Option (Bool ⊕ Unit)
  | 0, _ => none
  | k + 1, y40 => if y40 < (t35.1.length : Int) then ((chk ((0 : Int) ≤ y40 ∧ y40 ≤ (IntKind.i64.wrap (y40 + 1)) ∧ (IntKind.i64.wrap (y40 + 1)) ≤ (t35.1.length : Int))).bind fun u41 => (impl_AddHurdles.f k t4 ((t35.1.drop y40.toNat).take (((IntKind.i64.wrap (y40 + 1)).toNat) - y40.toNat))).bind fun t42 => (spec_YardsOf.f k t42.1).bind fun t46 => if t42.2 ≠ 0 then (some (Sum.inl false)) else (if t46.2 ≠ 0 then (some (Sum.inl false)) else (if (t46.1.length : Int) ≠ (IntKind.i64.wrap ((t6.1.length : Int) + 1)) then (some (Sum.inl false)) else (laws_FnGates.l1 t4 t6 t35 k (IntKind.i64.wrap (y40 + 1)))))) else (some (Sum.inr ()))
def laws_FnGates.l2 (t4 : Pasture) (t25 : List Hurdle × Int) (t50 : Spot) (t56 : Spot) (t72 : Hurdle × Int × Int) : Nat → Int → Option (Bool ⊕ Unit)
  | 0, _ => none
  | k + 1, y84 => if y84 < (t25.1.length : Int) then ((chk ((0 : Int) ≤ y84 ∧ y84 ≤ (IntKind.i64.wrap (y84 + 1)) ∧ (IntKind.i64.wrap (y84 + 1)) ≤ (t25.1.length : Int))).bind fun u85 => (spec_TakeHurdles.f k t4 ((t25.1.drop y84.toNat).take (((IntKind.i64.wrap (y84 + 1)).toNat) - y84.toNat))).bind fun t86 => (spec_StepsBetween.f k t86.1 t50 t56).bind fun t90 => if t86.2 ≠ 0 then (some (Sum.inl false)) else (if t90.2 = 0 then (if t90.1 < t72.2.1 then (some (Sum.inl false)) else (laws_FnGates.l2 t4 t25 t50 t56 t72 k (IntKind.i64.wrap (y84 + 1)))) else (laws_FnGates.l2 t4 t25 t50 t56 t72 k (IntKind.i64.wrap (y84 + 1))))) else (some (Sum.inr ()))
def laws_FnGates.f (k : Nat) (a0 : List Int) (a1 : List Int) : Option Bool := ((laws_f6big.f a0).bind fun t2 => if t2 = true then (some true) else ((laws_f6big.f a1).bind fun t3 => some t3)).bind fun y1 => if y1 = true then (some true) else ((spec_P6Pasture.f k a0).bind fun t4 => (spec_YardsOf.f k t4).bind fun t6 => (impl_JoinYards.f k t4).bind fun t10 => (spec_JoinYards.f k t4).bind fun t13 => (impl_TakeHurdles.f k t4 t13.1).bind fun t16 => (spec_YardsOf.f k t16.1).bind fun t18 => (impl_HurdlesOf.f k t4).bind fun t22 => (spec_HurdlesOf.f k t4).bind fun t25 => (impl_CountHurdles.f k t4).bind fun t28 => (if t6.2 ≠ 0 then (some true) else (if t10.2 ≠ t13.2 then (some true) else (if t10.2 ≠ 0 then (some true) else ((spec_SameFence.f k t10.1 t13.1).bind fun t30 => if (!t30) = true then (some true) else (if (t13.1.length : Int) ≠ (IntKind.i64.wrap ((t6.1.length : Int) - 1)) then (some true) else (if t16.2 ≠ 0 then (some true) else (if t18.2 ≠ 0 then (some true) else (if (t18.1.length : Int) ≠ 1 then (some true) else (if t22.2 ≠ t25.2 then (some true) else (if t22.2 ≠ 0 then (some true) else ((spec_SameFence.f k t22.1 t25.1).bind fun t31 => if (!t31) = true then (some true) else (if t28.2 ≠ 0 then (some true) else (some (decide (t28.1 ≠ (t25.1.length : Int)))))))))))))))).bind fun y29 => if y29 = true then (some false) else ((impl_WeakSides.f k t4).bind fun t32 => (spec_WeakSides.f k t4).bind fun t35 => (if t32.2 ≠ t35.2 then (some true) else (if t32.2 ≠ 0 then (some true) else ((spec_SameFence.f k t32.1 t35.1).bind fun t39 => some (!t39)))).bind fun y38 => if y38 = true then (some false) else ((laws_FnGates.l1 t4 t6 t35 k 0).bind fun s258 => match s258 with | .inl r => some r | .inr _ => (spec_P6Spot.f a1 t4).bind fun t50 => (chk (([3] : List Int).length + a1.length ≤ 4294967296)).bind fun u53 => (spec_P6Spot.f (([3] : List Int) ++ a1) t4).bind fun t56 => (impl_BestGate.f k t4 t50 t56).bind fun t70 => (spec_BestGate.f k t4 t50 t56).bind fun t72 => (impl_GatesNeeded.f k t4 t50 t56).bind fun t74 => (spec_GatesNeeded.f k t4 t50 t56).bind fun t75 => (impl_GatesNeeded.f k t4 t56 t50).bind fun t76 => (if t70.2.2 ≠ t72.2.2 then (some true) else (if t70.1 ≠ t72.1 then (some true) else (if t70.2.1 ≠ t72.2.1 then (some true) else (if t74.2 ≠ t75.2 then (some true) else (if t74.2 ≠ 0 then (some true) else (if t74.1 ≠ t75.1 then (some true) else (if t76.2 ≠ 0 then (some true) else (if t76.1 ≠ t75.1 then (some true) else (if (decide (t70.2.2 = 4)) ≠ (decide (t75.1 = 0)) then (some true) else (if (decide (t70.2.2 = 0)) ≠ (decide (t75.1 = 1)) then (some true) else (some (decide ((t13.1.length : Int) < t75.1))))))))))))).bind fun y77 => if y77 = true then (some false) else (if t70.2.2 ≠ 0 then ((if t70.2.2 = 4 then (some true) else (some (decide (t70.2.2 = 6)))).bind fun y78 => some y78) else ((impl_TakeHurdles.f k t4 ([t72.1] : List Hurdle)).bind fun t80 => (impl_StepsBetween.f k t80.1 t50 t56).bind fun t82 => (if t80.2 ≠ 0 then (some true) else (if t82.2 ≠ 0 then (some true) else (some (decide (t82.1 ≠ t72.2.1))))).bind fun y83 => if y83 = true then (some false) else ((laws_FnGates.l2 t4 t25 t50 t56 t72 k 0).bind fun s855 => match s855 with | .inl r => some r | .inr _ => some true))))))
theorem laws_FnGates.c (k : Nat) (w : World) (Aa0 : Option Addr) (ca0 : Nat) (a0 : List Int) (hr0 : Rd (ci .u8) w Aa0 a0) (hc0 : a0.length ≤ ca0) (Aa1 : Option Addr) (ca1 : Nat) (a1 : List Int) (hr1 : Rd (ci .u8) w Aa1 a1) (hc1 : a1.length ≤ ca1) (r : Bool) (H : laws_FnGates.f k a0 a1 = some r) :
 CV Tryz.prog 3 [.slice Aa0 a0.length ca0, .slice Aa1 a1.length ca1].toArray w fun v w' => v = .bool r ∧ Ext w w' := by
 have hS := (((St.init w no).param (ci .u8) Aa0 ca0 a0 hr0 hc0).param (ci .u8) Aa1 ca1 a1 hr1 hc1)
 unfold laws_FnGates.f at H
 refine CV.body Tryz.func3 Z Tryz.ntmps3 Z ?_
 refine CJ.seq (CJ.region ?_)
 refine OJ.pures oU 1 Z (OJ.nil (EJ.next ?_))
 refine CJ.seq ?_
 obtain ⟨j1, H, K1⟩ := pbind H
 refine CJ.cut (fun F w1 => ∃ (y1 : Bool) , (some y1 : Option Bool) = some j1 ∧ F = [(0, .slice Aa0 a0.length ca0), (1, .slice Aa1 a1.length ca1), (59, .bool y1)] ∧ St w no w1 [] [roC (ci .u8) Aa0 ca0 a0, roC (ci .u8) Aa1 ca1 a1]) ?_ ?_
 ·skip
  refine CJ.region ?_
  refine OJ.pures oU 1 Z ?_
  obtain ⟨t2, ht2, H⟩ := pbind H
  refine OJ.callF Z Z Z Z Z hb4 Z (laws_f6big.c _ Aa0 ca0 a0 (hS.rd' (i := 0) Z) (hS.le' (i := 0) Z) _ ht2) ?_
  rintro _ w1 ⟨rfl, hs⟩
  replace hS := hS.grow hs
  refine OJ.pures oU 1 Z ?_
  refine OJ.split (t := 56) Z (fun hb => ?_) (fun hb => ?_)
  ·replace H := pif_t hb H
   refine OJ.pures oU 3 Z ?_
   refine OJ.nil ?_
   exact EJ.meet (F' := [(0, .slice Aa0 a0.length ca0), (1, .slice Aa1 a1.length ca1), (59, .bool true)]) ⟨Z, Z, Z, trivial⟩ ⟨true, H, Z, hS.pick [] [0, 1] Z⟩
  replace H := pifb_f hb H
  refine OJ.pures oU 1 Z ?_
  obtain ⟨t3, ht3, H⟩ := pbind H
  refine OJ.callF Z Z Z Z Z hb4 Z (laws_f6big.c _ Aa1 ca1 a1 (hS.rd' (i := 1) Z) (hS.le' (i := 1) Z) _ ht3) ?_
  rintro _ w1 ⟨rfl, hs⟩
  replace hS := hS.grow hs
  refine OJ.pures oU 1 Z ?_
  refine OJ.nil ?_
  exact EJ.meet (F' := [(0, .slice Aa0 a0.length ca0), (1, .slice Aa1 a1.length ca1), (59, .bool t3)]) ⟨Z, Z, Z, trivial⟩ ⟨t3, H, Z, hS.pick [] [0, 1] Z⟩
 rintro F w1 ⟨y1, he, rfl, hS⟩
 obtain rfl := Option.some.inj he
 have H := K1
 refine CJ.cond Z (fun hb => ?_) (fun hb => ?_)
 ·replace H := pif_t hb H
  refine CJ.seq (CJ.region ?_)
  refine OJ.pures oU 1 Z (OJ.nil (EJ.next ?_))
  refine CJ.ret (EJ.skR (?_))
  obtain rfl := Option.some.inj H
  exact EJ.fin Z (.tmp Z .nil) ⟨Z, hS.ext⟩
 replace H := pifb_f hb H
 refine CJ.skip (EJ.next ?_)
 refine CJ.seq (CJ.region ?_)
 refine OJ.pures oU 1 Z ?_
 obtain ⟨t4, ht4, H⟩ := pbind H
 refine OJ.callF Z Z Z Z Z hb5 Z (spec_P6Pasture.c k _ Aa0 ca0 a0 (hS.rd' (i := 0) Z) (hS.le' (i := 0) Z) _ ht4) ?_
 rintro _ w1 ⟨rfl, hs⟩
 replace hS := hS.grow hs
 refine OJ.ef rfl rfl rfl (Ef.alloc hS oI rfl rfl (cPasture.enc (⟨0, 0, (Arr.mk' (Arr.mk' 0 : Arr 10 Int) : Arr 10 (Arr 10 Int)), (Arr.mk' 0 : Arr 10 Int), (Arr.mk' 0 : Arr 10 Int)⟩ : Pasture)) (by kernel_rfl)) ?_
 rintro _ w1 ⟨b5, rfl, hS⟩
 refine OJ.es rfl rfl (Es.put oI hS (i := 0) rfl rfl rfl rfl rfl (vs := cPasture.enc t4) rfl (cPasture.len _) (cPasture.one _) (Put.all cPasture (⟨0, 0, (Arr.mk' (Arr.mk' 0 : Arr 10 Int) : Arr 10 (Arr 10 Int)), (Arr.mk' 0 : Arr 10 Int), (Arr.mk' 0 : Arr 10 Int)⟩ : Pasture) t4) (by (try simp only [add_lit, Nat.add_assoc, Nat.zero_add, Nat.add_zero]) <;> rfl)) ?_
 intro w1 hS
 refine OJ.nil (EJ.next ?_)
 refine CJ.seq (CJ.region ?_)
 refine OJ.st Z Z Z (SR.load Z Z (fun w' hx => ldE oU oI Z Z Z (CA.ext (hS.cells (i := 0) Z) hx) Z)) ?_
 obtain ⟨t6, ht6, H⟩ := pbind H
 refine OJ.callF Z Z Z Z Z hb6 Z (spec_YardsOf.c k _ t4 _ ht6) ?_
 rintro _ w1 ⟨A7, c8, D9, rfl, hs⟩
 replace hS := hS.addN hs
 refine OJ.pures oU 5 Z (OJ.nil (EJ.next ?_))
 refine CJ.seq (CJ.region ?_)
 refine OJ.st Z Z Z (SR.load Z Z (fun w' hx => ldE oU oI Z Z Z (CA.ext (hS.cells (i := 0) Z) hx) Z)) ?_
 obtain ⟨t10, ht10, H⟩ := pbind H
 refine OJ.callF Z Z Z Z Z hb7 Z (impl_JoinYards.c k _ t4 _ ht10) ?_
 rintro _ w1 ⟨A11, c12, rfl, hs⟩
 replace hS := hS.addN hs
 refine OJ.pures oU 5 Z (OJ.nil (EJ.next ?_))
 refine CJ.seq (CJ.region ?_)
 refine OJ.st Z Z Z (SR.load Z Z (fun w' hx => ldE oU oI Z Z Z (CA.ext (hS.cells (i := 0) Z) hx) Z)) ?_
 obtain ⟨t13, ht13, H⟩ := pbind H
 refine OJ.callF Z Z Z Z Z hb8 Z (spec_JoinYards.c k _ t4 _ ht13) ?_
 rintro _ w1 ⟨A14, c15, rfl, hs⟩
 replace hS := hS.addN hs
 refine OJ.pures oU 5 Z (OJ.nil (EJ.next ?_))
 refine CJ.seq (CJ.region ?_)
 refine OJ.st Z Z Z (SR.load Z Z (fun w' hx => ldE oU oI Z Z Z (CA.ext (hS.cells (i := 0) Z) hx) Z)) ?_
 refine OJ.pures oU 1 Z ?_
 obtain ⟨t16, ht16, H⟩ := pbind H
 refine OJ.callF Z Z Z Z Z hb9 Z (impl_TakeHurdles.c k _ t4 A14 c15 t13.1 (hS.rd (i := 3) Z) (hS.le (i := 3) Z) _ ht16) ?_
 rintro _ w1 ⟨rfl, hs⟩
 replace hS := hS.grow hs
 refine OJ.pures oU 3 Z ?_
 refine OJ.ef rfl rfl rfl (Ef.alloc hS oI rfl rfl (cPasture.enc (⟨0, 0, (Arr.mk' (Arr.mk' 0 : Arr 10 Int) : Arr 10 (Arr 10 Int)), (Arr.mk' 0 : Arr 10 Int), (Arr.mk' 0 : Arr 10 Int)⟩ : Pasture)) (by kernel_rfl)) ?_
 rintro _ w1 ⟨b17, rfl, hS⟩
 refine OJ.es rfl rfl (Es.put oI hS (i := 4) rfl rfl rfl rfl rfl (vs := cPasture.enc t16.1) rfl (cPasture.len _) (cPasture.one _) (Put.all cPasture (⟨0, 0, (Arr.mk' (Arr.mk' 0 : Arr 10 Int) : Arr 10 (Arr 10 Int)), (Arr.mk' 0 : Arr 10 Int), (Arr.mk' 0 : Arr 10 Int)⟩ : Pasture) t16.1) (by (try simp only [add_lit, Nat.add_assoc, Nat.zero_add, Nat.add_zero]) <;> rfl)) ?_
 intro w1 hS
 refine OJ.pures oU 1 Z (OJ.nil (EJ.next ?_))
 refine CJ.seq (CJ.region ?_)
 refine OJ.st Z Z Z (SR.load Z Z (fun w' hx => ldE oU oI Z Z Z (CA.ext (hS.cells (i := 4) Z) hx) Z)) ?_
 obtain ⟨t18, ht18, H⟩ := pbind H
 refine OJ.callF Z Z Z Z Z hb6 Z (spec_YardsOf.c k _ t16.1 _ ht18) ?_
 rintro _ w1 ⟨A19, c20, D21, rfl, hs⟩
 replace hS := hS.addN hs
 have hS : St w no w1 [box b5 (cPasture.enc t4) 31, rowsC cSpot A7 c8 85 45 D9 t6.1, rowC cHurdle A11 c12 48 t10.1, rowC cHurdle A14 c15 48 t13.1, box b17 (cPasture.enc t16.1) 31, rowsC cSpot A19 c20 85 45 D21 t18.1] [roC (ci .u8) Aa0 ca0 a0, roC (ci .u8) Aa1 ca1 a1] := hS
 refine OJ.pures oU 5 Z (OJ.nil (EJ.next ?_))
 refine CJ.seq (CJ.region ?_)
 refine OJ.st Z Z Z (SR.load Z Z (fun w' hx => ldE oU oI Z Z Z (CA.ext (hS.cells (i := 0) Z) hx) Z)) ?_
 obtain ⟨t22, ht22, H⟩ := pbind H
 refine OJ.callF Z Z Z Z Z hb10 Z (impl_HurdlesOf.c k _ t4 _ ht22) ?_
 rintro _ w1 ⟨A23, c24, rfl, hs⟩
 replace hS := hS.addN hs
 have hS : St w no w1 [box b5 (cPasture.enc t4) 31, rowsC cSpot A7 c8 85 45 D9 t6.1, rowC cHurdle A11 c12 48 t10.1, rowC cHurdle A14 c15 48 t13.1, box b17 (cPasture.enc t16.1) 31, rowsC cSpot A19 c20 85 45 D21 t18.1, rowC cHurdle A23 c24 48 t22.1] [roC (ci .u8) Aa0 ca0 a0, roC (ci .u8) Aa1 ca1 a1] := hS
 refine OJ.pures oU 5 Z (OJ.nil (EJ.next ?_))
 refine CJ.seq (CJ.region ?_)
 refine OJ.st Z Z Z (SR.load Z Z (fun w' hx => ldE oU oI Z Z Z (CA.ext (hS.cells (i := 0) Z) hx) Z)) ?_
 obtain ⟨t25, ht25, H⟩ := pbind H
 refine OJ.callF Z Z Z Z Z hb11 Z (spec_HurdlesOf.c k _ t4 _ ht25) ?_
 rintro _ w1 ⟨A26, c27, rfl, hs⟩
 replace hS := hS.addN hs
 have hS : St w no w1 [box b5 (cPasture.enc t4) 31, rowsC cSpot A7 c8 85 45 D9 t6.1, rowC cHurdle A11 c12 48 t10.1, rowC cHurdle A14 c15 48 t13.1, box b17 (cPasture.enc t16.1) 31, rowsC cSpot A19 c20 85 45 D21 t18.1, rowC cHurdle A23 c24 48 t22.1, rowC cHurdle A26 c27 48 t25.1] [roC (ci .u8) Aa0 ca0 a0, roC (ci .u8) Aa1 ca1 a1] := hS
 refine OJ.pures oU 5 Z (OJ.nil (EJ.next ?_))
 refine CJ.seq (CJ.region ?_)
 refine OJ.st Z Z Z (SR.load Z Z (fun w' hx => ldE oU oI Z Z Z (CA.ext (hS.cells (i := 0) Z) hx) Z)) ?_
 obtain ⟨t28, ht28, H⟩ := pbind H
 refine OJ.callF Z Z Z Z Z hb12 Z (impl_CountHurdles.c k _ t4 _ ht28) ?_
 rintro _ w1 ⟨rfl, hs⟩
 replace hS := hS.grow hs
 refine OJ.pures oU 5 Z (OJ.nil (EJ.next ?_))
 refine CJ.seq ?_
 obtain ⟨j253, H, K253⟩ := pbind H
 refine CJ.cut (fun F w1 => ∃ (y29 : Bool) , (some y29 : Option Bool) = some j253 ∧ F = [(1, .slice Aa1 a1.length ca1), (5, .pointer (some ⟨b5, 0, none⟩)), (6, .slice A7 t6.1.length c8), (10, .slice A14 t13.1.length c15), (18, .slice A26 t25.1.length c27), (165, .bool y29)] ∧ St w no w1 [box b5 (cPasture.enc t4) 31, rowsC cSpot A7 c8 85 45 D9 t6.1, rowC cHurdle A14 c15 48 t13.1, rowC cHurdle A26 c27 48 t25.1] [roC (ci .u8) Aa0 ca0 a0, roC (ci .u8) Aa1 ca1 a1]) ?_ ?_
 ·skip
  refine CJ.region ?_
  refine OJ.pures oU 3 Z ?_
  refine OJ.split (t := 105) Z (fun hb => ?_) (fun hb => ?_)
  ·replace H := pif_t (of_decide_eq_true hb) H
   refine OJ.pures oU 60 Z ?_
   refine OJ.nil ?_
   exact EJ.meet (F' := [(1, .slice Aa1 a1.length ca1), (5, .pointer (some ⟨b5, 0, none⟩)), (6, .slice A7 t6.1.length c8), (10, .slice A14 t13.1.length c15), (18, .slice A26 t25.1.length c27), (165, .bool true)]) ⟨Z, Z, Z, Z, Z, Z, trivial⟩ ⟨true, H, Z, hS.pick [0, 1, 3, 7] [0, 1] Z⟩
  replace H := pif_f (of_decide_eq_false hb) H
  refine OJ.pures oU 5 Z ?_
  refine OJ.split (t := 110) Z (fun hb => ?_) (fun hb => ?_)
  ·replace H := pif_t (of_decide_eq_true hb) H
   refine OJ.pures oU 55 Z ?_
   refine OJ.nil ?_
   exact EJ.meet (F' := [(1, .slice Aa1 a1.length ca1), (5, .pointer (some ⟨b5, 0, none⟩)), (6, .slice A7 t6.1.length c8), (10, .slice A14 t13.1.length c15), (18, .slice A26 t25.1.length c27), (165, .bool true)]) ⟨Z, Z, Z, Z, Z, Z, trivial⟩ ⟨true, H, Z, hS.pick [0, 1, 3, 7] [0, 1] Z⟩
  replace H := pif_f (of_decide_eq_false hb) H
  refine OJ.pures oU 4 Z ?_
  refine OJ.split (t := 114) Z (fun hb => ?_) (fun hb => ?_)
  ·replace H := pif_t (of_decide_eq_true hb) H
   refine OJ.pures oU 51 Z ?_
   refine OJ.nil ?_
   exact EJ.meet (F' := [(1, .slice Aa1 a1.length ca1), (5, .pointer (some ⟨b5, 0, none⟩)), (6, .slice A7 t6.1.length c8), (10, .slice A14 t13.1.length c15), (18, .slice A26 t25.1.length c27), (165, .bool true)]) ⟨Z, Z, Z, Z, Z, Z, trivial⟩ ⟨true, H, Z, hS.pick [0, 1, 3, 7] [0, 1] Z⟩
  replace H := pif_f (of_decide_eq_false hb) H
  refine OJ.pures oU 2 Z ?_
  obtain ⟨t30, ht30, H⟩ := pbind H
  refine OJ.callF Z Z Z Z Z hb13 Z (spec_SameFence.c k _ A11 c12 t10.1 (hS.rd (i := 2) Z) (hS.le (i := 2) Z) A14 c15 t13.1 (hS.rd (i := 3) Z) (hS.le (i := 3) Z) _ ht30) ?_
  rintro _ w1 ⟨rfl, hs⟩
  replace hS := hS.grow hs
  refine OJ.pures oU 3 Z ?_
  refine OJ.split (t := 120) Z (fun hb => ?_) (fun hb => ?_)
  ·replace H := pif_t hb H
   refine OJ.pures oU 45 Z ?_
   refine OJ.nil ?_
   exact EJ.meet (F' := [(1, .slice Aa1 a1.length ca1), (5, .pointer (some ⟨b5, 0, none⟩)), (6, .slice A7 t6.1.length c8), (10, .slice A14 t13.1.length c15), (18, .slice A26 t25.1.length c27), (165, .bool true)]) ⟨Z, Z, Z, Z, Z, Z, trivial⟩ ⟨true, H, Z, hS.pick [0, 1, 3, 7] [0, 1] Z⟩
  replace H := pifb_f hb H
  refine OJ.pures oU 8 Z ?_
  refine OJ.split (t := 128) Z (fun hb => ?_) (fun hb => ?_)
  ·replace H := pif_t (of_decide_eq_true hb) H
   refine OJ.pures oU 37 Z ?_
   refine OJ.nil ?_
   exact EJ.meet (F' := [(1, .slice Aa1 a1.length ca1), (5, .pointer (some ⟨b5, 0, none⟩)), (6, .slice A7 t6.1.length c8), (10, .slice A14 t13.1.length c15), (18, .slice A26 t25.1.length c27), (165, .bool true)]) ⟨Z, Z, Z, Z, Z, Z, trivial⟩ ⟨true, H, Z, hS.pick [0, 1, 3, 7] [0, 1] Z⟩
  replace H := pif_f (of_decide_eq_false hb) H
  refine OJ.pures oU 4 Z ?_
  refine OJ.split (t := 132) Z (fun hb => ?_) (fun hb => ?_)
  ·replace H := pif_t (of_decide_eq_true hb) H
   refine OJ.pures oU 33 Z ?_
   refine OJ.nil ?_
   exact EJ.meet (F' := [(1, .slice Aa1 a1.length ca1), (5, .pointer (some ⟨b5, 0, none⟩)), (6, .slice A7 t6.1.length c8), (10, .slice A14 t13.1.length c15), (18, .slice A26 t25.1.length c27), (165, .bool true)]) ⟨Z, Z, Z, Z, Z, Z, trivial⟩ ⟨true, H, Z, hS.pick [0, 1, 3, 7] [0, 1] Z⟩
  replace H := pif_f (of_decide_eq_false hb) H
  refine OJ.pures oU 4 Z ?_
  refine OJ.split (t := 136) Z (fun hb => ?_) (fun hb => ?_)
  ·replace H := pif_t (of_decide_eq_true hb) H
   refine OJ.pures oU 29 Z ?_
   refine OJ.nil ?_
   exact EJ.meet (F' := [(1, .slice Aa1 a1.length ca1), (5, .pointer (some ⟨b5, 0, none⟩)), (6, .slice A7 t6.1.length c8), (10, .slice A14 t13.1.length c15), (18, .slice A26 t25.1.length c27), (165, .bool true)]) ⟨Z, Z, Z, Z, Z, Z, trivial⟩ ⟨true, H, Z, hS.pick [0, 1, 3, 7] [0, 1] Z⟩
  replace H := pif_f (of_decide_eq_false hb) H
  refine OJ.pures oU 5 Z ?_
  refine OJ.split (t := 141) Z (fun hb => ?_) (fun hb => ?_)
  ·replace H := pif_t (of_decide_eq_true hb) H
   refine OJ.pures oU 24 Z ?_
   refine OJ.nil ?_
   exact EJ.meet (F' := [(1, .slice Aa1 a1.length ca1), (5, .pointer (some ⟨b5, 0, none⟩)), (6, .slice A7 t6.1.length c8), (10, .slice A14 t13.1.length c15), (18, .slice A26 t25.1.length c27), (165, .bool true)]) ⟨Z, Z, Z, Z, Z, Z, trivial⟩ ⟨true, H, Z, hS.pick [0, 1, 3, 7] [0, 1] Z⟩
  replace H := pif_f (of_decide_eq_false hb) H
  refine OJ.pures oU 5 Z ?_
  refine OJ.split (t := 146) Z (fun hb => ?_) (fun hb => ?_)
  ·replace H := pif_t (of_decide_eq_true hb) H
   refine OJ.pures oU 19 Z ?_
   refine OJ.nil ?_
   exact EJ.meet (F' := [(1, .slice Aa1 a1.length ca1), (5, .pointer (some ⟨b5, 0, none⟩)), (6, .slice A7 t6.1.length c8), (10, .slice A14 t13.1.length c15), (18, .slice A26 t25.1.length c27), (165, .bool true)]) ⟨Z, Z, Z, Z, Z, Z, trivial⟩ ⟨true, H, Z, hS.pick [0, 1, 3, 7] [0, 1] Z⟩
  replace H := pif_f (of_decide_eq_false hb) H
  refine OJ.pures oU 4 Z ?_
  refine OJ.split (t := 150) Z (fun hb => ?_) (fun hb => ?_)
  ·replace H := pif_t (of_decide_eq_true hb) H
   refine OJ.pures oU 15 Z ?_
   refine OJ.nil ?_
   exact EJ.meet (F' := [(1, .slice Aa1 a1.length ca1), (5, .pointer (some ⟨b5, 0, none⟩)), (6, .slice A7 t6.1.length c8), (10, .slice A14 t13.1.length c15), (18, .slice A26 t25.1.length c27), (165, .bool true)]) ⟨Z, Z, Z, Z, Z, Z, trivial⟩ ⟨true, H, Z, hS.pick [0, 1, 3, 7] [0, 1] Z⟩
  replace H := pif_f (of_decide_eq_false hb) H
  refine OJ.pures oU 2 Z ?_
  obtain ⟨t31, ht31, H⟩ := pbind H
  refine OJ.callF Z Z Z Z Z hb13 Z (spec_SameFence.c k _ A23 c24 t22.1 (hS.rd (i := 6) Z) (hS.le (i := 6) Z) A26 c27 t25.1 (hS.rd (i := 7) Z) (hS.le (i := 7) Z) _ ht31) ?_
  rintro _ w1 ⟨rfl, hs⟩
  replace hS := hS.grow hs
  refine OJ.pures oU 3 Z ?_
  refine OJ.split (t := 156) Z (fun hb => ?_) (fun hb => ?_)
  ·replace H := pif_t hb H
   refine OJ.pures oU 9 Z ?_
   refine OJ.nil ?_
   exact EJ.meet (F' := [(1, .slice Aa1 a1.length ca1), (5, .pointer (some ⟨b5, 0, none⟩)), (6, .slice A7 t6.1.length c8), (10, .slice A14 t13.1.length c15), (18, .slice A26 t25.1.length c27), (165, .bool true)]) ⟨Z, Z, Z, Z, Z, Z, trivial⟩ ⟨true, H, Z, hS.pick [0, 1, 3, 7] [0, 1] Z⟩
  replace H := pifb_f hb H
  refine OJ.pures oU 4 Z ?_
  refine OJ.split (t := 160) Z (fun hb => ?_) (fun hb => ?_)
  ·replace H := pif_t (of_decide_eq_true hb) H
   refine OJ.pures oU 5 Z ?_
   refine OJ.nil ?_
   exact EJ.meet (F' := [(1, .slice Aa1 a1.length ca1), (5, .pointer (some ⟨b5, 0, none⟩)), (6, .slice A7 t6.1.length c8), (10, .slice A14 t13.1.length c15), (18, .slice A26 t25.1.length c27), (165, .bool true)]) ⟨Z, Z, Z, Z, Z, Z, trivial⟩ ⟨true, H, Z, hS.pick [0, 1, 3, 7] [0, 1] Z⟩
  replace H := pif_f (of_decide_eq_false hb) H
  refine OJ.pures oU 5 Z ?_
  refine OJ.nil ?_
  exact EJ.meet (F' := [(1, .slice Aa1 a1.length ca1), (5, .pointer (some ⟨b5, 0, none⟩)), (6, .slice A7 t6.1.length c8), (10, .slice A14 t13.1.length c15), (18, .slice A26 t25.1.length c27), (165, .bool (decide (t28.1 ≠ (t25.1.length : Int))))]) ⟨Z, Z, Z, Z, Z, Z, trivial⟩ ⟨(decide (t28.1 ≠ (t25.1.length : Int))), H, Z, hS.pick [0, 1, 3, 7] [0, 1] Z⟩
 rintro F w1 ⟨y29, he, rfl, hS⟩
 obtain rfl := Option.some.inj he
 have H := K253
 refine CJ.cond Z (fun hb => ?_) (fun hb => ?_)
 ·replace H := pif_t hb H
  refine CJ.seq (CJ.region ?_)
  refine OJ.pures oU 1 Z (OJ.nil (EJ.next ?_))
  refine CJ.ret (EJ.skR (?_))
  obtain rfl := Option.some.inj H
  exact EJ.fin Z (.tmp Z .nil) ⟨Z, hS.ext⟩
 replace H := pifb_f hb H
 refine CJ.skip (EJ.next ?_)
 refine CJ.seq (CJ.region ?_)
 refine OJ.st Z Z Z (SR.load Z Z (fun w' hx => ldE oU oI Z Z Z (CA.ext (hS.cells (i := 0) Z) hx) Z)) ?_
 obtain ⟨t32, ht32, H⟩ := pbind H
 refine OJ.callF Z Z Z Z Z hb14 Z (impl_WeakSides.c k _ t4 _ ht32) ?_
 rintro _ w1 ⟨A33, c34, rfl, hs⟩
 replace hS := hS.addN hs
 refine OJ.pures oU 5 Z (OJ.nil (EJ.next ?_))
 refine CJ.seq (CJ.region ?_)
 refine OJ.st Z Z Z (SR.load Z Z (fun w' hx => ldE oU oI Z Z Z (CA.ext (hS.cells (i := 0) Z) hx) Z)) ?_
 obtain ⟨t35, ht35, H⟩ := pbind H
 refine OJ.callF Z Z Z Z Z hb15 Z (spec_WeakSides.c k _ t4 _ ht35) ?_
 rintro _ w1 ⟨A36, c37, rfl, hs⟩
 replace hS := hS.addN hs
 have hS : St w no w1 [box b5 (cPasture.enc t4) 31, rowsC cSpot A7 c8 85 45 D9 t6.1, rowC cHurdle A14 c15 48 t13.1, rowC cHurdle A26 c27 48 t25.1, rowC cHurdle A33 c34 48 t32.1, rowC cHurdle A36 c37 48 t35.1] [roC (ci .u8) Aa0 ca0 a0, roC (ci .u8) Aa1 ca1 a1] := hS
 refine OJ.pures oU 5 Z (OJ.nil (EJ.next ?_))
 refine CJ.seq ?_
 obtain ⟨j257, H, K257⟩ := pbind H
 refine CJ.cut (fun F w1 => ∃ (y38 : Bool) , (some y38 : Option Bool) = some j257 ∧ F = [(1, .slice Aa1 a1.length ca1), (5, .pointer (some ⟨b5, 0, none⟩)), (6, .slice A7 t6.1.length c8), (10, .slice A14 t13.1.length c15), (18, .slice A26 t25.1.length c27), (24, .slice A36 t35.1.length c37), (188, .bool y38)] ∧ St w no w1 [box b5 (cPasture.enc t4) 31, rowsC cSpot A7 c8 85 45 D9 t6.1, rowC cHurdle A14 c15 48 t13.1, rowC cHurdle A26 c27 48 t25.1, rowC cHurdle A36 c37 48 t35.1] [roC (ci .u8) Aa0 ca0 a0, roC (ci .u8) Aa1 ca1 a1]) ?_ ?_
 ·skip
  refine CJ.region ?_
  refine OJ.pures oU 4 Z ?_
  refine OJ.split (t := 179) Z (fun hb => ?_) (fun hb => ?_)
  ·replace H := pif_t (of_decide_eq_true hb) H
   refine OJ.pures oU 9 Z ?_
   refine OJ.nil ?_
   exact EJ.meet (F' := [(1, .slice Aa1 a1.length ca1), (5, .pointer (some ⟨b5, 0, none⟩)), (6, .slice A7 t6.1.length c8), (10, .slice A14 t13.1.length c15), (18, .slice A26 t25.1.length c27), (24, .slice A36 t35.1.length c37), (188, .bool true)]) ⟨Z, Z, Z, Z, Z, Z, Z, trivial⟩ ⟨true, H, Z, hS.pick [0, 1, 2, 3, 5] [0, 1] Z⟩
  replace H := pif_f (of_decide_eq_false hb) H
  refine OJ.pures oU 4 Z ?_
  refine OJ.split (t := 183) Z (fun hb => ?_) (fun hb => ?_)
  ·replace H := pif_t (of_decide_eq_true hb) H
   refine OJ.pures oU 5 Z ?_
   refine OJ.nil ?_
   exact EJ.meet (F' := [(1, .slice Aa1 a1.length ca1), (5, .pointer (some ⟨b5, 0, none⟩)), (6, .slice A7 t6.1.length c8), (10, .slice A14 t13.1.length c15), (18, .slice A26 t25.1.length c27), (24, .slice A36 t35.1.length c37), (188, .bool true)]) ⟨Z, Z, Z, Z, Z, Z, Z, trivial⟩ ⟨true, H, Z, hS.pick [0, 1, 2, 3, 5] [0, 1] Z⟩
  replace H := pif_f (of_decide_eq_false hb) H
  refine OJ.pures oU 2 Z ?_
  obtain ⟨t39, ht39, H⟩ := pbind H
  refine OJ.callF Z Z Z Z Z hb13 Z (spec_SameFence.c k _ A33 c34 t32.1 (hS.rd (i := 4) Z) (hS.le (i := 4) Z) A36 c37 t35.1 (hS.rd (i := 5) Z) (hS.le (i := 5) Z) _ ht39) ?_
  rintro _ w1 ⟨rfl, hs⟩
  replace hS := hS.grow hs
  refine OJ.pures oU 2 Z ?_
  refine OJ.nil ?_
  exact EJ.meet (F' := [(1, .slice Aa1 a1.length ca1), (5, .pointer (some ⟨b5, 0, none⟩)), (6, .slice A7 t6.1.length c8), (10, .slice A14 t13.1.length c15), (18, .slice A26 t25.1.length c27), (24, .slice A36 t35.1.length c37), (188, .bool (!t39))]) ⟨Z, Z, Z, Z, Z, Z, Z, trivial⟩ ⟨(!t39), H, Z, hS.pick [0, 1, 2, 3, 5] [0, 1] Z⟩
 rintro F w1 ⟨y38, he, rfl, hS⟩
 obtain rfl := Option.some.inj he
 have H := K257
 refine CJ.cond Z (fun hb => ?_) (fun hb => ?_)
 ·replace H := pif_t hb H
  refine CJ.seq (CJ.region ?_)
  refine OJ.pures oU 1 Z (OJ.nil (EJ.next ?_))
  refine CJ.ret (EJ.skR (?_))
  obtain rfl := Option.some.inj H
  exact EJ.fin Z (.tmp Z .nil) ⟨Z, hS.ext⟩
 replace H := pifb_f hb H
 refine CJ.skip (EJ.next ?_)
 refine CJ.seq ?_
 refine CJ.seq (CJ.region ?_)
 refine OJ.pures oU 1 Z (OJ.nil (EJ.next ?_))
 replace hS := hS.freezeG (i := 4) Z
 obtain ⟨j258, H, K258⟩ := pbind H
 refine CJ.cut1 (fun F w1 => (some (Sum.inr ()) : Option (Bool ⊕ Unit)) = some j258 ∧ F = [(1, .slice Aa1 a1.length ca1), (5, .pointer (some ⟨b5, 0, none⟩)), (10, .slice A14 t13.1.length c15), (18, .slice A26 t25.1.length c27)] ∧ St w no w1 [box b5 (cPasture.enc t4) 31, rowC cHurdle A14 c15 48 t13.1, rowC cHurdle A26 c27 48 t25.1] [roC (ci .u8) Aa0 ca0 a0, roC (ci .u8) Aa1 ca1 a1, roC cHurdle A36 c37 t35.1]) ?_ ?_
 ·skip
  refine CJ.block ?_
  refine CJ.loop (fun k F w1 => ∃ (y40 : Int), F = [(1, .slice Aa1 a1.length ca1), (5, .pointer (some ⟨b5, 0, none⟩)), (6, .slice A7 t6.1.length c8), (10, .slice A14 t13.1.length c15), (18, .slice A26 t25.1.length c27), (24, .slice A36 t35.1.length c37), (26, .int .i64 y40)] ∧ St w no w1 [box b5 (cPasture.enc t4) 31, rowsC cSpot A7 c8 85 45 D9 t6.1, rowC cHurdle A14 c15 48 t13.1, rowC cHurdle A26 c27 48 t25.1] [roC (ci .u8) Aa0 ca0 a0, roC (ci .u8) Aa1 ca1 a1, roC cHurdle A36 c37 t35.1] ∧ laws_FnGates.l1 t4 t6 t35 k y40 = some j258) k (F' := [(1, .slice Aa1 a1.length ca1), (5, .pointer (some ⟨b5, 0, none⟩)), (6, .slice A7 t6.1.length c8), (10, .slice A14 t13.1.length c15), (18, .slice A26 t25.1.length c27), (24, .slice A36 t35.1.length c37), (26, .int .i64 0)]) ⟨Z, Z, Z, Z, Z, Z, Z, trivial⟩ ⟨0, Z, hS.pick [0, 1, 2, 3] [0, 1, 2] Z, H⟩ ?_
  rintro k F w1 ⟨y40, rfl, hS, H⟩
  cases k with
  | zero => rw [laws_FnGates.l1] at H; cases H
  | succ k =>
    rw [laws_FnGates.l1] at H
    refine CJ.seq ?_
    refine CJ.seq (CJ.region ?_)
    refine OJ.pures oU 4 Z (OJ.nil (EJ.next ?_))
    refine CJ.cond Z (fun hb => ?_) (fun hb => ?_)
    · replace H := pif_t (of_decide_eq_true hb) H
      refine CJ.skip (EJ.next ?_)
      refine CJ.seq ?_
      refine CJ.block ?_
      refine CJ.seq ?_
      obtain ⟨u41, hu41, H⟩ := pbind H
      obtain ⟨t42, ht42, H⟩ := pbind H
      refine CJ.cut1 (fun F w1 => ∃ (b43 : Nat), F = [(1, .slice Aa1 a1.length ca1), (5, .pointer (some ⟨b5, 0, none⟩)), (6, .slice A7 t6.1.length c8), (10, .slice A14 t13.1.length c15), (18, .slice A26 t25.1.length c27), (24, .slice A36 t35.1.length c37), (26, .int .i64 y40), (27, .pointer (some ⟨b43, 0, none⟩)), (28, .int .i64 t42.2)] ∧ St w no w1 [box b5 (cPasture.enc t4) 31, rowsC cSpot A7 c8 85 45 D9 t6.1, rowC cHurdle A14 c15 48 t13.1, rowC cHurdle A26 c27 48 t25.1, box b43 (cPasture.enc t42.1) 31] [roC (ci .u8) Aa0 ca0 a0, roC (ci .u8) Aa1 ca1 a1, roC cHurdle A36 c37 t35.1, roC cHurdle (cutA A36 c37 y40.toNat cHurdle.sz) (c37 - y40.toNat) ((t35.1.drop y40.toNat).take (((IntKind.i64.wrap (y40 + 1)).toNat) - y40.toNat))]) ?_ ?_
      · skip
        refine CJ.drawT [] [6, 10, 11] (.one 0 (.one 1 (.one 2 (.one 3 (.one 4 (.one 5 (.br (.alt 6 (.one 7 (.one 8 (.one 9 (.one 10 (.one 11 (.one 12 (.fin))))))) (.alt 10 (.one 6 (.one 7 (.one 8 (.one 9 (.one 11 (.one 12 (.fin))))))) (.stop)))))))))) mixed (by kernel_rfl) hS [0] fun w1 hS hY hV => ?_
        refine TJ.st hY Z Z Z Z Z (fun w2 hY => SR.load Z Z (fun w' hx => ldE oU oI Z Z Z (CA.ext ((hV w2 hY).cellsR (i := 3) Z) hx) Z)) ?_
        refine TJ.pures oU 4 Z ?_
        refine TJ.st hY rfl rfl rfl rfl rfl (fun w2 hY => SR.cutS oU oI (y40.toNat) ((IntKind.i64.wrap (y40 + 1)).toNat) rfl rfl rfl rfl rfl rfl (.inr ⟨_, _, rfl, (chk_some hu41).1, rfl⟩) (.inr ⟨_, _, rfl, (by have := (chk_some hu41); omega), rfl⟩) (by have := (chk_some hu41); omega) (by have := (chk_some hu41); have := ((hV w2 hY).le' (i := 2) rfl : t35.1.length ≤ c37); omega)) ?_
        replace hS := hS.cutR (i := 2) (lo := y40.toNat) (hi := (IntKind.i64.wrap (y40 + 1)).toNat) rfl (by have := (chk_some hu41); omega) (by have := (chk_some hu41); omega)
        refine TJ.as (t := 201) rfl (show _ = (.slice (cutA A36 c37 y40.toNat cHurdle.sz) ((t35.1.drop y40.toNat).take (((IntKind.i64.wrap (y40 + 1)).toNat) - y40.toNat)).length (c37 - y40.toNat) : Value) by rw [cutLen (by have := (chk_some hu41); omega) (by have := (chk_some hu41); omega)]; rfl) ?_
        refine TJ.br ?_
        refine TJ.alt ?_ ?_
        · skip
          refine TJ.callF hY rfl rfl rfl rfl rfl rfl rfl hb16 rfl (impl_AddHurdles.c k _ t4 (cutA A36 c37 y40.toNat cHurdle.sz) (c37 - y40.toNat) ((t35.1.drop y40.toNat).take (((IntKind.i64.wrap (y40 + 1)).toNat) - y40.toNat)) (hS.rd' (i := 3) rfl) (hS.le' (i := 3) rfl) _ ht42) (by rintro v w' ⟨rfl, hs⟩; exact hs) ?_
          rintro _ w1 hY ⟨rfl, hs⟩
          replace hS := hS.grow hs
          refine TJ.pures oU 3 Z ?_
          refine TJ.ef hY rfl rfl rfl rfl rfl (Ef.alloc hS oI rfl rfl (cPasture.enc (⟨0, 0, (Arr.mk' (Arr.mk' 0 : Arr 10 Int) : Arr 10 (Arr 10 Int)), (Arr.mk' 0 : Arr 10 Int), (Arr.mk' 0 : Arr 10 Int)⟩ : Pasture)) (by kernel_rfl)) ?_
          rintro _ w1 hY ⟨b44, rfl, hS⟩
          have hO := hS
          refine TJ.es rfl rfl rfl rfl (Es.put oI (hS.inn [0]) (i := 4) rfl rfl rfl rfl rfl (vs := cPasture.enc t42.1) rfl (cPasture.len _) (cPasture.one _) (Put.all cPasture (⟨0, 0, (Arr.mk' (Arr.mk' 0 : Arr 10 Int) : Arr 10 (Arr 10 Int)), (Arr.mk' 0 : Arr 10 Int), (Arr.mk' 0 : Arr 10 Int)⟩ : Pasture) t42.1) (by (try simp only [add_lit, Nat.add_assoc, Nat.zero_add, Nat.add_zero]) <;> rfl)) (by intro w1 hS; exact hY.wr (hO.inY [0] 3 rfl rfl) hS.chg) ?_
          intro w1 hY hS
          have hS : St w no w1 [box b5 (cPasture.enc t4) 31, rowsC cSpot A7 c8 85 45 D9 t6.1, rowC cHurdle A14 c15 48 t13.1, rowC cHurdle A26 c27 48 t25.1, box b44 (cPasture.enc t42.1) 31] [roC (ci .u8) Aa0 ca0 a0, roC (ci .u8) Aa1 ca1 a1, roC cHurdle A36 c37 t35.1, roC cHurdle (cutA A36 c37 y40.toNat cHurdle.sz) (c37 - y40.toNat) ((t35.1.drop y40.toNat).take (((IntKind.i64.wrap (y40 + 1)).toNat) - y40.toNat))] := hO.out [0] hS
          refine TJ.pures oU 1 Z ?_
          refine TJ.nil ?_
          exact EJ.meet (F' := [(1, .slice Aa1 a1.length ca1), (5, .pointer (some ⟨b5, 0, none⟩)), (6, .slice A7 t6.1.length c8), (10, .slice A14 t13.1.length c15), (18, .slice A26 t25.1.length c27), (24, .slice A36 t35.1.length c37), (26, .int .i64 y40), (27, .pointer (some ⟨b44, 0, none⟩)), (28, .int .i64 t42.2)]) ⟨Z, Z, Z, Z, Z, Z, Z, Z, Z, trivial⟩ ⟨b44, Z, hS.pick [0, 1, 2, 3, 4] [0, 1, 2, 3] Z⟩
        refine TJ.alt ?_ ?_
        · skip
          refine TJ.ef hY rfl rfl rfl rfl rfl (Ef.alloc hS oI rfl rfl (cPasture.enc (⟨0, 0, (Arr.mk' (Arr.mk' 0 : Arr 10 Int) : Arr 10 (Arr 10 Int)), (Arr.mk' 0 : Arr 10 Int), (Arr.mk' 0 : Arr 10 Int)⟩ : Pasture)) (by kernel_rfl)) ?_
          rintro _ w1 hY ⟨b45, rfl, hS⟩
          refine TJ.callF hY rfl rfl rfl rfl rfl rfl rfl hb16 rfl (impl_AddHurdles.c k _ t4 (cutA A36 c37 y40.toNat cHurdle.sz) (c37 - y40.toNat) ((t35.1.drop y40.toNat).take (((IntKind.i64.wrap (y40 + 1)).toNat) - y40.toNat)) (hS.rd' (i := 3) rfl) (hS.le' (i := 3) rfl) _ ht42) (by rintro v w' ⟨rfl, hs⟩; exact hs) ?_
          rintro _ w1 hY ⟨rfl, hs⟩
          replace hS := hS.grow hs
          refine TJ.pures oU 3 Z ?_
          have hO := hS
          refine TJ.es rfl rfl rfl rfl (Es.put oI (hS.inn [0]) (i := 4) rfl rfl rfl rfl rfl (vs := cPasture.enc t42.1) rfl (cPasture.len _) (cPasture.one _) (Put.all cPasture (⟨0, 0, (Arr.mk' (Arr.mk' 0 : Arr 10 Int) : Arr 10 (Arr 10 Int)), (Arr.mk' 0 : Arr 10 Int), (Arr.mk' 0 : Arr 10 Int)⟩ : Pasture) t42.1) (by (try simp only [add_lit, Nat.add_assoc, Nat.zero_add, Nat.add_zero]) <;> rfl)) (by intro w1 hS; exact hY.wr (hO.inY [0] 3 rfl rfl) hS.chg) ?_
          intro w1 hY hS
          have hS : St w no w1 [box b5 (cPasture.enc t4) 31, rowsC cSpot A7 c8 85 45 D9 t6.1, rowC cHurdle A14 c15 48 t13.1, rowC cHurdle A26 c27 48 t25.1, box b45 (cPasture.enc t42.1) 31] [roC (ci .u8) Aa0 ca0 a0, roC (ci .u8) Aa1 ca1 a1, roC cHurdle A36 c37 t35.1, roC cHurdle (cutA A36 c37 y40.toNat cHurdle.sz) (c37 - y40.toNat) ((t35.1.drop y40.toNat).take (((IntKind.i64.wrap (y40 + 1)).toNat) - y40.toNat))] := hO.out [0] hS
          refine TJ.pures oU 1 Z ?_
          refine TJ.nil ?_
          exact EJ.meet (F' := [(1, .slice Aa1 a1.length ca1), (5, .pointer (some ⟨b5, 0, none⟩)), (6, .slice A7 t6.1.length c8), (10, .slice A14 t13.1.length c15), (18, .slice A26 t25.1.length c27), (24, .slice A36 t35.1.length c37), (26, .int .i64 y40), (27, .pointer (some ⟨b45, 0, none⟩)), (28, .int .i64 t42.2)]) ⟨Z, Z, Z, Z, Z, Z, Z, Z, Z, trivial⟩ ⟨b45, Z, hS.pick [0, 1, 2, 3, 4] [0, 1, 2, 3] Z⟩
        exact TJ.stop
      · rintro F w1 ⟨b43, rfl, hS⟩
        refine EJ.next ?_
        refine CJ.seq (CJ.region ?_)
        refine OJ.st Z Z Z (SR.load Z Z (fun w' hx => ldE oU oI Z Z Z (CA.ext (hS.cells (i := 4) Z) hx) Z)) ?_
        obtain ⟨t46, ht46, H⟩ := pbind H
        refine OJ.callF Z Z Z Z Z hb6 Z (spec_YardsOf.c k _ t42.1 _ ht46) ?_
        rintro _ w1 ⟨A47, c48, D49, rfl, hs⟩
        replace hS := hS.addN hs
        have hS : St w no w1 [box b5 (cPasture.enc t4) 31, rowsC cSpot A7 c8 85 45 D9 t6.1, rowC cHurdle A14 c15 48 t13.1, rowC cHurdle A26 c27 48 t25.1, box b43 (cPasture.enc t42.1) 31, rowsC cSpot A47 c48 85 45 D49 t46.1] [roC (ci .u8) Aa0 ca0 a0, roC (ci .u8) Aa1 ca1 a1, roC cHurdle A36 c37 t35.1, roC cHurdle (cutA A36 c37 y40.toNat cHurdle.sz) (c37 - y40.toNat) ((t35.1.drop y40.toNat).take (((IntKind.i64.wrap (y40 + 1)).toNat) - y40.toNat))] := hS
        refine OJ.pures oU 5 Z (OJ.nil (EJ.next ?_))
        refine CJ.seq (CJ.region ?_)
        refine OJ.pures oU 3 Z ?_
        refine OJ.split (t := 212) Z (fun hb => ?_) (fun hb => ?_)
        · replace H := pif_t (of_decide_eq_true hb) H
          refine OJ.pures oU 11 Z (OJ.nil (EJ.next ?_))
          refine CJ.condT Z ?_
          refine CJ.seq (CJ.region ?_)
          refine OJ.pures oU 1 Z (OJ.nil (EJ.next ?_))
          refine CJ.ret (EJ.bkR (EJ.skR (EJ.skR (EJ.bkR (EJ.skR (EJ.skR (?_)))))))
          first | (obtain rfl := Option.some.inj H; have H := K258) | (obtain ⟨q258, H2, e258⟩ := pbind H; obtain rfl := Option.some.inj e258; obtain rfl := Option.some.inj K258; have H := H2)
          obtain rfl := Option.some.inj H
          exact EJ.fin Z (.tmp Z .nil) ⟨Z, hS.ext⟩
        · replace H := pif_f (of_decide_eq_false hb) H
          refine OJ.pures oU 4 Z ?_
          refine OJ.split (t := 216) Z (fun hb => ?_) (fun hb => ?_)
          · replace H := pif_t (of_decide_eq_true hb) H
            refine OJ.pures oU 7 Z (OJ.nil (EJ.next ?_))
            refine CJ.condT Z ?_
            refine CJ.seq (CJ.region ?_)
            refine OJ.pures oU 1 Z (OJ.nil (EJ.next ?_))
            refine CJ.ret (EJ.bkR (EJ.skR (EJ.skR (EJ.bkR (EJ.skR (EJ.skR (?_)))))))
            first | (obtain rfl := Option.some.inj H; have H := K258) | (obtain ⟨q258, H2, e258⟩ := pbind H; obtain rfl := Option.some.inj e258; obtain rfl := Option.some.inj K258; have H := H2)
            obtain rfl := Option.some.inj H
            exact EJ.fin Z (.tmp Z .nil) ⟨Z, hS.ext⟩
          · replace H := pif_f (of_decide_eq_false hb) H
            refine OJ.pures oU 7 Z (OJ.nil (EJ.next ?_))
            refine CJ.cond Z (fun hb => ?_) (fun hb => ?_)
            · replace H := pif_t (of_decide_eq_true hb) H
              refine CJ.seq (CJ.region ?_)
              refine OJ.pures oU 1 Z (OJ.nil (EJ.next ?_))
              refine CJ.ret (EJ.bkR (EJ.skR (EJ.skR (EJ.bkR (EJ.skR (EJ.skR (?_)))))))
              first | (obtain rfl := Option.some.inj H; have H := K258) | (obtain ⟨q258, H2, e258⟩ := pbind H; obtain rfl := Option.some.inj e258; obtain rfl := Option.some.inj K258; have H := H2)
              obtain rfl := Option.some.inj H
              exact EJ.fin Z (.tmp Z .nil) ⟨Z, hS.ext⟩
            · replace H := pif_f (of_decide_eq_false hb) H
              refine CJ.skip (EJ.blk (EJ.next ?_))
              refine CJ.region ?_
              refine OJ.pures oU 3 Z ?_
              refine OJ.nil ?_
              exact EJ.round k (F' := [(1, .slice Aa1 a1.length ca1), (5, .pointer (some ⟨b5, 0, none⟩)), (6, .slice A7 t6.1.length c8), (10, .slice A14 t13.1.length c15), (18, .slice A26 t25.1.length c27), (24, .slice A36 t35.1.length c37), (26, .int .i64 (IntKind.i64.wrap (y40 + 1)))]) ⟨Z, Z, Z, Z, Z, Z, Z, trivial⟩ (Nat.lt_succ_self _) ⟨(IntKind.i64.wrap (y40 + 1)), Z, hS.pick [0, 1, 2, 3] [0, 1, 2] Z, H⟩
    · replace H := pif_f (of_decide_eq_false hb) H
      refine CJ.exit (EJ.skE (EJ.skE (EJ.hit (?_))))
      exact EJ.meet (F' := [(1, .slice Aa1 a1.length ca1), (5, .pointer (some ⟨b5, 0, none⟩)), (10, .slice A14 t13.1.length c15), (18, .slice A26 t25.1.length c27)]) ⟨Z, Z, Z, Z, trivial⟩ ⟨H, Z, hS.pick [0, 2, 3] [0, 1, 2] Z⟩
 rintro F w1 ⟨he, rfl, hS⟩
 obtain rfl := Option.some.inj he
 have H := K258
 refine EJ.next ?_
 refine CJ.seq (CJ.region ?_)
 refine OJ.pures oU 1 Z ?_
 refine OJ.st Z Z Z (SR.load Z Z (fun w' hx => ldE oU oI Z Z Z (CA.ext (hS.cells (i := 0) Z) hx) Z)) ?_
 obtain ⟨t50, ht50, H⟩ := pbind H
 refine OJ.callF Z Z Z Z Z hb17 Z (spec_P6Spot.c _ Aa1 ca1 a1 (hS.rd' (i := 1) Z) (hS.le' (i := 1) Z) t4 _ ht50) ?_
 rintro _ w1 ⟨rfl, hs⟩
 replace hS := hS.grow hs
 refine OJ.ef Z Z Z (Ef.alloc hS oI Z Z (cSpot.enc (⟨0, 0⟩ : Spot)) Z) ?_
 rintro _ w1 ⟨b51, rfl, hS⟩
 refine OJ.es Z Z (Es.store oI hS (i := 3) Z Z Z Z Z Z (vs := cSpot.enc t50) Z (cSpot.len _) (cSpot.one _) (Nat.le_of_ble_eq_true Z) (cSpot.enc t50) Z) ?_
 intro w1 hS
 refine OJ.nil (EJ.next ?_)
 refine CJ.seq ?_
 obtain ⟨u53, hu53, H⟩ := pbind H
 obtain ⟨t56, ht56, H⟩ := pbind H
 refine CJ.cut1 (fun F w1 => ∃ (A54 : Option Addr) (c55 : Nat) (b57 : Nat), F = [(5, .pointer (some ⟨b5, 0, none⟩)), (10, .slice A14 t13.1.length c15), (18, .slice A26 t25.1.length c27), (31, .pointer (some ⟨b51, 0, none⟩)), (32, .pointer (some ⟨b57, 0, none⟩))] ∧ St w no w1 [box b5 (cPasture.enc t4) 31, rowC cHurdle A14 c15 48 t13.1, rowC cHurdle A26 c27 48 t25.1, box b51 (cSpot.enc t50) 45, rowC (ci .u8) A54 c55 5 (([3] : List Int) ++ a1), box b57 (cSpot.enc t56) 45] [roC (ci .u8) Aa0 ca0 a0, roC (ci .u8) Aa1 ca1 a1, roC cHurdle A36 c37 t35.1]) ?_ ?_
 ·skip
  refine CJ.drawT [] [0, 2, 4, 5, 6] (.one 1 (.one 3 (.br (.alt 0 (.br (.alt 2 (.br (.alt 4 (.one 5 (.one 6 (.fin))) (.alt 5 (.one 4 (.one 6 (.fin))) (.stop)))) (.alt 5 (.one 2 (.one 4 (.one 6 (.fin)))) (.stop)))) (.alt 5 (.one 0 (.one 2 (.one 4 (.one 6 (.fin))))) (.stop)))))) mixed (by kernel_rfl) hS [0] fun w1 hS hY hV => ?_
  refine TJ.pures oU 1 Z ?_
  refine TJ.st hY Z Z Z Z Z (fun w2 hY => SR.load Z Z (fun w' hx => ldE oU oI Z Z Z (CA.ext ((hV w2 hY).cellsR (i := 3) Z) hx) Z)) ?_
  refine TJ.br ?_
  refine TJ.alt ?_ ?_
  ·skip
   refine TJ.ef hY Z Z Z Z Z (Ef.lit oU oI hS (C := (ci .u8)) Z Z Z Z Z Z ([3] : List Int) Z Z Z Z) ?_
   rintro _ w1 hY ⟨A58, rfl, hS⟩
   refine TJ.br ?_
   refine TJ.alt ?_ ?_
   ·skip
    have hO := hS
    refine TJ.ew rfl rfl rfl rfl rfl (Ew.append oU oI (C := (ci .u8)) (xs := ([3] : List Int)) (ys := a1) (hS.inn [0]) (i := 4) rfl rfl rfl rfl rfl rfl rfl rfl rfl rfl rfl rfl rfl (hS.rd' (i := 1) rfl) (chk_some hu53)) (by rintro _ w1 ⟨A59, c60, rfl, hS⟩; exact hY.wr (hO.inY [0] 3 rfl rfl) hS.chg) ?_
    rintro _ w1 hY ⟨A59, c60, rfl, hS⟩
    have hS : St w no w1 [box b5 (cPasture.enc t4) 31, rowC cHurdle A14 c15 48 t13.1, rowC cHurdle A26 c27 48 t25.1, box b51 (cSpot.enc t50) 45, rowC (ci .u8) A59 c60 5 (([3] : List Int) ++ a1)] [roC (ci .u8) Aa0 ca0 a0, roC (ci .u8) Aa1 ca1 a1, roC cHurdle A36 c37 t35.1] := hO.out [0] hS
    refine TJ.br ?_
    refine TJ.alt ?_ ?_
    ·skip
     refine TJ.callF hY rfl rfl rfl rfl rfl rfl rfl hb17 rfl (spec_P6Spot.c _ A59 c60 (([3] : List Int) ++ a1) (hS.rd (i := 4) rfl) (hS.le (i := 4) rfl) t4 _ ht56) (by rintro v w' ⟨rfl, hs⟩; exact hs) ?_
     rintro _ w1 hY ⟨rfl, hs⟩
     replace hS := hS.grow hs
     refine TJ.ef hY Z Z Z Z Z (Ef.alloc hS oI Z Z (cSpot.enc (⟨0, 0⟩ : Spot)) Z) ?_
     rintro _ w1 hY ⟨b61, rfl, hS⟩
     have hO := hS
     refine TJ.es rfl rfl rfl rfl (Es.store oI (hS.inn [0]) (i := 5) rfl rfl rfl rfl rfl rfl (vs := cSpot.enc t56) rfl (cSpot.len _) (cSpot.one _) (Nat.le_of_ble_eq_true rfl) (cSpot.enc t56) rfl) (by intro w1 hS; exact hY.wr (hO.inY [0] 3 rfl rfl) hS.chg) ?_
     intro w1 hY hS
     have hS : St w no w1 [box b5 (cPasture.enc t4) 31, rowC cHurdle A14 c15 48 t13.1, rowC cHurdle A26 c27 48 t25.1, box b51 (cSpot.enc t50) 45, rowC (ci .u8) A59 c60 5 (([3] : List Int) ++ a1), box b61 (cSpot.enc t56) 45] [roC (ci .u8) Aa0 ca0 a0, roC (ci .u8) Aa1 ca1 a1, roC cHurdle A36 c37 t35.1] := hO.out [0] hS
     refine TJ.nil ?_
     exact EJ.meet (F' := [(5, .pointer (some ⟨b5, 0, none⟩)), (10, .slice A14 t13.1.length c15), (18, .slice A26 t25.1.length c27), (31, .pointer (some ⟨b51, 0, none⟩)), (32, .pointer (some ⟨b61, 0, none⟩))]) ⟨Z, Z, Z, Z, Z, trivial⟩ ⟨A59, c60, b61, Z, hS.pick [0, 1, 2, 3, 4, 5] [0, 1, 2] Z⟩
    refine TJ.alt ?_ ?_
    ·skip
     refine TJ.ef hY Z Z Z Z Z (Ef.alloc hS oI Z Z (cSpot.enc (⟨0, 0⟩ : Spot)) Z) ?_
     rintro _ w1 hY ⟨b62, rfl, hS⟩
     refine TJ.callF hY rfl rfl rfl rfl rfl rfl rfl hb17 rfl (spec_P6Spot.c _ A59 c60 (([3] : List Int) ++ a1) (hS.rd (i := 4) rfl) (hS.le (i := 4) rfl) t4 _ ht56) (by rintro v w' ⟨rfl, hs⟩; exact hs) ?_
     rintro _ w1 hY ⟨rfl, hs⟩
     replace hS := hS.grow hs
     have hO := hS
     refine TJ.es rfl rfl rfl rfl (Es.store oI (hS.inn [0]) (i := 5) rfl rfl rfl rfl rfl rfl (vs := cSpot.enc t56) rfl (cSpot.len _) (cSpot.one _) (Nat.le_of_ble_eq_true rfl) (cSpot.enc t56) rfl) (by intro w1 hS; exact hY.wr (hO.inY [0] 3 rfl rfl) hS.chg) ?_
     intro w1 hY hS
     have hS : St w no w1 [box b5 (cPasture.enc t4) 31, rowC cHurdle A14 c15 48 t13.1, rowC cHurdle A26 c27 48 t25.1, box b51 (cSpot.enc t50) 45, rowC (ci .u8) A59 c60 5 (([3] : List Int) ++ a1), box b62 (cSpot.enc t56) 45] [roC (ci .u8) Aa0 ca0 a0, roC (ci .u8) Aa1 ca1 a1, roC cHurdle A36 c37 t35.1] := hO.out [0] hS
     refine TJ.nil ?_
     exact EJ.meet (F' := [(5, .pointer (some ⟨b5, 0, none⟩)), (10, .slice A14 t13.1.length c15), (18, .slice A26 t25.1.length c27), (31, .pointer (some ⟨b51, 0, none⟩)), (32, .pointer (some ⟨b62, 0, none⟩))]) ⟨Z, Z, Z, Z, Z, trivial⟩ ⟨A59, c60, b62, Z, hS.pick [0, 1, 2, 3, 4, 5] [0, 1, 2] Z⟩
    exact TJ.stop
   refine TJ.alt ?_ ?_
   ·skip
    refine TJ.ef hY Z Z Z Z Z (Ef.alloc hS oI Z Z (cSpot.enc (⟨0, 0⟩ : Spot)) Z) ?_
    rintro _ w1 hY ⟨b63, rfl, hS⟩
    have hO := hS
    refine TJ.ew rfl rfl rfl rfl rfl (Ew.append oU oI (C := (ci .u8)) (xs := ([3] : List Int)) (ys := a1) (hS.inn [0]) (i := 4) rfl rfl rfl rfl rfl rfl rfl rfl rfl rfl rfl rfl rfl (hS.rd' (i := 1) rfl) (chk_some hu53)) (by rintro _ w1 ⟨A64, c65, rfl, hS⟩; exact hY.wr (hO.inY [0] 3 rfl rfl) hS.chg) ?_
    rintro _ w1 hY ⟨A64, c65, rfl, hS⟩
    have hS : St w no w1 [box b5 (cPasture.enc t4) 31, rowC cHurdle A14 c15 48 t13.1, rowC cHurdle A26 c27 48 t25.1, box b51 (cSpot.enc t50) 45, rowC (ci .u8) A64 c65 5 (([3] : List Int) ++ a1), box b63 (cSpot.enc (⟨0, 0⟩ : Spot)) 45] [roC (ci .u8) Aa0 ca0 a0, roC (ci .u8) Aa1 ca1 a1, roC cHurdle A36 c37 t35.1] := hO.out [0] hS
    refine TJ.callF hY rfl rfl rfl rfl rfl rfl rfl hb17 rfl (spec_P6Spot.c _ A64 c65 (([3] : List Int) ++ a1) (hS.rd (i := 4) rfl) (hS.le (i := 4) rfl) t4 _ ht56) (by rintro v w' ⟨rfl, hs⟩; exact hs) ?_
    rintro _ w1 hY ⟨rfl, hs⟩
    replace hS := hS.grow hs
    have hO := hS
    refine TJ.es rfl rfl rfl rfl (Es.store oI (hS.inn [0]) (i := 5) rfl rfl rfl rfl rfl rfl (vs := cSpot.enc t56) rfl (cSpot.len _) (cSpot.one _) (Nat.le_of_ble_eq_true rfl) (cSpot.enc t56) rfl) (by intro w1 hS; exact hY.wr (hO.inY [0] 3 rfl rfl) hS.chg) ?_
    intro w1 hY hS
    have hS : St w no w1 [box b5 (cPasture.enc t4) 31, rowC cHurdle A14 c15 48 t13.1, rowC cHurdle A26 c27 48 t25.1, box b51 (cSpot.enc t50) 45, rowC (ci .u8) A64 c65 5 (([3] : List Int) ++ a1), box b63 (cSpot.enc t56) 45] [roC (ci .u8) Aa0 ca0 a0, roC (ci .u8) Aa1 ca1 a1, roC cHurdle A36 c37 t35.1] := hO.out [0] hS
    refine TJ.nil ?_
    exact EJ.meet (F' := [(5, .pointer (some ⟨b5, 0, none⟩)), (10, .slice A14 t13.1.length c15), (18, .slice A26 t25.1.length c27), (31, .pointer (some ⟨b51, 0, none⟩)), (32, .pointer (some ⟨b63, 0, none⟩))]) ⟨Z, Z, Z, Z, Z, trivial⟩ ⟨A64, c65, b63, Z, hS.pick [0, 1, 2, 3, 4, 5] [0, 1, 2] Z⟩
   exact TJ.stop
  refine TJ.alt ?_ ?_
  ·skip
   refine TJ.ef hY Z Z Z Z Z (Ef.alloc hS oI Z Z (cSpot.enc (⟨0, 0⟩ : Spot)) Z) ?_
   rintro _ w1 hY ⟨b66, rfl, hS⟩
   refine TJ.ef hY Z Z Z Z Z (Ef.lit oU oI hS (C := (ci .u8)) Z Z Z Z Z Z ([3] : List Int) Z Z Z Z) ?_
   rintro _ w1 hY ⟨A67, rfl, hS⟩
   have hO := hS
   refine TJ.ew rfl rfl rfl rfl rfl (Ew.append oU oI (C := (ci .u8)) (xs := ([3] : List Int)) (ys := a1) (hS.inn [0]) (i := 5) rfl rfl rfl rfl rfl rfl rfl rfl rfl rfl rfl rfl rfl (hS.rd' (i := 1) rfl) (chk_some hu53)) (by rintro _ w1 ⟨A68, c69, rfl, hS⟩; exact hY.wr (hO.inY [0] 3 rfl rfl) hS.chg) ?_
   rintro _ w1 hY ⟨A68, c69, rfl, hS⟩
   have hS : St w no w1 [box b5 (cPasture.enc t4) 31, rowC cHurdle A14 c15 48 t13.1, rowC cHurdle A26 c27 48 t25.1, box b51 (cSpot.enc t50) 45, box b66 (cSpot.enc (⟨0, 0⟩ : Spot)) 45, rowC (ci .u8) A68 c69 5 (([3] : List Int) ++ a1)] [roC (ci .u8) Aa0 ca0 a0, roC (ci .u8) Aa1 ca1 a1, roC cHurdle A36 c37 t35.1] := hO.out [0] hS
   refine TJ.callF hY rfl rfl rfl rfl rfl rfl rfl hb17 rfl (spec_P6Spot.c _ A68 c69 (([3] : List Int) ++ a1) (hS.rd (i := 5) rfl) (hS.le (i := 5) rfl) t4 _ ht56) (by rintro v w' ⟨rfl, hs⟩; exact hs) ?_
   rintro _ w1 hY ⟨rfl, hs⟩
   replace hS := hS.grow hs
   have hO := hS
   refine TJ.es rfl rfl rfl rfl (Es.store oI (hS.inn [0]) (i := 4) rfl rfl rfl rfl rfl rfl (vs := cSpot.enc t56) rfl (cSpot.len _) (cSpot.one _) (Nat.le_of_ble_eq_true rfl) (cSpot.enc t56) rfl) (by intro w1 hS; exact hY.wr (hO.inY [0] 3 rfl rfl) hS.chg) ?_
   intro w1 hY hS
   have hS : St w no w1 [box b5 (cPasture.enc t4) 31, rowC cHurdle A14 c15 48 t13.1, rowC cHurdle A26 c27 48 t25.1, box b51 (cSpot.enc t50) 45, box b66 (cSpot.enc t56) 45, rowC (ci .u8) A68 c69 5 (([3] : List Int) ++ a1)] [roC (ci .u8) Aa0 ca0 a0, roC (ci .u8) Aa1 ca1 a1, roC cHurdle A36 c37 t35.1] := hO.out [0] hS
   refine TJ.nil ?_
   exact EJ.meet (F' := [(5, .pointer (some ⟨b5, 0, none⟩)), (10, .slice A14 t13.1.length c15), (18, .slice A26 t25.1.length c27), (31, .pointer (some ⟨b51, 0, none⟩)), (32, .pointer (some ⟨b66, 0, none⟩))]) ⟨Z, Z, Z, Z, Z, trivial⟩ ⟨A68, c69, b66, Z, hS.pick [0, 1, 2, 3, 5, 4] [0, 1, 2] Z⟩
  exact TJ.stop
 rintro F w1 ⟨A54, c55, b57, rfl, hS⟩
 refine EJ.next ?_
 refine CJ.seq (CJ.region ?_)
 refine OJ.st Z Z Z (SR.load Z Z (fun w' hx => ldE oU oI Z Z Z (CA.ext (hS.cells (i := 0) Z) hx) Z)) ?_
 refine OJ.st Z Z Z (SR.load Z Z (fun w' hx => ldE oU oI Z Z Z (CA.ext (hS.cells (i := 3) Z) hx) Z)) ?_
 refine OJ.st Z Z Z (SR.load Z Z (fun w' hx => ldE oU oI Z Z Z (CA.ext (hS.cells (i := 5) Z) hx) Z)) ?_
 obtain ⟨t70, ht70, H⟩ := pbind H
 refine OJ.callF Z Z Z Z Z hb18 Z (impl_BestGate.c k _ t4 t50 t56 _ ht70) ?_
 rintro _ w1 ⟨rfl, hs⟩
 replace hS := hS.grow hs
 refine OJ.pures oU 4 Z ?_
 refine OJ.ef Z Z Z (Ef.alloc hS oI Z Z (cHurdle.enc (⟨(⟨0, 0⟩ : Spot), false⟩ : Hurdle)) Z) ?_
 rintro _ w1 ⟨b71, rfl, hS⟩
 refine OJ.es Z Z (Es.store oI hS (i := 6) Z Z Z Z Z Z (vs := cHurdle.enc t70.1) Z (cHurdle.len _) (cHurdle.one _) (Nat.le_of_ble_eq_true Z) (cHurdle.enc t70.1) Z) ?_
 intro w1 hS
 refine OJ.pures oU 2 Z (OJ.nil (EJ.next ?_))
 refine CJ.seq (CJ.region ?_)
 refine OJ.st Z Z Z (SR.load Z Z (fun w' hx => ldE oU oI Z Z Z (CA.ext (hS.cells (i := 0) Z) hx) Z)) ?_
 refine OJ.st Z Z Z (SR.load Z Z (fun w' hx => ldE oU oI Z Z Z (CA.ext (hS.cells (i := 3) Z) hx) Z)) ?_
 refine OJ.st Z Z Z (SR.load Z Z (fun w' hx => ldE oU oI Z Z Z (CA.ext (hS.cells (i := 5) Z) hx) Z)) ?_
 obtain ⟨t72, ht72, H⟩ := pbind H
 refine OJ.callF Z Z Z Z Z hb19 Z (spec_BestGate.c k _ t4 t50 t56 _ ht72) ?_
 rintro _ w1 ⟨rfl, hs⟩
 replace hS := hS.grow hs
 refine OJ.pures oU 4 Z ?_
 refine OJ.ef Z Z Z (Ef.alloc hS oI Z Z (cHurdle.enc (⟨(⟨0, 0⟩ : Spot), false⟩ : Hurdle)) Z) ?_
 rintro _ w1 ⟨b73, rfl, hS⟩
 refine OJ.es Z Z (Es.store oI hS (i := 7) Z Z Z Z Z Z (vs := cHurdle.enc t72.1) Z (cHurdle.len _) (cHurdle.one _) (Nat.le_of_ble_eq_true Z) (cHurdle.enc t72.1) Z) ?_
 intro w1 hS
 refine OJ.pures oU 2 Z (OJ.nil (EJ.next ?_))
 refine CJ.seq (CJ.region ?_)
 refine OJ.st Z Z Z (SR.load Z Z (fun w' hx => ldE oU oI Z Z Z (CA.ext (hS.cells (i := 0) Z) hx) Z)) ?_
 refine OJ.st Z Z Z (SR.load Z Z (fun w' hx => ldE oU oI Z Z Z (CA.ext (hS.cells (i := 3) Z) hx) Z)) ?_
 refine OJ.st Z Z Z (SR.load Z Z (fun w' hx => ldE oU oI Z Z Z (CA.ext (hS.cells (i := 5) Z) hx) Z)) ?_
 obtain ⟨t74, ht74, H⟩ := pbind H
 refine OJ.callF Z Z Z Z Z hb20 Z (impl_GatesNeeded.c k _ t4 t50 t56 _ ht74) ?_
 rintro _ w1 ⟨rfl, hs⟩
 replace hS := hS.grow hs
 refine OJ.pures oU 5 Z (OJ.nil (EJ.next ?_))
 refine CJ.seq (CJ.region ?_)
 refine OJ.st Z Z Z (SR.load Z Z (fun w' hx => ldE oU oI Z Z Z (CA.ext (hS.cells (i := 0) Z) hx) Z)) ?_
 refine OJ.st Z Z Z (SR.load Z Z (fun w' hx => ldE oU oI Z Z Z (CA.ext (hS.cells (i := 3) Z) hx) Z)) ?_
 refine OJ.st Z Z Z (SR.load Z Z (fun w' hx => ldE oU oI Z Z Z (CA.ext (hS.cells (i := 5) Z) hx) Z)) ?_
 obtain ⟨t75, ht75, H⟩ := pbind H
 refine OJ.callF Z Z Z Z Z hb21 Z (spec_GatesNeeded.c k _ t4 t50 t56 _ ht75) ?_
 rintro _ w1 ⟨rfl, hs⟩
 replace hS := hS.grow hs
 refine OJ.pures oU 5 Z (OJ.nil (EJ.next ?_))
 refine CJ.seq (CJ.region ?_)
 refine OJ.st Z Z Z (SR.load Z Z (fun w' hx => ldE oU oI Z Z Z (CA.ext (hS.cells (i := 0) Z) hx) Z)) ?_
 refine OJ.st Z Z Z (SR.load Z Z (fun w' hx => ldE oU oI Z Z Z (CA.ext (hS.cells (i := 5) Z) hx) Z)) ?_
 refine OJ.st Z Z Z (SR.load Z Z (fun w' hx => ldE oU oI Z Z Z (CA.ext (hS.cells (i := 3) Z) hx) Z)) ?_
 obtain ⟨t76, ht76, H⟩ := pbind H
 refine OJ.callF Z Z Z Z Z hb20 Z (impl_GatesNeeded.c k _ t4 t56 t50 _ ht76) ?_
 rintro _ w1 ⟨rfl, hs⟩
 replace hS := hS.grow hs
 refine OJ.pures oU 5 Z (OJ.nil (EJ.next ?_))
 refine CJ.seq ?_
 obtain ⟨j852, H, K852⟩ := pbind H
 refine CJ.cut (fun F w1 => ∃ (y77 : Bool) , (some y77 : Option Bool) = some j852 ∧ F = [(5, .pointer (some ⟨b5, 0, none⟩)), (18, .slice A26 t25.1.length c27), (31, .pointer (some ⟨b51, 0, none⟩)), (32, .pointer (some ⟨b57, 0, none⟩)), (35, .int .i64 t70.2.2), (36, .pointer (some ⟨b73, 0, none⟩)), (37, .int .i64 t72.2.1), (324, .bool y77)] ∧ St w no w1 [box b5 (cPasture.enc t4) 31, rowC cHurdle A26 c27 48 t25.1, box b51 (cSpot.enc t50) 45, box b57 (cSpot.enc t56) 45, box b73 (cHurdle.enc t72.1) 48] [roC (ci .u8) Aa0 ca0 a0, roC (ci .u8) Aa1 ca1 a1, roC cHurdle A36 c37 t35.1]) ?_ ?_
 ·skip
  refine CJ.region ?_
  refine OJ.pures oU 4 Z ?_
  refine OJ.split (t := 272) Z (fun hb => ?_) (fun hb => ?_)
  ·replace H := pif_t (of_decide_eq_true hb) H
   refine OJ.pures oU 52 Z ?_
   refine OJ.nil ?_
   exact EJ.meet (F' := [(5, .pointer (some ⟨b5, 0, none⟩)), (18, .slice A26 t25.1.length c27), (31, .pointer (some ⟨b51, 0, none⟩)), (32, .pointer (some ⟨b57, 0, none⟩)), (35, .int .i64 t70.2.2), (36, .pointer (some ⟨b73, 0, none⟩)), (37, .int .i64 t72.2.1), (324, .bool true)]) ⟨Z, Z, Z, Z, Z, Z, Z, Z, trivial⟩ ⟨true, H, Z, hS.pick [0, 2, 3, 5, 7] [0, 1, 2] Z⟩
  replace H := pif_f (of_decide_eq_false hb) H
  refine OJ.st Z Z Z (SR.load Z Z (fun w' hx => ldE oU oI Z Z Z (CA.ext (hS.cells (i := 6) Z) hx) Z)) ?_
  refine OJ.st Z Z Z (SR.load Z Z (fun w' hx => ldE oU oI Z Z Z (CA.ext (hS.cells (i := 7) Z) hx) Z)) ?_
  refine OJ.st Z Z Z (SR.neS eqT48 eqG48 Z Z Z (Z : _ = (cHurdle.enc t70.1).toArray) (Z : _ = (cHurdle.enc t72.1).toArray)) ?_
  refine OJ.pures oU 2 Z ?_
  refine OJ.split (t := 277) Z (fun hb => ?_) (fun hb => ?_)
  ·replace H := pif_t (of_decide_eq_true hb) H
   refine OJ.pures oU 47 Z ?_
   refine OJ.nil ?_
   exact EJ.meet (F' := [(5, .pointer (some ⟨b5, 0, none⟩)), (18, .slice A26 t25.1.length c27), (31, .pointer (some ⟨b51, 0, none⟩)), (32, .pointer (some ⟨b57, 0, none⟩)), (35, .int .i64 t70.2.2), (36, .pointer (some ⟨b73, 0, none⟩)), (37, .int .i64 t72.2.1), (324, .bool true)]) ⟨Z, Z, Z, Z, Z, Z, Z, Z, trivial⟩ ⟨true, H, Z, hS.pick [0, 2, 3, 5, 7] [0, 1, 2] Z⟩
  replace H := pif_f (of_decide_eq_false hb) H
  refine OJ.pures oU 5 Z ?_
  refine OJ.split (t := 282) Z (fun hb => ?_) (fun hb => ?_)
  ·replace H := pif_t (of_decide_eq_true hb) H
   refine OJ.pures oU 42 Z ?_
   refine OJ.nil ?_
   exact EJ.meet (F' := [(5, .pointer (some ⟨b5, 0, none⟩)), (18, .slice A26 t25.1.length c27), (31, .pointer (some ⟨b51, 0, none⟩)), (32, .pointer (some ⟨b57, 0, none⟩)), (35, .int .i64 t70.2.2), (36, .pointer (some ⟨b73, 0, none⟩)), (37, .int .i64 t72.2.1), (324, .bool true)]) ⟨Z, Z, Z, Z, Z, Z, Z, Z, trivial⟩ ⟨true, H, Z, hS.pick [0, 2, 3, 5, 7] [0, 1, 2] Z⟩
  replace H := pif_f (of_decide_eq_false hb) H
  refine OJ.pures oU 5 Z ?_
  refine OJ.split (t := 287) Z (fun hb => ?_) (fun hb => ?_)
  ·replace H := pif_t (of_decide_eq_true hb) H
   refine OJ.pures oU 37 Z ?_
   refine OJ.nil ?_
   exact EJ.meet (F' := [(5, .pointer (some ⟨b5, 0, none⟩)), (18, .slice A26 t25.1.length c27), (31, .pointer (some ⟨b51, 0, none⟩)), (32, .pointer (some ⟨b57, 0, none⟩)), (35, .int .i64 t70.2.2), (36, .pointer (some ⟨b73, 0, none⟩)), (37, .int .i64 t72.2.1), (324, .bool true)]) ⟨Z, Z, Z, Z, Z, Z, Z, Z, trivial⟩ ⟨true, H, Z, hS.pick [0, 2, 3, 5, 7] [0, 1, 2] Z⟩
  replace H := pif_f (of_decide_eq_false hb) H
  refine OJ.pures oU 4 Z ?_
  refine OJ.split (t := 291) Z (fun hb => ?_) (fun hb => ?_)
  ·replace H := pif_t (of_decide_eq_true hb) H
   refine OJ.pures oU 33 Z ?_
   refine OJ.nil ?_
   exact EJ.meet (F' := [(5, .pointer (some ⟨b5, 0, none⟩)), (18, .slice A26 t25.1.length c27), (31, .pointer (some ⟨b51, 0, none⟩)), (32, .pointer (some ⟨b57, 0, none⟩)), (35, .int .i64 t70.2.2), (36, .pointer (some ⟨b73, 0, none⟩)), (37, .int .i64 t72.2.1), (324, .bool true)]) ⟨Z, Z, Z, Z, Z, Z, Z, Z, trivial⟩ ⟨true, H, Z, hS.pick [0, 2, 3, 5, 7] [0, 1, 2] Z⟩
  replace H := pif_f (of_decide_eq_false hb) H
  refine OJ.pures oU 5 Z ?_
  refine OJ.split (t := 296) Z (fun hb => ?_) (fun hb => ?_)
  ·replace H := pif_t (of_decide_eq_true hb) H
   refine OJ.pures oU 28 Z ?_
   refine OJ.nil ?_
   exact EJ.meet (F' := [(5, .pointer (some ⟨b5, 0, none⟩)), (18, .slice A26 t25.1.length c27), (31, .pointer (some ⟨b51, 0, none⟩)), (32, .pointer (some ⟨b57, 0, none⟩)), (35, .int .i64 t70.2.2), (36, .pointer (some ⟨b73, 0, none⟩)), (37, .int .i64 t72.2.1), (324, .bool true)]) ⟨Z, Z, Z, Z, Z, Z, Z, Z, trivial⟩ ⟨true, H, Z, hS.pick [0, 2, 3, 5, 7] [0, 1, 2] Z⟩
  replace H := pif_f (of_decide_eq_false hb) H
  refine OJ.pures oU 4 Z ?_
  refine OJ.split (t := 300) Z (fun hb => ?_) (fun hb => ?_)
  ·replace H := pif_t (of_decide_eq_true hb) H
   refine OJ.pures oU 24 Z ?_
   refine OJ.nil ?_
   exact EJ.meet (F' := [(5, .pointer (some ⟨b5, 0, none⟩)), (18, .slice A26 t25.1.length c27), (31, .pointer (some ⟨b51, 0, none⟩)), (32, .pointer (some ⟨b57, 0, none⟩)), (35, .int .i64 t70.2.2), (36, .pointer (some ⟨b73, 0, none⟩)), (37, .int .i64 t72.2.1), (324, .bool true)]) ⟨Z, Z, Z, Z, Z, Z, Z, Z, trivial⟩ ⟨true, H, Z, hS.pick [0, 2, 3, 5, 7] [0, 1, 2] Z⟩
  replace H := pif_f (of_decide_eq_false hb) H
  refine OJ.pures oU 5 Z ?_
  refine OJ.split (t := 305) Z (fun hb => ?_) (fun hb => ?_)
  ·replace H := pif_t (of_decide_eq_true hb) H
   refine OJ.pures oU 19 Z ?_
   refine OJ.nil ?_
   exact EJ.meet (F' := [(5, .pointer (some ⟨b5, 0, none⟩)), (18, .slice A26 t25.1.length c27), (31, .pointer (some ⟨b51, 0, none⟩)), (32, .pointer (some ⟨b57, 0, none⟩)), (35, .int .i64 t70.2.2), (36, .pointer (some ⟨b73, 0, none⟩)), (37, .int .i64 t72.2.1), (324, .bool true)]) ⟨Z, Z, Z, Z, Z, Z, Z, Z, trivial⟩ ⟨true, H, Z, hS.pick [0, 2, 3, 5, 7] [0, 1, 2] Z⟩
  replace H := pif_f (of_decide_eq_false hb) H
  refine OJ.pures oU 4 Z ?_
  refine OJ.st Z Z Z (SR.neB oU Z Z Z Z) ?_
  refine OJ.pures oU 2 Z ?_
  refine OJ.split (t := 312) Z (fun hb => ?_) (fun hb => ?_)
  ·replace H := pif_t (of_decide_eq_true hb) H
   refine OJ.pures oU 12 Z ?_
   refine OJ.nil ?_
   exact EJ.meet (F' := [(5, .pointer (some ⟨b5, 0, none⟩)), (18, .slice A26 t25.1.length c27), (31, .pointer (some ⟨b51, 0, none⟩)), (32, .pointer (some ⟨b57, 0, none⟩)), (35, .int .i64 t70.2.2), (36, .pointer (some ⟨b73, 0, none⟩)), (37, .int .i64 t72.2.1), (324, .bool true)]) ⟨Z, Z, Z, Z, Z, Z, Z, Z, trivial⟩ ⟨true, H, Z, hS.pick [0, 2, 3, 5, 7] [0, 1, 2] Z⟩
  replace H := pif_f (of_decide_eq_false hb) H
  refine OJ.pures oU 4 Z ?_
  refine OJ.st Z Z Z (SR.neB oU Z Z Z Z) ?_
  refine OJ.pures oU 2 Z ?_
  refine OJ.split (t := 319) Z (fun hb => ?_) (fun hb => ?_)
  ·replace H := pif_t (of_decide_eq_true hb) H
   refine OJ.pures oU 5 Z ?_
   refine OJ.nil ?_
   exact EJ.meet (F' := [(5, .pointer (some ⟨b5, 0, none⟩)), (18, .slice A26 t25.1.length c27), (31, .pointer (some ⟨b51, 0, none⟩)), (32, .pointer (some ⟨b57, 0, none⟩)), (35, .int .i64 t70.2.2), (36, .pointer (some ⟨b73, 0, none⟩)), (37, .int .i64 t72.2.1), (324, .bool true)]) ⟨Z, Z, Z, Z, Z, Z, Z, Z, trivial⟩ ⟨true, H, Z, hS.pick [0, 2, 3, 5, 7] [0, 1, 2] Z⟩
  replace H := pif_f (of_decide_eq_false hb) H
  refine OJ.pures oU 5 Z ?_
  refine OJ.nil ?_
  exact EJ.meet (F' := [(5, .pointer (some ⟨b5, 0, none⟩)), (18, .slice A26 t25.1.length c27), (31, .pointer (some ⟨b51, 0, none⟩)), (32, .pointer (some ⟨b57, 0, none⟩)), (35, .int .i64 t70.2.2), (36, .pointer (some ⟨b73, 0, none⟩)), (37, .int .i64 t72.2.1), (324, .bool (decide ((t13.1.length : Int) < t75.1)))]) ⟨Z, Z, Z, Z, Z, Z, Z, Z, trivial⟩ ⟨(decide ((t13.1.length : Int) < t75.1)), H, Z, hS.pick [0, 2, 3, 5, 7] [0, 1, 2] Z⟩
 rintro F w1 ⟨y77, he, rfl, hS⟩
 obtain rfl := Option.some.inj he
 have H := K852
 refine CJ.cond Z (fun hb => ?_) (fun hb => ?_)
 ·replace H := pif_t hb H
  refine CJ.seq (CJ.region ?_)
  refine OJ.pures oU 1 Z (OJ.nil (EJ.next ?_))
  refine CJ.ret (EJ.skR (?_))
  obtain rfl := Option.some.inj H
  exact EJ.fin Z (.tmp Z .nil) ⟨Z, hS.ext⟩
 replace H := pifb_f hb H
 refine CJ.skip (EJ.next ?_)
 refine CJ.seq ?_
 refine CJ.seq (CJ.region ?_)
 refine OJ.pures oU 2 Z (OJ.nil (EJ.next ?_))
 refine CJ.cond Z (fun hb => ?_) (fun hb => ?_)
 ·replace H := pif_t (of_decide_eq_true hb) H
  obtain ⟨j853, H, K853⟩ := pbind H
  refine CJ.cut (fun F w1 => ∃ (y78 : Bool) , (some y78 : Option Bool) = some j853 ∧ F = [(4, .bool y78)] ∧ St w no w1 [] [roC (ci .u8) Aa0 ca0 a0, roC (ci .u8) Aa1 ca1 a1, roC cHurdle A36 c37 t35.1]) ?_ ?_
  ·skip
   refine CJ.region ?_
   refine OJ.pures oU 3 Z ?_
   refine OJ.split (t := 329) Z (fun hb => ?_) (fun hb => ?_)
   ·replace H := pif_t (of_decide_eq_true hb) H
    refine OJ.pures oU 4 Z ?_
    refine OJ.nil ?_
    exact EJ.meet (F' := [(4, .bool true)]) ⟨Z, trivial⟩ ⟨true, H, Z, hS.pick [] [0, 1, 2] Z⟩
   replace H := pif_f (of_decide_eq_false hb) H
   refine OJ.pures oU 4 Z ?_
   refine OJ.nil ?_
   exact EJ.meet (F' := [(4, .bool (decide (t70.2.2 = 6)))]) ⟨Z, trivial⟩ ⟨(decide (t70.2.2 = 6)), H, Z, hS.pick [] [0, 1, 2] Z⟩
  rintro F w1 ⟨y78, he, rfl, hS⟩
  obtain rfl := Option.some.inj he
  have H := K853
  refine CJ.ret (EJ.skR (?_))
  obtain rfl := Option.some.inj H
  exact EJ.fin Z (.tmp Z .nil) ⟨Z, hS.ext⟩
 replace H := pif_f (of_decide_eq_false hb) H
 refine CJ.skip (EJ.next ?_)
 refine CJ.seq (CJ.region ?_)
 refine OJ.st Z Z Z (SR.load Z Z (fun w' hx => ldE oU oI Z Z Z (CA.ext (hS.cells (i := 0) Z) hx) Z)) ?_
 refine OJ.st Z Z Z (SR.load Z Z (fun w' hx => ldE oU oI Z Z Z (CA.ext (hS.cells (i := 4) Z) hx) Z)) ?_
 refine OJ.ef Z Z Z (Ef.lit oU oI hS (C := cHurdle) Z Z Z Z Z Z ([t72.1] : List Hurdle) Z Z Z Z) ?_
 rintro _ w1 ⟨A79, rfl, hS⟩
 obtain ⟨t80, ht80, H⟩ := pbind H
 refine OJ.callF Z Z Z Z Z hb9 Z (impl_TakeHurdles.c k _ t4 A79 (([t72.1] : List Hurdle).length) ([t72.1] : List Hurdle) (hS.rd (i := 5) Z) (hS.le (i := 5) Z) _ ht80) ?_
 rintro _ w1 ⟨rfl, hs⟩
 replace hS := hS.grow hs
 refine OJ.pures oU 3 Z ?_
 refine OJ.ef rfl rfl rfl (Ef.alloc hS oI rfl rfl (cPasture.enc (⟨0, 0, (Arr.mk' (Arr.mk' 0 : Arr 10 Int) : Arr 10 (Arr 10 Int)), (Arr.mk' 0 : Arr 10 Int), (Arr.mk' 0 : Arr 10 Int)⟩ : Pasture)) (by kernel_rfl)) ?_
 rintro _ w1 ⟨b81, rfl, hS⟩
 refine OJ.es rfl rfl (Es.put oI hS (i := 6) rfl rfl rfl rfl rfl (vs := cPasture.enc t80.1) rfl (cPasture.len _) (cPasture.one _) (Put.all cPasture (⟨0, 0, (Arr.mk' (Arr.mk' 0 : Arr 10 Int) : Arr 10 (Arr 10 Int)), (Arr.mk' 0 : Arr 10 Int), (Arr.mk' 0 : Arr 10 Int)⟩ : Pasture) t80.1) (by (try simp only [add_lit, Nat.add_assoc, Nat.zero_add, Nat.add_zero]) <;> rfl)) ?_
 intro w1 hS
 refine OJ.pures oU 1 Z (OJ.nil (EJ.next ?_))
 refine CJ.seq (CJ.region ?_)
 refine OJ.st Z Z Z (SR.load Z Z (fun w' hx => ldE oU oI Z Z Z (CA.ext (hS.cells (i := 6) Z) hx) Z)) ?_
 refine OJ.st Z Z Z (SR.load Z Z (fun w' hx => ldE oU oI Z Z Z (CA.ext (hS.cells (i := 2) Z) hx) Z)) ?_
 refine OJ.st Z Z Z (SR.load Z Z (fun w' hx => ldE oU oI Z Z Z (CA.ext (hS.cells (i := 3) Z) hx) Z)) ?_
 obtain ⟨t82, ht82, H⟩ := pbind H
 refine OJ.callF Z Z Z Z Z hb22 Z (impl_StepsBetween.c k _ t80.1 t50 t56 _ ht82) ?_
 rintro _ w1 ⟨rfl, hs⟩
 replace hS := hS.grow hs
 refine OJ.pures oU 5 Z (OJ.nil (EJ.next ?_))
 refine CJ.seq ?_
 obtain ⟨j854, H, K854⟩ := pbind H
 refine CJ.cut (fun F w1 => ∃ (y83 : Bool) , (some y83 : Option Bool) = some j854 ∧ F = [(5, .pointer (some ⟨b5, 0, none⟩)), (18, .slice A26 t25.1.length c27), (31, .pointer (some ⟨b51, 0, none⟩)), (32, .pointer (some ⟨b57, 0, none⟩)), (37, .int .i64 t72.2.1), (357, .bool y83)] ∧ St w no w1 [box b5 (cPasture.enc t4) 31, rowC cHurdle A26 c27 48 t25.1, box b51 (cSpot.enc t50) 45, box b57 (cSpot.enc t56) 45] [roC (ci .u8) Aa0 ca0 a0, roC (ci .u8) Aa1 ca1 a1, roC cHurdle A36 c37 t35.1]) ?_ ?_
 ·skip
  refine CJ.region ?_
  refine OJ.pures oU 3 Z ?_
  refine OJ.split (t := 349) Z (fun hb => ?_) (fun hb => ?_)
  ·replace H := pif_t (of_decide_eq_true hb) H
   refine OJ.pures oU 8 Z ?_
   refine OJ.nil ?_
   exact EJ.meet (F' := [(5, .pointer (some ⟨b5, 0, none⟩)), (18, .slice A26 t25.1.length c27), (31, .pointer (some ⟨b51, 0, none⟩)), (32, .pointer (some ⟨b57, 0, none⟩)), (37, .int .i64 t72.2.1), (357, .bool true)]) ⟨Z, Z, Z, Z, Z, Z, trivial⟩ ⟨true, H, Z, hS.pick [0, 1, 2, 3] [0, 1, 2] Z⟩
  replace H := pif_f (of_decide_eq_false hb) H
  refine OJ.pures oU 4 Z ?_
  refine OJ.split (t := 353) Z (fun hb => ?_) (fun hb => ?_)
  ·replace H := pif_t (of_decide_eq_true hb) H
   refine OJ.pures oU 4 Z ?_
   refine OJ.nil ?_
   exact EJ.meet (F' := [(5, .pointer (some ⟨b5, 0, none⟩)), (18, .slice A26 t25.1.length c27), (31, .pointer (some ⟨b51, 0, none⟩)), (32, .pointer (some ⟨b57, 0, none⟩)), (37, .int .i64 t72.2.1), (357, .bool true)]) ⟨Z, Z, Z, Z, Z, Z, trivial⟩ ⟨true, H, Z, hS.pick [0, 1, 2, 3] [0, 1, 2] Z⟩
  replace H := pif_f (of_decide_eq_false hb) H
  refine OJ.pures oU 4 Z ?_
  refine OJ.nil ?_
  exact EJ.meet (F' := [(5, .pointer (some ⟨b5, 0, none⟩)), (18, .slice A26 t25.1.length c27), (31, .pointer (some ⟨b51, 0, none⟩)), (32, .pointer (some ⟨b57, 0, none⟩)), (37, .int .i64 t72.2.1), (357, .bool (decide (t82.1 ≠ t72.2.1)))]) ⟨Z, Z, Z, Z, Z, Z, trivial⟩ ⟨(decide (t82.1 ≠ t72.2.1)), H, Z, hS.pick [0, 1, 2, 3] [0, 1, 2] Z⟩
 rintro F w1 ⟨y83, he, rfl, hS⟩
 obtain rfl := Option.some.inj he
 have H := K854
 refine CJ.cond Z (fun hb => ?_) (fun hb => ?_)
 ·replace H := pif_t hb H
  refine CJ.seq (CJ.region ?_)
  refine OJ.pures oU 1 Z (OJ.nil (EJ.next ?_))
  refine CJ.ret (EJ.skR (?_))
  obtain rfl := Option.some.inj H
  exact EJ.fin Z (.tmp Z .nil) ⟨Z, hS.ext⟩
 replace H := pifb_f hb H
 refine CJ.skip (EJ.next ?_)
 refine CJ.seq ?_
 refine CJ.seq (CJ.region ?_)
 refine OJ.pures oU 1 Z (OJ.nil (EJ.next ?_))
 replace hS := hS.freezeG (i := 1) Z
 obtain ⟨j855, H, K855⟩ := pbind H
 refine CJ.cut1 (fun F w1 => (some (Sum.inr ()) : Option (Bool ⊕ Unit)) = some j855 ∧ F = [] ∧ St w no w1 [] [roC (ci .u8) Aa0 ca0 a0, roC (ci .u8) Aa1 ca1 a1, roC cHurdle A36 c37 t35.1, roC cHurdle A26 c27 t25.1]) ?_ ?_
 ·skip
  refine CJ.block ?_
  refine CJ.loop (fun k F w1 => ∃ (y84 : Int), F = [(5, .pointer (some ⟨b5, 0, none⟩)), (18, .slice A26 t25.1.length c27), (31, .pointer (some ⟨b51, 0, none⟩)), (32, .pointer (some ⟨b57, 0, none⟩)), (37, .int .i64 t72.2.1), (49, .int .i64 y84)] ∧ St w no w1 [box b5 (cPasture.enc t4) 31, box b51 (cSpot.enc t50) 45, box b57 (cSpot.enc t56) 45] [roC (ci .u8) Aa0 ca0 a0, roC (ci .u8) Aa1 ca1 a1, roC cHurdle A36 c37 t35.1, roC cHurdle A26 c27 t25.1] ∧ laws_FnGates.l2 t4 t25 t50 t56 t72 k y84 = some j855) k (F' := [(5, .pointer (some ⟨b5, 0, none⟩)), (18, .slice A26 t25.1.length c27), (31, .pointer (some ⟨b51, 0, none⟩)), (32, .pointer (some ⟨b57, 0, none⟩)), (37, .int .i64 t72.2.1), (49, .int .i64 0)]) ⟨Z, Z, Z, Z, Z, Z, trivial⟩ ⟨0, Z, hS.pick [0, 2, 3] [0, 1, 2, 3] Z, H⟩ ?_
  rintro k F w1 ⟨y84, rfl, hS, H⟩
  cases k with
  | zero => rw [laws_FnGates.l2] at H; cases H
  | succ k =>
    rw [laws_FnGates.l2] at H
    refine CJ.seq ?_
    refine CJ.seq (CJ.region ?_)
    refine OJ.pures oU 4 Z (OJ.nil (EJ.next ?_))
    refine CJ.cond Z (fun hb => ?_) (fun hb => ?_)
    · replace H := pif_t (of_decide_eq_true hb) H
      refine CJ.skip (EJ.next ?_)
      refine CJ.seq ?_
      refine CJ.block ?_
      refine CJ.seq ?_
      obtain ⟨u85, hu85, H⟩ := pbind H
      obtain ⟨t86, ht86, H⟩ := pbind H
      refine CJ.cut1 (fun F w1 => ∃ (b87 : Nat), F = [(5, .pointer (some ⟨b5, 0, none⟩)), (18, .slice A26 t25.1.length c27), (31, .pointer (some ⟨b51, 0, none⟩)), (32, .pointer (some ⟨b57, 0, none⟩)), (37, .int .i64 t72.2.1), (49, .int .i64 y84), (50, .pointer (some ⟨b87, 0, none⟩)), (51, .int .i64 t86.2)] ∧ St w no w1 [box b5 (cPasture.enc t4) 31, box b51 (cSpot.enc t50) 45, box b57 (cSpot.enc t56) 45, box b87 (cPasture.enc t86.1) 31] [roC (ci .u8) Aa0 ca0 a0, roC (ci .u8) Aa1 ca1 a1, roC cHurdle A36 c37 t35.1, roC cHurdle A26 c27 t25.1, roC cHurdle (cutA A26 c27 y84.toNat cHurdle.sz) (c27 - y84.toNat) ((t25.1.drop y84.toNat).take (((IntKind.i64.wrap (y84 + 1)).toNat) - y84.toNat))]) ?_ ?_
      · skip
        refine CJ.drawT [] [6, 10, 11] (.one 0 (.one 1 (.one 2 (.one 3 (.one 4 (.one 5 (.br (.alt 6 (.one 7 (.one 8 (.one 9 (.one 10 (.one 11 (.one 12 (.fin))))))) (.alt 10 (.one 6 (.one 7 (.one 8 (.one 9 (.one 11 (.one 12 (.fin))))))) (.stop)))))))))) mixed (by kernel_rfl) hS [0] fun w1 hS hY hV => ?_
        refine TJ.st hY Z Z Z Z Z (fun w2 hY => SR.load Z Z (fun w' hx => ldE oU oI Z Z Z (CA.ext ((hV w2 hY).cellsR (i := 4) Z) hx) Z)) ?_
        refine TJ.pures oU 4 Z ?_
        refine TJ.st hY rfl rfl rfl rfl rfl (fun w2 hY => SR.cutS oU oI (y84.toNat) ((IntKind.i64.wrap (y84 + 1)).toNat) rfl rfl rfl rfl rfl rfl (.inr ⟨_, _, rfl, (chk_some hu85).1, rfl⟩) (.inr ⟨_, _, rfl, (by have := (chk_some hu85); omega), rfl⟩) (by have := (chk_some hu85); omega) (by have := (chk_some hu85); have := ((hV w2 hY).le' (i := 3) rfl : t25.1.length ≤ c27); omega)) ?_
        replace hS := hS.cutR (i := 3) (lo := y84.toNat) (hi := (IntKind.i64.wrap (y84 + 1)).toNat) rfl (by have := (chk_some hu85); omega) (by have := (chk_some hu85); omega)
        refine TJ.as (t := 370) rfl (show _ = (.slice (cutA A26 c27 y84.toNat cHurdle.sz) ((t25.1.drop y84.toNat).take (((IntKind.i64.wrap (y84 + 1)).toNat) - y84.toNat)).length (c27 - y84.toNat) : Value) by rw [cutLen (by have := (chk_some hu85); omega) (by have := (chk_some hu85); omega)]; rfl) ?_
        refine TJ.br ?_
        refine TJ.alt ?_ ?_
        · skip
          refine TJ.callF hY rfl rfl rfl rfl rfl rfl rfl hb23 rfl (spec_TakeHurdles.c k _ t4 (cutA A26 c27 y84.toNat cHurdle.sz) (c27 - y84.toNat) ((t25.1.drop y84.toNat).take (((IntKind.i64.wrap (y84 + 1)).toNat) - y84.toNat)) (hS.rd' (i := 4) rfl) (hS.le' (i := 4) rfl) _ ht86) (by rintro v w' ⟨rfl, hs⟩; exact hs) ?_
          rintro _ w1 hY ⟨rfl, hs⟩
          replace hS := hS.grow hs
          refine TJ.pures oU 3 Z ?_
          refine TJ.ef hY rfl rfl rfl rfl rfl (Ef.alloc hS oI rfl rfl (cPasture.enc (⟨0, 0, (Arr.mk' (Arr.mk' 0 : Arr 10 Int) : Arr 10 (Arr 10 Int)), (Arr.mk' 0 : Arr 10 Int), (Arr.mk' 0 : Arr 10 Int)⟩ : Pasture)) (by kernel_rfl)) ?_
          rintro _ w1 hY ⟨b88, rfl, hS⟩
          have hO := hS
          refine TJ.es rfl rfl rfl rfl (Es.put oI (hS.inn [0]) (i := 3) rfl rfl rfl rfl rfl (vs := cPasture.enc t86.1) rfl (cPasture.len _) (cPasture.one _) (Put.all cPasture (⟨0, 0, (Arr.mk' (Arr.mk' 0 : Arr 10 Int) : Arr 10 (Arr 10 Int)), (Arr.mk' 0 : Arr 10 Int), (Arr.mk' 0 : Arr 10 Int)⟩ : Pasture) t86.1) (by (try simp only [add_lit, Nat.add_assoc, Nat.zero_add, Nat.add_zero]) <;> rfl)) (by intro w1 hS; exact hY.wr (hO.inY [0] 4 rfl rfl) hS.chg) ?_
          intro w1 hY hS
          have hS : St w no w1 [box b5 (cPasture.enc t4) 31, box b51 (cSpot.enc t50) 45, box b57 (cSpot.enc t56) 45, box b88 (cPasture.enc t86.1) 31] [roC (ci .u8) Aa0 ca0 a0, roC (ci .u8) Aa1 ca1 a1, roC cHurdle A36 c37 t35.1, roC cHurdle A26 c27 t25.1, roC cHurdle (cutA A26 c27 y84.toNat cHurdle.sz) (c27 - y84.toNat) ((t25.1.drop y84.toNat).take (((IntKind.i64.wrap (y84 + 1)).toNat) - y84.toNat))] := hO.out [0] hS
          refine TJ.pures oU 1 Z ?_
          refine TJ.nil ?_
          exact EJ.meet (F' := [(5, .pointer (some ⟨b5, 0, none⟩)), (18, .slice A26 t25.1.length c27), (31, .pointer (some ⟨b51, 0, none⟩)), (32, .pointer (some ⟨b57, 0, none⟩)), (37, .int .i64 t72.2.1), (49, .int .i64 y84), (50, .pointer (some ⟨b88, 0, none⟩)), (51, .int .i64 t86.2)]) ⟨Z, Z, Z, Z, Z, Z, Z, Z, trivial⟩ ⟨b88, Z, hS.pick [0, 1, 2, 3] [0, 1, 2, 3, 4] Z⟩
        refine TJ.alt ?_ ?_
        · skip
          refine TJ.ef hY rfl rfl rfl rfl rfl (Ef.alloc hS oI rfl rfl (cPasture.enc (⟨0, 0, (Arr.mk' (Arr.mk' 0 : Arr 10 Int) : Arr 10 (Arr 10 Int)), (Arr.mk' 0 : Arr 10 Int), (Arr.mk' 0 : Arr 10 Int)⟩ : Pasture)) (by kernel_rfl)) ?_
          rintro _ w1 hY ⟨b89, rfl, hS⟩
          refine TJ.callF hY rfl rfl rfl rfl rfl rfl rfl hb23 rfl (spec_TakeHurdles.c k _ t4 (cutA A26 c27 y84.toNat cHurdle.sz) (c27 - y84.toNat) ((t25.1.drop y84.toNat).take (((IntKind.i64.wrap (y84 + 1)).toNat) - y84.toNat)) (hS.rd' (i := 4) rfl) (hS.le' (i := 4) rfl) _ ht86) (by rintro v w' ⟨rfl, hs⟩; exact hs) ?_
          rintro _ w1 hY ⟨rfl, hs⟩
          replace hS := hS.grow hs
          refine TJ.pures oU 3 Z ?_
          have hO := hS
          refine TJ.es rfl rfl rfl rfl (Es.put oI (hS.inn [0]) (i := 3) rfl rfl rfl rfl rfl (vs := cPasture.enc t86.1) rfl (cPasture.len _) (cPasture.one _) (Put.all cPasture (⟨0, 0, (Arr.mk' (Arr.mk' 0 : Arr 10 Int) : Arr 10 (Arr 10 Int)), (Arr.mk' 0 : Arr 10 Int), (Arr.mk' 0 : Arr 10 Int)⟩ : Pasture) t86.1) (by (try simp only [add_lit, Nat.add_assoc, Nat.zero_add, Nat.add_zero]) <;> rfl)) (by intro w1 hS; exact hY.wr (hO.inY [0] 4 rfl rfl) hS.chg) ?_
          intro w1 hY hS
          have hS : St w no w1 [box b5 (cPasture.enc t4) 31, box b51 (cSpot.enc t50) 45, box b57 (cSpot.enc t56) 45, box b89 (cPasture.enc t86.1) 31] [roC (ci .u8) Aa0 ca0 a0, roC (ci .u8) Aa1 ca1 a1, roC cHurdle A36 c37 t35.1, roC cHurdle A26 c27 t25.1, roC cHurdle (cutA A26 c27 y84.toNat cHurdle.sz) (c27 - y84.toNat) ((t25.1.drop y84.toNat).take (((IntKind.i64.wrap (y84 + 1)).toNat) - y84.toNat))] := hO.out [0] hS
          refine TJ.pures oU 1 Z ?_
          refine TJ.nil ?_
          exact EJ.meet (F' := [(5, .pointer (some ⟨b5, 0, none⟩)), (18, .slice A26 t25.1.length c27), (31, .pointer (some ⟨b51, 0, none⟩)), (32, .pointer (some ⟨b57, 0, none⟩)), (37, .int .i64 t72.2.1), (49, .int .i64 y84), (50, .pointer (some ⟨b89, 0, none⟩)), (51, .int .i64 t86.2)]) ⟨Z, Z, Z, Z, Z, Z, Z, Z, trivial⟩ ⟨b89, Z, hS.pick [0, 1, 2, 3] [0, 1, 2, 3, 4] Z⟩
        exact TJ.stop
      · rintro F w1 ⟨b87, rfl, hS⟩
        refine EJ.next ?_
        refine CJ.seq (CJ.region ?_)
        refine OJ.st Z Z Z (SR.load Z Z (fun w' hx => ldE oU oI Z Z Z (CA.ext (hS.cells (i := 3) Z) hx) Z)) ?_
        refine OJ.st Z Z Z (SR.load Z Z (fun w' hx => ldE oU oI Z Z Z (CA.ext (hS.cells (i := 1) Z) hx) Z)) ?_
        refine OJ.st Z Z Z (SR.load Z Z (fun w' hx => ldE oU oI Z Z Z (CA.ext (hS.cells (i := 2) Z) hx) Z)) ?_
        obtain ⟨t90, ht90, H⟩ := pbind H
        refine OJ.callF Z Z Z Z Z hb24 Z (spec_StepsBetween.c k _ t86.1 t50 t56 _ ht90) ?_
        rintro _ w1 ⟨rfl, hs⟩
        replace hS := hS.grow hs
        refine OJ.pures oU 5 Z (OJ.nil (EJ.next ?_))
        refine CJ.seq (CJ.region ?_)
        refine OJ.pures oU 3 Z ?_
        refine OJ.split (t := 383) Z (fun hb => ?_) (fun hb => ?_)
        · replace H := pif_t (of_decide_eq_true hb) H
          refine OJ.pures oU 8 Z (OJ.nil (EJ.next ?_))
          refine CJ.condT Z ?_
          refine CJ.seq (CJ.region ?_)
          refine OJ.pures oU 1 Z (OJ.nil (EJ.next ?_))
          refine CJ.ret (EJ.bkR (EJ.skR (EJ.skR (EJ.bkR (EJ.skR (EJ.skR (?_)))))))
          first | (obtain rfl := Option.some.inj H; have H := K855) | (obtain ⟨q855, H2, e855⟩ := pbind H; obtain rfl := Option.some.inj e855; obtain rfl := Option.some.inj K855; have H := H2)
          obtain rfl := Option.some.inj H
          exact EJ.fin Z (.tmp Z .nil) ⟨Z, hS.ext⟩
        · replace H := pif_f (of_decide_eq_false hb) H
          refine OJ.pures oU 3 Z ?_
          refine OJ.split (t := 386) Z (fun hb => ?_) (fun hb => ?_)
          · replace H := pif_t (of_decide_eq_true hb) H
            refine OJ.pures oU 5 Z (OJ.nil (EJ.next ?_))
            refine CJ.cond Z (fun hb => ?_) (fun hb => ?_)
            · replace H := pif_t (of_decide_eq_true hb) H
              refine CJ.seq (CJ.region ?_)
              refine OJ.pures oU 1 Z (OJ.nil (EJ.next ?_))
              refine CJ.ret (EJ.bkR (EJ.skR (EJ.skR (EJ.bkR (EJ.skR (EJ.skR (?_)))))))
              first | (obtain rfl := Option.some.inj H; have H := K855) | (obtain ⟨q855, H2, e855⟩ := pbind H; obtain rfl := Option.some.inj e855; obtain rfl := Option.some.inj K855; have H := H2)
              obtain rfl := Option.some.inj H
              exact EJ.fin Z (.tmp Z .nil) ⟨Z, hS.ext⟩
            · replace H := pif_f (of_decide_eq_false hb) H
              refine CJ.skip (EJ.blk (EJ.next ?_))
              refine CJ.region ?_
              refine OJ.pures oU 3 Z ?_
              refine OJ.nil ?_
              exact EJ.round k (F' := [(5, .pointer (some ⟨b5, 0, none⟩)), (18, .slice A26 t25.1.length c27), (31, .pointer (some ⟨b51, 0, none⟩)), (32, .pointer (some ⟨b57, 0, none⟩)), (37, .int .i64 t72.2.1), (49, .int .i64 (IntKind.i64.wrap (y84 + 1)))]) ⟨Z, Z, Z, Z, Z, Z, trivial⟩ (Nat.lt_succ_self _) ⟨(IntKind.i64.wrap (y84 + 1)), Z, hS.pick [0, 1, 2] [0, 1, 2, 3] Z, H⟩
          · replace H := pif_f (of_decide_eq_false hb) H
            refine OJ.pures oU 5 Z (OJ.nil (EJ.next ?_))
            refine CJ.condF Z ?_
            refine CJ.skip (EJ.blk (EJ.next ?_))
            refine CJ.region ?_
            refine OJ.pures oU 3 Z ?_
            refine OJ.nil ?_
            exact EJ.round k (F' := [(5, .pointer (some ⟨b5, 0, none⟩)), (18, .slice A26 t25.1.length c27), (31, .pointer (some ⟨b51, 0, none⟩)), (32, .pointer (some ⟨b57, 0, none⟩)), (37, .int .i64 t72.2.1), (49, .int .i64 (IntKind.i64.wrap (y84 + 1)))]) ⟨Z, Z, Z, Z, Z, Z, trivial⟩ (Nat.lt_succ_self _) ⟨(IntKind.i64.wrap (y84 + 1)), Z, hS.pick [0, 1, 2] [0, 1, 2, 3] Z, H⟩
    · replace H := pif_f (of_decide_eq_false hb) H
      refine CJ.exit (EJ.skE (EJ.skE (EJ.hit (?_))))
      exact EJ.meet (F' := []) trivial ⟨H, Z, hS.pick [] [0, 1, 2, 3] Z⟩
 rintro F w1 ⟨he, rfl, hS⟩
 obtain rfl := Option.some.inj he
 have H := K855
 refine EJ.next ?_
 refine CJ.seq (CJ.region ?_)
 refine OJ.pures oU 1 Z (OJ.nil (EJ.next ?_))
 refine CJ.ret (?_)
 obtain rfl := Option.some.inj H
 exact EJ.fin Z (.tmp Z .nil) ⟨Z, hS.ext⟩
end Go.Proofs.YtloljfkfnpgjfaaGreat
