/-
  What the functions come to.
-/
import Derived.Test.YtloljfkfnpgjfaaGreatGP1
namespace Go.Proofs.YtloljfkfnpgjfaaGreat
open G
set_option linter.unusedVariables false
set_option linter.unusedSimpArgs false
set_option maxRecDepth 100000
set_option maxHeartbeats 4000000
def slices_ContainsFunc_impl_Spot_impl_Spot.f (k : Nat) (a0 : List Spot) (a1 : Spot → Option Bool) : Option Bool := (slices_IndexFunc_impl_Spot_impl_Spot.f k a0 a1).bind fun t1 => some (decide (0 ≤ t1))
theorem slices_ContainsFunc_impl_Spot_impl_Spot.c (k : Nat) (w : World) (Aa0 : Option Addr) (ca0 : Nat) (a0 : List Spot) (hr0 : Rd cSpot w Aa0 a0) (hc0 : a0.length ≤ ca0) (na1 : Nat) (fsa1 capa1 : Array Value) (hb1 : hasBody Tryz.prog na1) (a1 : Spot → Option Bool) (hf1 : ∀ (z0 : Spot) (r : Bool), a1 z0 = some r → ∀ w', Chg no w w' → CV Tryz.prog na1 (fsa1 ++ [.agg (cSpot.enc z0).toArray].toArray ++ capa1) w' fun v w'' => v = .bool r ∧ Ext w' w'') (r : Bool) (H : slices_ContainsFunc_impl_Spot_impl_Spot.f k a0 a1 = some r) :
 CV Tryz.prog 80 [.slice Aa0 a0.length ca0, .func (.func na1) fsa1 capa1].toArray w fun v w' => v = .bool r ∧ Ext w w' := by
 have hS := ((St.init w no).param cSpot Aa0 ca0 a0 hr0 hc0)
 unfold slices_ContainsFunc_impl_Spot_impl_Spot.f at H
 refine CV.body Tryz.func80 Z Tryz.ntmps80 Z ?_
 refine CJ.seq (CJ.region ?_)
 refine OJ.pures oU 1 Z (OJ.nil (EJ.next ?_))
 refine CJ.seq (CJ.region ?_)
 refine OJ.pures oU 2 Z ?_
 obtain ⟨t1, ht1, H⟩ := pbind H
 refine OJ.callF Z Z Z Z Z hb88 Z (slices_IndexFunc_impl_Spot_impl_Spot.c k _ Aa0 ca0 a0 (hS.rd' (i := 0) Z) (hS.le' (i := 0) Z) na1 fsa1 capa1 hb1 a1 (fun z0 r h w' hx => hf1 z0 r h w' (hS.chg.then hx (fun _ _ e => e.elim))) _ ht1) ?_
 rintro _ w1 ⟨rfl, hs⟩
 replace hS := hS.grow hs
 refine OJ.pures oU 2 Z (OJ.nil (EJ.next ?_))
 refine CJ.ret (?_)
 obtain rfl := Option.some.inj H
 exact EJ.fin Z (.tmp Z .nil) ⟨Z, hS.ext⟩

def impl_cellCode_1.f (a1 : Pasture) (a0 : Spot) : Option Bool := (impl_Pasture_isCell.f a1 a0).bind fun t2 => some (!t2)
theorem impl_cellCode_1.c (w : World) (pa1 : Addr) (a1 : Pasture) (hp1 : CA w pa1 (cPasture.enc a1)) (a0 : Spot) (r : Bool) (H : impl_cellCode_1.f a1 a0 = some r) :
 CV Tryz.prog 81 [.agg (cSpot.enc a0).toArray, .pointer (some pa1)].toArray w fun v w' => v = .bool r ∧ Ext w w' := by
 have hS := ((St.init w no).paramP pa1 (cPasture.enc a1) hp1)
 unfold impl_cellCode_1.f at H
 refine CV.body Tryz.func81 Z Tryz.ntmps81 Z ?_
 refine CJ.seq (CJ.region ?_)
 refine OJ.ef Z Z Z (Ef.box hS Z Z (cSpot.enc a0) Z) ?_
 rintro _ w1 ⟨b1, rfl, hS⟩
 refine OJ.pures oU 1 Z (OJ.nil (EJ.next ?_))
 refine CJ.seq (CJ.region ?_)
 refine OJ.st Z Z Z (SR.load Z Z (fun w' hx => ldE oU oI Z Z Z (CA.ext (hS.ca (i := 0) Z) hx) Z)) ?_
 refine OJ.st Z Z Z (SR.load Z Z (fun w' hx => ldE oU oI Z Z Z (CA.ext (hS.cells (i := 0) Z) hx) Z)) ?_
 obtain ⟨t2, ht2, H⟩ := pbind H
 refine OJ.callF Z Z Z Z Z hb67 Z (impl_Pasture_isCell.c _ a1 a0 _ ht2) ?_
 rintro _ w1 ⟨rfl, hs⟩
 replace hS := hS.grow hs
 refine OJ.pures oU 2 Z (OJ.nil (EJ.next ?_))
 refine CJ.ret (?_)
 obtain rfl := Option.some.inj H
 exact EJ.fin Z (.tmp Z .nil) ⟨Z, hS.ext⟩

def impl_cellCode.f (k : Nat) (a0 : Pasture) (a1 : List Spot) : Option Int := (impl_ValidPasture.f k a0).bind fun t2 => if (!t2) = true then (some 1) else ((slices_ContainsFunc_impl_Spot_impl_Spot.f k a1 (impl_cellCode_1.f a0)).bind fun t3 => (impl_unless.f (!t3) 2).bind fun t4 => some t4)
theorem impl_cellCode.c (k : Nat) (w : World) (a0 : Pasture) (Aa1 : Option Addr) (ca1 : Nat) (a1 : List Spot) (hr1 : Rd cSpot w Aa1 a1) (hc1 : a1.length ≤ ca1) (r : Int) (H : impl_cellCode.f k a0 a1 = some r) :
 CV Tryz.prog 52 [.agg (cPasture.enc a0).toArray, .slice Aa1 a1.length ca1].toArray w fun v w' => v = .int .i64 r ∧ Ext w w' := by
 have hS := ((St.init w no).param cSpot Aa1 ca1 a1 hr1 hc1)
 unfold impl_cellCode.f at H
 refine CV.body Tryz.func52 Z Tryz.ntmps52 Z ?_
 refine CJ.seq (CJ.region ?_)
 refine OJ.ef Z Z Z (Ef.box hS Z Z (cPasture.enc a0) Z) ?_
 rintro _ w1 ⟨b1, rfl, hS⟩
 refine OJ.pures oU 1 Z (OJ.nil (EJ.next ?_))
 refine CJ.seq ?_
 refine CJ.seq (CJ.region ?_)
 refine OJ.st Z Z Z (SR.load Z Z (fun w' hx => ldE oU oI Z Z Z (CA.ext (hS.cells (i := 0) Z) hx) Z)) ?_
 obtain ⟨t2, ht2, H⟩ := pbind H
 refine OJ.callF Z Z Z Z Z hb29 Z (impl_ValidPasture.c k _ a0 _ ht2) ?_
 rintro _ w1 ⟨rfl, hs⟩
 replace hS := hS.grow hs
 refine OJ.pures oU 1 Z (OJ.nil (EJ.next ?_))
 refine CJ.cond Z (fun hb => ?_) (fun hb => ?_)
 ·replace H := pif_t hb H
  refine CJ.seq (CJ.region ?_)
  refine OJ.pures oU 1 Z (OJ.nil (EJ.next ?_))
  refine CJ.ret (EJ.skR (?_))
  obtain rfl := Option.some.inj H
  exact EJ.fin Z (.tmp Z .nil) ⟨Z, hS.ext⟩
 replace H := pifb_f hb H
 refine CJ.skip (EJ.next ?_)
 refine CJ.seq (CJ.region ?_)
 refine OJ.pures oU 2 Z ?_
 obtain ⟨t3, ht3, H⟩ := pbind H
 refine OJ.callF rfl rfl rfl rfl rfl hb80 rfl (slices_ContainsFunc_impl_Spot_impl_Spot.c k _ Aa1 ca1 a1 (hS.rd' (i := 0) rfl) (hS.le' (i := 0) rfl) 81 #[] #[.pointer (some ⟨b1, 0, none⟩)] hb81 (impl_cellCode_1.f a0) (fun z0 r h w' hx => CV.cast (impl_cellCode_1.c w' ⟨b1, 0, none⟩ a0 (CA.ext (hS.cells (i := 0) rfl) hx)  z0 r h) (by simp)) _ ht3) ?_
 rintro _ w1 ⟨rfl, hs⟩
 replace hS := hS.grow hs
 refine OJ.pures oU 1 Z ?_
 obtain ⟨t4, ht4, H⟩ := pbind H
 refine OJ.callF Z Z Z Z Z hb72 Z (impl_unless.c _ (!t3) 2 _ ht4) ?_
 rintro _ w1 ⟨rfl, hs⟩
 replace hS := hS.grow hs
 refine OJ.pures oU 1 Z (OJ.nil (EJ.next ?_))
 refine CJ.ret (?_)
 obtain rfl := Option.some.inj H
 exact EJ.fin Z (.tmp Z .nil) ⟨Z, hS.ext⟩

def impl_StepsBetween.f (k : Nat) (a0 : Pasture) (a1 : Spot) (a2 : Spot) : Option (Int × Int) := (impl_cellCode.f k a0 ([a1, a2] : List Spot)).bind fun t5 => if t5 ≠ 0 then (some (0, t5)) else ((impl_Pasture_far.f k a0 ([a1] : List Spot)).bind fun t7 => (impl_steps_at.f t7 a2).bind fun t9 => if t9 < 0 then (some (0, 6)) else ((impl_steps_at.f t7 a2).bind fun t10 => some (t10, 0)))
theorem impl_StepsBetween.c (k : Nat) (w : World) (a0 : Pasture) (a1 : Spot) (a2 : Spot) (r : Int × Int) (H : impl_StepsBetween.f k a0 a1 a2 = some r) :
 CV Tryz.prog 22 [.agg (cPasture.enc a0).toArray, .agg (cSpot.enc a1).toArray, .agg (cSpot.enc a2).toArray].toArray w fun v w' => v = .tuple #[.int .i64 r.1, .int .i64 r.2] ∧ Ext w w' := by
 have hS := (St.init w no)
 unfold impl_StepsBetween.f at H
 refine CV.body Tryz.func22 Z Tryz.ntmps22 Z ?_
 refine CJ.seq (CJ.region ?_)
 refine OJ.ef Z Z Z (Ef.box hS Z Z (cPasture.enc a0) Z) ?_
 rintro _ w1 ⟨b1, rfl, hS⟩
 refine OJ.ef Z Z Z (Ef.box hS Z Z (cSpot.enc a1) Z) ?_
 rintro _ w1 ⟨b2, rfl, hS⟩
 refine OJ.ef Z Z Z (Ef.box hS Z Z (cSpot.enc a2) Z) ?_
 rintro _ w1 ⟨b3, rfl, hS⟩
 refine OJ.pures oU 2 Z (OJ.nil (EJ.next ?_))
 refine CJ.seq ?_
 refine CJ.seq (CJ.region ?_)
 refine OJ.st Z Z Z (SR.load Z Z (fun w' hx => ldE oU oI Z Z Z (CA.ext (hS.cells (i := 0) Z) hx) Z)) ?_
 refine OJ.st Z Z Z (SR.load Z Z (fun w' hx => ldE oU oI Z Z Z (CA.ext (hS.cells (i := 1) Z) hx) Z)) ?_
 refine OJ.st Z Z Z (SR.load Z Z (fun w' hx => ldE oU oI Z Z Z (CA.ext (hS.cells (i := 2) Z) hx) Z)) ?_
 refine OJ.ef Z Z Z (Ef.lit oU oI hS (C := cSpot) Z Z Z Z Z Z ([a1, a2] : List Spot) Z Z Z Z) ?_
 rintro _ w1 ⟨A4, rfl, hS⟩
 obtain ⟨t5, ht5, H⟩ := pbind H
 refine OJ.callF Z Z Z Z Z hb52 Z (impl_cellCode.c k _ a0 A4 (([a1, a2] : List Spot).length) ([a1, a2] : List Spot) (hS.rd (i := 3) Z) (hS.le (i := 3) Z) _ ht5) ?_
 rintro _ w1 ⟨rfl, hs⟩
 replace hS := hS.grow hs
 refine OJ.pures oU 1 Z (OJ.nil (EJ.next ?_))
 refine CJ.seq (CJ.region ?_)
 refine OJ.pures oU 2 Z (OJ.nil (EJ.next ?_))
 refine CJ.cond Z (fun hb => ?_) (fun hb => ?_)
 ·replace H := pif_t (of_decide_eq_true hb) H
  refine CJ.seq (CJ.region ?_)
  refine OJ.pures oU 3 Z (OJ.nil (EJ.next ?_))
  refine CJ.ret (EJ.skR (?_))
  obtain rfl := Option.some.inj H
  exact EJ.fin Z (.tmp Z (.tmp Z .nil)) ⟨Z, hS.ext⟩
 replace H := pif_f (of_decide_eq_false hb) H
 refine CJ.skip (EJ.next ?_)
 refine CJ.seq (CJ.region ?_)
 refine OJ.st Z Z Z (SR.load Z Z (fun w' hx => ldE oU oI Z Z Z (CA.ext (hS.cells (i := 0) Z) hx) Z)) ?_
 refine OJ.st Z Z Z (SR.load Z Z (fun w' hx => ldE oU oI Z Z Z (CA.ext (hS.cells (i := 1) Z) hx) Z)) ?_
 refine OJ.ef Z Z Z (Ef.lit oU oI hS (C := cSpot) Z Z Z Z Z Z ([a1] : List Spot) Z Z Z Z) ?_
 rintro _ w1 ⟨A6, rfl, hS⟩
 obtain ⟨t7, ht7, H⟩ := pbind H
 refine OJ.callF Z Z Z Z Z hb31 Z (impl_Pasture_far.c k _ a0 A6 (([a1] : List Spot).length) ([a1] : List Spot) (hS.rd (i := 4) Z) (hS.le (i := 4) Z) _ ht7) ?_
 rintro _ w1 ⟨rfl, hs⟩
 replace hS := hS.grow hs
 refine OJ.ef rfl rfl rfl (Ef.alloc hS oI rfl rfl ((carr 10 (carr 10 (ci .i16))).enc (Arr.mk' (Arr.mk' 0 : Arr 10 Int) : Arr 10 (Arr 10 Int))) (by kernel_rfl)) ?_
 rintro _ w1 ⟨b8, rfl, hS⟩
 refine OJ.es rfl rfl (Es.put oI hS (i := 5) rfl rfl rfl rfl rfl (vs := (carr 10 (carr 10 (ci .i16))).enc t7) rfl ((carr 10 (carr 10 (ci .i16))).len _) ((carr 10 (carr 10 (ci .i16))).one _) (Put.all (carr 10 (carr 10 (ci .i16))) (Arr.mk' (Arr.mk' 0 : Arr 10 Int) : Arr 10 (Arr 10 Int)) t7) (by (try simp only [add_lit, Nat.add_assoc, Nat.zero_add, Nat.add_zero]) <;> rfl)) ?_
 intro w1 hS
 refine OJ.nil (EJ.next ?_)
 refine CJ.seq ?_
 refine CJ.seq (CJ.region ?_)
 refine OJ.st Z Z Z (SR.load Z Z (fun w' hx => ldE oU oI Z Z Z (CA.ext (hS.cells (i := 2) Z) hx) Z)) ?_
 obtain ⟨t9, ht9, H⟩ := pbind H
 refine OJ.callF Z Z Z Z Z hb32 Z (impl_steps_at.c _ _ t7 (hS.cells (i := 5) Z) a2 _ ht9) ?_
 rintro _ w1 ⟨rfl, hs⟩
 replace hS := hS.grow hs
 refine OJ.pures oU 1 Z (OJ.nil (EJ.next ?_))
 refine CJ.cond Z (fun hb => ?_) (fun hb => ?_)
 ·replace H := pif_t (of_decide_eq_true hb) H
  refine CJ.seq (CJ.region ?_)
  refine OJ.pures oU 2 Z (OJ.nil (EJ.next ?_))
  refine CJ.ret (EJ.skR (?_))
  obtain rfl := Option.some.inj H
  exact EJ.fin Z (.tmp Z (.tmp Z .nil)) ⟨Z, hS.ext⟩
 replace H := pif_f (of_decide_eq_false hb) H
 refine CJ.skip (EJ.next ?_)
 refine CJ.seq (CJ.region ?_)
 refine OJ.st Z Z Z (SR.load Z Z (fun w' hx => ldE oU oI Z Z Z (CA.ext (hS.cells (i := 2) Z) hx) Z)) ?_
 obtain ⟨t10, ht10, H⟩ := pbind H
 refine OJ.callF Z Z Z Z Z hb32 Z (impl_steps_at.c _ _ t7 (hS.cells (i := 5) Z) a2 _ ht10) ?_
 rintro _ w1 ⟨rfl, hs⟩
 replace hS := hS.grow hs
 refine OJ.pures oU 2 Z (OJ.nil (EJ.next ?_))
 refine CJ.ret (?_)
 obtain rfl := Option.some.inj H
 exact EJ.fin Z (.tmp Z (.tmp Z .nil)) ⟨Z, hS.ext⟩

def impl_BestGate.l1 (a0 : Pasture) (a1 : Spot) (a2 : Spot) (t7 : List Hurdle) : Nat → Hurdle → Int → Int → Option (Hurdle × Int)
  | 0, _, _, _ => none
  | k + 1, y12, y13, y14 => if y14 < (t7.length : Int) then ((getI t7 y14).bind fun t15 => (impl_Pasture_with.f k a0 ([t15] : List Hurdle) false).bind fun t18 => (impl_Pasture_far.f k t18 ([a1] : List Spot)).bind fun t20 => (impl_steps_at.f t20 a2).bind fun t48 => if 0 ≤ t48 then (if y13 < 0 then (impl_BestGate.l1 a0 a1 a2 t7 k t15 t48 (IntKind.i64.wrap (y14 + 1))) else (if t48 < y13 then (impl_BestGate.l1 a0 a1 a2 t7 k t15 t48 (IntKind.i64.wrap (y14 + 1))) else (impl_BestGate.l1 a0 a1 a2 t7 k y12 y13 (IntKind.i64.wrap (y14 + 1))))) else (impl_BestGate.l1 a0 a1 a2 t7 k y12 y13 (IntKind.i64.wrap (y14 + 1)))) else (some (y12, y13))
def impl_BestGate.f (k : Nat) (a0 : Pasture) (a1 : Spot) (a2 : Spot) : Option (Hurdle × Int × Int) := (impl_StepsBetween.f k a0 a1 a2).bind fun t5 => if t5.2 = 0 then (some ((⟨(⟨0, 0⟩ : Spot), false⟩ : Hurdle), 0, 4)) else (if t5.2 = 6 then ((impl_Pasture_hurdles.f k a0).bind fun t7 => (impl_BestGate.l1 a0 a1 a2 t7 k (⟨(⟨0, 0⟩ : Spot), false⟩ : Hurdle) (-1) 0).bind fun (y10, y11) => if y11 < 0 then (some ((⟨(⟨0, 0⟩ : Spot), false⟩ : Hurdle), 0, 6)) else (some (y10, y11, 0))) else (some ((⟨(⟨0, 0⟩ : Spot), false⟩ : Hurdle), 0, t5.2)))
theorem impl_BestGate.c (k : Nat) (w : World) (a0 : Pasture) (a1 : Spot) (a2 : Spot) (r : Hurdle × Int × Int) (H : impl_BestGate.f k a0 a1 a2 = some r) :
 CV Tryz.prog 18 [.agg (cPasture.enc a0).toArray, .agg (cSpot.enc a1).toArray, .agg (cSpot.enc a2).toArray].toArray w fun v w' => v = .tuple #[.agg (cHurdle.enc r.1).toArray, .int .i64 r.2.1, .int .i64 r.2.2] ∧ Ext w w' := by
 have hS := (St.init w no)
 unfold impl_BestGate.f at H
 refine CV.body Tryz.func18 Z Tryz.ntmps18 Z ?_
 refine CJ.seq (CJ.region ?_)
 refine OJ.ef Z Z Z (Ef.box hS Z Z (cPasture.enc a0) Z) ?_
 rintro _ w1 ⟨b1, rfl, hS⟩
 refine OJ.ef Z Z Z (Ef.box hS Z Z (cSpot.enc a1) Z) ?_
 rintro _ w1 ⟨b2, rfl, hS⟩
 refine OJ.ef Z Z Z (Ef.box hS Z Z (cSpot.enc a2) Z) ?_
 rintro _ w1 ⟨b3, rfl, hS⟩
 refine OJ.ef Z Z Z (Ef.alloc hS oI Z Z (cHurdle.enc (⟨(⟨0, 0⟩ : Spot), false⟩ : Hurdle)) Z) ?_
 rintro _ w1 ⟨b4, rfl, hS⟩
 refine OJ.pures oU 2 Z (OJ.nil (EJ.next ?_))
 refine CJ.seq (CJ.region ?_)
 refine OJ.st Z Z Z (SR.load Z Z (fun w' hx => ldE oU oI Z Z Z (CA.ext (hS.cells (i := 0) Z) hx) Z)) ?_
 refine OJ.st Z Z Z (SR.load Z Z (fun w' hx => ldE oU oI Z Z Z (CA.ext (hS.cells (i := 1) Z) hx) Z)) ?_
 refine OJ.st Z Z Z (SR.load Z Z (fun w' hx => ldE oU oI Z Z Z (CA.ext (hS.cells (i := 2) Z) hx) Z)) ?_
 obtain ⟨t5, ht5, H⟩ := pbind H
 refine OJ.callF Z Z Z Z Z hb22 Z (impl_StepsBetween.c k _ a0 a1 a2 _ ht5) ?_
 rintro _ w1 ⟨rfl, hs⟩
 replace hS := hS.grow hs
 refine OJ.pures oU 5 Z (OJ.nil (EJ.next ?_))
 refine CJ.seq ?_
 refine CJ.seq (CJ.region ?_)
 refine OJ.pures oU 1 Z (OJ.nil (EJ.next ?_))
 refine CJ.block ?_
 refine CJ.seq (CJ.region ?_)
 refine OJ.pures oU 2 Z (OJ.nil (EJ.next ?_))
 refine CJ.cond Z (fun hb => ?_) (fun hb => ?_)
 ·replace H := pif_t (of_decide_eq_true hb) H
  refine CJ.seq (CJ.region ?_)
  refine OJ.st Z Z Z (SR.build (C := cHurdle) oU oI Z Z Z (zs := [.int .i8 0, .int .i8 0, .bool false]) Z Z Z (⟨(⟨0, 0⟩ : Spot), false⟩ : Hurdle) Z) ?_
  refine OJ.es Z Z (Es.store oI hS (i := 3) Z Z Z Z Z Z (vs := cHurdle.enc (⟨(⟨0, 0⟩ : Spot), false⟩ : Hurdle)) Z (cHurdle.len _) (cHurdle.one _) (Nat.le_of_ble_eq_true Z) (cHurdle.enc (⟨(⟨0, 0⟩ : Spot), false⟩ : Hurdle)) Z) ?_
  intro w1 hS
  refine OJ.pures oU 2 Z (OJ.nil (EJ.next ?_))
  refine CJ.ret (EJ.bkR (EJ.skR (?_)))
  obtain rfl := Option.some.inj H
  exact EJ.fin Z (.cell Z (ldE oU oI Z Z Z (hS.cells (i := 3) Z) Z) (.tmp Z (.tmp Z .nil))) ⟨Z, hS.ext⟩
 replace H := pif_f (of_decide_eq_false hb) H
 refine CJ.seq (CJ.region ?_)
 refine OJ.pures oU 2 Z (OJ.nil (EJ.next ?_))
 refine CJ.cond Z (fun hb => ?_) (fun hb => ?_)
 ·replace H := pif_t (of_decide_eq_true hb) H
  refine CJ.skip (EJ.blk (EJ.next ?_))
  refine CJ.seq (CJ.region ?_)
  refine OJ.st Z Z Z (SR.build (C := cHurdle) oU oI Z Z Z (zs := [.int .i8 0, .int .i8 0, .bool false]) Z Z Z (⟨(⟨0, 0⟩ : Spot), false⟩ : Hurdle) Z) ?_
  refine OJ.ef Z Z Z (Ef.alloc hS oI Z Z (cHurdle.enc (⟨(⟨0, 0⟩ : Spot), false⟩ : Hurdle)) Z) ?_
  rintro _ w1 ⟨b6, rfl, hS⟩
  refine OJ.es Z Z (Es.store oI hS (i := 4) Z Z Z Z Z Z (vs := cHurdle.enc (⟨(⟨0, 0⟩ : Spot), false⟩ : Hurdle)) Z (cHurdle.len _) (cHurdle.one _) (Nat.le_of_ble_eq_true Z) (cHurdle.enc (⟨(⟨0, 0⟩ : Spot), false⟩ : Hurdle)) Z) ?_
  intro w1 hS
  refine OJ.pures oU 1 Z (OJ.nil (EJ.next ?_))
  refine CJ.seq ?_
  refine CJ.seq (CJ.region ?_)
  refine OJ.st Z Z Z (SR.load Z Z (fun w' hx => ldE oU oI Z Z Z (CA.ext (hS.cells (i := 0) Z) hx) Z)) ?_
  obtain ⟨t7, ht7, H⟩ := pbind H
  refine OJ.callF Z Z Z Z Z hb30 Z (impl_Pasture_hurdles.c k _ a0 _ ht7) ?_
  rintro _ w1 ⟨A8, c9, rfl, hs⟩
  replace hS := hS.addN hs
  have hS : St w no w1 [box b1 (cPasture.enc a0) 31, box b2 (cSpot.enc a1) 45, box b3 (cSpot.enc a2) 45, box b4 (cHurdle.enc (⟨(⟨0, 0⟩ : Spot), false⟩ : Hurdle)) 48, box b6 (cHurdle.enc (⟨(⟨0, 0⟩ : Spot), false⟩ : Hurdle)) 48, rowC cHurdle A8 c9 48 t7] [] := hS
  refine OJ.pures oU 2 Z (OJ.nil (EJ.next ?_))
  obtain ⟨j260, H, K260⟩ := pbind H
  refine CJ.cut1 (fun F w1 => ∃ (y10 : Hurdle) (y11 : Int) , (some (y10, y11) : Option (Hurdle × Int)) = some j260 ∧ F = [(6, .pointer (some ⟨b4, 0, none⟩)), (11, .pointer (some ⟨b6, 0, none⟩)), (12, .int .i64 y11)] ∧ St w no w1 [box b4 (cHurdle.enc (⟨(⟨0, 0⟩ : Spot), false⟩ : Hurdle)) 48, box b6 (cHurdle.enc y10) 48] []) ?_ ?_
  ·skip
   refine CJ.block ?_
   refine CJ.loop (fun k F w1 => ∃ (y12 : Hurdle) (y13 : Int) (y14 : Int), F = [(3, .pointer (some ⟨b1, 0, none⟩)), (4, .pointer (some ⟨b2, 0, none⟩)), (5, .pointer (some ⟨b3, 0, none⟩)), (6, .pointer (some ⟨b4, 0, none⟩)), (11, .pointer (some ⟨b6, 0, none⟩)), (12, .int .i64 y13), (34, .slice A8 t7.length c9), (35, .int .i64 (t7.length : Int)), (36, .int .i64 y14)] ∧ St w no w1 [box b1 (cPasture.enc a0) 31, box b2 (cSpot.enc a1) 45, box b3 (cSpot.enc a2) 45, box b4 (cHurdle.enc (⟨(⟨0, 0⟩ : Spot), false⟩ : Hurdle)) 48, box b6 (cHurdle.enc y12) 48, rowC cHurdle A8 c9 48 t7] [] ∧ impl_BestGate.l1 a0 a1 a2 t7 k y12 y13 y14 = some j260) k (F' := [(3, .pointer (some ⟨b1, 0, none⟩)), (4, .pointer (some ⟨b2, 0, none⟩)), (5, .pointer (some ⟨b3, 0, none⟩)), (6, .pointer (some ⟨b4, 0, none⟩)), (11, .pointer (some ⟨b6, 0, none⟩)), (12, .int .i64 (-1)), (34, .slice A8 t7.length c9), (35, .int .i64 (t7.length : Int)), (36, .int .i64 0)]) ⟨Z, Z, Z, Z, Z, Z, Z, Z, Z, trivial⟩ ⟨(⟨(⟨0, 0⟩ : Spot), false⟩ : Hurdle), (-1), 0, Z, hS.pick [0, 1, 2, 3, 4, 5] [] Z, H⟩ ?_
   rintro k F w1 ⟨y12, y13, y14, rfl, hS, H⟩
   cases k with
   | zero => rw [impl_BestGate.l1] at H; cases H
   | succ k =>
     rw [impl_BestGate.l1] at H
     refine CJ.seq (CJ.region ?_)
     refine OJ.pures oU 1 Z (OJ.nil (EJ.next ?_))
     refine CJ.seq ?_
     refine CJ.cond Z (fun hb => ?_) (fun hb => ?_)
     · replace H := pif_t (of_decide_eq_true hb) H
       refine CJ.skip (EJ.next ?_)
       refine CJ.seq ?_
       refine CJ.block ?_
       refine CJ.seq (CJ.region ?_)
       obtain ⟨t15, ht15, H⟩ := pbind H
       obtain ⟨ad15, e15⟩ := (hS.rd (i := 5) rfl).some' ht15
       refine OJ.st Z Z Z (SR.idxS oU oI Z Z Z Z e15 Z (getI_some ht15).1) ?_
       refine OJ.st Z Z Z (SR.load Z Z (fun w' hx => ldE oU oI Z Z Z (CA.ext ((hS.rd (i := 5) Z).at_ e15 ht15) hx) Z)) ?_
       refine OJ.ef Z Z Z (Ef.alloc hS oI Z Z (cHurdle.enc (⟨(⟨0, 0⟩ : Spot), false⟩ : Hurdle)) Z) ?_
       rintro _ w1 ⟨b16, rfl, hS⟩
       refine OJ.es Z Z (Es.store oI hS (i := 6) Z Z Z Z Z Z (vs := cHurdle.enc t15) Z (cHurdle.len _) (cHurdle.one _) (Nat.le_of_ble_eq_true Z) (cHurdle.enc t15) Z) ?_
       intro w1 hS
       refine OJ.nil (EJ.next ?_)
       refine CJ.seq ?_
       obtain ⟨t18, ht18, H⟩ := pbind H
       obtain ⟨t20, ht20, H⟩ := pbind H
       refine CJ.cut1 (fun F w1 => ∃ (A17 : Option Addr) (A19 : Option Addr) (b21 : Nat), F = [(3, .pointer (some ⟨b1, 0, none⟩)), (4, .pointer (some ⟨b2, 0, none⟩)), (5, .pointer (some ⟨b3, 0, none⟩)), (6, .pointer (some ⟨b4, 0, none⟩)), (11, .pointer (some ⟨b6, 0, none⟩)), (12, .int .i64 y13), (14, .pointer (some ⟨b16, 0, none⟩)), (15, .pointer (some ⟨b21, 0, none⟩)), (34, .slice A8 t7.length c9), (35, .int .i64 (t7.length : Int)), (36, .int .i64 y14)] ∧ St w no w1 [box b1 (cPasture.enc a0) 31, box b2 (cSpot.enc a1) 45, box b3 (cSpot.enc a2) 45, box b4 (cHurdle.enc (⟨(⟨0, 0⟩ : Spot), false⟩ : Hurdle)) 48, box b6 (cHurdle.enc y12) 48, rowC cHurdle A8 c9 48 t7, box b16 (cHurdle.enc t15) 48, rowC cHurdle A17 (([t15] : List Hurdle).length) 48 ([t15] : List Hurdle), rowC cSpot A19 (([a1] : List Spot).length) 45 ([a1] : List Spot), box b21 ((carr 10 (carr 10 (ci .i16))).enc t20) 64] []) ?_ ?_
       · skip
         refine CJ.drawT [] [2, 3, 5, 6, 7, 8] (.one 0 (.one 1 (.one 4 (.br (.alt 2 (.br (.alt 3 (.br (.alt 5 (.br (.alt 6 (.one 7 (.one 8 (.fin))) (.alt 7 (.one 6 (.one 8 (.fin))) (.stop)))) (.alt 7 (.one 5 (.one 6 (.one 8 (.fin)))) (.stop)))) (.alt 5 (.br (.alt 3 (.br (.alt 6 (.one 7 (.one 8 (.fin))) (.alt 7 (.one 6 (.one 8 (.fin))) (.stop)))) (.alt 7 (.one 3 (.one 6 (.one 8 (.fin)))) (.stop)))) (.alt 7 (.br (.alt 3 (.one 5 (.one 6 (.one 8 (.fin)))) (.alt 5 (.one 3 (.one 6 (.one 8 (.fin)))) (.stop)))) (.stop))))) (.alt 5 (.br (.alt 2 (.br (.alt 3 (.br (.alt 6 (.one 7 (.one 8 (.fin))) (.alt 7 (.one 6 (.one 8 (.fin))) (.stop)))) (.alt 7 (.one 3 (.one 6 (.one 8 (.fin)))) (.stop)))) (.alt 7 (.one 2 (.one 3 (.one 6 (.one 8 (.fin))))) (.stop)))) (.alt 7 (.br (.alt 2 (.br (.alt 3 (.one 5 (.one 6 (.one 8 (.fin)))) (.alt 5 (.one 3 (.one 6 (.one 8 (.fin)))) (.stop)))) (.alt 5 (.one 2 (.one 3 (.one 6 (.one 8 (.fin))))) (.stop)))) (.stop)))))))) mixed (by kernel_rfl) hS [0, 1, 6] fun w1 hS hY hV => ?_
         refine TJ.st hY Z Z Z Z Z (fun w2 hY => SR.load Z Z (fun w' hx => ldE oU oI Z Z Z (CA.ext ((hV w2 hY).cellsR (i := 0) Z) hx) Z)) ?_
         refine TJ.st hY Z Z Z Z Z (fun w2 hY => SR.load Z Z (fun w' hx => ldE oU oI Z Z Z (CA.ext ((hV w2 hY).cellsR (i := 2) Z) hx) Z)) ?_
         refine TJ.st hY Z Z Z Z Z (fun w2 hY => SR.load Z Z (fun w' hx => ldE oU oI Z Z Z (CA.ext ((hV w2 hY).cellsR (i := 1) Z) hx) Z)) ?_
         refine TJ.br ?_
         refine TJ.alt ?_ ?_
         · skip
           refine TJ.ef hY Z Z Z Z Z (Ef.lit oU oI hS (C := cHurdle) Z Z Z Z Z Z ([t15] : List Hurdle) Z Z Z Z) ?_
           rintro _ w1 hY ⟨A22, rfl, hS⟩
           refine TJ.br ?_
           refine TJ.alt ?_ ?_
           · skip
             refine TJ.callF hY rfl rfl rfl rfl rfl rfl rfl hb41 rfl (impl_Pasture_with.c k _ a0 A22 (([t15] : List Hurdle).length) ([t15] : List Hurdle) (hS.rd (i := 7) rfl) (hS.le (i := 7) rfl) false _ ht18) (by rintro v w' ⟨rfl, hs⟩; exact hs) ?_
             rintro _ w1 hY ⟨rfl, hs⟩
             replace hS := hS.grow hs
             refine TJ.br ?_
             refine TJ.alt ?_ ?_
             · skip
               refine TJ.ef hY Z Z Z Z Z (Ef.lit oU oI hS (C := cSpot) Z Z Z Z Z Z ([a1] : List Spot) Z Z Z Z) ?_
               rintro _ w1 hY ⟨A23, rfl, hS⟩
               refine TJ.br ?_
               refine TJ.alt ?_ ?_
               · skip
                 refine TJ.callF hY rfl rfl rfl rfl rfl rfl rfl hb31 rfl (impl_Pasture_far.c k _ t18 A23 (([a1] : List Spot).length) ([a1] : List Spot) (hS.rd (i := 8) rfl) (hS.le (i := 8) rfl) _ ht20) (by rintro v w' ⟨rfl, hs⟩; exact hs) ?_
                 rintro _ w1 hY ⟨rfl, hs⟩
                 replace hS := hS.grow hs
                 refine TJ.ef hY rfl rfl rfl rfl rfl (Ef.alloc hS oI rfl rfl ((carr 10 (carr 10 (ci .i16))).enc (Arr.mk' (Arr.mk' 0 : Arr 10 Int) : Arr 10 (Arr 10 Int))) (by kernel_rfl)) ?_
                 rintro _ w1 hY ⟨b24, rfl, hS⟩
                 have hO := hS
                 refine TJ.es rfl rfl rfl rfl (Es.put oI (hS.inn [0, 1, 6]) (i := 9) rfl rfl rfl rfl rfl (vs := (carr 10 (carr 10 (ci .i16))).enc t20) rfl ((carr 10 (carr 10 (ci .i16))).len _) ((carr 10 (carr 10 (ci .i16))).one _) (Put.all (carr 10 (carr 10 (ci .i16))) (Arr.mk' (Arr.mk' 0 : Arr 10 Int) : Arr 10 (Arr 10 Int)) t20) (by (try simp only [add_lit, Nat.add_assoc, Nat.zero_add, Nat.add_zero]) <;> rfl)) (by intro w1 hS; exact hY.wr (hO.inY [0, 1, 6] 0 rfl rfl) hS.chg) ?_
                 intro w1 hY hS
                 have hS : St w no w1 [box b1 (cPasture.enc a0) 31, box b2 (cSpot.enc a1) 45, box b3 (cSpot.enc a2) 45, box b4 (cHurdle.enc (⟨(⟨0, 0⟩ : Spot), false⟩ : Hurdle)) 48, box b6 (cHurdle.enc y12) 48, rowC cHurdle A8 c9 48 t7, box b16 (cHurdle.enc t15) 48, rowC cHurdle A22 (([t15] : List Hurdle).length) 48 ([t15] : List Hurdle), rowC cSpot A23 (([a1] : List Spot).length) 45 ([a1] : List Spot), box b24 ((carr 10 (carr 10 (ci .i16))).enc t20) 64] [] := hO.out [0, 1, 6] hS
                 refine TJ.nil ?_
                 exact EJ.meet (F' := [(3, .pointer (some ⟨b1, 0, none⟩)), (4, .pointer (some ⟨b2, 0, none⟩)), (5, .pointer (some ⟨b3, 0, none⟩)), (6, .pointer (some ⟨b4, 0, none⟩)), (11, .pointer (some ⟨b6, 0, none⟩)), (12, .int .i64 y13), (14, .pointer (some ⟨b16, 0, none⟩)), (15, .pointer (some ⟨b24, 0, none⟩)), (34, .slice A8 t7.length c9), (35, .int .i64 (t7.length : Int)), (36, .int .i64 y14)]) ⟨Z, Z, Z, Z, Z, Z, Z, Z, Z, Z, Z, trivial⟩ ⟨A22, A23, b24, Z, hS.pick [0, 1, 2, 3, 4, 5, 6, 7, 8, 9] [] Z⟩
               refine TJ.alt ?_ ?_
               · skip
                 refine TJ.ef hY rfl rfl rfl rfl rfl (Ef.alloc hS oI rfl rfl ((carr 10 (carr 10 (ci .i16))).enc (Arr.mk' (Arr.mk' 0 : Arr 10 Int) : Arr 10 (Arr 10 Int))) (by kernel_rfl)) ?_
                 rintro _ w1 hY ⟨b25, rfl, hS⟩
                 refine TJ.callF hY rfl rfl rfl rfl rfl rfl rfl hb31 rfl (impl_Pasture_far.c k _ t18 A23 (([a1] : List Spot).length) ([a1] : List Spot) (hS.rd (i := 8) rfl) (hS.le (i := 8) rfl) _ ht20) (by rintro v w' ⟨rfl, hs⟩; exact hs) ?_
                 rintro _ w1 hY ⟨rfl, hs⟩
                 replace hS := hS.grow hs
                 have hO := hS
                 refine TJ.es rfl rfl rfl rfl (Es.put oI (hS.inn [0, 1, 6]) (i := 9) rfl rfl rfl rfl rfl (vs := (carr 10 (carr 10 (ci .i16))).enc t20) rfl ((carr 10 (carr 10 (ci .i16))).len _) ((carr 10 (carr 10 (ci .i16))).one _) (Put.all (carr 10 (carr 10 (ci .i16))) (Arr.mk' (Arr.mk' 0 : Arr 10 Int) : Arr 10 (Arr 10 Int)) t20) (by (try simp only [add_lit, Nat.add_assoc, Nat.zero_add, Nat.add_zero]) <;> rfl)) (by intro w1 hS; exact hY.wr (hO.inY [0, 1, 6] 0 rfl rfl) hS.chg) ?_
                 intro w1 hY hS
                 have hS : St w no w1 [box b1 (cPasture.enc a0) 31, box b2 (cSpot.enc a1) 45, box b3 (cSpot.enc a2) 45, box b4 (cHurdle.enc (⟨(⟨0, 0⟩ : Spot), false⟩ : Hurdle)) 48, box b6 (cHurdle.enc y12) 48, rowC cHurdle A8 c9 48 t7, box b16 (cHurdle.enc t15) 48, rowC cHurdle A22 (([t15] : List Hurdle).length) 48 ([t15] : List Hurdle), rowC cSpot A23 (([a1] : List Spot).length) 45 ([a1] : List Spot), box b25 ((carr 10 (carr 10 (ci .i16))).enc t20) 64] [] := hO.out [0, 1, 6] hS
                 refine TJ.nil ?_
                 exact EJ.meet (F' := [(3, .pointer (some ⟨b1, 0, none⟩)), (4, .pointer (some ⟨b2, 0, none⟩)), (5, .pointer (some ⟨b3, 0, none⟩)), (6, .pointer (some ⟨b4, 0, none⟩)), (11, .pointer (some ⟨b6, 0, none⟩)), (12, .int .i64 y13), (14, .pointer (some ⟨b16, 0, none⟩)), (15, .pointer (some ⟨b25, 0, none⟩)), (34, .slice A8 t7.length c9), (35, .int .i64 (t7.length : Int)), (36, .int .i64 y14)]) ⟨Z, Z, Z, Z, Z, Z, Z, Z, Z, Z, Z, trivial⟩ ⟨A22, A23, b25, Z, hS.pick [0, 1, 2, 3, 4, 5, 6, 7, 8, 9] [] Z⟩
               exact TJ.stop
             refine TJ.alt ?_ ?_
             · skip
               refine TJ.ef hY rfl rfl rfl rfl rfl (Ef.alloc hS oI rfl rfl ((carr 10 (carr 10 (ci .i16))).enc (Arr.mk' (Arr.mk' 0 : Arr 10 Int) : Arr 10 (Arr 10 Int))) (by kernel_rfl)) ?_
               rintro _ w1 hY ⟨b26, rfl, hS⟩
               refine TJ.ef hY Z Z Z Z Z (Ef.lit oU oI hS (C := cSpot) Z Z Z Z Z Z ([a1] : List Spot) Z Z Z Z) ?_
               rintro _ w1 hY ⟨A27, rfl, hS⟩
               refine TJ.callF hY rfl rfl rfl rfl rfl rfl rfl hb31 rfl (impl_Pasture_far.c k _ t18 A27 (([a1] : List Spot).length) ([a1] : List Spot) (hS.rd (i := 9) rfl) (hS.le (i := 9) rfl) _ ht20) (by rintro v w' ⟨rfl, hs⟩; exact hs) ?_
               rintro _ w1 hY ⟨rfl, hs⟩
               replace hS := hS.grow hs
               have hO := hS
               refine TJ.es rfl rfl rfl rfl (Es.put oI (hS.inn [0, 1, 6]) (i := 8) rfl rfl rfl rfl rfl (vs := (carr 10 (carr 10 (ci .i16))).enc t20) rfl ((carr 10 (carr 10 (ci .i16))).len _) ((carr 10 (carr 10 (ci .i16))).one _) (Put.all (carr 10 (carr 10 (ci .i16))) (Arr.mk' (Arr.mk' 0 : Arr 10 Int) : Arr 10 (Arr 10 Int)) t20) (by (try simp only [add_lit, Nat.add_assoc, Nat.zero_add, Nat.add_zero]) <;> rfl)) (by intro w1 hS; exact hY.wr (hO.inY [0, 1, 6] 0 rfl rfl) hS.chg) ?_
               intro w1 hY hS
               have hS : St w no w1 [box b1 (cPasture.enc a0) 31, box b2 (cSpot.enc a1) 45, box b3 (cSpot.enc a2) 45, box b4 (cHurdle.enc (⟨(⟨0, 0⟩ : Spot), false⟩ : Hurdle)) 48, box b6 (cHurdle.enc y12) 48, rowC cHurdle A8 c9 48 t7, box b16 (cHurdle.enc t15) 48, rowC cHurdle A22 (([t15] : List Hurdle).length) 48 ([t15] : List Hurdle), box b26 ((carr 10 (carr 10 (ci .i16))).enc t20) 64, rowC cSpot A27 (([a1] : List Spot).length) 45 ([a1] : List Spot)] [] := hO.out [0, 1, 6] hS
               refine TJ.nil ?_
               exact EJ.meet (F' := [(3, .pointer (some ⟨b1, 0, none⟩)), (4, .pointer (some ⟨b2, 0, none⟩)), (5, .pointer (some ⟨b3, 0, none⟩)), (6, .pointer (some ⟨b4, 0, none⟩)), (11, .pointer (some ⟨b6, 0, none⟩)), (12, .int .i64 y13), (14, .pointer (some ⟨b16, 0, none⟩)), (15, .pointer (some ⟨b26, 0, none⟩)), (34, .slice A8 t7.length c9), (35, .int .i64 (t7.length : Int)), (36, .int .i64 y14)]) ⟨Z, Z, Z, Z, Z, Z, Z, Z, Z, Z, Z, trivial⟩ ⟨A22, A27, b26, Z, hS.pick [0, 1, 2, 3, 4, 5, 6, 7, 9, 8] [] Z⟩
             exact TJ.stop
           refine TJ.alt ?_ ?_
           · skip
             refine TJ.ef hY Z Z Z Z Z (Ef.lit oU oI hS (C := cSpot) Z Z Z Z Z Z ([a1] : List Spot) Z Z Z Z) ?_
             rintro _ w1 hY ⟨A28, rfl, hS⟩
             refine TJ.br ?_
             refine TJ.alt ?_ ?_
             · skip
               refine TJ.callF hY rfl rfl rfl rfl rfl rfl rfl hb41 rfl (impl_Pasture_with.c k _ a0 A22 (([t15] : List Hurdle).length) ([t15] : List Hurdle) (hS.rd (i := 7) rfl) (hS.le (i := 7) rfl) false _ ht18) (by rintro v w' ⟨rfl, hs⟩; exact hs) ?_
               rintro _ w1 hY ⟨rfl, hs⟩
               replace hS := hS.grow hs
               refine TJ.br ?_
               refine TJ.alt ?_ ?_
               · skip
                 refine TJ.callF hY rfl rfl rfl rfl rfl rfl rfl hb31 rfl (impl_Pasture_far.c k _ t18 A28 (([a1] : List Spot).length) ([a1] : List Spot) (hS.rd (i := 8) rfl) (hS.le (i := 8) rfl) _ ht20) (by rintro v w' ⟨rfl, hs⟩; exact hs) ?_
                 rintro _ w1 hY ⟨rfl, hs⟩
                 replace hS := hS.grow hs
                 refine TJ.ef hY rfl rfl rfl rfl rfl (Ef.alloc hS oI rfl rfl ((carr 10 (carr 10 (ci .i16))).enc (Arr.mk' (Arr.mk' 0 : Arr 10 Int) : Arr 10 (Arr 10 Int))) (by kernel_rfl)) ?_
                 rintro _ w1 hY ⟨b29, rfl, hS⟩
                 have hO := hS
                 refine TJ.es rfl rfl rfl rfl (Es.put oI (hS.inn [0, 1, 6]) (i := 9) rfl rfl rfl rfl rfl (vs := (carr 10 (carr 10 (ci .i16))).enc t20) rfl ((carr 10 (carr 10 (ci .i16))).len _) ((carr 10 (carr 10 (ci .i16))).one _) (Put.all (carr 10 (carr 10 (ci .i16))) (Arr.mk' (Arr.mk' 0 : Arr 10 Int) : Arr 10 (Arr 10 Int)) t20) (by (try simp only [add_lit, Nat.add_assoc, Nat.zero_add, Nat.add_zero]) <;> rfl)) (by intro w1 hS; exact hY.wr (hO.inY [0, 1, 6] 0 rfl rfl) hS.chg) ?_
                 intro w1 hY hS
                 have hS : St w no w1 [box b1 (cPasture.enc a0) 31, box b2 (cSpot.enc a1) 45, box b3 (cSpot.enc a2) 45, box b4 (cHurdle.enc (⟨(⟨0, 0⟩ : Spot), false⟩ : Hurdle)) 48, box b6 (cHurdle.enc y12) 48, rowC cHurdle A8 c9 48 t7, box b16 (cHurdle.enc t15) 48, rowC cHurdle A22 (([t15] : List Hurdle).length) 48 ([t15] : List Hurdle), rowC cSpot A28 (([a1] : List Spot).length) 45 ([a1] : List Spot), box b29 ((carr 10 (carr 10 (ci .i16))).enc t20) 64] [] := hO.out [0, 1, 6] hS
                 refine TJ.nil ?_
                 exact EJ.meet (F' := [(3, .pointer (some ⟨b1, 0, none⟩)), (4, .pointer (some ⟨b2, 0, none⟩)), (5, .pointer (some ⟨b3, 0, none⟩)), (6, .pointer (some ⟨b4, 0, none⟩)), (11, .pointer (some ⟨b6, 0, none⟩)), (12, .int .i64 y13), (14, .pointer (some ⟨b16, 0, none⟩)), (15, .pointer (some ⟨b29, 0, none⟩)), (34, .slice A8 t7.length c9), (35, .int .i64 (t7.length : Int)), (36, .int .i64 y14)]) ⟨Z, Z, Z, Z, Z, Z, Z, Z, Z, Z, Z, trivial⟩ ⟨A22, A28, b29, Z, hS.pick [0, 1, 2, 3, 4, 5, 6, 7, 8, 9] [] Z⟩
               refine TJ.alt ?_ ?_
               · skip
                 refine TJ.ef hY rfl rfl rfl rfl rfl (Ef.alloc hS oI rfl rfl ((carr 10 (carr 10 (ci .i16))).enc (Arr.mk' (Arr.mk' 0 : Arr 10 Int) : Arr 10 (Arr 10 Int))) (by kernel_rfl)) ?_
                 rintro _ w1 hY ⟨b30, rfl, hS⟩
                 refine TJ.callF hY rfl rfl rfl rfl rfl rfl rfl hb31 rfl (impl_Pasture_far.c k _ t18 A28 (([a1] : List Spot).length) ([a1] : List Spot) (hS.rd (i := 8) rfl) (hS.le (i := 8) rfl) _ ht20) (by rintro v w' ⟨rfl, hs⟩; exact hs) ?_
                 rintro _ w1 hY ⟨rfl, hs⟩
                 replace hS := hS.grow hs
                 have hO := hS
                 refine TJ.es rfl rfl rfl rfl (Es.put oI (hS.inn [0, 1, 6]) (i := 9) rfl rfl rfl rfl rfl (vs := (carr 10 (carr 10 (ci .i16))).enc t20) rfl ((carr 10 (carr 10 (ci .i16))).len _) ((carr 10 (carr 10 (ci .i16))).one _) (Put.all (carr 10 (carr 10 (ci .i16))) (Arr.mk' (Arr.mk' 0 : Arr 10 Int) : Arr 10 (Arr 10 Int)) t20) (by (try simp only [add_lit, Nat.add_assoc, Nat.zero_add, Nat.add_zero]) <;> rfl)) (by intro w1 hS; exact hY.wr (hO.inY [0, 1, 6] 0 rfl rfl) hS.chg) ?_
                 intro w1 hY hS
                 have hS : St w no w1 [box b1 (cPasture.enc a0) 31, box b2 (cSpot.enc a1) 45, box b3 (cSpot.enc a2) 45, box b4 (cHurdle.enc (⟨(⟨0, 0⟩ : Spot), false⟩ : Hurdle)) 48, box b6 (cHurdle.enc y12) 48, rowC cHurdle A8 c9 48 t7, box b16 (cHurdle.enc t15) 48, rowC cHurdle A22 (([t15] : List Hurdle).length) 48 ([t15] : List Hurdle), rowC cSpot A28 (([a1] : List Spot).length) 45 ([a1] : List Spot), box b30 ((carr 10 (carr 10 (ci .i16))).enc t20) 64] [] := hO.out [0, 1, 6] hS
                 refine TJ.nil ?_
                 exact EJ.meet (F' := [(3, .pointer (some ⟨b1, 0, none⟩)), (4, .pointer (some ⟨b2, 0, none⟩)), (5, .pointer (some ⟨b3, 0, none⟩)), (6, .pointer (some ⟨b4, 0, none⟩)), (11, .pointer (some ⟨b6, 0, none⟩)), (12, .int .i64 y13), (14, .pointer (some ⟨b16, 0, none⟩)), (15, .pointer (some ⟨b30, 0, none⟩)), (34, .slice A8 t7.length c9), (35, .int .i64 (t7.length : Int)), (36, .int .i64 y14)]) ⟨Z, Z, Z, Z, Z, Z, Z, Z, Z, Z, Z, trivial⟩ ⟨A22, A28, b30, Z, hS.pick [0, 1, 2, 3, 4, 5, 6, 7, 8, 9] [] Z⟩
               exact TJ.stop
             refine TJ.alt ?_ ?_
             · skip
               refine TJ.ef hY rfl rfl rfl rfl rfl (Ef.alloc hS oI rfl rfl ((carr 10 (carr 10 (ci .i16))).enc (Arr.mk' (Arr.mk' 0 : Arr 10 Int) : Arr 10 (Arr 10 Int))) (by kernel_rfl)) ?_
               rintro _ w1 hY ⟨b31, rfl, hS⟩
               refine TJ.callF hY rfl rfl rfl rfl rfl rfl rfl hb41 rfl (impl_Pasture_with.c k _ a0 A22 (([t15] : List Hurdle).length) ([t15] : List Hurdle) (hS.rd (i := 7) rfl) (hS.le (i := 7) rfl) false _ ht18) (by rintro v w' ⟨rfl, hs⟩; exact hs) ?_
               rintro _ w1 hY ⟨rfl, hs⟩
               replace hS := hS.grow hs
               refine TJ.callF hY rfl rfl rfl rfl rfl rfl rfl hb31 rfl (impl_Pasture_far.c k _ t18 A28 (([a1] : List Spot).length) ([a1] : List Spot) (hS.rd (i := 8) rfl) (hS.le (i := 8) rfl) _ ht20) (by rintro v w' ⟨rfl, hs⟩; exact hs) ?_
               rintro _ w1 hY ⟨rfl, hs⟩
               replace hS := hS.grow hs
               have hO := hS
               refine TJ.es rfl rfl rfl rfl (Es.put oI (hS.inn [0, 1, 6]) (i := 9) rfl rfl rfl rfl rfl (vs := (carr 10 (carr 10 (ci .i16))).enc t20) rfl ((carr 10 (carr 10 (ci .i16))).len _) ((carr 10 (carr 10 (ci .i16))).one _) (Put.all (carr 10 (carr 10 (ci .i16))) (Arr.mk' (Arr.mk' 0 : Arr 10 Int) : Arr 10 (Arr 10 Int)) t20) (by (try simp only [add_lit, Nat.add_assoc, Nat.zero_add, Nat.add_zero]) <;> rfl)) (by intro w1 hS; exact hY.wr (hO.inY [0, 1, 6] 0 rfl rfl) hS.chg) ?_
               intro w1 hY hS
               have hS : St w no w1 [box b1 (cPasture.enc a0) 31, box b2 (cSpot.enc a1) 45, box b3 (cSpot.enc a2) 45, box b4 (cHurdle.enc (⟨(⟨0, 0⟩ : Spot), false⟩ : Hurdle)) 48, box b6 (cHurdle.enc y12) 48, rowC cHurdle A8 c9 48 t7, box b16 (cHurdle.enc t15) 48, rowC cHurdle A22 (([t15] : List Hurdle).length) 48 ([t15] : List Hurdle), rowC cSpot A28 (([a1] : List Spot).length) 45 ([a1] : List Spot), box b31 ((carr 10 (carr 10 (ci .i16))).enc t20) 64] [] := hO.out [0, 1, 6] hS
               refine TJ.nil ?_
               exact EJ.meet (F' := [(3, .pointer (some ⟨b1, 0, none⟩)), (4, .pointer (some ⟨b2, 0, none⟩)), (5, .pointer (some ⟨b3, 0, none⟩)), (6, .pointer (some ⟨b4, 0, none⟩)), (11, .pointer (some ⟨b6, 0, none⟩)), (12, .int .i64 y13), (14, .pointer (some ⟨b16, 0, none⟩)), (15, .pointer (some ⟨b31, 0, none⟩)), (34, .slice A8 t7.length c9), (35, .int .i64 (t7.length : Int)), (36, .int .i64 y14)]) ⟨Z, Z, Z, Z, Z, Z, Z, Z, Z, Z, Z, trivial⟩ ⟨A22, A28, b31, Z, hS.pick [0, 1, 2, 3, 4, 5, 6, 7, 8, 9] [] Z⟩
             exact TJ.stop
           refine TJ.alt ?_ ?_
           · skip
             refine TJ.ef hY rfl rfl rfl rfl rfl (Ef.alloc hS oI rfl rfl ((carr 10 (carr 10 (ci .i16))).enc (Arr.mk' (Arr.mk' 0 : Arr 10 Int) : Arr 10 (Arr 10 Int))) (by kernel_rfl)) ?_
             rintro _ w1 hY ⟨b32, rfl, hS⟩
             refine TJ.br ?_
             refine TJ.alt ?_ ?_
             · skip
               refine TJ.callF hY rfl rfl rfl rfl rfl rfl rfl hb41 rfl (impl_Pasture_with.c k _ a0 A22 (([t15] : List Hurdle).length) ([t15] : List Hurdle) (hS.rd (i := 7) rfl) (hS.le (i := 7) rfl) false _ ht18) (by rintro v w' ⟨rfl, hs⟩; exact hs) ?_
               rintro _ w1 hY ⟨rfl, hs⟩
               replace hS := hS.grow hs
               refine TJ.ef hY Z Z Z Z Z (Ef.lit oU oI hS (C := cSpot) Z Z Z Z Z Z ([a1] : List Spot) Z Z Z Z) ?_
               rintro _ w1 hY ⟨A33, rfl, hS⟩
               refine TJ.callF hY rfl rfl rfl rfl rfl rfl rfl hb31 rfl (impl_Pasture_far.c k _ t18 A33 (([a1] : List Spot).length) ([a1] : List Spot) (hS.rd (i := 9) rfl) (hS.le (i := 9) rfl) _ ht20) (by rintro v w' ⟨rfl, hs⟩; exact hs) ?_
               rintro _ w1 hY ⟨rfl, hs⟩
               replace hS := hS.grow hs
               have hO := hS
               refine TJ.es rfl rfl rfl rfl (Es.put oI (hS.inn [0, 1, 6]) (i := 8) rfl rfl rfl rfl rfl (vs := (carr 10 (carr 10 (ci .i16))).enc t20) rfl ((carr 10 (carr 10 (ci .i16))).len _) ((carr 10 (carr 10 (ci .i16))).one _) (Put.all (carr 10 (carr 10 (ci .i16))) (Arr.mk' (Arr.mk' 0 : Arr 10 Int) : Arr 10 (Arr 10 Int)) t20) (by (try simp only [add_lit, Nat.add_assoc, Nat.zero_add, Nat.add_zero]) <;> rfl)) (by intro w1 hS; exact hY.wr (hO.inY [0, 1, 6] 0 rfl rfl) hS.chg) ?_
               intro w1 hY hS
               have hS : St w no w1 [box b1 (cPasture.enc a0) 31, box b2 (cSpot.enc a1) 45, box b3 (cSpot.enc a2) 45, box b4 (cHurdle.enc (⟨(⟨0, 0⟩ : Spot), false⟩ : Hurdle)) 48, box b6 (cHurdle.enc y12) 48, rowC cHurdle A8 c9 48 t7, box b16 (cHurdle.enc t15) 48, rowC cHurdle A22 (([t15] : List Hurdle).length) 48 ([t15] : List Hurdle), box b32 ((carr 10 (carr 10 (ci .i16))).enc t20) 64, rowC cSpot A33 (([a1] : List Spot).length) 45 ([a1] : List Spot)] [] := hO.out [0, 1, 6] hS
               refine TJ.nil ?_
               exact EJ.meet (F' := [(3, .pointer (some ⟨b1, 0, none⟩)), (4, .pointer (some ⟨b2, 0, none⟩)), (5, .pointer (some ⟨b3, 0, none⟩)), (6, .pointer (some ⟨b4, 0, none⟩)), (11, .pointer (some ⟨b6, 0, none⟩)), (12, .int .i64 y13), (14, .pointer (some ⟨b16, 0, none⟩)), (15, .pointer (some ⟨b32, 0, none⟩)), (34, .slice A8 t7.length c9), (35, .int .i64 (t7.length : Int)), (36, .int .i64 y14)]) ⟨Z, Z, Z, Z, Z, Z, Z, Z, Z, Z, Z, trivial⟩ ⟨A22, A33, b32, Z, hS.pick [0, 1, 2, 3, 4, 5, 6, 7, 9, 8] [] Z⟩
             refine TJ.alt ?_ ?_
             · skip
               refine TJ.ef hY Z Z Z Z Z (Ef.lit oU oI hS (C := cSpot) Z Z Z Z Z Z ([a1] : List Spot) Z Z Z Z) ?_
               rintro _ w1 hY ⟨A34, rfl, hS⟩
               refine TJ.callF hY rfl rfl rfl rfl rfl rfl rfl hb41 rfl (impl_Pasture_with.c k _ a0 A22 (([t15] : List Hurdle).length) ([t15] : List Hurdle) (hS.rd (i := 7) rfl) (hS.le (i := 7) rfl) false _ ht18) (by rintro v w' ⟨rfl, hs⟩; exact hs) ?_
               rintro _ w1 hY ⟨rfl, hs⟩
               replace hS := hS.grow hs
               refine TJ.callF hY rfl rfl rfl rfl rfl rfl rfl hb31 rfl (impl_Pasture_far.c k _ t18 A34 (([a1] : List Spot).length) ([a1] : List Spot) (hS.rd (i := 9) rfl) (hS.le (i := 9) rfl) _ ht20) (by rintro v w' ⟨rfl, hs⟩; exact hs) ?_
               rintro _ w1 hY ⟨rfl, hs⟩
               replace hS := hS.grow hs
               have hO := hS
               refine TJ.es rfl rfl rfl rfl (Es.put oI (hS.inn [0, 1, 6]) (i := 8) rfl rfl rfl rfl rfl (vs := (carr 10 (carr 10 (ci .i16))).enc t20) rfl ((carr 10 (carr 10 (ci .i16))).len _) ((carr 10 (carr 10 (ci .i16))).one _) (Put.all (carr 10 (carr 10 (ci .i16))) (Arr.mk' (Arr.mk' 0 : Arr 10 Int) : Arr 10 (Arr 10 Int)) t20) (by (try simp only [add_lit, Nat.add_assoc, Nat.zero_add, Nat.add_zero]) <;> rfl)) (by intro w1 hS; exact hY.wr (hO.inY [0, 1, 6] 0 rfl rfl) hS.chg) ?_
               intro w1 hY hS
               have hS : St w no w1 [box b1 (cPasture.enc a0) 31, box b2 (cSpot.enc a1) 45, box b3 (cSpot.enc a2) 45, box b4 (cHurdle.enc (⟨(⟨0, 0⟩ : Spot), false⟩ : Hurdle)) 48, box b6 (cHurdle.enc y12) 48, rowC cHurdle A8 c9 48 t7, box b16 (cHurdle.enc t15) 48, rowC cHurdle A22 (([t15] : List Hurdle).length) 48 ([t15] : List Hurdle), box b32 ((carr 10 (carr 10 (ci .i16))).enc t20) 64, rowC cSpot A34 (([a1] : List Spot).length) 45 ([a1] : List Spot)] [] := hO.out [0, 1, 6] hS
               refine TJ.nil ?_
               exact EJ.meet (F' := [(3, .pointer (some ⟨b1, 0, none⟩)), (4, .pointer (some ⟨b2, 0, none⟩)), (5, .pointer (some ⟨b3, 0, none⟩)), (6, .pointer (some ⟨b4, 0, none⟩)), (11, .pointer (some ⟨b6, 0, none⟩)), (12, .int .i64 y13), (14, .pointer (some ⟨b16, 0, none⟩)), (15, .pointer (some ⟨b32, 0, none⟩)), (34, .slice A8 t7.length c9), (35, .int .i64 (t7.length : Int)), (36, .int .i64 y14)]) ⟨Z, Z, Z, Z, Z, Z, Z, Z, Z, Z, Z, trivial⟩ ⟨A22, A34, b32, Z, hS.pick [0, 1, 2, 3, 4, 5, 6, 7, 9, 8] [] Z⟩
             exact TJ.stop
           exact TJ.stop
         refine TJ.alt ?_ ?_
         · skip
           refine TJ.ef hY Z Z Z Z Z (Ef.lit oU oI hS (C := cSpot) Z Z Z Z Z Z ([a1] : List Spot) Z Z Z Z) ?_
           rintro _ w1 hY ⟨A35, rfl, hS⟩
           refine TJ.br ?_
           refine TJ.alt ?_ ?_
           · skip
             refine TJ.ef hY Z Z Z Z Z (Ef.lit oU oI hS (C := cHurdle) Z Z Z Z Z Z ([t15] : List Hurdle) Z Z Z Z) ?_
             rintro _ w1 hY ⟨A36, rfl, hS⟩
             refine TJ.br ?_
             refine TJ.alt ?_ ?_
             · skip
               refine TJ.callF hY rfl rfl rfl rfl rfl rfl rfl hb41 rfl (impl_Pasture_with.c k _ a0 A36 (([t15] : List Hurdle).length) ([t15] : List Hurdle) (hS.rd (i := 8) rfl) (hS.le (i := 8) rfl) false _ ht18) (by rintro v w' ⟨rfl, hs⟩; exact hs) ?_
               rintro _ w1 hY ⟨rfl, hs⟩
               replace hS := hS.grow hs
               refine TJ.br ?_
               refine TJ.alt ?_ ?_
               · skip
                 refine TJ.callF hY rfl rfl rfl rfl rfl rfl rfl hb31 rfl (impl_Pasture_far.c k _ t18 A35 (([a1] : List Spot).length) ([a1] : List Spot) (hS.rd (i := 7) rfl) (hS.le (i := 7) rfl) _ ht20) (by rintro v w' ⟨rfl, hs⟩; exact hs) ?_
                 rintro _ w1 hY ⟨rfl, hs⟩
                 replace hS := hS.grow hs
                 refine TJ.ef hY rfl rfl rfl rfl rfl (Ef.alloc hS oI rfl rfl ((carr 10 (carr 10 (ci .i16))).enc (Arr.mk' (Arr.mk' 0 : Arr 10 Int) : Arr 10 (Arr 10 Int))) (by kernel_rfl)) ?_
                 rintro _ w1 hY ⟨b37, rfl, hS⟩
                 have hO := hS
                 refine TJ.es rfl rfl rfl rfl (Es.put oI (hS.inn [0, 1, 6]) (i := 9) rfl rfl rfl rfl rfl (vs := (carr 10 (carr 10 (ci .i16))).enc t20) rfl ((carr 10 (carr 10 (ci .i16))).len _) ((carr 10 (carr 10 (ci .i16))).one _) (Put.all (carr 10 (carr 10 (ci .i16))) (Arr.mk' (Arr.mk' 0 : Arr 10 Int) : Arr 10 (Arr 10 Int)) t20) (by (try simp only [add_lit, Nat.add_assoc, Nat.zero_add, Nat.add_zero]) <;> rfl)) (by intro w1 hS; exact hY.wr (hO.inY [0, 1, 6] 0 rfl rfl) hS.chg) ?_
                 intro w1 hY hS
                 have hS : St w no w1 [box b1 (cPasture.enc a0) 31, box b2 (cSpot.enc a1) 45, box b3 (cSpot.enc a2) 45, box b4 (cHurdle.enc (⟨(⟨0, 0⟩ : Spot), false⟩ : Hurdle)) 48, box b6 (cHurdle.enc y12) 48, rowC cHurdle A8 c9 48 t7, box b16 (cHurdle.enc t15) 48, rowC cSpot A35 (([a1] : List Spot).length) 45 ([a1] : List Spot), rowC cHurdle A36 (([t15] : List Hurdle).length) 48 ([t15] : List Hurdle), box b37 ((carr 10 (carr 10 (ci .i16))).enc t20) 64] [] := hO.out [0, 1, 6] hS
                 refine TJ.nil ?_
                 exact EJ.meet (F' := [(3, .pointer (some ⟨b1, 0, none⟩)), (4, .pointer (some ⟨b2, 0, none⟩)), (5, .pointer (some ⟨b3, 0, none⟩)), (6, .pointer (some ⟨b4, 0, none⟩)), (11, .pointer (some ⟨b6, 0, none⟩)), (12, .int .i64 y13), (14, .pointer (some ⟨b16, 0, none⟩)), (15, .pointer (some ⟨b37, 0, none⟩)), (34, .slice A8 t7.length c9), (35, .int .i64 (t7.length : Int)), (36, .int .i64 y14)]) ⟨Z, Z, Z, Z, Z, Z, Z, Z, Z, Z, Z, trivial⟩ ⟨A36, A35, b37, Z, hS.pick [0, 1, 2, 3, 4, 5, 6, 8, 7, 9] [] Z⟩
               refine TJ.alt ?_ ?_
               · skip
                 refine TJ.ef hY rfl rfl rfl rfl rfl (Ef.alloc hS oI rfl rfl ((carr 10 (carr 10 (ci .i16))).enc (Arr.mk' (Arr.mk' 0 : Arr 10 Int) : Arr 10 (Arr 10 Int))) (by kernel_rfl)) ?_
                 rintro _ w1 hY ⟨b38, rfl, hS⟩
                 refine TJ.callF hY rfl rfl rfl rfl rfl rfl rfl hb31 rfl (impl_Pasture_far.c k _ t18 A35 (([a1] : List Spot).length) ([a1] : List Spot) (hS.rd (i := 7) rfl) (hS.le (i := 7) rfl) _ ht20) (by rintro v w' ⟨rfl, hs⟩; exact hs) ?_
                 rintro _ w1 hY ⟨rfl, hs⟩
                 replace hS := hS.grow hs
                 have hO := hS
                 refine TJ.es rfl rfl rfl rfl (Es.put oI (hS.inn [0, 1, 6]) (i := 9) rfl rfl rfl rfl rfl (vs := (carr 10 (carr 10 (ci .i16))).enc t20) rfl ((carr 10 (carr 10 (ci .i16))).len _) ((carr 10 (carr 10 (ci .i16))).one _) (Put.all (carr 10 (carr 10 (ci .i16))) (Arr.mk' (Arr.mk' 0 : Arr 10 Int) : Arr 10 (Arr 10 Int)) t20) (by (try simp only [add_lit, Nat.add_assoc, Nat.zero_add, Nat.add_zero]) <;> rfl)) (by intro w1 hS; exact hY.wr (hO.inY [0, 1, 6] 0 rfl rfl) hS.chg) ?_
                 intro w1 hY hS
                 have hS : St w no w1 [box b1 (cPasture.enc a0) 31, box b2 (cSpot.enc a1) 45, box b3 (cSpot.enc a2) 45, box b4 (cHurdle.enc (⟨(⟨0, 0⟩ : Spot), false⟩ : Hurdle)) 48, box b6 (cHurdle.enc y12) 48, rowC cHurdle A8 c9 48 t7, box b16 (cHurdle.enc t15) 48, rowC cSpot A35 (([a1] : List Spot).length) 45 ([a1] : List Spot), rowC cHurdle A36 (([t15] : List Hurdle).length) 48 ([t15] : List Hurdle), box b38 ((carr 10 (carr 10 (ci .i16))).enc t20) 64] [] := hO.out [0, 1, 6] hS
                 refine TJ.nil ?_
                 exact EJ.meet (F' := [(3, .pointer (some ⟨b1, 0, none⟩)), (4, .pointer (some ⟨b2, 0, none⟩)), (5, .pointer (some ⟨b3, 0, none⟩)), (6, .pointer (some ⟨b4, 0, none⟩)), (11, .pointer (some ⟨b6, 0, none⟩)), (12, .int .i64 y13), (14, .pointer (some ⟨b16, 0, none⟩)), (15, .pointer (some ⟨b38, 0, none⟩)), (34, .slice A8 t7.length c9), (35, .int .i64 (t7.length : Int)), (36, .int .i64 y14)]) ⟨Z, Z, Z, Z, Z, Z, Z, Z, Z, Z, Z, trivial⟩ ⟨A36, A35, b38, Z, hS.pick [0, 1, 2, 3, 4, 5, 6, 8, 7, 9] [] Z⟩
               exact TJ.stop
             refine TJ.alt ?_ ?_
             · skip
               refine TJ.ef hY rfl rfl rfl rfl rfl (Ef.alloc hS oI rfl rfl ((carr 10 (carr 10 (ci .i16))).enc (Arr.mk' (Arr.mk' 0 : Arr 10 Int) : Arr 10 (Arr 10 Int))) (by kernel_rfl)) ?_
               rintro _ w1 hY ⟨b39, rfl, hS⟩
               refine TJ.callF hY rfl rfl rfl rfl rfl rfl rfl hb41 rfl (impl_Pasture_with.c k _ a0 A36 (([t15] : List Hurdle).length) ([t15] : List Hurdle) (hS.rd (i := 8) rfl) (hS.le (i := 8) rfl) false _ ht18) (by rintro v w' ⟨rfl, hs⟩; exact hs) ?_
               rintro _ w1 hY ⟨rfl, hs⟩
               replace hS := hS.grow hs
               refine TJ.callF hY rfl rfl rfl rfl rfl rfl rfl hb31 rfl (impl_Pasture_far.c k _ t18 A35 (([a1] : List Spot).length) ([a1] : List Spot) (hS.rd (i := 7) rfl) (hS.le (i := 7) rfl) _ ht20) (by rintro v w' ⟨rfl, hs⟩; exact hs) ?_
               rintro _ w1 hY ⟨rfl, hs⟩
               replace hS := hS.grow hs
               have hO := hS
               refine TJ.es rfl rfl rfl rfl (Es.put oI (hS.inn [0, 1, 6]) (i := 9) rfl rfl rfl rfl rfl (vs := (carr 10 (carr 10 (ci .i16))).enc t20) rfl ((carr 10 (carr 10 (ci .i16))).len _) ((carr 10 (carr 10 (ci .i16))).one _) (Put.all (carr 10 (carr 10 (ci .i16))) (Arr.mk' (Arr.mk' 0 : Arr 10 Int) : Arr 10 (Arr 10 Int)) t20) (by (try simp only [add_lit, Nat.add_assoc, Nat.zero_add, Nat.add_zero]) <;> rfl)) (by intro w1 hS; exact hY.wr (hO.inY [0, 1, 6] 0 rfl rfl) hS.chg) ?_
               intro w1 hY hS
               have hS : St w no w1 [box b1 (cPasture.enc a0) 31, box b2 (cSpot.enc a1) 45, box b3 (cSpot.enc a2) 45, box b4 (cHurdle.enc (⟨(⟨0, 0⟩ : Spot), false⟩ : Hurdle)) 48, box b6 (cHurdle.enc y12) 48, rowC cHurdle A8 c9 48 t7, box b16 (cHurdle.enc t15) 48, rowC cSpot A35 (([a1] : List Spot).length) 45 ([a1] : List Spot), rowC cHurdle A36 (([t15] : List Hurdle).length) 48 ([t15] : List Hurdle), box b39 ((carr 10 (carr 10 (ci .i16))).enc t20) 64] [] := hO.out [0, 1, 6] hS
               refine TJ.nil ?_
               exact EJ.meet (F' := [(3, .pointer (some ⟨b1, 0, none⟩)), (4, .pointer (some ⟨b2, 0, none⟩)), (5, .pointer (some ⟨b3, 0, none⟩)), (6, .pointer (some ⟨b4, 0, none⟩)), (11, .pointer (some ⟨b6, 0, none⟩)), (12, .int .i64 y13), (14, .pointer (some ⟨b16, 0, none⟩)), (15, .pointer (some ⟨b39, 0, none⟩)), (34, .slice A8 t7.length c9), (35, .int .i64 (t7.length : Int)), (36, .int .i64 y14)]) ⟨Z, Z, Z, Z, Z, Z, Z, Z, Z, Z, Z, trivial⟩ ⟨A36, A35, b39, Z, hS.pick [0, 1, 2, 3, 4, 5, 6, 8, 7, 9] [] Z⟩
             exact TJ.stop
           refine TJ.alt ?_ ?_
           · skip
             refine TJ.ef hY rfl rfl rfl rfl rfl (Ef.alloc hS oI rfl rfl ((carr 10 (carr 10 (ci .i16))).enc (Arr.mk' (Arr.mk' 0 : Arr 10 Int) : Arr 10 (Arr 10 Int))) (by kernel_rfl)) ?_
             rintro _ w1 hY ⟨b40, rfl, hS⟩
             refine TJ.ef hY Z Z Z Z Z (Ef.lit oU oI hS (C := cHurdle) Z Z Z Z Z Z ([t15] : List Hurdle) Z Z Z Z) ?_
             rintro _ w1 hY ⟨A41, rfl, hS⟩
             refine TJ.callF hY rfl rfl rfl rfl rfl rfl rfl hb41 rfl (impl_Pasture_with.c k _ a0 A41 (([t15] : List Hurdle).length) ([t15] : List Hurdle) (hS.rd (i := 9) rfl) (hS.le (i := 9) rfl) false _ ht18) (by rintro v w' ⟨rfl, hs⟩; exact hs) ?_
             rintro _ w1 hY ⟨rfl, hs⟩
             replace hS := hS.grow hs
             refine TJ.callF hY rfl rfl rfl rfl rfl rfl rfl hb31 rfl (impl_Pasture_far.c k _ t18 A35 (([a1] : List Spot).length) ([a1] : List Spot) (hS.rd (i := 7) rfl) (hS.le (i := 7) rfl) _ ht20) (by rintro v w' ⟨rfl, hs⟩; exact hs) ?_
             rintro _ w1 hY ⟨rfl, hs⟩
             replace hS := hS.grow hs
             have hO := hS
             refine TJ.es rfl rfl rfl rfl (Es.put oI (hS.inn [0, 1, 6]) (i := 8) rfl rfl rfl rfl rfl (vs := (carr 10 (carr 10 (ci .i16))).enc t20) rfl ((carr 10 (carr 10 (ci .i16))).len _) ((carr 10 (carr 10 (ci .i16))).one _) (Put.all (carr 10 (carr 10 (ci .i16))) (Arr.mk' (Arr.mk' 0 : Arr 10 Int) : Arr 10 (Arr 10 Int)) t20) (by (try simp only [add_lit, Nat.add_assoc, Nat.zero_add, Nat.add_zero]) <;> rfl)) (by intro w1 hS; exact hY.wr (hO.inY [0, 1, 6] 0 rfl rfl) hS.chg) ?_
             intro w1 hY hS
             have hS : St w no w1 [box b1 (cPasture.enc a0) 31, box b2 (cSpot.enc a1) 45, box b3 (cSpot.enc a2) 45, box b4 (cHurdle.enc (⟨(⟨0, 0⟩ : Spot), false⟩ : Hurdle)) 48, box b6 (cHurdle.enc y12) 48, rowC cHurdle A8 c9 48 t7, box b16 (cHurdle.enc t15) 48, rowC cSpot A35 (([a1] : List Spot).length) 45 ([a1] : List Spot), box b40 ((carr 10 (carr 10 (ci .i16))).enc t20) 64, rowC cHurdle A41 (([t15] : List Hurdle).length) 48 ([t15] : List Hurdle)] [] := hO.out [0, 1, 6] hS
             refine TJ.nil ?_
             exact EJ.meet (F' := [(3, .pointer (some ⟨b1, 0, none⟩)), (4, .pointer (some ⟨b2, 0, none⟩)), (5, .pointer (some ⟨b3, 0, none⟩)), (6, .pointer (some ⟨b4, 0, none⟩)), (11, .pointer (some ⟨b6, 0, none⟩)), (12, .int .i64 y13), (14, .pointer (some ⟨b16, 0, none⟩)), (15, .pointer (some ⟨b40, 0, none⟩)), (34, .slice A8 t7.length c9), (35, .int .i64 (t7.length : Int)), (36, .int .i64 y14)]) ⟨Z, Z, Z, Z, Z, Z, Z, Z, Z, Z, Z, trivial⟩ ⟨A41, A35, b40, Z, hS.pick [0, 1, 2, 3, 4, 5, 6, 9, 7, 8] [] Z⟩
           exact TJ.stop
         refine TJ.alt ?_ ?_
         · skip
           refine TJ.ef hY rfl rfl rfl rfl rfl (Ef.alloc hS oI rfl rfl ((carr 10 (carr 10 (ci .i16))).enc (Arr.mk' (Arr.mk' 0 : Arr 10 Int) : Arr 10 (Arr 10 Int))) (by kernel_rfl)) ?_
           rintro _ w1 hY ⟨b42, rfl, hS⟩
           refine TJ.br ?_
           refine TJ.alt ?_ ?_
           · skip
             refine TJ.ef hY Z Z Z Z Z (Ef.lit oU oI hS (C := cHurdle) Z Z Z Z Z Z ([t15] : List Hurdle) Z Z Z Z) ?_
             rintro _ w1 hY ⟨A43, rfl, hS⟩
             refine TJ.br ?_
             refine TJ.alt ?_ ?_
             · skip
               refine TJ.callF hY rfl rfl rfl rfl rfl rfl rfl hb41 rfl (impl_Pasture_with.c k _ a0 A43 (([t15] : List Hurdle).length) ([t15] : List Hurdle) (hS.rd (i := 8) rfl) (hS.le (i := 8) rfl) false _ ht18) (by rintro v w' ⟨rfl, hs⟩; exact hs) ?_
               rintro _ w1 hY ⟨rfl, hs⟩
               replace hS := hS.grow hs
               refine TJ.ef hY Z Z Z Z Z (Ef.lit oU oI hS (C := cSpot) Z Z Z Z Z Z ([a1] : List Spot) Z Z Z Z) ?_
               rintro _ w1 hY ⟨A44, rfl, hS⟩
               refine TJ.callF hY rfl rfl rfl rfl rfl rfl rfl hb31 rfl (impl_Pasture_far.c k _ t18 A44 (([a1] : List Spot).length) ([a1] : List Spot) (hS.rd (i := 9) rfl) (hS.le (i := 9) rfl) _ ht20) (by rintro v w' ⟨rfl, hs⟩; exact hs) ?_
               rintro _ w1 hY ⟨rfl, hs⟩
               replace hS := hS.grow hs
               have hO := hS
               refine TJ.es rfl rfl rfl rfl (Es.put oI (hS.inn [0, 1, 6]) (i := 7) rfl rfl rfl rfl rfl (vs := (carr 10 (carr 10 (ci .i16))).enc t20) rfl ((carr 10 (carr 10 (ci .i16))).len _) ((carr 10 (carr 10 (ci .i16))).one _) (Put.all (carr 10 (carr 10 (ci .i16))) (Arr.mk' (Arr.mk' 0 : Arr 10 Int) : Arr 10 (Arr 10 Int)) t20) (by (try simp only [add_lit, Nat.add_assoc, Nat.zero_add, Nat.add_zero]) <;> rfl)) (by intro w1 hS; exact hY.wr (hO.inY [0, 1, 6] 0 rfl rfl) hS.chg) ?_
               intro w1 hY hS
               have hS : St w no w1 [box b1 (cPasture.enc a0) 31, box b2 (cSpot.enc a1) 45, box b3 (cSpot.enc a2) 45, box b4 (cHurdle.enc (⟨(⟨0, 0⟩ : Spot), false⟩ : Hurdle)) 48, box b6 (cHurdle.enc y12) 48, rowC cHurdle A8 c9 48 t7, box b16 (cHurdle.enc t15) 48, box b42 ((carr 10 (carr 10 (ci .i16))).enc t20) 64, rowC cHurdle A43 (([t15] : List Hurdle).length) 48 ([t15] : List Hurdle), rowC cSpot A44 (([a1] : List Spot).length) 45 ([a1] : List Spot)] [] := hO.out [0, 1, 6] hS
               refine TJ.nil ?_
               exact EJ.meet (F' := [(3, .pointer (some ⟨b1, 0, none⟩)), (4, .pointer (some ⟨b2, 0, none⟩)), (5, .pointer (some ⟨b3, 0, none⟩)), (6, .pointer (some ⟨b4, 0, none⟩)), (11, .pointer (some ⟨b6, 0, none⟩)), (12, .int .i64 y13), (14, .pointer (some ⟨b16, 0, none⟩)), (15, .pointer (some ⟨b42, 0, none⟩)), (34, .slice A8 t7.length c9), (35, .int .i64 (t7.length : Int)), (36, .int .i64 y14)]) ⟨Z, Z, Z, Z, Z, Z, Z, Z, Z, Z, Z, trivial⟩ ⟨A43, A44, b42, Z, hS.pick [0, 1, 2, 3, 4, 5, 6, 8, 9, 7] [] Z⟩
             refine TJ.alt ?_ ?_
             · skip
               refine TJ.ef hY Z Z Z Z Z (Ef.lit oU oI hS (C := cSpot) Z Z Z Z Z Z ([a1] : List Spot) Z Z Z Z) ?_
               rintro _ w1 hY ⟨A45, rfl, hS⟩
               refine TJ.callF hY rfl rfl rfl rfl rfl rfl rfl hb41 rfl (impl_Pasture_with.c k _ a0 A43 (([t15] : List Hurdle).length) ([t15] : List Hurdle) (hS.rd (i := 8) rfl) (hS.le (i := 8) rfl) false _ ht18) (by rintro v w' ⟨rfl, hs⟩; exact hs) ?_
               rintro _ w1 hY ⟨rfl, hs⟩
               replace hS := hS.grow hs
               refine TJ.callF hY rfl rfl rfl rfl rfl rfl rfl hb31 rfl (impl_Pasture_far.c k _ t18 A45 (([a1] : List Spot).length) ([a1] : List Spot) (hS.rd (i := 9) rfl) (hS.le (i := 9) rfl) _ ht20) (by rintro v w' ⟨rfl, hs⟩; exact hs) ?_
               rintro _ w1 hY ⟨rfl, hs⟩
               replace hS := hS.grow hs
               have hO := hS
               refine TJ.es rfl rfl rfl rfl (Es.put oI (hS.inn [0, 1, 6]) (i := 7) rfl rfl rfl rfl rfl (vs := (carr 10 (carr 10 (ci .i16))).enc t20) rfl ((carr 10 (carr 10 (ci .i16))).len _) ((carr 10 (carr 10 (ci .i16))).one _) (Put.all (carr 10 (carr 10 (ci .i16))) (Arr.mk' (Arr.mk' 0 : Arr 10 Int) : Arr 10 (Arr 10 Int)) t20) (by (try simp only [add_lit, Nat.add_assoc, Nat.zero_add, Nat.add_zero]) <;> rfl)) (by intro w1 hS; exact hY.wr (hO.inY [0, 1, 6] 0 rfl rfl) hS.chg) ?_
               intro w1 hY hS
               have hS : St w no w1 [box b1 (cPasture.enc a0) 31, box b2 (cSpot.enc a1) 45, box b3 (cSpot.enc a2) 45, box b4 (cHurdle.enc (⟨(⟨0, 0⟩ : Spot), false⟩ : Hurdle)) 48, box b6 (cHurdle.enc y12) 48, rowC cHurdle A8 c9 48 t7, box b16 (cHurdle.enc t15) 48, box b42 ((carr 10 (carr 10 (ci .i16))).enc t20) 64, rowC cHurdle A43 (([t15] : List Hurdle).length) 48 ([t15] : List Hurdle), rowC cSpot A45 (([a1] : List Spot).length) 45 ([a1] : List Spot)] [] := hO.out [0, 1, 6] hS
               refine TJ.nil ?_
               exact EJ.meet (F' := [(3, .pointer (some ⟨b1, 0, none⟩)), (4, .pointer (some ⟨b2, 0, none⟩)), (5, .pointer (some ⟨b3, 0, none⟩)), (6, .pointer (some ⟨b4, 0, none⟩)), (11, .pointer (some ⟨b6, 0, none⟩)), (12, .int .i64 y13), (14, .pointer (some ⟨b16, 0, none⟩)), (15, .pointer (some ⟨b42, 0, none⟩)), (34, .slice A8 t7.length c9), (35, .int .i64 (t7.length : Int)), (36, .int .i64 y14)]) ⟨Z, Z, Z, Z, Z, Z, Z, Z, Z, Z, Z, trivial⟩ ⟨A43, A45, b42, Z, hS.pick [0, 1, 2, 3, 4, 5, 6, 8, 9, 7] [] Z⟩
             exact TJ.stop
           refine TJ.alt ?_ ?_
           · skip
             refine TJ.ef hY Z Z Z Z Z (Ef.lit oU oI hS (C := cSpot) Z Z Z Z Z Z ([a1] : List Spot) Z Z Z Z) ?_
             rintro _ w1 hY ⟨A46, rfl, hS⟩
             refine TJ.ef hY Z Z Z Z Z (Ef.lit oU oI hS (C := cHurdle) Z Z Z Z Z Z ([t15] : List Hurdle) Z Z Z Z) ?_
             rintro _ w1 hY ⟨A47, rfl, hS⟩
             refine TJ.callF hY rfl rfl rfl rfl rfl rfl rfl hb41 rfl (impl_Pasture_with.c k _ a0 A47 (([t15] : List Hurdle).length) ([t15] : List Hurdle) (hS.rd (i := 9) rfl) (hS.le (i := 9) rfl) false _ ht18) (by rintro v w' ⟨rfl, hs⟩; exact hs) ?_
             rintro _ w1 hY ⟨rfl, hs⟩
             replace hS := hS.grow hs
             refine TJ.callF hY rfl rfl rfl rfl rfl rfl rfl hb31 rfl (impl_Pasture_far.c k _ t18 A46 (([a1] : List Spot).length) ([a1] : List Spot) (hS.rd (i := 8) rfl) (hS.le (i := 8) rfl) _ ht20) (by rintro v w' ⟨rfl, hs⟩; exact hs) ?_
             rintro _ w1 hY ⟨rfl, hs⟩
             replace hS := hS.grow hs
             have hO := hS
             refine TJ.es rfl rfl rfl rfl (Es.put oI (hS.inn [0, 1, 6]) (i := 7) rfl rfl rfl rfl rfl (vs := (carr 10 (carr 10 (ci .i16))).enc t20) rfl ((carr 10 (carr 10 (ci .i16))).len _) ((carr 10 (carr 10 (ci .i16))).one _) (Put.all (carr 10 (carr 10 (ci .i16))) (Arr.mk' (Arr.mk' 0 : Arr 10 Int) : Arr 10 (Arr 10 Int)) t20) (by (try simp only [add_lit, Nat.add_assoc, Nat.zero_add, Nat.add_zero]) <;> rfl)) (by intro w1 hS; exact hY.wr (hO.inY [0, 1, 6] 0 rfl rfl) hS.chg) ?_
             intro w1 hY hS
             have hS : St w no w1 [box b1 (cPasture.enc a0) 31, box b2 (cSpot.enc a1) 45, box b3 (cSpot.enc a2) 45, box b4 (cHurdle.enc (⟨(⟨0, 0⟩ : Spot), false⟩ : Hurdle)) 48, box b6 (cHurdle.enc y12) 48, rowC cHurdle A8 c9 48 t7, box b16 (cHurdle.enc t15) 48, box b42 ((carr 10 (carr 10 (ci .i16))).enc t20) 64, rowC cSpot A46 (([a1] : List Spot).length) 45 ([a1] : List Spot), rowC cHurdle A47 (([t15] : List Hurdle).length) 48 ([t15] : List Hurdle)] [] := hO.out [0, 1, 6] hS
             refine TJ.nil ?_
             exact EJ.meet (F' := [(3, .pointer (some ⟨b1, 0, none⟩)), (4, .pointer (some ⟨b2, 0, none⟩)), (5, .pointer (some ⟨b3, 0, none⟩)), (6, .pointer (some ⟨b4, 0, none⟩)), (11, .pointer (some ⟨b6, 0, none⟩)), (12, .int .i64 y13), (14, .pointer (some ⟨b16, 0, none⟩)), (15, .pointer (some ⟨b42, 0, none⟩)), (34, .slice A8 t7.length c9), (35, .int .i64 (t7.length : Int)), (36, .int .i64 y14)]) ⟨Z, Z, Z, Z, Z, Z, Z, Z, Z, Z, Z, trivial⟩ ⟨A47, A46, b42, Z, hS.pick [0, 1, 2, 3, 4, 5, 6, 9, 8, 7] [] Z⟩
           exact TJ.stop
         exact TJ.stop
       · rintro F w1 ⟨A17, A19, b21, rfl, hS⟩
         refine EJ.next ?_
         refine CJ.seq (CJ.region ?_)
         refine OJ.st Z Z Z (SR.load Z Z (fun w' hx => ldE oU oI Z Z Z (CA.ext (hS.cells (i := 2) Z) hx) Z)) ?_
         obtain ⟨t48, ht48, H⟩ := pbind H
         refine OJ.callF Z Z Z Z Z hb32 Z (impl_steps_at.c _ _ t20 (hS.cells (i := 9) Z) a2 _ ht48) ?_
         rintro _ w1 ⟨rfl, hs⟩
         replace hS := hS.grow hs
         refine OJ.pures oU 1 Z (OJ.nil (EJ.next ?_))
         refine CJ.seq (CJ.region ?_)
         refine OJ.pures oU 3 Z ?_
         refine OJ.split (t := 51) Z (fun hb => ?_) (fun hb => ?_)
         · replace H := pif_t (of_decide_eq_true hb) H
           refine OJ.pures oU 3 Z ?_
           refine OJ.split (t := 54) Z (fun hb => ?_) (fun hb => ?_)
           · replace H := pif_t (of_decide_eq_true hb) H
             refine OJ.pures oU 5 Z (OJ.nil (EJ.next ?_))
             refine CJ.condT Z ?_
             refine CJ.region ?_
             refine OJ.st Z Z Z (SR.load Z Z (fun w' hx => ldE oU oI Z Z Z (CA.ext (hS.cells (i := 6) Z) hx) Z)) ?_
             refine OJ.pures oU 1 Z ?_
             refine OJ.es Z Z (Es.store oI hS (i := 4) Z Z Z Z Z Z (vs := cHurdle.enc t15) Z (cHurdle.len _) (cHurdle.one _) (Nat.le_of_ble_eq_true Z) (cHurdle.enc t15) Z) ?_
             intro w1 hS
             refine OJ.pures oU 1 Z ?_
             refine OJ.nil (EJ.blk (EJ.next ?_))
             refine CJ.region ?_
             refine OJ.pures oU 2 Z ?_
             refine OJ.nil ?_
             exact EJ.round k (F' := [(3, .pointer (some ⟨b1, 0, none⟩)), (4, .pointer (some ⟨b2, 0, none⟩)), (5, .pointer (some ⟨b3, 0, none⟩)), (6, .pointer (some ⟨b4, 0, none⟩)), (11, .pointer (some ⟨b6, 0, none⟩)), (12, .int .i64 t48), (34, .slice A8 t7.length c9), (35, .int .i64 (t7.length : Int)), (36, .int .i64 (IntKind.i64.wrap (y14 + 1)))]) ⟨Z, Z, Z, Z, Z, Z, Z, Z, Z, trivial⟩ (Nat.lt_succ_self _) ⟨t15, t48, (IntKind.i64.wrap (y14 + 1)), Z, hS.pick [0, 1, 2, 3, 4, 5] [] Z, H⟩
           · replace H := pif_f (of_decide_eq_false hb) H
             refine OJ.pures oU 5 Z (OJ.nil (EJ.next ?_))
             refine CJ.cond Z (fun hb => ?_) (fun hb => ?_)
             · replace H := pif_t (of_decide_eq_true hb) H
               refine CJ.region ?_
               refine OJ.st Z Z Z (SR.load Z Z (fun w' hx => ldE oU oI Z Z Z (CA.ext (hS.cells (i := 6) Z) hx) Z)) ?_
               refine OJ.pures oU 1 Z ?_
               refine OJ.es Z Z (Es.store oI hS (i := 4) Z Z Z Z Z Z (vs := cHurdle.enc t15) Z (cHurdle.len _) (cHurdle.one _) (Nat.le_of_ble_eq_true Z) (cHurdle.enc t15) Z) ?_
               intro w1 hS
               refine OJ.pures oU 1 Z ?_
               refine OJ.nil (EJ.blk (EJ.next ?_))
               refine CJ.region ?_
               refine OJ.pures oU 2 Z ?_
               refine OJ.nil ?_
               exact EJ.round k (F' := [(3, .pointer (some ⟨b1, 0, none⟩)), (4, .pointer (some ⟨b2, 0, none⟩)), (5, .pointer (some ⟨b3, 0, none⟩)), (6, .pointer (some ⟨b4, 0, none⟩)), (11, .pointer (some ⟨b6, 0, none⟩)), (12, .int .i64 t48), (34, .slice A8 t7.length c9), (35, .int .i64 (t7.length : Int)), (36, .int .i64 (IntKind.i64.wrap (y14 + 1)))]) ⟨Z, Z, Z, Z, Z, Z, Z, Z, Z, trivial⟩ (Nat.lt_succ_self _) ⟨t15, t48, (IntKind.i64.wrap (y14 + 1)), Z, hS.pick [0, 1, 2, 3, 4, 5] [] Z, H⟩
             · replace H := pif_f (of_decide_eq_false hb) H
               refine CJ.skip (EJ.blk (EJ.next ?_))
               refine CJ.region ?_
               refine OJ.pures oU 2 Z ?_
               refine OJ.nil ?_
               exact EJ.round k (F' := [(3, .pointer (some ⟨b1, 0, none⟩)), (4, .pointer (some ⟨b2, 0, none⟩)), (5, .pointer (some ⟨b3, 0, none⟩)), (6, .pointer (some ⟨b4, 0, none⟩)), (11, .pointer (some ⟨b6, 0, none⟩)), (12, .int .i64 y13), (34, .slice A8 t7.length c9), (35, .int .i64 (t7.length : Int)), (36, .int .i64 (IntKind.i64.wrap (y14 + 1)))]) ⟨Z, Z, Z, Z, Z, Z, Z, Z, Z, trivial⟩ (Nat.lt_succ_self _) ⟨y12, y13, (IntKind.i64.wrap (y14 + 1)), Z, hS.pick [0, 1, 2, 3, 4, 5] [] Z, H⟩
         · replace H := pif_f (of_decide_eq_false hb) H
           refine OJ.pures oU 8 Z (OJ.nil (EJ.next ?_))
           refine CJ.condF Z ?_
           refine CJ.skip (EJ.blk (EJ.next ?_))
           refine CJ.region ?_
           refine OJ.pures oU 2 Z ?_
           refine OJ.nil ?_
           exact EJ.round k (F' := [(3, .pointer (some ⟨b1, 0, none⟩)), (4, .pointer (some ⟨b2, 0, none⟩)), (5, .pointer (some ⟨b3, 0, none⟩)), (6, .pointer (some ⟨b4, 0, none⟩)), (11, .pointer (some ⟨b6, 0, none⟩)), (12, .int .i64 y13), (34, .slice A8 t7.length c9), (35, .int .i64 (t7.length : Int)), (36, .int .i64 (IntKind.i64.wrap (y14 + 1)))]) ⟨Z, Z, Z, Z, Z, Z, Z, Z, Z, trivial⟩ (Nat.lt_succ_self _) ⟨y12, y13, (IntKind.i64.wrap (y14 + 1)), Z, hS.pick [0, 1, 2, 3, 4, 5] [] Z, H⟩
     · replace H := pif_f (of_decide_eq_false hb) H
       refine CJ.exit (EJ.skE (EJ.skE (EJ.hit (?_))))
       exact EJ.meet (F' := [(6, .pointer (some ⟨b4, 0, none⟩)), (11, .pointer (some ⟨b6, 0, none⟩)), (12, .int .i64 y13)]) ⟨Z, Z, Z, trivial⟩ ⟨y12, y13, H, Z, hS.pick [3, 4] [] Z⟩
  rintro F w1 ⟨y10, y11, he, rfl, hS⟩
  obtain rfl := Option.some.inj he
  have H := K260
  refine EJ.next ?_
  refine CJ.seq ?_
  refine CJ.seq (CJ.region ?_)
  refine OJ.pures oU 2 Z (OJ.nil (EJ.next ?_))
  refine CJ.cond Z (fun hb => ?_) (fun hb => ?_)
  ·replace H := pif_t (of_decide_eq_true hb) H
   refine CJ.seq (CJ.region ?_)
   refine OJ.st Z Z Z (SR.build (C := cHurdle) oU oI Z Z Z (zs := [.int .i8 0, .int .i8 0, .bool false]) Z Z Z (⟨(⟨0, 0⟩ : Spot), false⟩ : Hurdle) Z) ?_
   refine OJ.es Z Z (Es.store oI hS (i := 0) Z Z Z Z Z Z (vs := cHurdle.enc (⟨(⟨0, 0⟩ : Spot), false⟩ : Hurdle)) Z (cHurdle.len _) (cHurdle.one _) (Nat.le_of_ble_eq_true Z) (cHurdle.enc (⟨(⟨0, 0⟩ : Spot), false⟩ : Hurdle)) Z) ?_
   intro w1 hS
   refine OJ.pures oU 2 Z (OJ.nil (EJ.next ?_))
   refine CJ.ret (EJ.skR (?_))
   obtain rfl := Option.some.inj H
   exact EJ.fin Z (.cell Z (ldE oU oI Z Z Z (hS.cells (i := 0) Z) Z) (.tmp Z (.tmp Z .nil))) ⟨Z, hS.ext⟩
  replace H := pif_f (of_decide_eq_false hb) H
  refine CJ.skip (EJ.next ?_)
  refine CJ.seq (CJ.region ?_)
  refine OJ.st Z Z Z (SR.load Z Z (fun w' hx => ldE oU oI Z Z Z (CA.ext (hS.cells (i := 1) Z) hx) Z)) ?_
  refine OJ.pures oU 1 Z ?_
  refine OJ.es Z Z (Es.store oI hS (i := 0) Z Z Z Z Z Z (vs := cHurdle.enc y10) Z (cHurdle.len _) (cHurdle.one _) (Nat.le_of_ble_eq_true Z) (cHurdle.enc y10) Z) ?_
  intro w1 hS
  refine OJ.pures oU 2 Z (OJ.nil (EJ.next ?_))
  refine CJ.ret (?_)
  obtain rfl := Option.some.inj H
  exact EJ.fin Z (.cell Z (ldE oU oI Z Z Z (hS.cells (i := 0) Z) Z) (.tmp Z (.tmp Z .nil))) ⟨Z, hS.ext⟩
 replace H := pif_f (of_decide_eq_false hb) H
 refine CJ.seq (CJ.region ?_)
 refine OJ.st Z Z Z (SR.build (C := cHurdle) oU oI Z Z Z (zs := [.int .i8 0, .int .i8 0, .bool false]) Z Z Z (⟨(⟨0, 0⟩ : Spot), false⟩ : Hurdle) Z) ?_
 refine OJ.pures oU 1 Z ?_
 refine OJ.es Z Z (Es.store oI hS (i := 3) Z Z Z Z Z Z (vs := cHurdle.enc (⟨(⟨0, 0⟩ : Spot), false⟩ : Hurdle)) Z (cHurdle.len _) (cHurdle.one _) (Nat.le_of_ble_eq_true Z) (cHurdle.enc (⟨(⟨0, 0⟩ : Spot), false⟩ : Hurdle)) Z) ?_
 intro w1 hS
 refine OJ.pures oU 2 Z (OJ.nil (EJ.next ?_))
 refine CJ.ret (EJ.bkR (EJ.skR (?_)))
 obtain rfl := Option.some.inj H
 exact EJ.fin Z (.cell Z (ldE oU oI Z Z Z (hS.cells (i := 3) Z) Z) (.tmp Z (.tmp Z .nil))) ⟨Z, hS.ext⟩

def spec_l01Asked.f (k : Nat) (a0 : Pasture) (a1 : Spot) (a2 : Bool) : Option Int := (spec_l01Ok.f k a0).bind fun t2 => if (!t2) = true then (some 1) else ((spec_l01Is.f a0 a1).bind fun t3 => if (!t3) = true then (some 2) else (if (!a2) = true then (some 2) else (some 0)))
theorem spec_l01Asked.c (k : Nat) (w : World) (pa0 : Addr) (a0 : Pasture) (hp0 : CA w pa0 (cPasture.enc a0)) (a1 : Spot) (a2 : Bool) (r : Int) (H : spec_l01Asked.f k a0 a1 a2 = some r) :
 CV Tryz.prog 50 [.pointer (some pa0), .agg (cSpot.enc a1).toArray, .bool a2].toArray w fun v w' => v = .int .i64 r ∧ Ext w w' := by
 have hS := ((St.init w no).paramP pa0 (cPasture.enc a0) hp0)
 unfold spec_l01Asked.f at H
 refine CV.body Tryz.func50 Z Tryz.ntmps50 Z ?_
 refine CJ.seq (CJ.region ?_)
 refine OJ.ef Z Z Z (Ef.box hS Z Z (cSpot.enc a1) Z) ?_
 rintro _ w1 ⟨b1, rfl, hS⟩
 refine OJ.pures oU 1 Z (OJ.nil (EJ.next ?_))
 refine CJ.seq ?_
 refine CJ.seq (CJ.region ?_)
 refine OJ.pures oU 1 Z ?_
 obtain ⟨t2, ht2, H⟩ := pbind H
 refine OJ.callF Z Z Z Z Z hb27 Z (spec_l01Ok.c k _ _ a0 (hS.ca (i := 0) Z) _ ht2) ?_
 rintro _ w1 ⟨rfl, hs⟩
 replace hS := hS.grow hs
 refine OJ.pures oU 1 Z (OJ.nil (EJ.next ?_))
 refine CJ.cond Z (fun hb => ?_) (fun hb => ?_)
 ·replace H := pif_t hb H
  refine CJ.seq (CJ.region ?_)
  refine OJ.pures oU 1 Z (OJ.nil (EJ.next ?_))
  refine CJ.ret (EJ.skR (?_))
  obtain rfl := Option.some.inj H
  exact EJ.fin Z (.tmp Z .nil) ⟨Z, hS.ext⟩
 replace H := pifb_f hb H
 refine CJ.skip (EJ.next ?_)
 refine CJ.seq ?_
 refine CJ.seq (CJ.region ?_)
 refine OJ.pures oU 1 Z ?_
 refine OJ.st Z Z Z (SR.load Z Z (fun w' hx => ldE oU oI Z Z Z (CA.ext (hS.cells (i := 0) Z) hx) Z)) ?_
 obtain ⟨t3, ht3, H⟩ := pbind H
 refine OJ.callF Z Z Z Z Z hb51 Z (spec_l01Is.c _ _ a0 (hS.ca (i := 0) Z) a1 _ ht3) ?_
 rintro _ w1 ⟨rfl, hs⟩
 replace hS := hS.grow hs
 refine OJ.pures oU 2 Z ?_
 refine OJ.split (t := 14) Z (fun hb => ?_) (fun hb => ?_)
 ·replace H := pif_t hb H
  refine OJ.pures oU 3 Z (OJ.nil (EJ.next ?_))
  refine CJ.condT Z ?_
  refine CJ.seq (CJ.region ?_)
  refine OJ.pures oU 1 Z (OJ.nil (EJ.next ?_))
  refine CJ.ret (EJ.skR (?_))
  obtain rfl := Option.some.inj H
  exact EJ.fin Z (.tmp Z .nil) ⟨Z, hS.ext⟩
 replace H := pifb_f hb H
 refine OJ.pures oU 3 Z (OJ.nil (EJ.next ?_))
 refine CJ.cond Z (fun hb => ?_) (fun hb => ?_)
 ·replace H := pif_t hb H
  refine CJ.seq (CJ.region ?_)
  refine OJ.pures oU 1 Z (OJ.nil (EJ.next ?_))
  refine CJ.ret (EJ.skR (?_))
  obtain rfl := Option.some.inj H
  exact EJ.fin Z (.tmp Z .nil) ⟨Z, hS.ext⟩
 replace H := pifb_f hb H
 refine CJ.skip (EJ.next ?_)
 refine CJ.seq (CJ.region ?_)
 refine OJ.pures oU 1 Z (OJ.nil (EJ.next ?_))
 refine CJ.ret (?_)
 obtain rfl := Option.some.inj H
 exact EJ.fin Z (.tmp Z .nil) ⟨Z, hS.ext⟩

def spec_BestGate.l1 (a0 : Pasture) (a1 : Spot) (a2 : Spot) (t12 : List Hurdle) : Nat → Hurdle → Int → Int → Option (Hurdle × Int)
  | 0, _, _, _ => none
  | k + 1, y17, y18, y19 => if y19 < (t12.length : Int) then ((chk ((0 : Int) ≤ y19 ∧ y19 ≤ (IntKind.i64.wrap (y19 + 1)) ∧ (IntKind.i64.wrap (y19 + 1)) ≤ (t12.length : Int))).bind fun u20 => (spec_l03Put.f k a0 ((t12.drop y19.toNat).take (((IntKind.i64.wrap (y19 + 1)).toNat) - y19.toNat)) false).bind fun t21 => (spec_l01Steps.f k t21 a1).bind fun t25 => (getI t25.l a2.Y).bind fun t27 => (getI t27.l a2.X).bind fun t28 => (if 0 < t28 then (if y18 = 0 then (some true) else (some (decide (t28 < y18)))) else (some false)).bind fun y29 => if y29 = true then ((getI t12 y19).bind fun t30 => spec_BestGate.l1 a0 a1 a2 t12 k t30 t28 (IntKind.i64.wrap (y19 + 1))) else (spec_BestGate.l1 a0 a1 a2 t12 k y17 y18 (IntKind.i64.wrap (y19 + 1)))) else (some (y17, y18))
def spec_BestGate.f (k : Nat) (a0 : Pasture) (a1 : Spot) (a2 : Spot) : Option (Hurdle × Int × Int) := (spec_l01Is.f a0 a2).bind fun t5 => (spec_l01Asked.f k a0 a1 t5).bind fun t6 => if t6 ≠ 0 then (some ((⟨(⟨0, 0⟩ : Spot), false⟩ : Hurdle), 0, t6)) else ((spec_l01Steps.f k a0 a1).bind fun t7 => (getI t7.l a2.Y).bind fun t9 => (getI t9.l a2.X).bind fun t10 => if 0 < t10 then (some ((⟨(⟨0, 0⟩ : Spot), false⟩ : Hurdle), 0, 4)) else ((spec_l03Standing.f k a0).bind fun t12 => (spec_BestGate.l1 a0 a1 a2 t12 k (⟨(⟨0, 0⟩ : Spot), false⟩ : Hurdle) 0 0).bind fun (y15, y16) => if y16 = 0 then (some ((⟨(⟨0, 0⟩ : Spot), false⟩ : Hurdle), 0, 6)) else (some (y15, IntKind.i64.wrap (y16 - 1), 0))))
theorem spec_BestGate.c (k : Nat) (w : World) (a0 : Pasture) (a1 : Spot) (a2 : Spot) (r : Hurdle × Int × Int) (H : spec_BestGate.f k a0 a1 a2 = some r) :
 CV Tryz.prog 19 [.agg (cPasture.enc a0).toArray, .agg (cSpot.enc a1).toArray, .agg (cSpot.enc a2).toArray].toArray w fun v w' => v = .tuple #[.agg (cHurdle.enc r.1).toArray, .int .i64 r.2.1, .int .i64 r.2.2] ∧ Ext w w' := by
 have hS := (St.init w no)
 unfold spec_BestGate.f at H
 refine CV.body Tryz.func19 Z Tryz.ntmps19 Z ?_
 refine CJ.seq (CJ.region ?_)
 refine OJ.ef Z Z Z (Ef.box hS Z Z (cPasture.enc a0) Z) ?_
 rintro _ w1 ⟨b1, rfl, hS⟩
 refine OJ.ef Z Z Z (Ef.box hS Z Z (cSpot.enc a1) Z) ?_
 rintro _ w1 ⟨b2, rfl, hS⟩
 refine OJ.ef Z Z Z (Ef.box hS Z Z (cSpot.enc a2) Z) ?_
 rintro _ w1 ⟨b3, rfl, hS⟩
 refine OJ.ef Z Z Z (Ef.alloc hS oI Z Z (cHurdle.enc (⟨(⟨0, 0⟩ : Spot), false⟩ : Hurdle)) Z) ?_
 rintro _ w1 ⟨b4, rfl, hS⟩
 refine OJ.pures oU 2 Z (OJ.nil (EJ.next ?_))
 refine CJ.seq ?_
 refine CJ.seq ?_
 refine CJ.draw [] [0, 1, 2, 3, 4] mixed (by kernel_rfl) hS fun w1 hS => ?_
 refine DJ.st Z Z Z Z Z (SR.load Z Z (fun w' hx => ldE oU oI Z Z Z (CA.ext (hS.cells (i := 1) Z) hx) Z)) ?_
 refine DJ.st Z Z Z Z Z (SR.load Z Z (fun w' hx => ldE oU oI Z Z Z (CA.ext (hS.cells (i := 2) Z) hx) Z)) ?_
 obtain ⟨t5, ht5, H⟩ := pbind H
 refine DJ.callF rfl rfl rfl rfl rfl rfl rfl hb51 rfl (spec_l01Is.c _ _ a0 (hS.cells (i := 0) rfl) a2 _ ht5) (by rintro v w' ⟨rfl, hs⟩; exact hs) ?_
 rintro _ w1 ⟨rfl, hs⟩
 replace hS := hS.grow hs
 obtain ⟨t6, ht6, H⟩ := pbind H
 refine DJ.callF rfl rfl rfl rfl rfl rfl rfl hb50 rfl (spec_l01Asked.c k _ _ a0 (hS.cells (i := 0) rfl) a1 t5 _ ht6) (by rintro v w' ⟨rfl, hs⟩; exact hs) ?_
 rintro _ w1 ⟨rfl, hs⟩
 replace hS := hS.grow hs
 refine DJ.pures oU 1 Z ?_
 refine DJ.nil (EJ.next ?_)
 refine CJ.seq (CJ.region ?_)
 refine OJ.pures oU 2 Z (OJ.nil (EJ.next ?_))
 refine CJ.cond Z (fun hb => ?_) (fun hb => ?_)
 ·replace H := pif_t (of_decide_eq_true hb) H
  refine CJ.seq (CJ.region ?_)
  refine OJ.st Z Z Z (SR.build (C := cHurdle) oU oI Z Z Z (zs := [.int .i8 0, .int .i8 0, .bool false]) Z Z Z (⟨(⟨0, 0⟩ : Spot), false⟩ : Hurdle) Z) ?_
  refine OJ.pures oU 1 Z ?_
  refine OJ.es Z Z (Es.store oI hS (i := 3) Z Z Z Z Z Z (vs := cHurdle.enc (⟨(⟨0, 0⟩ : Spot), false⟩ : Hurdle)) Z (cHurdle.len _) (cHurdle.one _) (Nat.le_of_ble_eq_true Z) (cHurdle.enc (⟨(⟨0, 0⟩ : Spot), false⟩ : Hurdle)) Z) ?_
  intro w1 hS
  refine OJ.pures oU 2 Z (OJ.nil (EJ.next ?_))
  refine CJ.ret (EJ.skR (?_))
  obtain rfl := Option.some.inj H
  exact EJ.fin Z (.cell Z (ldE oU oI Z Z Z (hS.cells (i := 3) Z) Z) (.tmp Z (.tmp Z .nil))) ⟨Z, hS.ext⟩
 replace H := pif_f (of_decide_eq_false hb) H
 refine CJ.skip (EJ.next ?_)
 refine CJ.seq (CJ.region ?_)
 refine OJ.st Z Z Z (SR.load Z Z (fun w' hx => ldE oU oI Z Z Z (CA.ext (hS.cells (i := 1) Z) hx) Z)) ?_
 obtain ⟨t7, ht7, H⟩ := pbind H
 refine OJ.callF Z Z Z Z Z hb36 Z (spec_l01Steps.c k _ _ a0 (hS.cells (i := 0) Z) a1 _ ht7) ?_
 rintro _ w1 ⟨rfl, hs⟩
 replace hS := hS.grow hs
 refine OJ.ef rfl rfl rfl (Ef.alloc hS oI rfl rfl ((carr 10 (carr 10 (ci .i64))).enc (Arr.mk' (Arr.mk' 0 : Arr 10 Int) : Arr 10 (Arr 10 Int))) (by kernel_rfl)) ?_
 rintro _ w1 ⟨b8, rfl, hS⟩
 refine OJ.es rfl rfl (Es.put oI hS (i := 4) rfl rfl rfl rfl rfl (vs := (carr 10 (carr 10 (ci .i64))).enc t7) rfl ((carr 10 (carr 10 (ci .i64))).len _) ((carr 10 (carr 10 (ci .i64))).one _) (Put.all (carr 10 (carr 10 (ci .i64))) (Arr.mk' (Arr.mk' 0 : Arr 10 Int) : Arr 10 (Arr 10 Int)) t7) (by (try simp only [add_lit, Nat.add_assoc, Nat.zero_add, Nat.add_zero]) <;> rfl)) ?_
 intro w1 hS
 refine OJ.nil (EJ.next ?_)
 refine CJ.seq ?_
 refine CJ.seq ?_
 refine CJ.draw [] [0, 1, 2, 3, 4, 5, 6, 7] mixed (by kernel_rfl) hS fun w1 hS => ?_
 refine DJ.st Z Z Z Z Z (SR.fieldAddr oU oI Z Z Z Z Z Z) ?_
 refine DJ.st Z Z Z Z Z (SR.load Z Z (fun w' hx => ld1 oU Z Z (CA.ext (CA.sub (hS.cells (i := 2) Z) 1) hx) Z)) ?_
 refine DJ.st Z Z Z Z Z (SR.fieldAddr oU oI Z Z Z Z Z Z) ?_
 refine DJ.st Z Z Z Z Z (SR.load Z Z (fun w' hx => ld1 oU Z Z (CA.ext (CA.sub (hS.cells (i := 2) Z) 0) hx) Z)) ?_
 obtain ⟨t9, ht9, H⟩ := pbind H
 refine DJ.st Z Z Z Z Z (SR.idxA oU oI Z Z Z Z Z (Arr.lt ht9)) ?_
 obtain ⟨t10, ht10, H⟩ := pbind H
 refine DJ.st Z Z Z Z Z (SR.idxA oU oI Z Z Z Z Z (Arr.lt ht10)) ?_
 refine DJ.st Z Z Z Z Z (SR.load Z Z (fun w' hx => ld1 oU Z Z (CA.ext (CA.idx (CA.idx (hS.cells (i := 4) Z) ht9) ht10) hx) Z)) ?_
 refine DJ.pures oU 1 Z ?_
 refine DJ.nil (EJ.next ?_)
 refine CJ.cond Z (fun hb => ?_) (fun hb => ?_)
 ·replace H := pif_t (of_decide_eq_true hb) H
  refine CJ.seq (CJ.region ?_)
  refine OJ.st Z Z Z (SR.build (C := cHurdle) oU oI Z Z Z (zs := [.int .i8 0, .int .i8 0, .bool false]) Z Z Z (⟨(⟨0, 0⟩ : Spot), false⟩ : Hurdle) Z) ?_
  refine OJ.es Z Z (Es.store oI hS (i := 3) Z Z Z Z Z Z (vs := cHurdle.enc (⟨(⟨0, 0⟩ : Spot), false⟩ : Hurdle)) Z (cHurdle.len _) (cHurdle.one _) (Nat.le_of_ble_eq_true Z) (cHurdle.enc (⟨(⟨0, 0⟩ : Spot), false⟩ : Hurdle)) Z) ?_
  intro w1 hS
  refine OJ.pures oU 2 Z (OJ.nil (EJ.next ?_))
  refine CJ.ret (EJ.skR (?_))
  obtain rfl := Option.some.inj H
  exact EJ.fin Z (.cell Z (ldE oU oI Z Z Z (hS.cells (i := 3) Z) Z) (.tmp Z (.tmp Z .nil))) ⟨Z, hS.ext⟩
 replace H := pif_f (of_decide_eq_false hb) H
 refine CJ.skip (EJ.next ?_)
 refine CJ.seq (CJ.region ?_)
 refine OJ.st Z Z Z (SR.build (C := cHurdle) oU oI Z Z Z (zs := [.int .i8 0, .int .i8 0, .bool false]) Z Z Z (⟨(⟨0, 0⟩ : Spot), false⟩ : Hurdle) Z) ?_
 refine OJ.ef Z Z Z (Ef.alloc hS oI Z Z (cHurdle.enc (⟨(⟨0, 0⟩ : Spot), false⟩ : Hurdle)) Z) ?_
 rintro _ w1 ⟨b11, rfl, hS⟩
 refine OJ.es Z Z (Es.store oI hS (i := 5) Z Z Z Z Z Z (vs := cHurdle.enc (⟨(⟨0, 0⟩ : Spot), false⟩ : Hurdle)) Z (cHurdle.len _) (cHurdle.one _) (Nat.le_of_ble_eq_true Z) (cHurdle.enc (⟨(⟨0, 0⟩ : Spot), false⟩ : Hurdle)) Z) ?_
 intro w1 hS
 refine OJ.nil (EJ.next ?_)
 refine CJ.seq (CJ.region ?_)
 refine OJ.pures oU 1 Z (OJ.nil (EJ.next ?_))
 refine CJ.seq (CJ.region ?_)
 obtain ⟨t12, ht12, H⟩ := pbind H
 refine OJ.callF Z Z Z Z Z hb35 Z (spec_l03Standing.c k _ _ a0 (hS.cells (i := 0) Z) _ ht12) ?_
 rintro _ w1 ⟨A13, c14, rfl, hs⟩
 replace hS := hS.addN hs
 have hS : St w no w1 [box b1 (cPasture.enc a0) 31, box b2 (cSpot.enc a1) 45, box b3 (cSpot.enc a2) 45, box b4 (cHurdle.enc (⟨(⟨0, 0⟩ : Spot), false⟩ : Hurdle)) 48, box b8 ((carr 10 (carr 10 (ci .i64))).enc t7) 59, box b11 (cHurdle.enc (⟨(⟨0, 0⟩ : Spot), false⟩ : Hurdle)) 48, rowC cHurdle A13 c14 48 t12] [] := hS
 refine OJ.pures oU 1 Z (OJ.nil (EJ.next ?_))
 refine CJ.seq ?_
 refine CJ.seq (CJ.region ?_)
 refine OJ.pures oU 1 Z (OJ.nil (EJ.next ?_))
 replace hS := hS.freezeG (i := 6) Z
 obtain ⟨j261, H, K261⟩ := pbind H
 refine CJ.cut1 (fun F w1 => ∃ (y15 : Hurdle) (y16 : Int) , (some (y15, y16) : Option (Hurdle × Int)) = some j261 ∧ F = [(6, .pointer (some ⟨b4, 0, none⟩)), (11, .pointer (some ⟨b11, 0, none⟩)), (12, .int .i64 y16)] ∧ St w no w1 [box b4 (cHurdle.enc (⟨(⟨0, 0⟩ : Spot), false⟩ : Hurdle)) 48, box b11 (cHurdle.enc y15) 48] [roC cHurdle A13 c14 t12]) ?_ ?_
 ·skip
  refine CJ.block ?_
  refine CJ.loop (fun k F w1 => ∃ (y17 : Hurdle) (y18 : Int) (y19 : Int), F = [(3, .pointer (some ⟨b1, 0, none⟩)), (4, .pointer (some ⟨b2, 0, none⟩)), (5, .pointer (some ⟨b3, 0, none⟩)), (6, .pointer (some ⟨b4, 0, none⟩)), (11, .pointer (some ⟨b11, 0, none⟩)), (12, .int .i64 y18), (13, .slice A13 t12.length c14), (14, .int .i64 y19)] ∧ St w no w1 [box b1 (cPasture.enc a0) 31, box b2 (cSpot.enc a1) 45, box b3 (cSpot.enc a2) 45, box b4 (cHurdle.enc (⟨(⟨0, 0⟩ : Spot), false⟩ : Hurdle)) 48, box b11 (cHurdle.enc y17) 48] [roC cHurdle A13 c14 t12] ∧ spec_BestGate.l1 a0 a1 a2 t12 k y17 y18 y19 = some j261) k (F' := [(3, .pointer (some ⟨b1, 0, none⟩)), (4, .pointer (some ⟨b2, 0, none⟩)), (5, .pointer (some ⟨b3, 0, none⟩)), (6, .pointer (some ⟨b4, 0, none⟩)), (11, .pointer (some ⟨b11, 0, none⟩)), (12, .int .i64 0), (13, .slice A13 t12.length c14), (14, .int .i64 0)]) ⟨Z, Z, Z, Z, Z, Z, Z, Z, trivial⟩ ⟨(⟨(⟨0, 0⟩ : Spot), false⟩ : Hurdle), 0, 0, Z, hS.pick [0, 1, 2, 3, 5] [0] Z, H⟩ ?_
  rintro k F w1 ⟨y17, y18, y19, rfl, hS, H⟩
  cases k with
  | zero => rw [spec_BestGate.l1] at H; cases H
  | succ k =>
    rw [spec_BestGate.l1] at H
    refine CJ.seq ?_
    refine CJ.seq (CJ.region ?_)
    refine OJ.pures oU 4 Z (OJ.nil (EJ.next ?_))
    refine CJ.cond Z (fun hb => ?_) (fun hb => ?_)
    · replace H := pif_t (of_decide_eq_true hb) H
      refine CJ.skip (EJ.next ?_)
      refine CJ.seq ?_
      refine CJ.block ?_
      refine CJ.seq ?_
      obtain ⟨u20, hu20, H⟩ := pbind H
      obtain ⟨t21, ht21, H⟩ := pbind H
      refine CJ.cut1 (fun F w1 => ∃ (b22 : Nat), F = [(3, .pointer (some ⟨b1, 0, none⟩)), (4, .pointer (some ⟨b2, 0, none⟩)), (5, .pointer (some ⟨b3, 0, none⟩)), (6, .pointer (some ⟨b4, 0, none⟩)), (11, .pointer (some ⟨b11, 0, none⟩)), (12, .int .i64 y18), (13, .slice A13 t12.length c14), (14, .int .i64 y19), (15, .pointer (some ⟨b22, 0, none⟩))] ∧ St w no w1 [box b1 (cPasture.enc a0) 31, box b2 (cSpot.enc a1) 45, box b3 (cSpot.enc a2) 45, box b4 (cHurdle.enc (⟨(⟨0, 0⟩ : Spot), false⟩ : Hurdle)) 48, box b11 (cHurdle.enc y17) 48, box b22 (cPasture.enc t21) 31] [roC cHurdle A13 c14 t12, roC cHurdle (cutA A13 c14 y19.toNat cHurdle.sz) (c14 - y19.toNat) ((t12.drop y19.toNat).take (((IntKind.i64.wrap (y19 + 1)).toNat) - y19.toNat))]) ?_ ?_
      · skip
        refine CJ.drawT [] [6, 7, 8] (.one 0 (.one 1 (.one 2 (.one 3 (.one 4 (.one 5 (.br (.alt 6 (.one 7 (.one 8 (.fin))) (.alt 7 (.one 6 (.one 8 (.fin))) (.stop)))))))))) mixed (by kernel_rfl) hS [0] fun w1 hS hY hV => ?_
        refine TJ.st hY Z Z Z Z Z (fun w2 hY => SR.load Z Z (fun w' hx => ldE oU oI Z Z Z (CA.ext ((hV w2 hY).cellsR (i := 1) Z) hx) Z)) ?_
        refine TJ.pures oU 4 Z ?_
        refine TJ.st hY rfl rfl rfl rfl rfl (fun w2 hY => SR.cutS oU oI (y19.toNat) ((IntKind.i64.wrap (y19 + 1)).toNat) rfl rfl rfl rfl rfl rfl (.inr ⟨_, _, rfl, (chk_some hu20).1, rfl⟩) (.inr ⟨_, _, rfl, (by have := (chk_some hu20); omega), rfl⟩) (by have := (chk_some hu20); omega) (by have := (chk_some hu20); have := ((hV w2 hY).le' (i := 0) rfl : t12.length ≤ c14); omega)) ?_
        replace hS := hS.cutR (i := 0) (lo := y19.toNat) (hi := (IntKind.i64.wrap (y19 + 1)).toNat) rfl (by have := (chk_some hu20); omega) (by have := (chk_some hu20); omega)
        refine TJ.as (t := 50) rfl (show _ = (.slice (cutA A13 c14 y19.toNat cHurdle.sz) ((t12.drop y19.toNat).take (((IntKind.i64.wrap (y19 + 1)).toNat) - y19.toNat)).length (c14 - y19.toNat) : Value) by rw [cutLen (by have := (chk_some hu20); omega) (by have := (chk_some hu20); omega)]; rfl) ?_
        refine TJ.br ?_
        refine TJ.alt ?_ ?_
        · skip
          refine TJ.callF hY rfl rfl rfl rfl rfl rfl rfl hb48 rfl (spec_l03Put.c k _ a0 (cutA A13 c14 y19.toNat cHurdle.sz) (c14 - y19.toNat) ((t12.drop y19.toNat).take (((IntKind.i64.wrap (y19 + 1)).toNat) - y19.toNat)) (hS.rd' (i := 1) rfl) (hS.le' (i := 1) rfl) false _ ht21) (by rintro v w' ⟨rfl, hs⟩; exact hs) ?_
          rintro _ w1 hY ⟨rfl, hs⟩
          replace hS := hS.grow hs
          refine TJ.ef hY rfl rfl rfl rfl rfl (Ef.alloc hS oI rfl rfl (cPasture.enc (⟨0, 0, (Arr.mk' (Arr.mk' 0 : Arr 10 Int) : Arr 10 (Arr 10 Int)), (Arr.mk' 0 : Arr 10 Int), (Arr.mk' 0 : Arr 10 Int)⟩ : Pasture)) (by kernel_rfl)) ?_
          rintro _ w1 hY ⟨b23, rfl, hS⟩
          have hO := hS
          refine TJ.es rfl rfl rfl rfl (Es.put oI (hS.inn [0]) (i := 5) rfl rfl rfl rfl rfl (vs := cPasture.enc t21) rfl (cPasture.len _) (cPasture.one _) (Put.all cPasture (⟨0, 0, (Arr.mk' (Arr.mk' 0 : Arr 10 Int) : Arr 10 (Arr 10 Int)), (Arr.mk' 0 : Arr 10 Int), (Arr.mk' 0 : Arr 10 Int)⟩ : Pasture) t21) (by (try simp only [add_lit, Nat.add_assoc, Nat.zero_add, Nat.add_zero]) <;> rfl)) (by intro w1 hS; exact hY.wr (hO.inY [0] 1 rfl rfl) hS.chg) ?_
          intro w1 hY hS
          have hS : St w no w1 [box b1 (cPasture.enc a0) 31, box b2 (cSpot.enc a1) 45, box b3 (cSpot.enc a2) 45, box b4 (cHurdle.enc (⟨(⟨0, 0⟩ : Spot), false⟩ : Hurdle)) 48, box b11 (cHurdle.enc y17) 48, box b23 (cPasture.enc t21) 31] [roC cHurdle A13 c14 t12, roC cHurdle (cutA A13 c14 y19.toNat cHurdle.sz) (c14 - y19.toNat) ((t12.drop y19.toNat).take (((IntKind.i64.wrap (y19 + 1)).toNat) - y19.toNat))] := hO.out [0] hS
          refine TJ.nil ?_
          exact EJ.meet (F' := [(3, .pointer (some ⟨b1, 0, none⟩)), (4, .pointer (some ⟨b2, 0, none⟩)), (5, .pointer (some ⟨b3, 0, none⟩)), (6, .pointer (some ⟨b4, 0, none⟩)), (11, .pointer (some ⟨b11, 0, none⟩)), (12, .int .i64 y18), (13, .slice A13 t12.length c14), (14, .int .i64 y19), (15, .pointer (some ⟨b23, 0, none⟩))]) ⟨Z, Z, Z, Z, Z, Z, Z, Z, Z, trivial⟩ ⟨b23, Z, hS.pick [0, 1, 2, 3, 4, 5] [0, 1] Z⟩
        refine TJ.alt ?_ ?_
        · skip
          refine TJ.ef hY rfl rfl rfl rfl rfl (Ef.alloc hS oI rfl rfl (cPasture.enc (⟨0, 0, (Arr.mk' (Arr.mk' 0 : Arr 10 Int) : Arr 10 (Arr 10 Int)), (Arr.mk' 0 : Arr 10 Int), (Arr.mk' 0 : Arr 10 Int)⟩ : Pasture)) (by kernel_rfl)) ?_
          rintro _ w1 hY ⟨b24, rfl, hS⟩
          refine TJ.callF hY rfl rfl rfl rfl rfl rfl rfl hb48 rfl (spec_l03Put.c k _ a0 (cutA A13 c14 y19.toNat cHurdle.sz) (c14 - y19.toNat) ((t12.drop y19.toNat).take (((IntKind.i64.wrap (y19 + 1)).toNat) - y19.toNat)) (hS.rd' (i := 1) rfl) (hS.le' (i := 1) rfl) false _ ht21) (by rintro v w' ⟨rfl, hs⟩; exact hs) ?_
          rintro _ w1 hY ⟨rfl, hs⟩
          replace hS := hS.grow hs
          have hO := hS
          refine TJ.es rfl rfl rfl rfl (Es.put oI (hS.inn [0]) (i := 5) rfl rfl rfl rfl rfl (vs := cPasture.enc t21) rfl (cPasture.len _) (cPasture.one _) (Put.all cPasture (⟨0, 0, (Arr.mk' (Arr.mk' 0 : Arr 10 Int) : Arr 10 (Arr 10 Int)), (Arr.mk' 0 : Arr 10 Int), (Arr.mk' 0 : Arr 10 Int)⟩ : Pasture) t21) (by (try simp only [add_lit, Nat.add_assoc, Nat.zero_add, Nat.add_zero]) <;> rfl)) (by intro w1 hS; exact hY.wr (hO.inY [0] 1 rfl rfl) hS.chg) ?_
          intro w1 hY hS
          have hS : St w no w1 [box b1 (cPasture.enc a0) 31, box b2 (cSpot.enc a1) 45, box b3 (cSpot.enc a2) 45, box b4 (cHurdle.enc (⟨(⟨0, 0⟩ : Spot), false⟩ : Hurdle)) 48, box b11 (cHurdle.enc y17) 48, box b24 (cPasture.enc t21) 31] [roC cHurdle A13 c14 t12, roC cHurdle (cutA A13 c14 y19.toNat cHurdle.sz) (c14 - y19.toNat) ((t12.drop y19.toNat).take (((IntKind.i64.wrap (y19 + 1)).toNat) - y19.toNat))] := hO.out [0] hS
          refine TJ.nil ?_
          exact EJ.meet (F' := [(3, .pointer (some ⟨b1, 0, none⟩)), (4, .pointer (some ⟨b2, 0, none⟩)), (5, .pointer (some ⟨b3, 0, none⟩)), (6, .pointer (some ⟨b4, 0, none⟩)), (11, .pointer (some ⟨b11, 0, none⟩)), (12, .int .i64 y18), (13, .slice A13 t12.length c14), (14, .int .i64 y19), (15, .pointer (some ⟨b24, 0, none⟩))]) ⟨Z, Z, Z, Z, Z, Z, Z, Z, Z, trivial⟩ ⟨b24, Z, hS.pick [0, 1, 2, 3, 4, 5] [0, 1] Z⟩
        exact TJ.stop
      · rintro F w1 ⟨b22, rfl, hS⟩
        refine EJ.next ?_
        refine CJ.seq (CJ.region ?_)
        refine OJ.st Z Z Z (SR.load Z Z (fun w' hx => ldE oU oI Z Z Z (CA.ext (hS.cells (i := 1) Z) hx) Z)) ?_
        obtain ⟨t25, ht25, H⟩ := pbind H
        refine OJ.callF Z Z Z Z Z hb36 Z (spec_l01Steps.c k _ _ t21 (hS.cells (i := 5) Z) a1 _ ht25) ?_
        rintro _ w1 ⟨rfl, hs⟩
        replace hS := hS.grow hs
        refine OJ.ef rfl rfl rfl (Ef.alloc hS oI rfl rfl ((carr 10 (carr 10 (ci .i64))).enc (Arr.mk' (Arr.mk' 0 : Arr 10 Int) : Arr 10 (Arr 10 Int))) (by kernel_rfl)) ?_
        rintro _ w1 ⟨b26, rfl, hS⟩
        refine OJ.es rfl rfl (Es.put oI hS (i := 6) rfl rfl rfl rfl rfl (vs := (carr 10 (carr 10 (ci .i64))).enc t25) rfl ((carr 10 (carr 10 (ci .i64))).len _) ((carr 10 (carr 10 (ci .i64))).one _) (Put.all (carr 10 (carr 10 (ci .i64))) (Arr.mk' (Arr.mk' 0 : Arr 10 Int) : Arr 10 (Arr 10 Int)) t25) (by (try simp only [add_lit, Nat.add_assoc, Nat.zero_add, Nat.add_zero]) <;> rfl)) ?_
        intro w1 hS
        refine OJ.nil (EJ.next ?_)
        refine CJ.seq ?_
        refine CJ.draw [] [0, 1, 2, 3, 4, 5, 6, 7] mixed (by kernel_rfl) hS fun w1 hS => ?_
        refine DJ.st Z Z Z Z Z (SR.fieldAddr oU oI Z Z Z Z Z Z) ?_
        refine DJ.st Z Z Z Z Z (SR.load Z Z (fun w' hx => ld1 oU Z Z (CA.ext (CA.sub (hS.cells (i := 2) Z) 1) hx) Z)) ?_
        refine DJ.st Z Z Z Z Z (SR.fieldAddr oU oI Z Z Z Z Z Z) ?_
        refine DJ.st Z Z Z Z Z (SR.load Z Z (fun w' hx => ld1 oU Z Z (CA.ext (CA.sub (hS.cells (i := 2) Z) 0) hx) Z)) ?_
        obtain ⟨t27, ht27, H⟩ := pbind H
        refine DJ.st Z Z Z Z Z (SR.idxA oU oI Z Z Z Z Z (Arr.lt ht27)) ?_
        obtain ⟨t28, ht28, H⟩ := pbind H
        refine DJ.st Z Z Z Z Z (SR.idxA oU oI Z Z Z Z Z (Arr.lt ht28)) ?_
        refine DJ.st Z Z Z Z Z (SR.load Z Z (fun w' hx => ld1 oU Z Z (CA.ext (CA.idx (CA.idx (hS.cells (i := 6) Z) ht27) ht28) hx) Z)) ?_
        refine DJ.pures oU 1 Z ?_
        refine DJ.nil (EJ.next ?_)
        obtain ⟨j264, H, K264⟩ := pbind H
        refine CJ.cut (fun F w1 => ∃ (y29 : Bool) , (some y29 : Option Bool) = some j264 ∧ F = [(3, .pointer (some ⟨b1, 0, none⟩)), (4, .pointer (some ⟨b2, 0, none⟩)), (5, .pointer (some ⟨b3, 0, none⟩)), (6, .pointer (some ⟨b4, 0, none⟩)), (11, .pointer (some ⟨b11, 0, none⟩)), (12, .int .i64 y18), (13, .slice A13 t12.length c14), (14, .int .i64 y19), (17, .int .i64 t28), (71, .bool y29)] ∧ St w no w1 [box b1 (cPasture.enc a0) 31, box b2 (cSpot.enc a1) 45, box b3 (cSpot.enc a2) 45, box b4 (cHurdle.enc (⟨(⟨0, 0⟩ : Spot), false⟩ : Hurdle)) 48, box b11 (cHurdle.enc y17) 48] [roC cHurdle A13 c14 t12, roC cHurdle (cutA A13 c14 y19.toNat cHurdle.sz) (c14 - y19.toNat) ((t12.drop y19.toNat).take (((IntKind.i64.wrap (y19 + 1)).toNat) - y19.toNat))]) ?_ ?_
        · skip
          refine CJ.region ?_
          refine OJ.pures oU 3 Z ?_
          refine OJ.split (t := 63) Z (fun hb => ?_) (fun hb => ?_)
          · replace H := pif_t (of_decide_eq_true hb) H
            refine OJ.pures oU 3 Z ?_
            refine OJ.split (t := 66) Z (fun hb => ?_) (fun hb => ?_)
            · replace H := pif_t (of_decide_eq_true hb) H
              refine OJ.pures oU 5 Z ?_
              refine OJ.nil ?_
              exact EJ.meet (F' := [(3, .pointer (some ⟨b1, 0, none⟩)), (4, .pointer (some ⟨b2, 0, none⟩)), (5, .pointer (some ⟨b3, 0, none⟩)), (6, .pointer (some ⟨b4, 0, none⟩)), (11, .pointer (some ⟨b11, 0, none⟩)), (12, .int .i64 y18), (13, .slice A13 t12.length c14), (14, .int .i64 y19), (17, .int .i64 t28), (71, .bool true)]) ⟨Z, Z, Z, Z, Z, Z, Z, Z, Z, Z, trivial⟩ ⟨true, H, Z, hS.pick [0, 1, 2, 3, 4] [0, 1] Z⟩
            · replace H := pif_f (of_decide_eq_false hb) H
              refine OJ.pures oU 5 Z ?_
              refine OJ.nil ?_
              exact EJ.meet (F' := [(3, .pointer (some ⟨b1, 0, none⟩)), (4, .pointer (some ⟨b2, 0, none⟩)), (5, .pointer (some ⟨b3, 0, none⟩)), (6, .pointer (some ⟨b4, 0, none⟩)), (11, .pointer (some ⟨b11, 0, none⟩)), (12, .int .i64 y18), (13, .slice A13 t12.length c14), (14, .int .i64 y19), (17, .int .i64 t28), (71, .bool (decide (t28 < y18)))]) ⟨Z, Z, Z, Z, Z, Z, Z, Z, Z, Z, trivial⟩ ⟨(decide (t28 < y18)), H, Z, hS.pick [0, 1, 2, 3, 4] [0, 1] Z⟩
          · replace H := pif_f (of_decide_eq_false hb) H
            refine OJ.pures oU 8 Z ?_
            refine OJ.nil ?_
            exact EJ.meet (F' := [(3, .pointer (some ⟨b1, 0, none⟩)), (4, .pointer (some ⟨b2, 0, none⟩)), (5, .pointer (some ⟨b3, 0, none⟩)), (6, .pointer (some ⟨b4, 0, none⟩)), (11, .pointer (some ⟨b11, 0, none⟩)), (12, .int .i64 y18), (13, .slice A13 t12.length c14), (14, .int .i64 y19), (17, .int .i64 t28), (71, .bool false)]) ⟨Z, Z, Z, Z, Z, Z, Z, Z, Z, Z, trivial⟩ ⟨false, H, Z, hS.pick [0, 1, 2, 3, 4] [0, 1] Z⟩
        · rintro F w1 ⟨y29, he, rfl, hS⟩
          obtain rfl := Option.some.inj he
          have H := K264
          refine CJ.cond Z (fun hb => ?_) (fun hb => ?_)
          · replace H := pif_t hb H
            refine CJ.seq (CJ.region ?_)
            refine OJ.pures oU 2 Z ?_
            obtain ⟨t30, ht30, H⟩ := pbind H
            obtain ⟨ad30, e30⟩ := (hS.rd' (i := 0) rfl).some' ht30
            refine OJ.st Z Z Z (SR.idxS oU oI Z Z Z Z e30 Z (getI_some ht30).1) ?_
            refine OJ.st Z Z Z (SR.load Z Z (fun w' hx => ldE oU oI Z Z Z (CA.ext ((hS.rd' (i := 0) Z).at_ e30 ht30) hx) Z)) ?_
            refine OJ.es Z Z (Es.store oI hS (i := 4) Z Z Z Z Z Z (vs := cHurdle.enc t30) Z (cHurdle.len _) (cHurdle.one _) (Nat.le_of_ble_eq_true Z) (cHurdle.enc t30) Z) ?_
            intro w1 hS
            refine OJ.nil (EJ.next ?_)
            refine CJ.region ?_
            refine OJ.pures oU 2 Z ?_
            refine OJ.nil (EJ.blk (EJ.next ?_))
            refine CJ.region ?_
            refine OJ.pures oU 3 Z ?_
            refine OJ.nil ?_
            exact EJ.round k (F' := [(3, .pointer (some ⟨b1, 0, none⟩)), (4, .pointer (some ⟨b2, 0, none⟩)), (5, .pointer (some ⟨b3, 0, none⟩)), (6, .pointer (some ⟨b4, 0, none⟩)), (11, .pointer (some ⟨b11, 0, none⟩)), (12, .int .i64 t28), (13, .slice A13 t12.length c14), (14, .int .i64 (IntKind.i64.wrap (y19 + 1)))]) ⟨Z, Z, Z, Z, Z, Z, Z, Z, trivial⟩ (Nat.lt_succ_self _) ⟨t30, t28, (IntKind.i64.wrap (y19 + 1)), Z, hS.pick [0, 1, 2, 3, 4] [0] Z, H⟩
          · replace H := pifb_f hb H
            refine CJ.skip (EJ.blk (EJ.next ?_))
            refine CJ.region ?_
            refine OJ.pures oU 3 Z ?_
            refine OJ.nil ?_
            exact EJ.round k (F' := [(3, .pointer (some ⟨b1, 0, none⟩)), (4, .pointer (some ⟨b2, 0, none⟩)), (5, .pointer (some ⟨b3, 0, none⟩)), (6, .pointer (some ⟨b4, 0, none⟩)), (11, .pointer (some ⟨b11, 0, none⟩)), (12, .int .i64 y18), (13, .slice A13 t12.length c14), (14, .int .i64 (IntKind.i64.wrap (y19 + 1)))]) ⟨Z, Z, Z, Z, Z, Z, Z, Z, trivial⟩ (Nat.lt_succ_self _) ⟨y17, y18, (IntKind.i64.wrap (y19 + 1)), Z, hS.pick [0, 1, 2, 3, 4] [0] Z, H⟩
    · replace H := pif_f (of_decide_eq_false hb) H
      refine CJ.exit (EJ.skE (EJ.skE (EJ.hit (?_))))
      exact EJ.meet (F' := [(6, .pointer (some ⟨b4, 0, none⟩)), (11, .pointer (some ⟨b11, 0, none⟩)), (12, .int .i64 y18)]) ⟨Z, Z, Z, trivial⟩ ⟨y17, y18, H, Z, hS.pick [3, 4] [0] Z⟩
 rintro F w1 ⟨y15, y16, he, rfl, hS⟩
 obtain rfl := Option.some.inj he
 have H := K261
 refine EJ.next ?_
 refine CJ.seq ?_
 refine CJ.seq (CJ.region ?_)
 refine OJ.pures oU 2 Z (OJ.nil (EJ.next ?_))
 refine CJ.cond Z (fun hb => ?_) (fun hb => ?_)
 ·replace H := pif_t (of_decide_eq_true hb) H
  refine CJ.seq (CJ.region ?_)
  refine OJ.st Z Z Z (SR.build (C := cHurdle) oU oI Z Z Z (zs := [.int .i8 0, .int .i8 0, .bool false]) Z Z Z (⟨(⟨0, 0⟩ : Spot), false⟩ : Hurdle) Z) ?_
  refine OJ.es Z Z (Es.store oI hS (i := 0) Z Z Z Z Z Z (vs := cHurdle.enc (⟨(⟨0, 0⟩ : Spot), false⟩ : Hurdle)) Z (cHurdle.len _) (cHurdle.one _) (Nat.le_of_ble_eq_true Z) (cHurdle.enc (⟨(⟨0, 0⟩ : Spot), false⟩ : Hurdle)) Z) ?_
  intro w1 hS
  refine OJ.pures oU 2 Z (OJ.nil (EJ.next ?_))
  refine CJ.ret (EJ.skR (?_))
  obtain rfl := Option.some.inj H
  exact EJ.fin Z (.cell Z (ldE oU oI Z Z Z (hS.cells (i := 0) Z) Z) (.tmp Z (.tmp Z .nil))) ⟨Z, hS.ext⟩
 replace H := pif_f (of_decide_eq_false hb) H
 refine CJ.skip (EJ.next ?_)
 refine CJ.seq (CJ.region ?_)
 refine OJ.st Z Z Z (SR.load Z Z (fun w' hx => ldE oU oI Z Z Z (CA.ext (hS.cells (i := 1) Z) hx) Z)) ?_
 refine OJ.pures oU 2 Z ?_
 refine OJ.es Z Z (Es.store oI hS (i := 0) Z Z Z Z Z Z (vs := cHurdle.enc y15) Z (cHurdle.len _) (cHurdle.one _) (Nat.le_of_ble_eq_true Z) (cHurdle.enc y15) Z) ?_
 intro w1 hS
 refine OJ.pures oU 2 Z (OJ.nil (EJ.next ?_))
 refine CJ.ret (?_)
 obtain rfl := Option.some.inj H
 exact EJ.fin Z (.cell Z (ldE oU oI Z Z Z (hS.cells (i := 0) Z) Z) (.tmp Z (.tmp Z .nil))) ⟨Z, hS.ext⟩

def impl_Pasture_yard_1.f (a1 : Arr 10 (Arr 10 Int)) (a0 : Spot) : Option Bool := (impl_steps_at.f a1 a0).bind fun t2 => some (decide (0 ≤ t2))
theorem impl_Pasture_yard_1.c (w : World) (pa1 : Addr) (a1 : Arr 10 (Arr 10 Int)) (hp1 : CA w pa1 ((carr 10 (carr 10 (ci .i16))).enc a1)) (a0 : Spot) (r : Bool) (H : impl_Pasture_yard_1.f a1 a0 = some r) :
 CV Tryz.prog 82 [.agg (cSpot.enc a0).toArray, .pointer (some pa1)].toArray w fun v w' => v = .bool r ∧ Ext w w' := by
 have hS := ((St.init w no).paramP pa1 ((carr 10 (carr 10 (ci .i16))).enc a1) hp1)
 unfold impl_Pasture_yard_1.f at H
 refine CV.body Tryz.func82 Z Tryz.ntmps82 Z ?_
 refine CJ.seq (CJ.region ?_)
 refine OJ.ef Z Z Z (Ef.box hS Z Z (cSpot.enc a0) Z) ?_
 rintro _ w1 ⟨b1, rfl, hS⟩
 refine OJ.pures oU 1 Z (OJ.nil (EJ.next ?_))
 refine CJ.seq (CJ.region ?_)
 refine OJ.st Z Z Z (SR.load Z Z (fun w' hx => ldE oU oI Z Z Z (CA.ext (hS.cells (i := 0) Z) hx) Z)) ?_
 obtain ⟨t2, ht2, H⟩ := pbind H
 refine OJ.callF Z Z Z Z Z hb32 Z (impl_steps_at.c _ _ a1 (hS.ca (i := 0) Z) a0 _ ht2) ?_
 rintro _ w1 ⟨rfl, hs⟩
 replace hS := hS.grow hs
 refine OJ.pures oU 2 Z (OJ.nil (EJ.next ?_))
 refine CJ.ret (?_)
 obtain rfl := Option.some.inj H
 exact EJ.fin Z (.tmp Z .nil) ⟨Z, hS.ext⟩

def impl_Pasture_yard.f (k : Nat) (a0 : Pasture) (a1 : Spot) : Option (List Spot) := (impl_Pasture_far.f k a0 ([a1] : List Spot)).bind fun t4 => (impl_Pasture_cells.f k a0 (impl_Pasture_yard_1.f t4)).bind fun t6 => some t6
theorem impl_Pasture_yard.c (k : Nat) (w : World) (a0 : Pasture) (a1 : Spot) (r : List Spot) (H : impl_Pasture_yard.f k a0 a1 = some r) :
 CV Tryz.prog 53 [.agg (cPasture.enc a0).toArray, .agg (cSpot.enc a1).toArray].toArray w fun v w' => ∃ (A0 : Option Addr) (c0 : Nat), v = .slice A0 r.length c0 ∧ St w no w' [rowC cSpot A0 c0 45 r] [] := by
 have hS := (St.init w no)
 unfold impl_Pasture_yard.f at H
 refine CV.body Tryz.func53 Z Tryz.ntmps53 Z ?_
 refine CJ.seq (CJ.region ?_)
 refine OJ.ef Z Z Z (Ef.box hS Z Z (cPasture.enc a0) Z) ?_
 rintro _ w1 ⟨b1, rfl, hS⟩
 refine OJ.ef Z Z Z (Ef.box hS Z Z (cSpot.enc a1) Z) ?_
 rintro _ w1 ⟨b2, rfl, hS⟩
 refine OJ.pures oU 1 Z (OJ.nil (EJ.next ?_))
 refine CJ.seq (CJ.region ?_)
 refine OJ.st Z Z Z (SR.load Z Z (fun w' hx => ldE oU oI Z Z Z (CA.ext (hS.cells (i := 0) Z) hx) Z)) ?_
 refine OJ.st Z Z Z (SR.load Z Z (fun w' hx => ldE oU oI Z Z Z (CA.ext (hS.cells (i := 1) Z) hx) Z)) ?_
 refine OJ.ef Z Z Z (Ef.lit oU oI hS (C := cSpot) Z Z Z Z Z Z ([a1] : List Spot) Z Z Z Z) ?_
 rintro _ w1 ⟨A3, rfl, hS⟩
 obtain ⟨t4, ht4, H⟩ := pbind H
 refine OJ.callF Z Z Z Z Z hb31 Z (impl_Pasture_far.c k _ a0 A3 (([a1] : List Spot).length) ([a1] : List Spot) (hS.rd (i := 2) Z) (hS.le (i := 2) Z) _ ht4) ?_
 rintro _ w1 ⟨rfl, hs⟩
 replace hS := hS.grow hs
 refine OJ.ef rfl rfl rfl (Ef.alloc hS oI rfl rfl ((carr 10 (carr 10 (ci .i16))).enc (Arr.mk' (Arr.mk' 0 : Arr 10 Int) : Arr 10 (Arr 10 Int))) (by kernel_rfl)) ?_
 rintro _ w1 ⟨b5, rfl, hS⟩
 refine OJ.es rfl rfl (Es.put oI hS (i := 3) rfl rfl rfl rfl rfl (vs := (carr 10 (carr 10 (ci .i16))).enc t4) rfl ((carr 10 (carr 10 (ci .i16))).len _) ((carr 10 (carr 10 (ci .i16))).one _) (Put.all (carr 10 (carr 10 (ci .i16))) (Arr.mk' (Arr.mk' 0 : Arr 10 Int) : Arr 10 (Arr 10 Int)) t4) (by (try simp only [add_lit, Nat.add_assoc, Nat.zero_add, Nat.add_zero]) <;> rfl)) ?_
 intro w1 hS
 refine OJ.nil (EJ.next ?_)
 refine CJ.seq (CJ.region ?_)
 refine OJ.st Z Z Z (SR.load Z Z (fun w' hx => ldE oU oI Z Z Z (CA.ext (hS.cells (i := 0) Z) hx) Z)) ?_
 refine OJ.pures oU 1 Z ?_
 obtain ⟨t6, ht6, H⟩ := pbind H
 refine OJ.callF rfl rfl rfl rfl rfl hb57 rfl (impl_Pasture_cells.c k _ a0 82 #[] #[.pointer (some ⟨b5, 0, none⟩)] hb82 (impl_Pasture_yard_1.f t4) (fun z0 r h w' hx => CV.cast (impl_Pasture_yard_1.c w' ⟨b5, 0, none⟩ t4 (CA.ext (hS.cells (i := 3) rfl) hx)  z0 r h) (by simp)) _ ht6) ?_
 rintro _ w1 ⟨A7, c8, rfl, hs⟩
 replace hS := hS.addN hs
 refine OJ.pures oU 1 Z (OJ.nil (EJ.next ?_))
 refine CJ.ret (?_)
 obtain rfl := Option.some.inj H
 exact EJ.fin Z (.tmp Z .nil) ⟨A7, c8, Z, hS.pick [4] [] Z⟩

def slices_Index_impl_Spot_impl_Spot.l1 (a0 : List Spot) (a1 : Spot) : Nat → Int → Option (Int ⊕ Unit)
  | 0, _ => none
  | k + 1, y2 => if y2 < (a0.length : Int) then ((getI a0 y2).bind fun t3 => if a1 = t3 then (some (Sum.inl y2)) else (slices_Index_impl_Spot_impl_Spot.l1 a0 a1 k (IntKind.i64.wrap (y2 + 1)))) else (some (Sum.inr ()))
def slices_Index_impl_Spot_impl_Spot.f (k : Nat) (a0 : List Spot) (a1 : Spot) : Option Int := (slices_Index_impl_Spot_impl_Spot.l1 a0 a1 k 0).bind fun s267 => match s267 with | .inl r => some r | .inr _ => some (-1)
theorem slices_Index_impl_Spot_impl_Spot.c (k : Nat) (w : World) (Aa0 : Option Addr) (ca0 : Nat) (a0 : List Spot) (hr0 : Rd cSpot w Aa0 a0) (hc0 : a0.length ≤ ca0) (a1 : Spot) (r : Int) (H : slices_Index_impl_Spot_impl_Spot.f k a0 a1 = some r) :
 CV Tryz.prog 83 [.slice Aa0 a0.length ca0, .agg (cSpot.enc a1).toArray].toArray w fun v w' => v = .int .i64 r ∧ Ext w w' := by
 have hS := ((St.init w no).param cSpot Aa0 ca0 a0 hr0 hc0)
 unfold slices_Index_impl_Spot_impl_Spot.f at H
 refine CV.body Tryz.func83 Z Tryz.ntmps83 Z ?_
 refine CJ.seq (CJ.region ?_)
 refine OJ.ef Z Z Z (Ef.box hS Z Z (cSpot.enc a1) Z) ?_
 rintro _ w1 ⟨b1, rfl, hS⟩
 refine OJ.pures oU 1 Z (OJ.nil (EJ.next ?_))
 refine CJ.seq ?_
 refine CJ.seq (CJ.region ?_)
 refine OJ.pures oU 3 Z (OJ.nil (EJ.next ?_))
 obtain ⟨j267, H, K267⟩ := pbind H
 refine CJ.cut1 (fun F w1 => (some (Sum.inr ()) : Option (Int ⊕ Unit)) = some j267 ∧ F = [] ∧ St w no w1 [] [roC cSpot Aa0 ca0 a0]) ?_ ?_
 ·skip
  refine CJ.block ?_
  refine CJ.loop (fun k F w1 => ∃ (y2 : Int), F = [(0, .slice Aa0 a0.length ca0), (3, .pointer (some ⟨b1, 0, none⟩)), (7, .int .i64 (a0.length : Int)), (8, .int .i64 y2)] ∧ St w no w1 [box b1 (cSpot.enc a1) 45] [roC cSpot Aa0 ca0 a0] ∧ slices_Index_impl_Spot_impl_Spot.l1 a0 a1 k y2 = some j267) k (F' := [(0, .slice Aa0 a0.length ca0), (3, .pointer (some ⟨b1, 0, none⟩)), (7, .int .i64 (a0.length : Int)), (8, .int .i64 0)]) ⟨Z, Z, Z, Z, trivial⟩ ⟨0, Z, hS.pick [0] [0] Z, H⟩ ?_
  rintro k F w1 ⟨y2, rfl, hS, H⟩
  cases k with
  | zero => rw [slices_Index_impl_Spot_impl_Spot.l1] at H; cases H
  | succ k =>
    rw [slices_Index_impl_Spot_impl_Spot.l1] at H
    refine CJ.seq (CJ.region ?_)
    refine OJ.pures oU 1 Z (OJ.nil (EJ.next ?_))
    refine CJ.seq ?_
    refine CJ.cond Z (fun hb => ?_) (fun hb => ?_)
    · replace H := pif_t (of_decide_eq_true hb) H
      refine CJ.skip (EJ.next ?_)
      refine CJ.seq ?_
      refine CJ.block ?_
      refine CJ.seq (CJ.region ?_)
      refine OJ.pures oU 2 Z (OJ.nil (EJ.next ?_))
      refine CJ.seq ?_
      refine CJ.draw [] [0, 1, 2, 3, 4, 5] mixed (by kernel_rfl) hS fun w1 hS => ?_
      refine DJ.st Z Z Z Z Z (SR.load Z Z (fun w' hx => ldE oU oI Z Z Z (CA.ext (hS.cells (i := 0) Z) hx) Z)) ?_
      refine DJ.pures oU 2 Z ?_
      obtain ⟨t3, ht3, H⟩ := pbind H
      obtain ⟨ad3, e3⟩ := (hS.rd' (i := 0) rfl).some' ht3
      refine DJ.st Z Z Z Z Z (SR.idxS oU oI Z Z Z Z e3 Z (getI_some ht3).1) ?_
      refine DJ.st Z Z Z Z Z (SR.load Z Z (fun w' hx => ldE oU oI Z Z Z (CA.ext ((hS.rd' (i := 0) Z).at_ e3 ht3) hx) Z)) ?_
      refine DJ.st Z Z Z Z Z (SR.eqS eqT45 eqG45 Z Z Z (Z : _ = (cSpot.enc a1).toArray) (Z : _ = (cSpot.enc t3).toArray)) ?_
      refine DJ.nil (EJ.next ?_)
      refine CJ.cond Z (fun hb => ?_) (fun hb => ?_)
      · replace H := pif_t (of_decide_eq_true hb) H
        refine CJ.seq (CJ.region ?_)
        refine OJ.pures oU 2 Z (OJ.nil (EJ.next ?_))
        refine CJ.ret (EJ.bkR (EJ.skR (EJ.skR (EJ.bkR (EJ.skR (EJ.skR (?_)))))))
        first | (obtain rfl := Option.some.inj H; have H := K267) | (obtain ⟨q267, H2, e267⟩ := pbind H; obtain rfl := Option.some.inj e267; obtain rfl := Option.some.inj K267; have H := H2)
        obtain rfl := Option.some.inj H
        exact EJ.fin Z (.tmp Z .nil) ⟨Z, hS.ext⟩
      · replace H := pif_f (of_decide_eq_false hb) H
        refine CJ.skip (EJ.blk (EJ.next ?_))
        refine CJ.region ?_
        refine OJ.pures oU 2 Z ?_
        refine OJ.nil ?_
        exact EJ.round k (F' := [(0, .slice Aa0 a0.length ca0), (3, .pointer (some ⟨b1, 0, none⟩)), (7, .int .i64 (a0.length : Int)), (8, .int .i64 (IntKind.i64.wrap (y2 + 1)))]) ⟨Z, Z, Z, Z, trivial⟩ (Nat.lt_succ_self _) ⟨(IntKind.i64.wrap (y2 + 1)), Z, hS.pick [0] [0] Z, H⟩
    · replace H := pif_f (of_decide_eq_false hb) H
      refine CJ.exit (EJ.skE (EJ.skE (EJ.hit (?_))))
      exact EJ.meet (F' := []) trivial ⟨H, Z, hS.pick [] [0] Z⟩
 rintro F w1 ⟨he, rfl, hS⟩
 obtain rfl := Option.some.inj he
 have H := K267
 refine EJ.next ?_
 refine CJ.seq (CJ.region ?_)
 refine OJ.pures oU 1 Z (OJ.nil (EJ.next ?_))
 refine CJ.ret (?_)
 obtain rfl := Option.some.inj H
 exact EJ.fin Z (.tmp Z .nil) ⟨Z, hS.ext⟩

def slices_Contains_impl_Spot_impl_Spot.f (k : Nat) (a0 : List Spot) (a1 : Spot) : Option Bool := (slices_Index_impl_Spot_impl_Spot.f k a0 a1).bind fun t2 => some (decide (0 ≤ t2))
theorem slices_Contains_impl_Spot_impl_Spot.c (k : Nat) (w : World) (Aa0 : Option Addr) (ca0 : Nat) (a0 : List Spot) (hr0 : Rd cSpot w Aa0 a0) (hc0 : a0.length ≤ ca0) (a1 : Spot) (r : Bool) (H : slices_Contains_impl_Spot_impl_Spot.f k a0 a1 = some r) :
 CV Tryz.prog 54 [.slice Aa0 a0.length ca0, .agg (cSpot.enc a1).toArray].toArray w fun v w' => v = .bool r ∧ Ext w w' := by
 have hS := ((St.init w no).param cSpot Aa0 ca0 a0 hr0 hc0)
 unfold slices_Contains_impl_Spot_impl_Spot.f at H
 refine CV.body Tryz.func54 Z Tryz.ntmps54 Z ?_
 refine CJ.seq (CJ.region ?_)
 refine OJ.ef Z Z Z (Ef.box hS Z Z (cSpot.enc a1) Z) ?_
 rintro _ w1 ⟨b1, rfl, hS⟩
 refine OJ.pures oU 1 Z (OJ.nil (EJ.next ?_))
 refine CJ.seq (CJ.region ?_)
 refine OJ.pures oU 1 Z ?_
 refine OJ.st Z Z Z (SR.load Z Z (fun w' hx => ldE oU oI Z Z Z (CA.ext (hS.cells (i := 0) Z) hx) Z)) ?_
 obtain ⟨t2, ht2, H⟩ := pbind H
 refine OJ.callF Z Z Z Z Z hb83 Z (slices_Index_impl_Spot_impl_Spot.c k _ Aa0 ca0 a0 (hS.rd' (i := 0) Z) (hS.le' (i := 0) Z) a1 _ ht2) ?_
 rintro _ w1 ⟨rfl, hs⟩
 replace hS := hS.grow hs
 refine OJ.pures oU 2 Z (OJ.nil (EJ.next ?_))
 refine CJ.ret (?_)
 obtain rfl := Option.some.inj H
 exact EJ.fin Z (.tmp Z .nil) ⟨Z, hS.ext⟩

def slices_SortFunc_impl_Spot_impl_Spot.f (a0 : List Spot) (a1 : Spot → Spot → Option Int) : Option (List Spot) := (chk (a0.length ≤ 4294967296 ∧ a0.all okSpot = true)).bind fun _ => some (a0.mergeSort leSpot)
theorem slices_SortFunc_impl_Spot_impl_Spot.c (w : World) (Aa0 : Option Addr) (ca0 : Nat) (a0 : List Spot) (na1 : Nat) (fsa1 capa1 : Array Value) (hb1 : hasBody Tryz.prog na1) (a1 : Spot → Spot → Option Int) (hf1 : ∀ (z0 : Spot) (z1 : Spot) (r : Int), a1 z0 z1 = some r → ∀ w', Chg (fpU [rowC cSpot Aa0 ca0 45 a0]) w w' → CV Tryz.prog na1 (fsa1 ++ [.agg (cSpot.enc z0).toArray, .agg (cSpot.enc z1).toArray].toArray ++ capa1) w' fun v w'' => v = .int .i64 r ∧ Ext w' w'') (hin : St w (fpU [rowC cSpot Aa0 ca0 45 a0]) w [rowC cSpot Aa0 ca0 45 a0] []) (r : List Spot) (H : slices_SortFunc_impl_Spot_impl_Spot.f a0 a1 = some r) (hq : na1 = 90 ∧ fsa1 = #[] ∧ capa1 = #[] := by exact ⟨rfl, rfl, rfl⟩) :
 CV Tryz.prog 89 [.slice Aa0 a0.length ca0, .func (.func na1) fsa1 capa1].toArray w fun v w' => v = .tuple #[] ∧ St w (fpU [rowC cSpot Aa0 ca0 45 a0]) w' [rowC cSpot Aa0 ca0 45 r] [] ∧ r.length = a0.length := by
 unfold slices_SortFunc_impl_Spot_impl_Spot.f at H
 obtain ⟨u, hu, H⟩ := pbind H
 obtain rfl := Option.some.inj H
 obtain ⟨rfl, rfl, rfl⟩ := hq
 obtain ⟨h1, h2⟩ := chk_some hu
 exact sortf_cv (V := fun x => okSpot x = true) leSpot (fun x hx => List.all_eq_true.1 h2 x hx) hin sortSpot_calls (fun p cap w => AnyF.slices_SortFunc_none laySortSpot p cap _ w) h1

def impl_compareSpots.f (a0 : Spot) (a1 : Spot) : Option Int := if a0.Y ≠ a1.Y then (some (IntKind.i64.wrap ((IntKind.i64.wrap a0.Y) - (IntKind.i64.wrap a1.Y)))) else (some (IntKind.i64.wrap ((IntKind.i64.wrap a0.X) - (IntKind.i64.wrap a1.X))))
theorem impl_compareSpots.c (w : World) (a0 : Spot) (a1 : Spot) (r : Int) (H : impl_compareSpots.f a0 a1 = some r) :
 CV Tryz.prog 90 [.agg (cSpot.enc a0).toArray, .agg (cSpot.enc a1).toArray].toArray w fun v w' => v = .int .i64 r ∧ Ext w w' := by
 have hS := (St.init w no)
 unfold impl_compareSpots.f at H
 refine CV.body Tryz.func90 Z Tryz.ntmps90 Z ?_
 refine CJ.seq (CJ.region ?_)
 refine OJ.ef Z Z Z (Ef.box hS Z Z (cSpot.enc a0) Z) ?_
 rintro _ w1 ⟨b1, rfl, hS⟩
 refine OJ.ef Z Z Z (Ef.box hS Z Z (cSpot.enc a1) Z) ?_
 rintro _ w1 ⟨b2, rfl, hS⟩
 refine OJ.pures oU 1 Z (OJ.nil (EJ.next ?_))
 refine CJ.seq ?_
 refine CJ.seq (CJ.region ?_)
 refine OJ.st Z Z Z (SR.fieldAddr oU oI Z Z Z Z Z Z) ?_
 refine OJ.st Z Z Z (SR.load Z Z (fun w' hx => ld1 oU Z Z (CA.ext (CA.sub (hS.cells (i := 0) Z) 1) hx) Z)) ?_
 refine OJ.st Z Z Z (SR.fieldAddr oU oI Z Z Z Z Z Z) ?_
 refine OJ.st Z Z Z (SR.load Z Z (fun w' hx => ld1 oU Z Z (CA.ext (CA.sub (hS.cells (i := 1) Z) 1) hx) Z)) ?_
 refine OJ.pures oU 1 Z (OJ.nil (EJ.next ?_))
 refine CJ.cond Z (fun hb => ?_) (fun hb => ?_)
 ·replace H := pif_t (of_decide_eq_true hb) H
  refine CJ.seq (CJ.region ?_)
  refine OJ.st Z Z Z (SR.fieldAddr oU oI Z Z Z Z Z Z) ?_
  refine OJ.st Z Z Z (SR.load Z Z (fun w' hx => ld1 oU Z Z (CA.ext (CA.sub (hS.cells (i := 0) Z) 1) hx) Z)) ?_
  refine OJ.pures oU 1 Z ?_
  refine OJ.st Z Z Z (SR.fieldAddr oU oI Z Z Z Z Z Z) ?_
  refine OJ.st Z Z Z (SR.load Z Z (fun w' hx => ld1 oU Z Z (CA.ext (CA.sub (hS.cells (i := 1) Z) 1) hx) Z)) ?_
  refine OJ.pures oU 3 Z (OJ.nil (EJ.next ?_))
  refine CJ.ret (EJ.skR (?_))
  obtain rfl := Option.some.inj H
  exact EJ.fin Z (.tmp Z .nil) ⟨Z, hS.ext⟩
 replace H := pif_f (of_decide_eq_false hb) H
 refine CJ.skip (EJ.next ?_)
 refine CJ.seq (CJ.region ?_)
 refine OJ.st Z Z Z (SR.fieldAddr oU oI Z Z Z Z Z Z) ?_
 refine OJ.st Z Z Z (SR.load Z Z (fun w' hx => ld1 oU Z Z (CA.ext (CA.sub (hS.cells (i := 0) Z) 0) hx) Z)) ?_
 refine OJ.pures oU 1 Z ?_
 refine OJ.st Z Z Z (SR.fieldAddr oU oI Z Z Z Z Z Z) ?_
 refine OJ.st Z Z Z (SR.load Z Z (fun w' hx => ld1 oU Z Z (CA.ext (CA.sub (hS.cells (i := 1) Z) 0) hx) Z)) ?_
 refine OJ.pures oU 3 Z (OJ.nil (EJ.next ?_))
 refine CJ.ret (?_)
 obtain rfl := Option.some.inj H
 exact EJ.fin Z (.tmp Z .nil) ⟨Z, hS.ext⟩

def slices_Compact_impl_Spot_impl_Spot.l1 (a0 : List Spot) : Nat → Int → Option Unit
  | 0, _ => none
  | k + 1, y1 => if y1 < (a0.length : Int) then (((getI a0 y1).bind fun t2 => (getI a0 (IntKind.i64.wrap (y1 - 1))).bind fun t3 => if t2 = t3 then none else (some ())).bind fun _ => slices_Compact_impl_Spot_impl_Spot.l1 a0 k (IntKind.i64.wrap (y1 + 1))) else (some ())
def slices_Compact_impl_Spot_impl_Spot.f (k : Nat) (a0 : List Spot) : Option (List Spot) := if (a0.length : Int) < 2 then (some a0) else ((slices_Compact_impl_Spot_impl_Spot.l1 a0 k 1).bind fun _ => some a0)
theorem slices_Compact_impl_Spot_impl_Spot.c (k : Nat) (w : World) (Aa0 : Option Addr) (ca0 : Nat) (a0 : List Spot) (hin : St w (fpU [rowC cSpot Aa0 ca0 45 a0]) w [rowC cSpot Aa0 ca0 45 a0] []) (r : List Spot) (H : slices_Compact_impl_Spot_impl_Spot.f k a0 = some r) :
 CV Tryz.prog 91 [.slice Aa0 a0.length ca0].toArray w fun v w' => ∃ (A0 : Option Addr) (c0 : Nat), v = .slice A0 r.length c0 ∧ St w (fpU [rowC cSpot Aa0 ca0 45 a0]) w' [rowC cSpot A0 c0 45 r] [] := by
 have hS := hin
 unfold slices_Compact_impl_Spot_impl_Spot.f at H
 refine CV.body Tryz.func91 Z Tryz.ntmps91 Z ?_
 refine CJ.seq (CJ.region ?_)
 refine OJ.pures oU 1 Z (OJ.nil (EJ.next ?_))
 refine CJ.seq ?_
 refine CJ.seq (CJ.region ?_)
 refine OJ.pures oU 3 Z (OJ.nil (EJ.next ?_))
 refine CJ.cond Z (fun hb => ?_) (fun hb => ?_)
 ·replace H := pif_t (of_decide_eq_true hb) H
  refine CJ.seq (CJ.region ?_)
  refine OJ.pures oU 2 Z (OJ.nil (EJ.next ?_))
  refine CJ.ret (EJ.skR (?_))
  obtain rfl := Option.some.inj H
  exact EJ.fin Z (.tmp Z .nil) ⟨Aa0, ca0, Z, hS.pick [0] [] Z⟩
 replace H := pif_f (of_decide_eq_false hb) H
 refine CJ.skip (EJ.next ?_)
 refine CJ.seq ?_
 refine CJ.seq (CJ.region ?_)
 refine OJ.pures oU 1 Z (OJ.nil (EJ.next ?_))
 obtain ⟨j268, H, K268⟩ := pbind H
 refine CJ.cut1 (fun F w1 => (some () : Option Unit) = some j268 ∧ F = [(0, .slice Aa0 a0.length ca0)] ∧ St w (fpU [rowC cSpot Aa0 ca0 45 a0]) w1 [rowC cSpot Aa0 ca0 45 a0] []) ?_ ?_
 ·skip
  refine CJ.block ?_
  refine CJ.loop (fun k F w1 => ∃ (y1 : Int), F = [(0, .slice Aa0 a0.length ca0), (3, .int .i64 y1)] ∧ St w (fpU [rowC cSpot Aa0 ca0 45 a0]) w1 [rowC cSpot Aa0 ca0 45 a0] [] ∧ slices_Compact_impl_Spot_impl_Spot.l1 a0 k y1 = some j268) k (F' := [(0, .slice Aa0 a0.length ca0), (3, .int .i64 1)]) ⟨Z, Z, trivial⟩ ⟨1, Z, hS.pick [0] [] Z, H⟩ ?_
  rintro k F w1 ⟨y1, rfl, hS, H⟩
  cases k with
  | zero => rw [slices_Compact_impl_Spot_impl_Spot.l1] at H; cases H
  | succ k =>
    rw [slices_Compact_impl_Spot_impl_Spot.l1] at H
    refine CJ.seq ?_
    refine CJ.seq (CJ.region ?_)
    refine OJ.pures oU 4 Z (OJ.nil (EJ.next ?_))
    refine CJ.cond Z (fun hb => ?_) (fun hb => ?_)
    · replace H := pif_t (of_decide_eq_true hb) H
      refine CJ.skip (EJ.next ?_)
      obtain ⟨j275, H, K275⟩ := pbind H
      refine CJ.cut (fun F w1 => (some () : Option Unit) = some j275 ∧ F = [(0, .slice Aa0 a0.length ca0), (3, .int .i64 y1)] ∧ St w (fpU [rowC cSpot Aa0 ca0 45 a0]) w1 [rowC cSpot Aa0 ca0 45 a0] []) ?_ ?_
      · skip
        refine CJ.block ?_
        refine CJ.seq ?_
        refine CJ.draw [] [0, 1, 2, 3, 4, 5, 6, 7, 8, 9] mixed (by kernel_rfl) hS fun w1 hS => ?_
        refine DJ.pures oU 2 Z ?_
        obtain ⟨t2, ht2, H⟩ := pbind H
        obtain ⟨ad2, e2⟩ := (hS.rd (i := 0) rfl).some' ht2
        refine DJ.st Z Z Z Z Z (SR.idxS oU oI Z Z Z Z e2 Z (getI_some ht2).1) ?_
        refine DJ.st Z Z Z Z Z (SR.load Z Z (fun w' hx => ldE oU oI Z Z Z (CA.ext ((hS.rd (i := 0) Z).at_ e2 ht2) hx) Z)) ?_
        refine DJ.pures oU 3 Z ?_
        obtain ⟨t3, ht3, H⟩ := pbind H
        obtain ⟨ad3, e3⟩ := (hS.rd (i := 0) rfl).some' ht3
        refine DJ.st Z Z Z Z Z (SR.idxS oU oI Z Z Z Z e3 Z (getI_some ht3).1) ?_
        refine DJ.st Z Z Z Z Z (SR.load Z Z (fun w' hx => ldE oU oI Z Z Z (CA.ext ((hS.rd (i := 0) Z).at_ e3 ht3) hx) Z)) ?_
        refine DJ.st Z Z Z Z Z (SR.eqS eqT45 eqG45 Z Z Z (Z : _ = (cSpot.enc t2).toArray) (Z : _ = (cSpot.enc t3).toArray)) ?_
        refine DJ.nil (EJ.next ?_)
        refine CJ.cond Z (fun hb => ?_) (fun hb => ?_)
        · replace H := pif_t (of_decide_eq_true hb) H
          cases H
        · replace H := pif_f (of_decide_eq_false hb) H
          refine CJ.skip (EJ.blk (?_))
          exact EJ.meet (F' := [(0, .slice Aa0 a0.length ca0), (3, .int .i64 y1)]) ⟨Z, Z, trivial⟩ ⟨H, Z, hS.pick [0] [] Z⟩
      · rintro F w1 ⟨he, rfl, hS⟩
        obtain rfl := Option.some.inj he
        have H := K275
        refine CJ.region ?_
        refine OJ.pures oU 3 Z ?_
        refine OJ.nil ?_
        exact EJ.round k (F' := [(0, .slice Aa0 a0.length ca0), (3, .int .i64 (IntKind.i64.wrap (y1 + 1)))]) ⟨Z, Z, trivial⟩ (Nat.lt_succ_self _) ⟨(IntKind.i64.wrap (y1 + 1)), Z, hS.pick [0] [] Z, H⟩
    · replace H := pif_f (of_decide_eq_false hb) H
      refine CJ.exit (EJ.skE (EJ.skE (EJ.hit (?_))))
      exact EJ.meet (F' := [(0, .slice Aa0 a0.length ca0)]) ⟨Z, trivial⟩ ⟨H, Z, hS.pick [0] [] Z⟩
 rintro F w1 ⟨he, rfl, hS⟩
 obtain rfl := Option.some.inj he
 have H := K268
 refine EJ.next ?_
 refine CJ.seq (CJ.region ?_)
 refine OJ.pures oU 2 Z (OJ.nil (EJ.next ?_))
 refine CJ.ret (?_)
 obtain rfl := Option.some.inj H
 exact EJ.fin Z (.tmp Z .nil) ⟨Aa0, ca0, Z, hS.pick [0] [] Z⟩

def impl_ordered.f (k : Nat) (a0 : List Spot) : Option (List Spot) := (slices_Clone_impl_Spot_impl_Spot.f a0).bind fun t1 => (slices_SortFunc_impl_Spot_impl_Spot.f t1 impl_compareSpots.f).bind fun t4 => (slices_Compact_impl_Spot_impl_Spot.f k t4).bind fun t5 => some t5
theorem impl_ordered.c (k : Nat) (w : World) (Aa0 : Option Addr) (ca0 : Nat) (a0 : List Spot) (hr0 : Rd cSpot w Aa0 a0) (hc0 : a0.length ≤ ca0) (r : List Spot) (H : impl_ordered.f k a0 = some r) :
 CV Tryz.prog 84 [.slice Aa0 a0.length ca0].toArray w fun v w' => ∃ (A0 : Option Addr) (c0 : Nat), v = .slice A0 r.length c0 ∧ St w no w' [rowC cSpot A0 c0 45 r] [] := by
 have hS := ((St.init w no).param cSpot Aa0 ca0 a0 hr0 hc0)
 unfold impl_ordered.f at H
 refine CV.body Tryz.func84 Z Tryz.ntmps84 Z ?_
 refine CJ.seq (CJ.region ?_)
 refine OJ.pures oU 1 Z (OJ.nil (EJ.next ?_))
 refine CJ.seq (CJ.region ?_)
 refine OJ.pures oU 1 Z ?_
 obtain ⟨t1, ht1, H⟩ := pbind H
 refine OJ.callF Z Z Z Z Z hb55 Z (slices_Clone_impl_Spot_impl_Spot.c _ Aa0 ca0 a0 (hS.rd' (i := 0) Z) (hS.le' (i := 0) Z) _ ht1) ?_
 rintro _ w1 ⟨A2, c3, rfl, hs⟩
 replace hS := hS.addN hs
 refine OJ.pures oU 1 Z (OJ.nil (EJ.next ?_))
 refine CJ.seq (CJ.region ?_)
 refine OJ.pures oU 1 Z ?_
 obtain ⟨t4, ht4, H⟩ := pbind H
 refine OJ.callF rfl rfl rfl rfl rfl hb89 rfl (slices_SortFunc_impl_Spot_impl_Spot.c _ A2 c3 t1 90 #[] #[] hb90 impl_compareSpots.f (fun z0 z1 r h w' hx => CV.cast (impl_compareSpots.c w'   z0 z1 r h) (by simp)) ((hS.subs [0] [] [] rfl).pick [0] [] rfl) _ ht4) ?_
 rintro _ w1 ⟨rfl, hs, hlc0⟩
 replace hS := hS.back [0] Z Z [rowC cSpot A2 c3 45 t4] [] hs ⟨fun _ => Iff.rfl, trivial⟩
 refine OJ.as (t := 5) rfl (show _ = (.slice A2 t4.length c3 : Value) by simp only [hlc0]) ?_
 refine OJ.as (t := 3) rfl (show _ = (.slice A2 t4.length c3 : Value) by simp only [hlc0]) ?_
 refine OJ.as (t := 6) rfl (show _ = (.slice A2 t4.length c3 : Value) by simp only [hlc0]) ?_
 refine OJ.nil (EJ.next ?_)
 refine CJ.seq (CJ.region ?_)
 refine OJ.pures oU 1 Z ?_
 obtain ⟨t5, ht5, H⟩ := pbind H
 refine OJ.callF Z Z Z Z Z hb91 Z (slices_Compact_impl_Spot_impl_Spot.c k _ A2 c3 t4 ((hS.subs [0] [] [] Z).pick [0] [] Z) _ ht5) ?_
 rintro _ w1 ⟨A6, c7, rfl, hs⟩
 replace hS := hS.back' [] [0] rfl rfl [] [rowC cSpot A6 c7 45 t5] [] hs trivial (fun _ h => by cases h) (.inr rfl)
 refine OJ.pures oU 1 Z (OJ.nil (EJ.next ?_))
 refine CJ.ret (?_)
 obtain rfl := Option.some.inj H
 exact EJ.fin Z (.tmp Z .nil) ⟨A6, c7, Z, hS.pick [1] [] Z⟩

def impl_Pasture_sidesOf.l2 (a0 : Pasture) (a1 : List Spot) (t16 : Spot) : Nat → (List Hurdle) → Int → Option (List Hurdle)
  | 0, _, _ => none
  | k + 1, y21, y24 => if y24 < 4 then ((impl_Spot_ahead.f t16 y24).bind fun t25 => ((impl_Pasture_isCell.f a0 t25).bind fun t28 => if t28 = true then ((slices_Contains_impl_Spot_impl_Spot.f k a1 t25).bind fun t29 => some (!t29)) else (some false)).bind fun y27 => if y27 = true then ((impl_hurdleAt.f t16 y24).bind fun t30 => (chk (y21.length + ([t30] : List Hurdle).length ≤ 4294967296)).bind fun u32 => impl_Pasture_sidesOf.l2 a0 a1 t16 k (y21 ++ ([t30] : List Hurdle)) (IntKind.i64.wrap (y24 + 1))) else (impl_Pasture_sidesOf.l2 a0 a1 t16 k y21 (IntKind.i64.wrap (y24 + 1)))) else (some y21)
def impl_Pasture_sidesOf.l1 (a0 : Pasture) (a1 : List Spot) (t3 : List Spot) : Nat → (List Hurdle) → Int → Option (List Hurdle)
  | 0, _, _ => none
  | k + 1, y9, y12 => if y12 < (t3.length : Int) then (((getI t3 y12).bind fun t16 => (impl_Pasture_sidesOf.l2 a0 a1 t16 k y9 0).bind fun y18 => some y18).bind fun y13 => impl_Pasture_sidesOf.l1 a0 a1 t3 k y13 (IntKind.i64.wrap (y12 + 1))) else (some y9)
def impl_Pasture_sidesOf.f (k : Nat) (a0 : Pasture) (a1 : List Spot) : Option (List Hurdle) := (impl_ordered.f k a1).bind fun t3 => (impl_Pasture_sidesOf.l1 a0 a1 t3 k ([] : List Hurdle) 0).bind fun y6 => some y6
theorem impl_Pasture_sidesOf.c (k : Nat) (w : World) (a0 : Pasture) (Aa1 : Option Addr) (ca1 : Nat) (a1 : List Spot) (hr1 : Rd cSpot w Aa1 a1) (hc1 : a1.length ≤ ca1) (r : List Hurdle) (H : impl_Pasture_sidesOf.f k a0 a1 = some r) :
 CV Tryz.prog 56 [.agg (cPasture.enc a0).toArray, .slice Aa1 a1.length ca1].toArray w fun v w' => ∃ (A0 : Option Addr) (c0 : Nat), v = .slice A0 r.length c0 ∧ St w no w' [rowC cHurdle A0 c0 48 r] [] := by
 have hS := ((St.init w no).param cSpot Aa1 ca1 a1 hr1 hc1)
 unfold impl_Pasture_sidesOf.f at H
 refine CV.body Tryz.func56 Z Tryz.ntmps56 Z ?_
 refine CJ.seq (CJ.region ?_)
 refine OJ.ef Z Z Z (Ef.box hS Z Z (cPasture.enc a0) Z) ?_
 rintro _ w1 ⟨b1, rfl, hS⟩
 refine OJ.pures oU 1 Z (OJ.nil (EJ.next ?_))
 refine CJ.seq (CJ.region ?_)
 refine OJ.ef Z Z Z (Ef.lit oU oI hS (C := cHurdle) Z Z Z Z Z Z ([] : List Hurdle) Z Z Z Z) ?_
 rintro _ w1 ⟨A2, rfl, hS⟩
 refine OJ.pures oU 1 Z (OJ.nil (EJ.next ?_))
 refine CJ.seq ?_
 refine CJ.seq (CJ.region ?_)
 refine OJ.pures oU 1 Z ?_
 obtain ⟨t3, ht3, H⟩ := pbind H
 refine OJ.callF Z Z Z Z Z hb84 Z (impl_ordered.c k _ Aa1 ca1 a1 (hS.rd' (i := 0) Z) (hS.le' (i := 0) Z) _ ht3) ?_
 rintro _ w1 ⟨A4, c5, rfl, hs⟩
 replace hS := hS.addN hs
 refine OJ.pures oU 2 Z (OJ.nil (EJ.next ?_))
 obtain ⟨j278, H, K278⟩ := pbind H
 refine CJ.cut1 (fun F w1 => ∃ (y6 : List Hurdle) (A7 : Option Addr) (c8 : Nat), (some y6 : Option (List Hurdle)) = some j278 ∧ F = [(5, .slice A7 y6.length c8)] ∧ St w no w1 [rowC cHurdle A7 c8 48 y6] [roC cSpot Aa1 ca1 a1]) ?_ ?_
 ·skip
  refine CJ.block ?_
  refine CJ.loop (fun k F w1 => ∃ (y9 : List Hurdle) (y12 : Int) (A10 : Option Addr) (c11 : Nat), F = [(1, .slice Aa1 a1.length ca1), (2, .pointer (some ⟨b1, 0, none⟩)), (5, .slice A10 y9.length c11), (12, .slice A4 t3.length c5), (13, .int .i64 (t3.length : Int)), (14, .int .i64 y12)] ∧ St w no w1 [box b1 (cPasture.enc a0) 31, rowC cHurdle A10 c11 48 y9, rowC cSpot A4 c5 45 t3] [roC cSpot Aa1 ca1 a1] ∧ impl_Pasture_sidesOf.l1 a0 a1 t3 k y9 y12 = some j278) k (F' := [(1, .slice Aa1 a1.length ca1), (2, .pointer (some ⟨b1, 0, none⟩)), (5, .slice A2 ([] : List Hurdle).length (([] : List Hurdle).length)), (12, .slice A4 t3.length c5), (13, .int .i64 (t3.length : Int)), (14, .int .i64 0)]) ⟨Z, Z, Z, Z, Z, Z, trivial⟩ ⟨([] : List Hurdle), 0, A2, (([] : List Hurdle).length), Z, hS.pick [0, 1, 2] [0] Z, H⟩ ?_
  rintro k F w1 ⟨y9, y12, A10, c11, rfl, hS, H⟩
  cases k with
  | zero => rw [impl_Pasture_sidesOf.l1] at H; cases H
  | succ k =>
    rw [impl_Pasture_sidesOf.l1] at H
    refine CJ.seq (CJ.region ?_)
    refine OJ.pures oU 1 Z (OJ.nil (EJ.next ?_))
    refine CJ.seq ?_
    refine CJ.cond Z (fun hb => ?_) (fun hb => ?_)
    · replace H := pif_t (of_decide_eq_true hb) H
      refine CJ.skip (EJ.next ?_)
      obtain ⟨j297, H, K297⟩ := pbind H
      refine CJ.cut (fun F w1 => ∃ (y13 : List Hurdle) (A14 : Option Addr) (c15 : Nat), (some y13 : Option (List Hurdle)) = some j297 ∧ F = [(1, .slice Aa1 a1.length ca1), (2, .pointer (some ⟨b1, 0, none⟩)), (5, .slice A14 y13.length c15), (12, .slice A4 t3.length c5), (13, .int .i64 (t3.length : Int)), (14, .int .i64 y12)] ∧ St w no w1 [box b1 (cPasture.enc a0) 31, rowC cHurdle A14 c15 48 y13, rowC cSpot A4 c5 45 t3] [roC cSpot Aa1 ca1 a1]) ?_ ?_
      · skip
        refine CJ.block ?_
        refine CJ.seq (CJ.region ?_)
        obtain ⟨t16, ht16, H⟩ := pbind H
        obtain ⟨ad16, e16⟩ := (hS.rd (i := 2) rfl).some' ht16
        refine OJ.st Z Z Z (SR.idxS oU oI Z Z Z Z e16 Z (getI_some ht16).1) ?_
        refine OJ.st Z Z Z (SR.load Z Z (fun w' hx => ldE oU oI Z Z Z (CA.ext ((hS.rd (i := 2) Z).at_ e16 ht16) hx) Z)) ?_
        refine OJ.ef Z Z Z (Ef.alloc hS oI Z Z (cSpot.enc (⟨0, 0⟩ : Spot)) Z) ?_
        rintro _ w1 ⟨b17, rfl, hS⟩
        refine OJ.es Z Z (Es.store oI hS (i := 3) Z Z Z Z Z Z (vs := cSpot.enc t16) Z (cSpot.len _) (cSpot.one _) (Nat.le_of_ble_eq_true Z) (cSpot.enc t16) Z) ?_
        intro w1 hS
        refine OJ.nil (EJ.next ?_)
        refine CJ.seq (CJ.region ?_)
        refine OJ.pures oU 1 Z (OJ.nil (EJ.next ?_))
        obtain ⟨j302, H, K302⟩ := pbind H
        refine CJ.cut1 (fun F w1 => ∃ (y18 : List Hurdle) (A19 : Option Addr) (c20 : Nat), (some y18 : Option (List Hurdle)) = some j302 ∧ F = [(1, .slice Aa1 a1.length ca1), (2, .pointer (some ⟨b1, 0, none⟩)), (5, .slice A19 y18.length c20), (12, .slice A4 t3.length c5), (13, .int .i64 (t3.length : Int)), (14, .int .i64 y12)] ∧ St w no w1 [box b1 (cPasture.enc a0) 31, rowC cHurdle A19 c20 48 y18, rowC cSpot A4 c5 45 t3] [roC cSpot Aa1 ca1 a1]) ?_ ?_
        · skip
          refine CJ.block ?_
          refine CJ.loop (fun k F w1 => ∃ (y21 : List Hurdle) (y24 : Int) (A22 : Option Addr) (c23 : Nat), F = [(1, .slice Aa1 a1.length ca1), (2, .pointer (some ⟨b1, 0, none⟩)), (5, .slice A22 y21.length c23), (7, .pointer (some ⟨b17, 0, none⟩)), (12, .slice A4 t3.length c5), (13, .int .i64 (t3.length : Int)), (14, .int .i64 y12), (18, .int .i64 y24)] ∧ St w no w1 [box b1 (cPasture.enc a0) 31, rowC cHurdle A22 c23 48 y21, rowC cSpot A4 c5 45 t3, box b17 (cSpot.enc t16) 45] [roC cSpot Aa1 ca1 a1] ∧ impl_Pasture_sidesOf.l2 a0 a1 t16 k y21 y24 = some j302) k (F' := [(1, .slice Aa1 a1.length ca1), (2, .pointer (some ⟨b1, 0, none⟩)), (5, .slice A10 y9.length c11), (7, .pointer (some ⟨b17, 0, none⟩)), (12, .slice A4 t3.length c5), (13, .int .i64 (t3.length : Int)), (14, .int .i64 y12), (18, .int .i64 0)]) ⟨Z, Z, Z, Z, Z, Z, Z, Z, trivial⟩ ⟨y9, 0, A10, c11, Z, hS.pick [0, 1, 2, 3] [0] Z, H⟩ ?_
          rintro k F w1 ⟨y21, y24, A22, c23, rfl, hS, H⟩
          cases k with
          | zero => rw [impl_Pasture_sidesOf.l2] at H; cases H
          | succ k =>
            rw [impl_Pasture_sidesOf.l2] at H
            refine CJ.seq (CJ.region ?_)
            refine OJ.pures oU 1 Z (OJ.nil (EJ.next ?_))
            refine CJ.seq ?_
            refine CJ.cond Z (fun hb => ?_) (fun hb => ?_)
            · replace H := pif_t (of_decide_eq_true hb) H
              refine CJ.skip (EJ.next ?_)
              refine CJ.seq ?_
              refine CJ.block ?_
              refine CJ.seq (CJ.region ?_)
              refine OJ.pures oU 2 Z (OJ.nil (EJ.next ?_))
              refine CJ.seq (CJ.region ?_)
              refine OJ.st Z Z Z (SR.load Z Z (fun w' hx => ldE oU oI Z Z Z (CA.ext (hS.cells (i := 3) Z) hx) Z)) ?_
              refine OJ.pures oU 1 Z ?_
              obtain ⟨t25, ht25, H⟩ := pbind H
              refine OJ.callF Z Z Z Z Z hb69 Z (impl_Spot_ahead.c _ t16 y24 _ ht25) ?_
              rintro _ w1 ⟨rfl, hs⟩
              replace hS := hS.grow hs
              refine OJ.ef Z Z Z (Ef.alloc hS oI Z Z (cSpot.enc (⟨0, 0⟩ : Spot)) Z) ?_
              rintro _ w1 ⟨b26, rfl, hS⟩
              refine OJ.es Z Z (Es.store oI hS (i := 4) Z Z Z Z Z Z (vs := cSpot.enc t25) Z (cSpot.len _) (cSpot.one _) (Nat.le_of_ble_eq_true Z) (cSpot.enc t25) Z) ?_
              intro w1 hS
              refine OJ.nil (EJ.next ?_)
              obtain ⟨j305, H, K305⟩ := pbind H
              refine CJ.cut (fun F w1 => ∃ (y27 : Bool) , (some y27 : Option Bool) = some j305 ∧ F = [(1, .slice Aa1 a1.length ca1), (2, .pointer (some ⟨b1, 0, none⟩)), (5, .slice A22 y21.length c23), (7, .pointer (some ⟨b17, 0, none⟩)), (8, .int .i64 y24), (12, .slice A4 t3.length c5), (13, .int .i64 (t3.length : Int)), (14, .int .i64 y12), (18, .int .i64 y24), (32, .bool y27)] ∧ St w no w1 [box b1 (cPasture.enc a0) 31, rowC cHurdle A22 c23 48 y21, rowC cSpot A4 c5 45 t3, box b17 (cSpot.enc t16) 45] [roC cSpot Aa1 ca1 a1]) ?_ ?_
              · skip
                refine CJ.region ?_
                refine OJ.st Z Z Z (SR.load Z Z (fun w' hx => ldE oU oI Z Z Z (CA.ext (hS.cells (i := 0) Z) hx) Z)) ?_
                refine OJ.st Z Z Z (SR.load Z Z (fun w' hx => ldE oU oI Z Z Z (CA.ext (hS.cells (i := 4) Z) hx) Z)) ?_
                obtain ⟨t28, ht28, H⟩ := pbind H
                refine OJ.callF Z Z Z Z Z hb67 Z (impl_Pasture_isCell.c _ a0 t25 _ ht28) ?_
                rintro _ w1 ⟨rfl, hs⟩
                replace hS := hS.grow hs
                refine OJ.pures oU 1 Z ?_
                refine OJ.split (t := 27) Z (fun hb => ?_) (fun hb => ?_)
                · replace H := pif_t hb H
                  refine OJ.pures oU 1 Z ?_
                  refine OJ.st Z Z Z (SR.load Z Z (fun w' hx => ldE oU oI Z Z Z (CA.ext (hS.cells (i := 4) Z) hx) Z)) ?_
                  obtain ⟨t29, ht29, H⟩ := pbind H
                  refine OJ.callF Z Z Z Z Z hb54 Z (slices_Contains_impl_Spot_impl_Spot.c k _ Aa1 ca1 a1 (hS.rd' (i := 0) Z) (hS.le' (i := 0) Z) t25 _ ht29) ?_
                  rintro _ w1 ⟨rfl, hs⟩
                  replace hS := hS.grow hs
                  refine OJ.pures oU 2 Z ?_
                  refine OJ.nil ?_
                  exact EJ.meet (F' := [(1, .slice Aa1 a1.length ca1), (2, .pointer (some ⟨b1, 0, none⟩)), (5, .slice A22 y21.length c23), (7, .pointer (some ⟨b17, 0, none⟩)), (8, .int .i64 y24), (12, .slice A4 t3.length c5), (13, .int .i64 (t3.length : Int)), (14, .int .i64 y12), (18, .int .i64 y24), (32, .bool (!t29))]) ⟨Z, Z, Z, Z, Z, Z, Z, Z, Z, Z, trivial⟩ ⟨(!t29), H, Z, hS.pick [0, 1, 2, 3] [0] Z⟩
                · replace H := pifb_f hb H
                  refine OJ.pures oU 5 Z ?_
                  refine OJ.nil ?_
                  exact EJ.meet (F' := [(1, .slice Aa1 a1.length ca1), (2, .pointer (some ⟨b1, 0, none⟩)), (5, .slice A22 y21.length c23), (7, .pointer (some ⟨b17, 0, none⟩)), (8, .int .i64 y24), (12, .slice A4 t3.length c5), (13, .int .i64 (t3.length : Int)), (14, .int .i64 y12), (18, .int .i64 y24), (32, .bool false)]) ⟨Z, Z, Z, Z, Z, Z, Z, Z, Z, Z, trivial⟩ ⟨false, H, Z, hS.pick [0, 1, 2, 3] [0] Z⟩
              · rintro F w1 ⟨y27, he, rfl, hS⟩
                obtain rfl := Option.some.inj he
                have H := K305
                refine CJ.cond Z (fun hb => ?_) (fun hb => ?_)
                · replace H := pif_t hb H
                  refine CJ.region ?_
                  refine OJ.pures oU 1 Z ?_
                  refine OJ.st Z Z Z (SR.load Z Z (fun w' hx => ldE oU oI Z Z Z (CA.ext (hS.cells (i := 3) Z) hx) Z)) ?_
                  refine OJ.pures oU 1 Z ?_
                  obtain ⟨t30, ht30, H⟩ := pbind H
                  refine OJ.callF Z Z Z Z Z hb85 Z (impl_hurdleAt.c _ t16 y24 _ ht30) ?_
                  rintro _ w1 ⟨rfl, hs⟩
                  replace hS := hS.grow hs
                  refine OJ.ef Z Z Z (Ef.lit oU oI hS (C := cHurdle) Z Z Z Z Z Z ([t30] : List Hurdle) Z Z Z Z) ?_
                  rintro _ w1 ⟨A31, rfl, hS⟩
                  obtain ⟨u32, hu32, H⟩ := pbind H
                  refine OJ.ew Z Z Z (Ew.append oU oI (C := cHurdle) (xs := y21) (ys := ([t30] : List Hurdle)) hS (i := 1) Z Z Z Z Z Z Z Z Z Z Z Z Z (hS.rd (i := 4) Z) (chk_some hu32)) ?_
                  rintro _ w1 ⟨A33, c34, rfl, hS⟩
                  refine OJ.pures oU 1 Z ?_
                  refine OJ.nil (EJ.blk (EJ.next ?_))
                  refine CJ.region ?_
                  refine OJ.pures oU 2 Z ?_
                  refine OJ.nil ?_
                  exact EJ.round k (F' := [(1, .slice Aa1 a1.length ca1), (2, .pointer (some ⟨b1, 0, none⟩)), (5, .slice A33 (y21 ++ ([t30] : List Hurdle)).length c34), (7, .pointer (some ⟨b17, 0, none⟩)), (12, .slice A4 t3.length c5), (13, .int .i64 (t3.length : Int)), (14, .int .i64 y12), (18, .int .i64 (IntKind.i64.wrap (y24 + 1)))]) ⟨Z, Z, Z, Z, Z, Z, Z, Z, trivial⟩ (Nat.lt_succ_self _) ⟨(y21 ++ ([t30] : List Hurdle)), (IntKind.i64.wrap (y24 + 1)), A33, c34, Z, hS.pick [0, 1, 2, 3] [0] Z, H⟩
                · replace H := pifb_f hb H
                  refine CJ.skip (EJ.blk (EJ.next ?_))
                  refine CJ.region ?_
                  refine OJ.pures oU 2 Z ?_
                  refine OJ.nil ?_
                  exact EJ.round k (F' := [(1, .slice Aa1 a1.length ca1), (2, .pointer (some ⟨b1, 0, none⟩)), (5, .slice A22 y21.length c23), (7, .pointer (some ⟨b17, 0, none⟩)), (12, .slice A4 t3.length c5), (13, .int .i64 (t3.length : Int)), (14, .int .i64 y12), (18, .int .i64 (IntKind.i64.wrap (y24 + 1)))]) ⟨Z, Z, Z, Z, Z, Z, Z, Z, trivial⟩ (Nat.lt_succ_self _) ⟨y21, (IntKind.i64.wrap (y24 + 1)), A22, c23, Z, hS.pick [0, 1, 2, 3] [0] Z, H⟩
            · replace H := pif_f (of_decide_eq_false hb) H
              refine CJ.exit (EJ.skE (EJ.skE (EJ.hit (?_))))
              exact EJ.meet (F' := [(1, .slice Aa1 a1.length ca1), (2, .pointer (some ⟨b1, 0, none⟩)), (5, .slice A22 y21.length c23), (12, .slice A4 t3.length c5), (13, .int .i64 (t3.length : Int)), (14, .int .i64 y12)]) ⟨Z, Z, Z, Z, Z, Z, trivial⟩ ⟨y21, A22, c23, H, Z, hS.pick [0, 1, 2] [0] Z⟩
        · rintro F w1 ⟨y18, A19, c20, he, rfl, hS⟩
          obtain rfl := Option.some.inj he
          have H := K302
          refine EJ.blk (?_)
          exact EJ.meet (F' := [(1, .slice Aa1 a1.length ca1), (2, .pointer (some ⟨b1, 0, none⟩)), (5, .slice A19 y18.length c20), (12, .slice A4 t3.length c5), (13, .int .i64 (t3.length : Int)), (14, .int .i64 y12)]) ⟨Z, Z, Z, Z, Z, Z, trivial⟩ ⟨y18, A19, c20, H, Z, hS.pick [0, 1, 2] [0] Z⟩
      · rintro F w1 ⟨y13, A14, c15, he, rfl, hS⟩
        obtain rfl := Option.some.inj he
        have H := K297
        refine CJ.region ?_
        refine OJ.pures oU 2 Z ?_
        refine OJ.nil ?_
        exact EJ.round k (F' := [(1, .slice Aa1 a1.length ca1), (2, .pointer (some ⟨b1, 0, none⟩)), (5, .slice A14 y13.length c15), (12, .slice A4 t3.length c5), (13, .int .i64 (t3.length : Int)), (14, .int .i64 (IntKind.i64.wrap (y12 + 1)))]) ⟨Z, Z, Z, Z, Z, Z, trivial⟩ (Nat.lt_succ_self _) ⟨y13, (IntKind.i64.wrap (y12 + 1)), A14, c15, Z, hS.pick [0, 1, 2] [0] Z, H⟩
    · replace H := pif_f (of_decide_eq_false hb) H
      refine CJ.exit (EJ.skE (EJ.skE (EJ.hit (?_))))
      exact EJ.meet (F' := [(5, .slice A10 y9.length c11)]) ⟨Z, trivial⟩ ⟨y9, A10, c11, H, Z, hS.pick [1] [0] Z⟩
 rintro F w1 ⟨y6, A7, c8, he, rfl, hS⟩
 obtain rfl := Option.some.inj he
 have H := K278
 refine EJ.next ?_
 refine CJ.seq (CJ.region ?_)
 refine OJ.pures oU 2 Z (OJ.nil (EJ.next ?_))
 refine CJ.ret (?_)
 obtain rfl := Option.some.inj H
 exact EJ.fin Z (.tmp Z .nil) ⟨A7, c8, Z, hS.pick [0] [] Z⟩

def impl_GatesNeeded_1.f (a1 : Arr 10 (Arr 10 Int)) (a0 : Spot) : Option Bool := (impl_steps_at.f a1 a0).bind fun t2 => some (decide (0 ≤ t2))
theorem impl_GatesNeeded_1.c (w : World) (pa1 : Addr) (a1 : Arr 10 (Arr 10 Int)) (hp1 : CA w pa1 ((carr 10 (carr 10 (ci .i16))).enc a1)) (a0 : Spot) (r : Bool) (H : impl_GatesNeeded_1.f a1 a0 = some r) :
 CV Tryz.prog 58 [.agg (cSpot.enc a0).toArray, .pointer (some pa1)].toArray w fun v w' => v = .bool r ∧ Ext w w' := by
 have hS := ((St.init w no).paramP pa1 ((carr 10 (carr 10 (ci .i16))).enc a1) hp1)
 unfold impl_GatesNeeded_1.f at H
 refine CV.body Tryz.func58 Z Tryz.ntmps58 Z ?_
 refine CJ.seq (CJ.region ?_)
 refine OJ.ef Z Z Z (Ef.box hS Z Z (cSpot.enc a0) Z) ?_
 rintro _ w1 ⟨b1, rfl, hS⟩
 refine OJ.pures oU 1 Z (OJ.nil (EJ.next ?_))
 refine CJ.seq (CJ.region ?_)
 refine OJ.st Z Z Z (SR.load Z Z (fun w' hx => ldE oU oI Z Z Z (CA.ext (hS.cells (i := 0) Z) hx) Z)) ?_
 obtain ⟨t2, ht2, H⟩ := pbind H
 refine OJ.callF Z Z Z Z Z hb32 Z (impl_steps_at.c _ _ a1 (hS.ca (i := 0) Z) a0 _ ht2) ?_
 rintro _ w1 ⟨rfl, hs⟩
 replace hS := hS.grow hs
 refine OJ.pures oU 2 Z (OJ.nil (EJ.next ?_))
 refine CJ.ret (?_)
 obtain rfl := Option.some.inj H
 exact EJ.fin Z (.tmp Z .nil) ⟨Z, hS.ext⟩

def impl_GatesNeeded.l2 (t20 : List Hurdle) : Nat → (List Spot) → Int → Option (List Spot)
  | 0, _, _ => none
  | k + 1, y26, y29 => if y29 < (t20.length : Int) then ((getI t20 y29).bind fun t30 => (impl_Hurdle_other.f t30).bind fun t32 => (chk (y26.length + ([t30.At, t32] : List Spot).length ≤ 4294967296)).bind fun u34 => impl_GatesNeeded.l2 t20 k (y26 ++ ([t30.At, t32] : List Spot)) (IntKind.i64.wrap (y29 + 1))) else (some y26)
def impl_GatesNeeded.l1 (a0 : Pasture) (a2 : Spot) : Nat → (List Spot) → Int → Option ((Int × Int) ⊕ Unit)
  | 0, _, _ => none
  | k + 1, y9, y12 => ((slices_Contains_impl_Spot_impl_Spot.f k y9 a2).bind fun t16 => if t16 = true then (some (Sum.inl (Sum.inl (y12, 0)))) else ((slices_Clone_impl_Spot_impl_Spot.f y9).bind fun t17 => (impl_Pasture_sidesOf.f k a0 y9).bind fun t20 => (impl_GatesNeeded.l2 t20 k t17 0).bind fun y23 => (impl_Pasture_far.f k a0 y23).bind fun t37 => (impl_Pasture_cells.f k a0 (impl_GatesNeeded_1.f t37)).bind fun t39 => some (Sum.inr t39))).bind fun s311 => match s311 with | .inl r => some r | .inr y13 => impl_GatesNeeded.l1 a0 a2 k y13 (IntKind.i64.wrap (y12 + 1))
def impl_GatesNeeded.f (k : Nat) (a0 : Pasture) (a1 : Spot) (a2 : Spot) : Option (Int × Int) := (impl_cellCode.f k a0 ([a1, a2] : List Spot)).bind fun t5 => if t5 ≠ 0 then (some (0, t5)) else ((impl_Pasture_yard.f k a0 a1).bind fun t6 => (impl_GatesNeeded.l1 a0 a2 k t6 0).bind fun s265 => match s265 with | .inl r => some r | .inr _ => none)
theorem impl_GatesNeeded.c (k : Nat) (w : World) (a0 : Pasture) (a1 : Spot) (a2 : Spot) (r : Int × Int) (H : impl_GatesNeeded.f k a0 a1 a2 = some r) :
 CV Tryz.prog 20 [.agg (cPasture.enc a0).toArray, .agg (cSpot.enc a1).toArray, .agg (cSpot.enc a2).toArray].toArray w fun v w' => v = .tuple #[.int .i64 r.1, .int .i64 r.2] ∧ Ext w w' := by
 have hS := (St.init w no)
 unfold impl_GatesNeeded.f at H
 refine CV.body Tryz.func20 Z Tryz.ntmps20 Z ?_
 refine CJ.seq (CJ.region ?_)
 refine OJ.ef Z Z Z (Ef.box hS Z Z (cPasture.enc a0) Z) ?_
 rintro _ w1 ⟨b1, rfl, hS⟩
 refine OJ.ef Z Z Z (Ef.box hS Z Z (cSpot.enc a1) Z) ?_
 rintro _ w1 ⟨b2, rfl, hS⟩
 refine OJ.ef Z Z Z (Ef.box hS Z Z (cSpot.enc a2) Z) ?_
 rintro _ w1 ⟨b3, rfl, hS⟩
 refine OJ.pures oU 2 Z (OJ.nil (EJ.next ?_))
 refine CJ.seq ?_
 refine CJ.seq (CJ.region ?_)
 refine OJ.st Z Z Z (SR.load Z Z (fun w' hx => ldE oU oI Z Z Z (CA.ext (hS.cells (i := 0) Z) hx) Z)) ?_
 refine OJ.st Z Z Z (SR.load Z Z (fun w' hx => ldE oU oI Z Z Z (CA.ext (hS.cells (i := 1) Z) hx) Z)) ?_
 refine OJ.st Z Z Z (SR.load Z Z (fun w' hx => ldE oU oI Z Z Z (CA.ext (hS.cells (i := 2) Z) hx) Z)) ?_
 refine OJ.ef Z Z Z (Ef.lit oU oI hS (C := cSpot) Z Z Z Z Z Z ([a1, a2] : List Spot) Z Z Z Z) ?_
 rintro _ w1 ⟨A4, rfl, hS⟩
 obtain ⟨t5, ht5, H⟩ := pbind H
 refine OJ.callF Z Z Z Z Z hb52 Z (impl_cellCode.c k _ a0 A4 (([a1, a2] : List Spot).length) ([a1, a2] : List Spot) (hS.rd (i := 3) Z) (hS.le (i := 3) Z) _ ht5) ?_
 rintro _ w1 ⟨rfl, hs⟩
 replace hS := hS.grow hs
 refine OJ.pures oU 1 Z (OJ.nil (EJ.next ?_))
 refine CJ.seq (CJ.region ?_)
 refine OJ.pures oU 2 Z (OJ.nil (EJ.next ?_))
 refine CJ.cond Z (fun hb => ?_) (fun hb => ?_)
 ·replace H := pif_t (of_decide_eq_true hb) H
  refine CJ.seq (CJ.region ?_)
  refine OJ.pures oU 3 Z (OJ.nil (EJ.next ?_))
  refine CJ.ret (EJ.skR (?_))
  obtain rfl := Option.some.inj H
  exact EJ.fin Z (.tmp Z (.tmp Z .nil)) ⟨Z, hS.ext⟩
 replace H := pif_f (of_decide_eq_false hb) H
 refine CJ.skip (EJ.next ?_)
 refine CJ.seq (CJ.region ?_)
 refine OJ.st Z Z Z (SR.load Z Z (fun w' hx => ldE oU oI Z Z Z (CA.ext (hS.cells (i := 0) Z) hx) Z)) ?_
 refine OJ.st Z Z Z (SR.load Z Z (fun w' hx => ldE oU oI Z Z Z (CA.ext (hS.cells (i := 1) Z) hx) Z)) ?_
 obtain ⟨t6, ht6, H⟩ := pbind H
 refine OJ.callF Z Z Z Z Z hb53 Z (impl_Pasture_yard.c k _ a0 a1 _ ht6) ?_
 rintro _ w1 ⟨A7, c8, rfl, hs⟩
 replace hS := hS.addN hs
 refine OJ.pures oU 1 Z (OJ.nil (EJ.next ?_))
 refine CJ.seq (CJ.region ?_)
 refine OJ.pures oU 1 Z (OJ.nil (EJ.next ?_))
 obtain ⟨j265, H, K265⟩ := pbind H
 refine CJ.cut1 (fun _ _ => False) ?_ ?_
 ·skip
  refine CJ.block ?_
  refine CJ.loop (fun k F w1 => ∃ (y9 : List Spot) (y12 : Int) (A10 : Option Addr) (c11 : Nat), F = [(3, .pointer (some ⟨b1, 0, none⟩)), (5, .pointer (some ⟨b3, 0, none⟩)), (6, .int .i64 0), (7, .int .i64 0), (9, .slice A10 y9.length c11), (10, .int .i64 y12)] ∧ St w no w1 [box b1 (cPasture.enc a0) 31, box b3 (cSpot.enc a2) 45, rowC cSpot A10 c11 45 y9] [] ∧ impl_GatesNeeded.l1 a0 a2 k y9 y12 = some j265) k (F' := [(3, .pointer (some ⟨b1, 0, none⟩)), (5, .pointer (some ⟨b3, 0, none⟩)), (6, .int .i64 0), (7, .int .i64 0), (9, .slice A7 t6.length c8), (10, .int .i64 0)]) ⟨Z, Z, Z, Z, Z, Z, trivial⟩ ⟨t6, 0, A7, c8, Z, hS.pick [0, 2, 4] [] Z, H⟩ ?_
  rintro k F w1 ⟨y9, y12, A10, c11, rfl, hS, H⟩
  cases k with
  | zero => rw [impl_GatesNeeded.l1] at H; cases H
  | succ k =>
    rw [impl_GatesNeeded.l1] at H
    obtain ⟨j311, H, K311⟩ := pbind H
    refine CJ.cut (fun F w1 => ∃ (y13 : List Spot) (A14 : Option Addr) (c15 : Nat), (some (Sum.inr y13) : Option (((Int × Int) ⊕ Unit) ⊕ (List Spot))) = some j311 ∧ F = [(3, .pointer (some ⟨b1, 0, none⟩)), (5, .pointer (some ⟨b3, 0, none⟩)), (6, .int .i64 0), (7, .int .i64 0), (9, .slice A14 y13.length c15), (10, .int .i64 y12)] ∧ St w no w1 [box b1 (cPasture.enc a0) 31, box b3 (cSpot.enc a2) 45, rowC cSpot A14 c15 45 y13] []) ?_ ?_
    · skip
      refine CJ.block ?_
      refine CJ.seq ?_
      refine CJ.seq (CJ.region ?_)
      refine OJ.pures oU 1 Z ?_
      refine OJ.st Z Z Z (SR.load Z Z (fun w' hx => ldE oU oI Z Z Z (CA.ext (hS.cells (i := 1) Z) hx) Z)) ?_
      obtain ⟨t16, ht16, H⟩ := pbind H
      refine OJ.callF Z Z Z Z Z hb54 Z (slices_Contains_impl_Spot_impl_Spot.c k _ A10 c11 y9 (hS.rd (i := 2) Z) (hS.le (i := 2) Z) a2 _ ht16) ?_
      rintro _ w1 ⟨rfl, hs⟩
      replace hS := hS.grow hs
      refine OJ.nil (EJ.next ?_)
      refine CJ.cond Z (fun hb => ?_) (fun hb => ?_)
      · replace H := pif_t hb H
        refine CJ.seq (CJ.region ?_)
        refine OJ.pures oU 3 Z (OJ.nil (EJ.next ?_))
        refine CJ.ret (EJ.skR (EJ.bkR (EJ.skR (EJ.skR (EJ.bkR (EJ.skR (?_)))))))
        first | (obtain rfl := Option.some.inj H; have H := K311) | (obtain ⟨q311, H2, e311⟩ := pbind H; obtain rfl := Option.some.inj e311; obtain rfl := Option.some.inj K311; have H := H2)
        first | (obtain rfl := Option.some.inj H; have H := K265) | (obtain ⟨q265, H2, e265⟩ := pbind H; obtain rfl := Option.some.inj e265; obtain rfl := Option.some.inj K265; have H := H2)
        obtain rfl := Option.some.inj H
        exact EJ.fin Z (.tmp Z (.tmp Z .nil)) ⟨Z, hS.ext⟩
      · replace H := pifb_f hb H
        refine CJ.skip (EJ.next ?_)
        refine CJ.seq (CJ.region ?_)
        refine OJ.pures oU 1 Z ?_
        obtain ⟨t17, ht17, H⟩ := pbind H
        refine OJ.callF Z Z Z Z Z hb55 Z (slices_Clone_impl_Spot_impl_Spot.c _ A10 c11 y9 (hS.rd (i := 2) Z) (hS.le (i := 2) Z) _ ht17) ?_
        rintro _ w1 ⟨A18, c19, rfl, hs⟩
        replace hS := hS.addN hs
        refine OJ.pures oU 1 Z (OJ.nil (EJ.next ?_))
        refine CJ.seq ?_
        refine CJ.seq (CJ.region ?_)
        refine OJ.st Z Z Z (SR.load Z Z (fun w' hx => ldE oU oI Z Z Z (CA.ext (hS.cells (i := 0) Z) hx) Z)) ?_
        refine OJ.pures oU 1 Z ?_
        obtain ⟨t20, ht20, H⟩ := pbind H
        refine OJ.callF Z Z Z Z Z hb56 Z (impl_Pasture_sidesOf.c k _ a0 A10 c11 y9 (hS.rd (i := 2) Z) (hS.le (i := 2) Z) _ ht20) ?_
        rintro _ w1 ⟨A21, c22, rfl, hs⟩
        replace hS := hS.addN hs
        refine OJ.pures oU 2 Z (OJ.nil (EJ.next ?_))
        obtain ⟨j313, H, K313⟩ := pbind H
        refine CJ.cut1 (fun F w1 => ∃ (y23 : List Spot) (A24 : Option Addr) (c25 : Nat), (some y23 : Option (List Spot)) = some j313 ∧ F = [(3, .pointer (some ⟨b1, 0, none⟩)), (5, .pointer (some ⟨b3, 0, none⟩)), (6, .int .i64 0), (7, .int .i64 0), (10, .int .i64 y12), (11, .slice A24 y23.length c25)] ∧ St w no w1 [box b1 (cPasture.enc a0) 31, box b3 (cSpot.enc a2) 45, rowC cSpot A24 c25 45 y23] []) ?_ ?_
        · skip
          refine CJ.block ?_
          refine CJ.loop (fun k F w1 => ∃ (y26 : List Spot) (y29 : Int) (A27 : Option Addr) (c28 : Nat), F = [(3, .pointer (some ⟨b1, 0, none⟩)), (5, .pointer (some ⟨b3, 0, none⟩)), (6, .int .i64 0), (7, .int .i64 0), (10, .int .i64 y12), (11, .slice A27 y26.length c28), (36, .slice A21 t20.length c22), (37, .int .i64 (t20.length : Int)), (38, .int .i64 y29)] ∧ St w no w1 [box b1 (cPasture.enc a0) 31, box b3 (cSpot.enc a2) 45, rowC cSpot A27 c28 45 y26, rowC cHurdle A21 c22 48 t20] [] ∧ impl_GatesNeeded.l2 t20 k y26 y29 = some j313) k (F' := [(3, .pointer (some ⟨b1, 0, none⟩)), (5, .pointer (some ⟨b3, 0, none⟩)), (6, .int .i64 0), (7, .int .i64 0), (10, .int .i64 y12), (11, .slice A18 t17.length c19), (36, .slice A21 t20.length c22), (37, .int .i64 (t20.length : Int)), (38, .int .i64 0)]) ⟨Z, Z, Z, Z, Z, Z, Z, Z, Z, trivial⟩ ⟨t17, 0, A18, c19, Z, hS.pick [0, 1, 3, 4] [] Z, H⟩ ?_
          rintro k F w1 ⟨y26, y29, A27, c28, rfl, hS, H⟩
          cases k with
          | zero => rw [impl_GatesNeeded.l2] at H; cases H
          | succ k =>
            rw [impl_GatesNeeded.l2] at H
            refine CJ.seq (CJ.region ?_)
            refine OJ.pures oU 1 Z (OJ.nil (EJ.next ?_))
            refine CJ.seq ?_
            refine CJ.cond Z (fun hb => ?_) (fun hb => ?_)
            · replace H := pif_t (of_decide_eq_true hb) H
              refine CJ.skip (EJ.next ?_)
              refine CJ.seq ?_
              refine CJ.block ?_
              refine CJ.seq (CJ.region ?_)
              obtain ⟨t30, ht30, H⟩ := pbind H
              obtain ⟨ad30, e30⟩ := (hS.rd (i := 3) rfl).some' ht30
              refine OJ.st Z Z Z (SR.idxS oU oI Z Z Z Z e30 Z (getI_some ht30).1) ?_
              refine OJ.st Z Z Z (SR.load Z Z (fun w' hx => ldE oU oI Z Z Z (CA.ext ((hS.rd (i := 3) Z).at_ e30 ht30) hx) Z)) ?_
              refine OJ.ef Z Z Z (Ef.alloc hS oI Z Z (cHurdle.enc (⟨(⟨0, 0⟩ : Spot), false⟩ : Hurdle)) Z) ?_
              rintro _ w1 ⟨b31, rfl, hS⟩
              refine OJ.es Z Z (Es.store oI hS (i := 4) Z Z Z Z Z Z (vs := cHurdle.enc t30) Z (cHurdle.len _) (cHurdle.one _) (Nat.le_of_ble_eq_true Z) (cHurdle.enc t30) Z) ?_
              intro w1 hS
              refine OJ.nil (EJ.next ?_)
              refine CJ.draw [] [0, 1, 2, 3, 4, 5, 6, 7] mixed (by kernel_rfl) hS fun w1 hS => ?_
              refine DJ.pures oU 1 Z ?_
              refine DJ.st Z Z Z Z Z (SR.fieldAddr oU oI Z Z Z Z Z Z) ?_
              refine DJ.st Z Z Z Z Z (SR.load Z Z (fun w' hx => ldN oU oI Z Z Z (CA.ext (CA.sub (hS.cells (i := 4) Z) 0) hx) (cSpot.len _) Z)) ?_
              refine DJ.st Z Z Z Z Z (SR.load Z Z (fun w' hx => ldE oU oI Z Z Z (CA.ext (hS.cells (i := 4) Z) hx) Z)) ?_
              obtain ⟨t32, ht32, H⟩ := pbind H
              refine DJ.callF rfl rfl rfl rfl rfl rfl rfl hb33 rfl (impl_Hurdle_other.c _ t30 _ ht32) (by rintro v w' ⟨rfl, hs⟩; exact hs) ?_
              rintro _ w1 ⟨rfl, hs⟩
              replace hS := hS.grow hs
              refine DJ.ef Z Z Z Z Z (Ef.lit oU oI hS (C := cSpot) Z Z Z Z Z Z ([t30.At, t32] : List Spot) Z Z Z Z) ?_
              rintro _ w1 ⟨A33, rfl, hS⟩
              obtain ⟨u34, hu34, H⟩ := pbind H
              refine DJ.ew Z Z Z Z Z (Ew.append oU oI (C := cSpot) (xs := y26) (ys := ([t30.At, t32] : List Spot)) hS (i := 2) Z Z Z Z Z Z Z Z Z Z Z Z Z (hS.rd (i := 5) Z) (chk_some hu34)) ?_
              rintro _ w1 ⟨A35, c36, rfl, hS⟩
              refine DJ.pures oU 1 Z ?_
              refine DJ.nil (EJ.blk (EJ.next ?_))
              refine CJ.region ?_
              refine OJ.pures oU 2 Z ?_
              refine OJ.nil ?_
              exact EJ.round k (F' := [(3, .pointer (some ⟨b1, 0, none⟩)), (5, .pointer (some ⟨b3, 0, none⟩)), (6, .int .i64 0), (7, .int .i64 0), (10, .int .i64 y12), (11, .slice A35 (y26 ++ ([t30.At, t32] : List Spot)).length c36), (36, .slice A21 t20.length c22), (37, .int .i64 (t20.length : Int)), (38, .int .i64 (IntKind.i64.wrap (y29 + 1)))]) ⟨Z, Z, Z, Z, Z, Z, Z, Z, Z, trivial⟩ (Nat.lt_succ_self _) ⟨(y26 ++ ([t30.At, t32] : List Spot)), (IntKind.i64.wrap (y29 + 1)), A35, c36, Z, hS.pick [0, 1, 2, 3] [] Z, H⟩
            · replace H := pif_f (of_decide_eq_false hb) H
              refine CJ.exit (EJ.skE (EJ.skE (EJ.hit (?_))))
              exact EJ.meet (F' := [(3, .pointer (some ⟨b1, 0, none⟩)), (5, .pointer (some ⟨b3, 0, none⟩)), (6, .int .i64 0), (7, .int .i64 0), (10, .int .i64 y12), (11, .slice A27 y26.length c28)]) ⟨Z, Z, Z, Z, Z, Z, trivial⟩ ⟨y26, A27, c28, H, Z, hS.pick [0, 1, 2] [] Z⟩
        · rintro F w1 ⟨y23, A24, c25, he, rfl, hS⟩
          obtain rfl := Option.some.inj he
          have H := K313
          refine EJ.next ?_
          refine CJ.seq (CJ.region ?_)
          refine OJ.st Z Z Z (SR.load Z Z (fun w' hx => ldE oU oI Z Z Z (CA.ext (hS.cells (i := 0) Z) hx) Z)) ?_
          refine OJ.pures oU 1 Z ?_
          obtain ⟨t37, ht37, H⟩ := pbind H
          refine OJ.callF Z Z Z Z Z hb31 Z (impl_Pasture_far.c k _ a0 A24 c25 y23 (hS.rd (i := 2) Z) (hS.le (i := 2) Z) _ ht37) ?_
          rintro _ w1 ⟨rfl, hs⟩
          replace hS := hS.grow hs
          refine OJ.ef rfl rfl rfl (Ef.alloc hS oI rfl rfl ((carr 10 (carr 10 (ci .i16))).enc (Arr.mk' (Arr.mk' 0 : Arr 10 Int) : Arr 10 (Arr 10 Int))) (by kernel_rfl)) ?_
          rintro _ w1 ⟨b38, rfl, hS⟩
          refine OJ.es rfl rfl (Es.put oI hS (i := 3) rfl rfl rfl rfl rfl (vs := (carr 10 (carr 10 (ci .i16))).enc t37) rfl ((carr 10 (carr 10 (ci .i16))).len _) ((carr 10 (carr 10 (ci .i16))).one _) (Put.all (carr 10 (carr 10 (ci .i16))) (Arr.mk' (Arr.mk' 0 : Arr 10 Int) : Arr 10 (Arr 10 Int)) t37) (by (try simp only [add_lit, Nat.add_assoc, Nat.zero_add, Nat.add_zero]) <;> rfl)) ?_
          intro w1 hS
          refine OJ.nil (EJ.next ?_)
          refine CJ.region ?_
          refine OJ.st Z Z Z (SR.load Z Z (fun w' hx => ldE oU oI Z Z Z (CA.ext (hS.cells (i := 0) Z) hx) Z)) ?_
          refine OJ.pures oU 1 Z ?_
          obtain ⟨t39, ht39, H⟩ := pbind H
          refine OJ.callF rfl rfl rfl rfl rfl hb57 rfl (impl_Pasture_cells.c k _ a0 58 #[] #[.pointer (some ⟨b38, 0, none⟩)] hb58 (impl_GatesNeeded_1.f t37) (fun z0 r h w' hx => CV.cast (impl_GatesNeeded_1.c w' ⟨b38, 0, none⟩ t37 (CA.ext (hS.cells (i := 3) rfl) hx)  z0 r h) (by simp)) _ ht39) ?_
          rintro _ w1 ⟨A40, c41, rfl, hs⟩
          replace hS := hS.addN hs
          refine OJ.pures oU 1 Z ?_
          refine OJ.nil (EJ.blk (?_))
          exact EJ.meet (F' := [(3, .pointer (some ⟨b1, 0, none⟩)), (5, .pointer (some ⟨b3, 0, none⟩)), (6, .int .i64 0), (7, .int .i64 0), (9, .slice A40 t39.length c41), (10, .int .i64 y12)]) ⟨Z, Z, Z, Z, Z, Z, trivial⟩ ⟨t39, A40, c41, H, Z, hS.pick [0, 1, 4] [] Z⟩
    · rintro F w1 ⟨y13, A14, c15, he, rfl, hS⟩
      obtain rfl := Option.some.inj he
      have H := K311
      refine CJ.region ?_
      refine OJ.pures oU 3 Z ?_
      refine OJ.nil ?_
      exact EJ.round k (F' := [(3, .pointer (some ⟨b1, 0, none⟩)), (5, .pointer (some ⟨b3, 0, none⟩)), (6, .int .i64 0), (7, .int .i64 0), (9, .slice A14 y13.length c15), (10, .int .i64 (IntKind.i64.wrap (y12 + 1)))]) ⟨Z, Z, Z, Z, Z, Z, trivial⟩ (Nat.lt_succ_self _) ⟨y13, (IntKind.i64.wrap (y12 + 1)), A14, c15, Z, hS.pick [0, 1, 2] [] Z, H⟩
 rintro F w1 h
 exact h.elim

def spec_l01Mask.l1 (a0 : List Spot) : Nat → (Arr 10 (Arr 10 Bool)) → Int → Option (Arr 10 (Arr 10 Bool))
  | 0, _, _ => none
  | k + 1, y4, y5 => if y5 < (a0.length : Int) then ((getI a0 y5).bind fun t6 => (getI a0 y5).bind fun t7 => (getI y4.l t6.Y).bind fun t8 => (getI t8.l t7.X).bind fun t9 => spec_l01Mask.l1 a0 k (aset y4 t6.Y.toNat (aset t8 t7.X.toNat true)) (IntKind.i64.wrap (y5 + 1))) else (some y4)
def spec_l01Mask.f (k : Nat) (a0 : List Spot) : Option (Arr 10 (Arr 10 Bool)) := (spec_l01Mask.l1 a0 k (Arr.mk' (Arr.mk' false : Arr 10 Bool) : Arr 10 (Arr 10 Bool)) 0).bind fun y3 => some y3
theorem spec_l01Mask.c (k : Nat) (w : World) (Aa0 : Option Addr) (ca0 : Nat) (a0 : List Spot) (hr0 : Rd cSpot w Aa0 a0) (hc0 : a0.length ≤ ca0) (r : Arr 10 (Arr 10 Bool)) (H : spec_l01Mask.f k a0 = some r) :
 CV Tryz.prog 59 [.slice Aa0 a0.length ca0].toArray w fun v w' => v = .agg ((carr 10 (carr 10 cb)).enc r).toArray ∧ Ext w w' := by
 have hS := ((St.init w no).param cSpot Aa0 ca0 a0 hr0 hc0)
 unfold spec_l01Mask.f at H
 refine CV.body Tryz.func59 Z Tryz.ntmps59 Z ?_
 refine CJ.seq (CJ.region ?_)
 refine OJ.ef rfl rfl rfl (Ef.alloc hS oI rfl rfl ((carr 10 (carr 10 cb)).enc (Arr.mk' (Arr.mk' false : Arr 10 Bool) : Arr 10 (Arr 10 Bool))) (by kernel_rfl)) ?_
 rintro _ w1 ⟨b1, rfl, hS⟩
 refine OJ.nil (EJ.next ?_)
 refine CJ.seq (CJ.region ?_)
 refine OJ.st rfl rfl rfl (SR.buildA oU oI rfl rfl rfl rfl (zs := [.bool false, .bool false, .bool false, .bool false, .bool false, .bool false, .bool false, .bool false, .bool false, .bool false, .bool false, .bool false, .bool false, .bool false, .bool false, .bool false, .bool false, .bool false, .bool false, .bool false, .bool false, .bool false, .bool false, .bool false, .bool false, .bool false, .bool false, .bool false, .bool false, .bool false, .bool false, .bool false, .bool false, .bool false, .bool false, .bool false, .bool false, .bool false, .bool false, .bool false, .bool false, .bool false, .bool false, .bool false, .bool false, .bool false, .bool false, .bool false, .bool false, .bool false, .bool false, .bool false, .bool false, .bool false, .bool false, .bool false, .bool false, .bool false, .bool false, .bool false, .bool false, .bool false, .bool false, .bool false, .bool false, .bool false, .bool false, .bool false, .bool false, .bool false, .bool false, .bool false, .bool false, .bool false, .bool false, .bool false, .bool false, .bool false, .bool false, .bool false, .bool false, .bool false, .bool false, .bool false, .bool false, .bool false, .bool false, .bool false, .bool false, .bool false, .bool false, .bool false, .bool false, .bool false, .bool false, .bool false, .bool false, .bool false, .bool false, .bool false]) rfl rfl ((carr 10 (carr 10 cb)).enc (Arr.mk' (Arr.mk' false : Arr 10 Bool) : Arr 10 (Arr 10 Bool))) (by kernel_rfl)) ?_
 refine OJ.ef rfl rfl rfl (Ef.alloc hS oI rfl rfl ((carr 10 (carr 10 cb)).enc (Arr.mk' (Arr.mk' false : Arr 10 Bool) : Arr 10 (Arr 10 Bool))) (by kernel_rfl)) ?_
 rintro _ w1 ⟨b2, rfl, hS⟩
 refine OJ.es rfl rfl (Es.put oI hS (i := 1) rfl rfl rfl rfl rfl (vs := (carr 10 (carr 10 cb)).enc (Arr.mk' (Arr.mk' false : Arr 10 Bool) : Arr 10 (Arr 10 Bool))) rfl ((carr 10 (carr 10 cb)).len _) ((carr 10 (carr 10 cb)).one _) (Put.all (carr 10 (carr 10 cb)) (Arr.mk' (Arr.mk' false : Arr 10 Bool) : Arr 10 (Arr 10 Bool)) (Arr.mk' (Arr.mk' false : Arr 10 Bool) : Arr 10 (Arr 10 Bool))) (by (try simp only [add_lit, Nat.add_assoc, Nat.zero_add, Nat.add_zero]) <;> rfl)) ?_
 intro w1 hS
 refine OJ.nil (EJ.next ?_)
 refine CJ.seq ?_
 refine CJ.seq (CJ.region ?_)
 refine OJ.pures oU 1 Z (OJ.nil (EJ.next ?_))
 obtain ⟨j314, H, K314⟩ := pbind H
 refine CJ.cut1 (fun F w1 => ∃ (y3 : Arr 10 (Arr 10 Bool)) , (some y3 : Option (Arr 10 (Arr 10 Bool))) = some j314 ∧ F = [(2, .pointer (some ⟨b1, 0, none⟩)), (3, .pointer (some ⟨b2, 0, none⟩))] ∧ St w no w1 [box b1 ((carr 10 (carr 10 cb)).enc (Arr.mk' (Arr.mk' false : Arr 10 Bool) : Arr 10 (Arr 10 Bool))) 93, box b2 ((carr 10 (carr 10 cb)).enc y3) 93] [roC cSpot Aa0 ca0 a0]) ?_ ?_
 ·skip
  refine CJ.block ?_
  refine CJ.loop (fun k F w1 => ∃ (y4 : Arr 10 (Arr 10 Bool)) (y5 : Int), F = [(0, .slice Aa0 a0.length ca0), (2, .pointer (some ⟨b1, 0, none⟩)), (3, .pointer (some ⟨b2, 0, none⟩)), (4, .int .i64 y5)] ∧ St w no w1 [box b1 ((carr 10 (carr 10 cb)).enc (Arr.mk' (Arr.mk' false : Arr 10 Bool) : Arr 10 (Arr 10 Bool))) 93, box b2 ((carr 10 (carr 10 cb)).enc y4) 93] [roC cSpot Aa0 ca0 a0] ∧ spec_l01Mask.l1 a0 k y4 y5 = some j314) k (F' := [(0, .slice Aa0 a0.length ca0), (2, .pointer (some ⟨b1, 0, none⟩)), (3, .pointer (some ⟨b2, 0, none⟩)), (4, .int .i64 0)]) ⟨Z, Z, Z, Z, trivial⟩ ⟨(Arr.mk' (Arr.mk' false : Arr 10 Bool) : Arr 10 (Arr 10 Bool)), 0, Z, hS.pick [0, 1] [0] Z, H⟩ ?_
  rintro k F w1 ⟨y4, y5, rfl, hS, H⟩
  cases k with
  | zero => rw [spec_l01Mask.l1] at H; cases H
  | succ k =>
    rw [spec_l01Mask.l1] at H
    refine CJ.seq ?_
    refine CJ.seq (CJ.region ?_)
    refine OJ.pures oU 4 Z (OJ.nil (EJ.next ?_))
    refine CJ.cond Z (fun hb => ?_) (fun hb => ?_)
    · replace H := pif_t (of_decide_eq_true hb) H
      refine CJ.skip (EJ.next ?_)
      refine CJ.seq ?_
      refine CJ.block ?_
      refine CJ.draw [] [0, 1, 2, 3, 4, 5, 6, 7, 8, 9, 10, 11, 12] mixed (by kernel_rfl) hS fun w1 hS => ?_
      refine DJ.pures oU 2 Z ?_
      obtain ⟨t6, ht6, H⟩ := pbind H
      obtain ⟨ad6, e6⟩ := (hS.rd' (i := 0) rfl).some' ht6
      refine DJ.st Z Z Z Z Z (SR.idxS oU oI Z Z Z Z e6 Z (getI_some ht6).1) ?_
      refine DJ.st Z Z Z Z Z (SR.fieldAddr oU oI Z Z Z Z Z Z) ?_
      refine DJ.st Z Z Z Z Z (SR.load Z Z (fun w' hx => ld1 oU Z Z (CA.ext (CA.sub ((hS.rd' (i := 0) Z).at_ e6 ht6) 1) hx) Z)) ?_
      refine DJ.pures oU 2 Z ?_
      obtain ⟨t7, ht7, H⟩ := pbind H
      obtain ⟨ad7, e7⟩ := (hS.rd' (i := 0) rfl).some' ht7
      refine DJ.st Z Z Z Z Z (SR.idxS oU oI Z Z Z Z e7 Z (getI_some ht7).1) ?_
      refine DJ.st Z Z Z Z Z (SR.fieldAddr oU oI Z Z Z Z Z Z) ?_
      refine DJ.st Z Z Z Z Z (SR.load Z Z (fun w' hx => ld1 oU Z Z (CA.ext (CA.sub ((hS.rd' (i := 0) Z).at_ e7 ht7) 0) hx) Z)) ?_
      obtain ⟨t8, ht8, H⟩ := pbind H
      refine DJ.st Z Z Z Z Z (SR.idxA oU oI Z Z Z Z Z (Arr.lt ht8)) ?_
      obtain ⟨t9, ht9, H⟩ := pbind H
      refine DJ.st Z Z Z Z Z (SR.idxA oU oI Z Z Z Z Z (Arr.lt ht9)) ?_
      refine DJ.es rfl rfl rfl rfl (Es.put oI hS (i := 1) rfl rfl rfl rfl rfl (vs := cb.enc true) rfl rfl (one1 rfl) (Put.idx (Put.idx (Put.all cb t9 true) ht9) ht8) (by (try simp only [add_lit, Nat.add_assoc, Nat.zero_add, Nat.add_zero]) <;> rfl)) ?_
      intro w1 hS
      refine DJ.nil (EJ.blk (EJ.next ?_))
      refine CJ.region ?_
      refine OJ.pures oU 3 Z ?_
      refine OJ.nil ?_
      exact EJ.round k (F' := [(0, .slice Aa0 a0.length ca0), (2, .pointer (some ⟨b1, 0, none⟩)), (3, .pointer (some ⟨b2, 0, none⟩)), (4, .int .i64 (IntKind.i64.wrap (y5 + 1)))]) ⟨Z, Z, Z, Z, trivial⟩ (Nat.lt_succ_self _) ⟨(aset y4 t6.Y.toNat (aset t8 t7.X.toNat true)), (IntKind.i64.wrap (y5 + 1)), Z, hS.pick [0, 1] [0] Z, H⟩
    · replace H := pif_f (of_decide_eq_false hb) H
      refine CJ.exit (EJ.skE (EJ.skE (EJ.hit (?_))))
      exact EJ.meet (F' := [(2, .pointer (some ⟨b1, 0, none⟩)), (3, .pointer (some ⟨b2, 0, none⟩))]) ⟨Z, Z, trivial⟩ ⟨y4, H, Z, hS.pick [0, 1] [0] Z⟩
 rintro F w1 ⟨y3, he, rfl, hS⟩
 obtain rfl := Option.some.inj he
 have H := K314
 refine EJ.next ?_
 refine CJ.seq (CJ.region ?_)
 refine OJ.st Z Z Z (SR.load Z Z (fun w' hx => ldE oU oI Z Z Z (CA.ext (hS.cells (i := 1) Z) hx) Z)) ?_
 refine OJ.es rfl rfl (Es.put oI hS (i := 0) rfl rfl rfl rfl rfl (vs := (carr 10 (carr 10 cb)).enc y3) rfl ((carr 10 (carr 10 cb)).len _) ((carr 10 (carr 10 cb)).one _) (Put.all (carr 10 (carr 10 cb)) (Arr.mk' (Arr.mk' false : Arr 10 Bool) : Arr 10 (Arr 10 Bool)) y3) (by (try simp only [add_lit, Nat.add_assoc, Nat.zero_add, Nat.add_zero]) <;> rfl)) ?_
 intro w1 hS
 refine OJ.nil (EJ.next ?_)
 refine CJ.ret (?_)
 obtain rfl := Option.some.inj H
 exact EJ.fin Z (.cell Z (ldE oU oI Z Z Z (hS.cells (i := 0) Z) Z) .nil) ⟨Z, hS.ext⟩

def spec_l03Filled.l2 (a0 : Pasture) (a1 : Arr 10 (Arr 10 Bool)) (t2 : Arr 10 (Arr 10 Int) × List (List Spot)) (y11 : Int) : Nat → (List Bool) → Int → Option (List Bool)
  | 0, _, _ => none
  | k + 1, y14, y15 => if y15 < a0.Wide then ((getI a1.l y11).bind fun t16 => (getI t16.l y15).bind fun t17 => if t17 = true then ((getI t2.1.l y11).bind fun t18 => (getI t18.l y15).bind fun t19 => (getI y14 t19).bind fun t20 => spec_l03Filled.l2 a0 a1 t2 y11 k (y14.set t19.toNat true) (IntKind.i8.wrap (y15 + 1))) else (spec_l03Filled.l2 a0 a1 t2 y11 k y14 (IntKind.i8.wrap (y15 + 1)))) else (some y14)
def spec_l03Filled.l1 (a0 : Pasture) (a1 : Arr 10 (Arr 10 Bool)) (t2 : Arr 10 (Arr 10 Int) × List (List Spot)) : Nat → (List Bool) → Int → Option (List Bool)
  | 0, _, _ => none
  | k + 1, y10, y11 => if y11 < a0.High then (((spec_l03Filled.l2 a0 a1 t2 y11 k y10 0).bind fun y13 => some y13).bind fun y12 => spec_l03Filled.l1 a0 a1 t2 k y12 (IntKind.i8.wrap (y11 + 1))) else (some y10)
def spec_l03Filled.l4 (a0 : Pasture) (t2 : Arr 10 (Arr 10 Int) × List (List Spot)) (y9 : List Bool) (y24 : Int) : Nat → (Arr 10 (Arr 10 Bool)) → Int → Option (Arr 10 (Arr 10 Bool))
  | 0, _, _ => none
  | k + 1, y27, y28 => if y28 < a0.Wide then ((getI t2.1.l y24).bind fun t29 => (getI t29.l y28).bind fun t30 => (getI y9 t30).bind fun t31 => (getI y27.l y24).bind fun t32 => (getI t32.l y28).bind fun t33 => spec_l03Filled.l4 a0 t2 y9 y24 k (aset y27 y24.toNat (aset t32 y28.toNat t31)) (IntKind.i8.wrap (y28 + 1))) else (some y27)
def spec_l03Filled.l3 (a0 : Pasture) (t2 : Arr 10 (Arr 10 Int) × List (List Spot)) (y9 : List Bool) : Nat → (Arr 10 (Arr 10 Bool)) → Int → Option (Arr 10 (Arr 10 Bool))
  | 0, _, _ => none
  | k + 1, y23, y24 => if y24 < a0.High then (((spec_l03Filled.l4 a0 t2 y9 y24 k y23 0).bind fun y26 => some y26).bind fun y25 => spec_l03Filled.l3 a0 t2 y9 k y25 (IntKind.i8.wrap (y24 + 1))) else (some y23)
def spec_l03Filled.f (k : Nat) (a0 : Pasture) (a1 : Arr 10 (Arr 10 Bool)) : Option (Arr 10 (Arr 10 Bool)) := (spec_l01Numbers.f k a0).bind fun t2 => (chk (0 ≤ (IntKind.i64.wrap ((t2.2.length : Int) + 1)) ∧ (IntKind.i64.wrap ((t2.2.length : Int) + 1)) ≤ 4294967296)).bind fun u7 => (spec_l03Filled.l1 a0 a1 t2 k (List.replicate ((IntKind.i64.wrap ((t2.2.length : Int) + 1)).toNat) false : List Bool) 0).bind fun y9 => (spec_l03Filled.l3 a0 t2 y9 k (Arr.mk' (Arr.mk' false : Arr 10 Bool) : Arr 10 (Arr 10 Bool)) 0).bind fun y22 => some y22
theorem spec_l03Filled.c (k : Nat) (w : World) (pa0 : Addr) (a0 : Pasture) (hp0 : CA w pa0 (cPasture.enc a0)) (pa1 : Addr) (a1 : Arr 10 (Arr 10 Bool)) (hp1 : CA w pa1 ((carr 10 (carr 10 cb)).enc a1)) (r : Arr 10 (Arr 10 Bool)) (H : spec_l03Filled.f k a0 a1 = some r) :
 CV Tryz.prog 61 [.pointer (some pa0), .pointer (some pa1)].toArray w fun v w' => v = .agg ((carr 10 (carr 10 cb)).enc r).toArray ∧ Ext w w' := by
 have hS := (((St.init w no).paramP pa0 (cPasture.enc a0) hp0).paramP pa1 ((carr 10 (carr 10 cb)).enc a1) hp1)
 unfold spec_l03Filled.f at H
 refine CV.body Tryz.func61 Z Tryz.ntmps61 Z ?_
 refine CJ.seq (CJ.region ?_)
 refine OJ.ef rfl rfl rfl (Ef.alloc hS oI rfl rfl ((carr 10 (carr 10 cb)).enc (Arr.mk' (Arr.mk' false : Arr 10 Bool) : Arr 10 (Arr 10 Bool))) (by kernel_rfl)) ?_
 rintro _ w1 ⟨b1, rfl, hS⟩
 refine OJ.nil (EJ.next ?_)
 refine CJ.seq (CJ.region ?_)
 refine OJ.pures oU 1 Z ?_
 obtain ⟨t2, ht2, H⟩ := pbind H
 refine OJ.callF Z Z Z Z Z hb28 Z (spec_l01Numbers.c k _ _ a0 (hS.ca (i := 0) Z) _ ht2) ?_
 rintro _ w1 ⟨A3, c4, D5, rfl, hs⟩
 replace hS := hS.addN hs
 refine OJ.pures oU 3 Z ?_
 refine OJ.ef rfl rfl rfl (Ef.alloc hS oI rfl rfl ((carr 10 (carr 10 (ci .i64))).enc (Arr.mk' (Arr.mk' 0 : Arr 10 Int) : Arr 10 (Arr 10 Int))) (by kernel_rfl)) ?_
 rintro _ w1 ⟨b6, rfl, hS⟩
 refine OJ.es rfl rfl (Es.put oI hS (i := 2) rfl rfl rfl rfl rfl (vs := (carr 10 (carr 10 (ci .i64))).enc t2.1) rfl ((carr 10 (carr 10 (ci .i64))).len _) ((carr 10 (carr 10 (ci .i64))).one _) (Put.all (carr 10 (carr 10 (ci .i64))) (Arr.mk' (Arr.mk' 0 : Arr 10 Int) : Arr 10 (Arr 10 Int)) t2.1) (by (try simp only [add_lit, Nat.add_assoc, Nat.zero_add, Nat.add_zero]) <;> rfl)) ?_
 intro w1 hS
 refine OJ.pures oU 1 Z (OJ.nil (EJ.next ?_))
 refine CJ.seq (CJ.region ?_)
 refine OJ.pures oU 3 Z ?_
 obtain ⟨u7, hu7, H⟩ := pbind H
 refine OJ.ef Z Z Z (Ef.make oU oI hS (C := cb) Z Z Z Z Z Z Z Z (chk_some hu7) false Z) ?_
 rintro _ w1 ⟨A8, rfl, hS⟩
 refine OJ.pures oU 1 Z (OJ.nil (EJ.next ?_))
 refine CJ.seq ?_
 refine CJ.seq (CJ.region ?_)
 refine OJ.pures oU 1 Z (OJ.nil (EJ.next ?_))
 obtain ⟨j488, H, K488⟩ := pbind H
 refine CJ.cut1 (fun F w1 => ∃ (y9 : List Bool) , (some y9 : Option (List Bool)) = some j488 ∧ F = [(0, .pointer (some pa0)), (4, .pointer (some ⟨b1, 0, none⟩)), (5, .pointer (some ⟨b6, 0, none⟩)), (7, .slice A8 y9.length ((IntKind.i64.wrap ((t2.2.length : Int) + 1)).toNat))] ∧ St w no w1 [box b1 ((carr 10 (carr 10 cb)).enc (Arr.mk' (Arr.mk' false : Arr 10 Bool) : Arr 10 (Arr 10 Bool))) 93, box b6 ((carr 10 (carr 10 (ci .i64))).enc t2.1) 59, rowC cb A8 ((IntKind.i64.wrap ((t2.2.length : Int) + 1)).toNat) 4 y9] [roP pa0 (cPasture.enc a0), roP pa1 ((carr 10 (carr 10 cb)).enc a1)]) ?_ ?_
 ·skip
  refine CJ.block ?_
  refine CJ.loop (fun k F w1 => ∃ (y10 : List Bool) (y11 : Int), F = [(0, .pointer (some pa0)), (1, .pointer (some pa1)), (4, .pointer (some ⟨b1, 0, none⟩)), (5, .pointer (some ⟨b6, 0, none⟩)), (7, .slice A8 y10.length ((IntKind.i64.wrap ((t2.2.length : Int) + 1)).toNat)), (8, .int .i8 y11)] ∧ St w no w1 [box b1 ((carr 10 (carr 10 cb)).enc (Arr.mk' (Arr.mk' false : Arr 10 Bool) : Arr 10 (Arr 10 Bool))) 93, box b6 ((carr 10 (carr 10 (ci .i64))).enc t2.1) 59, rowC cb A8 ((IntKind.i64.wrap ((t2.2.length : Int) + 1)).toNat) 4 y10] [roP pa0 (cPasture.enc a0), roP pa1 ((carr 10 (carr 10 cb)).enc a1)] ∧ spec_l03Filled.l1 a0 a1 t2 k y10 y11 = some j488) k (F' := [(0, .pointer (some pa0)), (1, .pointer (some pa1)), (4, .pointer (some ⟨b1, 0, none⟩)), (5, .pointer (some ⟨b6, 0, none⟩)), (7, .slice A8 (List.replicate ((IntKind.i64.wrap ((t2.2.length : Int) + 1)).toNat) false : List Bool).length ((IntKind.i64.wrap ((t2.2.length : Int) + 1)).toNat)), (8, .int .i8 0)]) ⟨Z, Z, Z, Z, Z, Z, trivial⟩ ⟨(List.replicate ((IntKind.i64.wrap ((t2.2.length : Int) + 1)).toNat) false : List Bool), 0, Z, hS.pick [0, 2, 3] [0, 1] Z, H⟩ ?_
  rintro k F w1 ⟨y10, y11, rfl, hS, H⟩
  cases k with
  | zero => rw [spec_l03Filled.l1] at H; cases H
  | succ k =>
    rw [spec_l03Filled.l1] at H
    refine CJ.seq ?_
    refine CJ.seq (CJ.region ?_)
    refine OJ.pures oU 3 Z ?_
    refine OJ.st Z Z Z (SR.fieldAddr oU oI Z Z Z Z Z Z) ?_
    refine OJ.st Z Z Z (SR.load Z Z (fun w' hx => ld1 oU Z Z (CA.ext (CA.fld (hS.ca (i := 0) Z) (mid_part (fe_Pasture_1 _) (fl_Pasture_1 _) ((ci .i8).len _))) hx) Z)) ?_
    refine OJ.pures oU 1 Z (OJ.nil (EJ.next ?_))
    refine CJ.cond Z (fun hb => ?_) (fun hb => ?_)
    · replace H := pif_t (of_decide_eq_true hb) H
      refine CJ.skip (EJ.next ?_)
      obtain ⟨j495, H, K495⟩ := pbind H
      refine CJ.cut (fun F w1 => ∃ (y12 : List Bool) , (some y12 : Option (List Bool)) = some j495 ∧ F = [(0, .pointer (some pa0)), (1, .pointer (some pa1)), (4, .pointer (some ⟨b1, 0, none⟩)), (5, .pointer (some ⟨b6, 0, none⟩)), (7, .slice A8 y12.length ((IntKind.i64.wrap ((t2.2.length : Int) + 1)).toNat)), (8, .int .i8 y11)] ∧ St w no w1 [box b1 ((carr 10 (carr 10 cb)).enc (Arr.mk' (Arr.mk' false : Arr 10 Bool) : Arr 10 (Arr 10 Bool))) 93, box b6 ((carr 10 (carr 10 (ci .i64))).enc t2.1) 59, rowC cb A8 ((IntKind.i64.wrap ((t2.2.length : Int) + 1)).toNat) 4 y12] [roP pa0 (cPasture.enc a0), roP pa1 ((carr 10 (carr 10 cb)).enc a1)]) ?_ ?_
      · skip
        refine CJ.block ?_
        refine CJ.seq (CJ.region ?_)
        refine OJ.pures oU 1 Z (OJ.nil (EJ.next ?_))
        obtain ⟨j497, H, K497⟩ := pbind H
        refine CJ.cut1 (fun F w1 => ∃ (y13 : List Bool) , (some y13 : Option (List Bool)) = some j497 ∧ F = [(0, .pointer (some pa0)), (1, .pointer (some pa1)), (4, .pointer (some ⟨b1, 0, none⟩)), (5, .pointer (some ⟨b6, 0, none⟩)), (7, .slice A8 y13.length ((IntKind.i64.wrap ((t2.2.length : Int) + 1)).toNat)), (8, .int .i8 y11)] ∧ St w no w1 [box b1 ((carr 10 (carr 10 cb)).enc (Arr.mk' (Arr.mk' false : Arr 10 Bool) : Arr 10 (Arr 10 Bool))) 93, box b6 ((carr 10 (carr 10 (ci .i64))).enc t2.1) 59, rowC cb A8 ((IntKind.i64.wrap ((t2.2.length : Int) + 1)).toNat) 4 y13] [roP pa0 (cPasture.enc a0), roP pa1 ((carr 10 (carr 10 cb)).enc a1)]) ?_ ?_
        · skip
          refine CJ.block ?_
          refine CJ.loop (fun k F w1 => ∃ (y14 : List Bool) (y15 : Int), F = [(0, .pointer (some pa0)), (1, .pointer (some pa1)), (4, .pointer (some ⟨b1, 0, none⟩)), (5, .pointer (some ⟨b6, 0, none⟩)), (7, .slice A8 y14.length ((IntKind.i64.wrap ((t2.2.length : Int) + 1)).toNat)), (8, .int .i8 y11), (9, .int .i8 y15)] ∧ St w no w1 [box b1 ((carr 10 (carr 10 cb)).enc (Arr.mk' (Arr.mk' false : Arr 10 Bool) : Arr 10 (Arr 10 Bool))) 93, box b6 ((carr 10 (carr 10 (ci .i64))).enc t2.1) 59, rowC cb A8 ((IntKind.i64.wrap ((t2.2.length : Int) + 1)).toNat) 4 y14] [roP pa0 (cPasture.enc a0), roP pa1 ((carr 10 (carr 10 cb)).enc a1)] ∧ spec_l03Filled.l2 a0 a1 t2 y11 k y14 y15 = some j497) k (F' := [(0, .pointer (some pa0)), (1, .pointer (some pa1)), (4, .pointer (some ⟨b1, 0, none⟩)), (5, .pointer (some ⟨b6, 0, none⟩)), (7, .slice A8 y10.length ((IntKind.i64.wrap ((t2.2.length : Int) + 1)).toNat)), (8, .int .i8 y11), (9, .int .i8 0)]) ⟨Z, Z, Z, Z, Z, Z, Z, trivial⟩ ⟨y10, 0, Z, hS.pick [0, 1, 2] [0, 1] Z, H⟩ ?_
          rintro k F w1 ⟨y14, y15, rfl, hS, H⟩
          cases k with
          | zero => rw [spec_l03Filled.l2] at H; cases H
          | succ k =>
            rw [spec_l03Filled.l2] at H
            refine CJ.seq ?_
            refine CJ.seq (CJ.region ?_)
            refine OJ.pures oU 3 Z ?_
            refine OJ.st Z Z Z (SR.fieldAddr oU oI Z Z Z Z Z Z) ?_
            refine OJ.st Z Z Z (SR.load Z Z (fun w' hx => ld1 oU Z Z (CA.ext (CA.fld (hS.ca (i := 0) Z) (mid_part (fe_Pasture_0 _) (fl_Pasture_0 _) ((ci .i8).len _))) hx) Z)) ?_
            refine OJ.pures oU 1 Z (OJ.nil (EJ.next ?_))
            refine CJ.cond Z (fun hb => ?_) (fun hb => ?_)
            · replace H := pif_t (of_decide_eq_true hb) H
              refine CJ.skip (EJ.next ?_)
              refine CJ.seq ?_
              refine CJ.block ?_
              refine CJ.seq (CJ.region ?_)
              refine OJ.pures oU 4 Z ?_
              obtain ⟨t16, ht16, H⟩ := pbind H
              refine OJ.st Z Z Z (SR.idxA oU oI Z Z Z Z Z (Arr.lt ht16)) ?_
              obtain ⟨t17, ht17, H⟩ := pbind H
              refine OJ.st Z Z Z (SR.idxA oU oI Z Z Z Z Z (Arr.lt ht17)) ?_
              refine OJ.st Z Z Z (SR.load Z Z (fun w' hx => ld1 oU Z Z (CA.ext (CA.idx (CA.idx (hS.ca (i := 1) Z) ht16) ht17) hx) Z)) ?_
              refine OJ.nil (EJ.next ?_)
              refine CJ.cond Z (fun hb => ?_) (fun hb => ?_)
              · replace H := pif_t hb H
                refine CJ.region ?_
                refine OJ.pures oU 3 Z ?_
                obtain ⟨t18, ht18, H⟩ := pbind H
                refine OJ.st Z Z Z (SR.idxA oU oI Z Z Z Z Z (Arr.lt ht18)) ?_
                obtain ⟨t19, ht19, H⟩ := pbind H
                refine OJ.st Z Z Z (SR.idxA oU oI Z Z Z Z Z (Arr.lt ht19)) ?_
                refine OJ.st Z Z Z (SR.load Z Z (fun w' hx => ld1 oU Z Z (CA.ext (CA.idx (CA.idx (hS.cells (i := 1) Z) ht18) ht19) hx) Z)) ?_
                obtain ⟨t20, ht20, H⟩ := pbind H
                obtain ⟨ad20, e20⟩ := (hS.rd (i := 2) rfl).some' ht20
                refine OJ.st Z Z Z (SR.idxS oU oI Z Z Z Z e20 Z (getI_some ht20).1) ?_
                refine OJ.es Z Z (Es.storeR oI hS (i := 2) (off := 0) Z Z ht20 e20 Z Z Z Z (vs := cb.enc true) Z Z (one1 Z) (Nat.le_of_ble_eq_true Z) true Z) ?_
                intro w1 hS
                refine OJ.as (t := 7) rfl (show _ = (.slice A8 (y14.set t19.toNat true).length ((IntKind.i64.wrap ((t2.2.length : Int) + 1)).toNat) : Value) by simp only [List.length_set]) ?_
                refine OJ.as (t := 45) rfl (show _ = (.slice A8 (y14.set t19.toNat true).length ((IntKind.i64.wrap ((t2.2.length : Int) + 1)).toNat) : Value) by simp only [List.length_set]) ?_
                refine OJ.nil (EJ.blk (EJ.next ?_))
                refine CJ.region ?_
                refine OJ.pures oU 3 Z ?_
                refine OJ.nil ?_
                exact EJ.round k (F' := [(0, .pointer (some pa0)), (1, .pointer (some pa1)), (4, .pointer (some ⟨b1, 0, none⟩)), (5, .pointer (some ⟨b6, 0, none⟩)), (7, .slice A8 (y14.set t19.toNat true).length ((IntKind.i64.wrap ((t2.2.length : Int) + 1)).toNat)), (8, .int .i8 y11), (9, .int .i8 (IntKind.i8.wrap (y15 + 1)))]) ⟨Z, Z, Z, Z, Z, Z, Z, trivial⟩ (Nat.lt_succ_self _) ⟨(y14.set t19.toNat true), (IntKind.i8.wrap (y15 + 1)), Z, hS.pick [0, 1, 2] [0, 1] Z, H⟩
              · replace H := pifb_f hb H
                refine CJ.skip (EJ.blk (EJ.next ?_))
                refine CJ.region ?_
                refine OJ.pures oU 3 Z ?_
                refine OJ.nil ?_
                exact EJ.round k (F' := [(0, .pointer (some pa0)), (1, .pointer (some pa1)), (4, .pointer (some ⟨b1, 0, none⟩)), (5, .pointer (some ⟨b6, 0, none⟩)), (7, .slice A8 y14.length ((IntKind.i64.wrap ((t2.2.length : Int) + 1)).toNat)), (8, .int .i8 y11), (9, .int .i8 (IntKind.i8.wrap (y15 + 1)))]) ⟨Z, Z, Z, Z, Z, Z, Z, trivial⟩ (Nat.lt_succ_self _) ⟨y14, (IntKind.i8.wrap (y15 + 1)), Z, hS.pick [0, 1, 2] [0, 1] Z, H⟩
            · replace H := pif_f (of_decide_eq_false hb) H
              refine CJ.exit (EJ.skE (EJ.skE (EJ.hit (?_))))
              exact EJ.meet (F' := [(0, .pointer (some pa0)), (1, .pointer (some pa1)), (4, .pointer (some ⟨b1, 0, none⟩)), (5, .pointer (some ⟨b6, 0, none⟩)), (7, .slice A8 y14.length ((IntKind.i64.wrap ((t2.2.length : Int) + 1)).toNat)), (8, .int .i8 y11)]) ⟨Z, Z, Z, Z, Z, Z, trivial⟩ ⟨y14, H, Z, hS.pick [0, 1, 2] [0, 1] Z⟩
        · rintro F w1 ⟨y13, he, rfl, hS⟩
          obtain rfl := Option.some.inj he
          have H := K497
          refine EJ.blk (?_)
          exact EJ.meet (F' := [(0, .pointer (some pa0)), (1, .pointer (some pa1)), (4, .pointer (some ⟨b1, 0, none⟩)), (5, .pointer (some ⟨b6, 0, none⟩)), (7, .slice A8 y13.length ((IntKind.i64.wrap ((t2.2.length : Int) + 1)).toNat)), (8, .int .i8 y11)]) ⟨Z, Z, Z, Z, Z, Z, trivial⟩ ⟨y13, H, Z, hS.pick [0, 1, 2] [0, 1] Z⟩
      · rintro F w1 ⟨y12, he, rfl, hS⟩
        obtain rfl := Option.some.inj he
        have H := K495
        refine CJ.region ?_
        refine OJ.pures oU 3 Z ?_
        refine OJ.nil ?_
        exact EJ.round k (F' := [(0, .pointer (some pa0)), (1, .pointer (some pa1)), (4, .pointer (some ⟨b1, 0, none⟩)), (5, .pointer (some ⟨b6, 0, none⟩)), (7, .slice A8 y12.length ((IntKind.i64.wrap ((t2.2.length : Int) + 1)).toNat)), (8, .int .i8 (IntKind.i8.wrap (y11 + 1)))]) ⟨Z, Z, Z, Z, Z, Z, trivial⟩ (Nat.lt_succ_self _) ⟨y12, (IntKind.i8.wrap (y11 + 1)), Z, hS.pick [0, 1, 2] [0, 1] Z, H⟩
    · replace H := pif_f (of_decide_eq_false hb) H
      refine CJ.exit (EJ.skE (EJ.skE (EJ.hit (?_))))
      exact EJ.meet (F' := [(0, .pointer (some pa0)), (4, .pointer (some ⟨b1, 0, none⟩)), (5, .pointer (some ⟨b6, 0, none⟩)), (7, .slice A8 y10.length ((IntKind.i64.wrap ((t2.2.length : Int) + 1)).toNat))]) ⟨Z, Z, Z, Z, trivial⟩ ⟨y10, H, Z, hS.pick [0, 1, 2] [0, 1] Z⟩
 rintro F w1 ⟨y9, he, rfl, hS⟩
 obtain rfl := Option.some.inj he
 have H := K488
 refine EJ.next ?_
 refine CJ.seq (CJ.region ?_)
 refine OJ.st rfl rfl rfl (SR.buildA oU oI rfl rfl rfl rfl (zs := [.bool false, .bool false, .bool false, .bool false, .bool false, .bool false, .bool false, .bool false, .bool false, .bool false, .bool false, .bool false, .bool false, .bool false, .bool false, .bool false, .bool false, .bool false, .bool false, .bool false, .bool false, .bool false, .bool false, .bool false, .bool false, .bool false, .bool false, .bool false, .bool false, .bool false, .bool false, .bool false, .bool false, .bool false, .bool false, .bool false, .bool false, .bool false, .bool false, .bool false, .bool false, .bool false, .bool false, .bool false, .bool false, .bool false, .bool false, .bool false, .bool false, .bool false, .bool false, .bool false, .bool false, .bool false, .bool false, .bool false, .bool false, .bool false, .bool false, .bool false, .bool false, .bool false, .bool false, .bool false, .bool false, .bool false, .bool false, .bool false, .bool false, .bool false, .bool false, .bool false, .bool false, .bool false, .bool false, .bool false, .bool false, .bool false, .bool false, .bool false, .bool false, .bool false, .bool false, .bool false, .bool false, .bool false, .bool false, .bool false, .bool false, .bool false, .bool false, .bool false, .bool false, .bool false, .bool false, .bool false, .bool false, .bool false, .bool false, .bool false]) rfl rfl ((carr 10 (carr 10 cb)).enc (Arr.mk' (Arr.mk' false : Arr 10 Bool) : Arr 10 (Arr 10 Bool))) (by kernel_rfl)) ?_
 refine OJ.ef rfl rfl rfl (Ef.alloc hS oI rfl rfl ((carr 10 (carr 10 cb)).enc (Arr.mk' (Arr.mk' false : Arr 10 Bool) : Arr 10 (Arr 10 Bool))) (by kernel_rfl)) ?_
 rintro _ w1 ⟨b21, rfl, hS⟩
 refine OJ.es rfl rfl (Es.put oI hS (i := 3) rfl rfl rfl rfl rfl (vs := (carr 10 (carr 10 cb)).enc (Arr.mk' (Arr.mk' false : Arr 10 Bool) : Arr 10 (Arr 10 Bool))) rfl ((carr 10 (carr 10 cb)).len _) ((carr 10 (carr 10 cb)).one _) (Put.all (carr 10 (carr 10 cb)) (Arr.mk' (Arr.mk' false : Arr 10 Bool) : Arr 10 (Arr 10 Bool)) (Arr.mk' (Arr.mk' false : Arr 10 Bool) : Arr 10 (Arr 10 Bool))) (by (try simp only [add_lit, Nat.add_assoc, Nat.zero_add, Nat.add_zero]) <;> rfl)) ?_
 intro w1 hS
 refine OJ.nil (EJ.next ?_)
 refine CJ.seq ?_
 refine CJ.seq (CJ.region ?_)
 refine OJ.pures oU 1 Z (OJ.nil (EJ.next ?_))
 obtain ⟨j498, H, K498⟩ := pbind H
 refine CJ.cut1 (fun F w1 => ∃ (y22 : Arr 10 (Arr 10 Bool)) , (some y22 : Option (Arr 10 (Arr 10 Bool))) = some j498 ∧ F = [(4, .pointer (some ⟨b1, 0, none⟩)), (10, .pointer (some ⟨b21, 0, none⟩))] ∧ St w no w1 [box b1 ((carr 10 (carr 10 cb)).enc (Arr.mk' (Arr.mk' false : Arr 10 Bool) : Arr 10 (Arr 10 Bool))) 93, box b21 ((carr 10 (carr 10 cb)).enc y22) 93] [roP pa0 (cPasture.enc a0), roP pa1 ((carr 10 (carr 10 cb)).enc a1)]) ?_ ?_
 ·skip
  refine CJ.block ?_
  refine CJ.loop (fun k F w1 => ∃ (y23 : Arr 10 (Arr 10 Bool)) (y24 : Int), F = [(0, .pointer (some pa0)), (4, .pointer (some ⟨b1, 0, none⟩)), (5, .pointer (some ⟨b6, 0, none⟩)), (7, .slice A8 y9.length ((IntKind.i64.wrap ((t2.2.length : Int) + 1)).toNat)), (10, .pointer (some ⟨b21, 0, none⟩)), (11, .int .i8 y24)] ∧ St w no w1 [box b1 ((carr 10 (carr 10 cb)).enc (Arr.mk' (Arr.mk' false : Arr 10 Bool) : Arr 10 (Arr 10 Bool))) 93, box b6 ((carr 10 (carr 10 (ci .i64))).enc t2.1) 59, rowC cb A8 ((IntKind.i64.wrap ((t2.2.length : Int) + 1)).toNat) 4 y9, box b21 ((carr 10 (carr 10 cb)).enc y23) 93] [roP pa0 (cPasture.enc a0), roP pa1 ((carr 10 (carr 10 cb)).enc a1)] ∧ spec_l03Filled.l3 a0 t2 y9 k y23 y24 = some j498) k (F' := [(0, .pointer (some pa0)), (4, .pointer (some ⟨b1, 0, none⟩)), (5, .pointer (some ⟨b6, 0, none⟩)), (7, .slice A8 y9.length ((IntKind.i64.wrap ((t2.2.length : Int) + 1)).toNat)), (10, .pointer (some ⟨b21, 0, none⟩)), (11, .int .i8 0)]) ⟨Z, Z, Z, Z, Z, Z, trivial⟩ ⟨(Arr.mk' (Arr.mk' false : Arr 10 Bool) : Arr 10 (Arr 10 Bool)), 0, Z, hS.pick [0, 1, 2, 3] [0, 1] Z, H⟩ ?_
  rintro k F w1 ⟨y23, y24, rfl, hS, H⟩
  cases k with
  | zero => rw [spec_l03Filled.l3] at H; cases H
  | succ k =>
    rw [spec_l03Filled.l3] at H
    refine CJ.seq ?_
    refine CJ.seq (CJ.region ?_)
    refine OJ.pures oU 3 Z ?_
    refine OJ.st Z Z Z (SR.fieldAddr oU oI Z Z Z Z Z Z) ?_
    refine OJ.st Z Z Z (SR.load Z Z (fun w' hx => ld1 oU Z Z (CA.ext (CA.fld (hS.ca (i := 0) Z) (mid_part (fe_Pasture_1 _) (fl_Pasture_1 _) ((ci .i8).len _))) hx) Z)) ?_
    refine OJ.pures oU 1 Z (OJ.nil (EJ.next ?_))
    refine CJ.cond Z (fun hb => ?_) (fun hb => ?_)
    · replace H := pif_t (of_decide_eq_true hb) H
      refine CJ.skip (EJ.next ?_)
      obtain ⟨j505, H, K505⟩ := pbind H
      refine CJ.cut (fun F w1 => ∃ (y25 : Arr 10 (Arr 10 Bool)) , (some y25 : Option (Arr 10 (Arr 10 Bool))) = some j505 ∧ F = [(0, .pointer (some pa0)), (4, .pointer (some ⟨b1, 0, none⟩)), (5, .pointer (some ⟨b6, 0, none⟩)), (7, .slice A8 y9.length ((IntKind.i64.wrap ((t2.2.length : Int) + 1)).toNat)), (10, .pointer (some ⟨b21, 0, none⟩)), (11, .int .i8 y24)] ∧ St w no w1 [box b1 ((carr 10 (carr 10 cb)).enc (Arr.mk' (Arr.mk' false : Arr 10 Bool) : Arr 10 (Arr 10 Bool))) 93, box b6 ((carr 10 (carr 10 (ci .i64))).enc t2.1) 59, rowC cb A8 ((IntKind.i64.wrap ((t2.2.length : Int) + 1)).toNat) 4 y9, box b21 ((carr 10 (carr 10 cb)).enc y25) 93] [roP pa0 (cPasture.enc a0), roP pa1 ((carr 10 (carr 10 cb)).enc a1)]) ?_ ?_
      · skip
        refine CJ.block ?_
        refine CJ.seq (CJ.region ?_)
        refine OJ.pures oU 1 Z (OJ.nil (EJ.next ?_))
        obtain ⟨j507, H, K507⟩ := pbind H
        refine CJ.cut1 (fun F w1 => ∃ (y26 : Arr 10 (Arr 10 Bool)) , (some y26 : Option (Arr 10 (Arr 10 Bool))) = some j507 ∧ F = [(0, .pointer (some pa0)), (4, .pointer (some ⟨b1, 0, none⟩)), (5, .pointer (some ⟨b6, 0, none⟩)), (7, .slice A8 y9.length ((IntKind.i64.wrap ((t2.2.length : Int) + 1)).toNat)), (10, .pointer (some ⟨b21, 0, none⟩)), (11, .int .i8 y24)] ∧ St w no w1 [box b1 ((carr 10 (carr 10 cb)).enc (Arr.mk' (Arr.mk' false : Arr 10 Bool) : Arr 10 (Arr 10 Bool))) 93, box b6 ((carr 10 (carr 10 (ci .i64))).enc t2.1) 59, rowC cb A8 ((IntKind.i64.wrap ((t2.2.length : Int) + 1)).toNat) 4 y9, box b21 ((carr 10 (carr 10 cb)).enc y26) 93] [roP pa0 (cPasture.enc a0), roP pa1 ((carr 10 (carr 10 cb)).enc a1)]) ?_ ?_
        · skip
          refine CJ.block ?_
          refine CJ.loop (fun k F w1 => ∃ (y27 : Arr 10 (Arr 10 Bool)) (y28 : Int), F = [(0, .pointer (some pa0)), (4, .pointer (some ⟨b1, 0, none⟩)), (5, .pointer (some ⟨b6, 0, none⟩)), (7, .slice A8 y9.length ((IntKind.i64.wrap ((t2.2.length : Int) + 1)).toNat)), (10, .pointer (some ⟨b21, 0, none⟩)), (11, .int .i8 y24), (12, .int .i8 y28)] ∧ St w no w1 [box b1 ((carr 10 (carr 10 cb)).enc (Arr.mk' (Arr.mk' false : Arr 10 Bool) : Arr 10 (Arr 10 Bool))) 93, box b6 ((carr 10 (carr 10 (ci .i64))).enc t2.1) 59, rowC cb A8 ((IntKind.i64.wrap ((t2.2.length : Int) + 1)).toNat) 4 y9, box b21 ((carr 10 (carr 10 cb)).enc y27) 93] [roP pa0 (cPasture.enc a0), roP pa1 ((carr 10 (carr 10 cb)).enc a1)] ∧ spec_l03Filled.l4 a0 t2 y9 y24 k y27 y28 = some j507) k (F' := [(0, .pointer (some pa0)), (4, .pointer (some ⟨b1, 0, none⟩)), (5, .pointer (some ⟨b6, 0, none⟩)), (7, .slice A8 y9.length ((IntKind.i64.wrap ((t2.2.length : Int) + 1)).toNat)), (10, .pointer (some ⟨b21, 0, none⟩)), (11, .int .i8 y24), (12, .int .i8 0)]) ⟨Z, Z, Z, Z, Z, Z, Z, trivial⟩ ⟨y23, 0, Z, hS.pick [0, 1, 2, 3] [0, 1] Z, H⟩ ?_
          rintro k F w1 ⟨y27, y28, rfl, hS, H⟩
          cases k with
          | zero => rw [spec_l03Filled.l4] at H; cases H
          | succ k =>
            rw [spec_l03Filled.l4] at H
            refine CJ.seq ?_
            refine CJ.seq (CJ.region ?_)
            refine OJ.pures oU 3 Z ?_
            refine OJ.st Z Z Z (SR.fieldAddr oU oI Z Z Z Z Z Z) ?_
            refine OJ.st Z Z Z (SR.load Z Z (fun w' hx => ld1 oU Z Z (CA.ext (CA.fld (hS.ca (i := 0) Z) (mid_part (fe_Pasture_0 _) (fl_Pasture_0 _) ((ci .i8).len _))) hx) Z)) ?_
            refine OJ.pures oU 1 Z (OJ.nil (EJ.next ?_))
            refine CJ.cond Z (fun hb => ?_) (fun hb => ?_)
            · replace H := pif_t (of_decide_eq_true hb) H
              refine CJ.skip (EJ.next ?_)
              refine CJ.seq ?_
              refine CJ.block ?_
              refine CJ.draw [] [0, 1, 2, 3, 4, 5, 6, 7, 8, 9, 10, 11, 12] mixed (by kernel_rfl) hS fun w1 hS => ?_
              refine DJ.pures oU 5 Z ?_
              obtain ⟨t29, ht29, H⟩ := pbind H
              refine DJ.st Z Z Z Z Z (SR.idxA oU oI Z Z Z Z Z (Arr.lt ht29)) ?_
              obtain ⟨t30, ht30, H⟩ := pbind H
              refine DJ.st Z Z Z Z Z (SR.idxA oU oI Z Z Z Z Z (Arr.lt ht30)) ?_
              refine DJ.st Z Z Z Z Z (SR.load Z Z (fun w' hx => ld1 oU Z Z (CA.ext (CA.idx (CA.idx (hS.cells (i := 1) Z) ht29) ht30) hx) Z)) ?_
              obtain ⟨t31, ht31, H⟩ := pbind H
              obtain ⟨ad31, e31⟩ := (hS.rd (i := 2) rfl).some' ht31
              refine DJ.st Z Z Z Z Z (SR.idxS oU oI Z Z Z Z e31 Z (getI_some ht31).1) ?_
              refine DJ.st Z Z Z Z Z (SR.load Z Z (fun w' hx => ld1 oU Z Z (CA.ext ((hS.rd (i := 2) Z).at_ e31 ht31) hx) Z)) ?_
              obtain ⟨t32, ht32, H⟩ := pbind H
              refine DJ.st Z Z Z Z Z (SR.idxA oU oI Z Z Z Z Z (Arr.lt ht32)) ?_
              obtain ⟨t33, ht33, H⟩ := pbind H
              refine DJ.st Z Z Z Z Z (SR.idxA oU oI Z Z Z Z Z (Arr.lt ht33)) ?_
              refine DJ.es rfl rfl rfl rfl (Es.put oI hS (i := 3) rfl rfl rfl rfl rfl (vs := cb.enc t31) rfl rfl (one1 rfl) (Put.idx (Put.idx (Put.all cb t33 t31) ht33) ht32) (by (try simp only [add_lit, Nat.add_assoc, Nat.zero_add, Nat.add_zero]) <;> rfl)) ?_
              intro w1 hS
              refine DJ.nil (EJ.blk (EJ.next ?_))
              refine CJ.region ?_
              refine OJ.pures oU 3 Z ?_
              refine OJ.nil ?_
              exact EJ.round k (F' := [(0, .pointer (some pa0)), (4, .pointer (some ⟨b1, 0, none⟩)), (5, .pointer (some ⟨b6, 0, none⟩)), (7, .slice A8 y9.length ((IntKind.i64.wrap ((t2.2.length : Int) + 1)).toNat)), (10, .pointer (some ⟨b21, 0, none⟩)), (11, .int .i8 y24), (12, .int .i8 (IntKind.i8.wrap (y28 + 1)))]) ⟨Z, Z, Z, Z, Z, Z, Z, trivial⟩ (Nat.lt_succ_self _) ⟨(aset y27 y24.toNat (aset t32 y28.toNat t31)), (IntKind.i8.wrap (y28 + 1)), Z, hS.pick [0, 1, 2, 3] [0, 1] Z, H⟩
            · replace H := pif_f (of_decide_eq_false hb) H
              refine CJ.exit (EJ.skE (EJ.skE (EJ.hit (?_))))
              exact EJ.meet (F' := [(0, .pointer (some pa0)), (4, .pointer (some ⟨b1, 0, none⟩)), (5, .pointer (some ⟨b6, 0, none⟩)), (7, .slice A8 y9.length ((IntKind.i64.wrap ((t2.2.length : Int) + 1)).toNat)), (10, .pointer (some ⟨b21, 0, none⟩)), (11, .int .i8 y24)]) ⟨Z, Z, Z, Z, Z, Z, trivial⟩ ⟨y27, H, Z, hS.pick [0, 1, 2, 3] [0, 1] Z⟩
        · rintro F w1 ⟨y26, he, rfl, hS⟩
          obtain rfl := Option.some.inj he
          have H := K507
          refine EJ.blk (?_)
          exact EJ.meet (F' := [(0, .pointer (some pa0)), (4, .pointer (some ⟨b1, 0, none⟩)), (5, .pointer (some ⟨b6, 0, none⟩)), (7, .slice A8 y9.length ((IntKind.i64.wrap ((t2.2.length : Int) + 1)).toNat)), (10, .pointer (some ⟨b21, 0, none⟩)), (11, .int .i8 y24)]) ⟨Z, Z, Z, Z, Z, Z, trivial⟩ ⟨y26, H, Z, hS.pick [0, 1, 2, 3] [0, 1] Z⟩
      · rintro F w1 ⟨y25, he, rfl, hS⟩
        obtain rfl := Option.some.inj he
        have H := K505
        refine CJ.region ?_
        refine OJ.pures oU 3 Z ?_
        refine OJ.nil ?_
        exact EJ.round k (F' := [(0, .pointer (some pa0)), (4, .pointer (some ⟨b1, 0, none⟩)), (5, .pointer (some ⟨b6, 0, none⟩)), (7, .slice A8 y9.length ((IntKind.i64.wrap ((t2.2.length : Int) + 1)).toNat)), (10, .pointer (some ⟨b21, 0, none⟩)), (11, .int .i8 (IntKind.i8.wrap (y24 + 1)))]) ⟨Z, Z, Z, Z, Z, Z, trivial⟩ (Nat.lt_succ_self _) ⟨y25, (IntKind.i8.wrap (y24 + 1)), Z, hS.pick [0, 1, 2, 3] [0, 1] Z, H⟩
    · replace H := pif_f (of_decide_eq_false hb) H
      refine CJ.exit (EJ.skE (EJ.skE (EJ.hit (?_))))
      exact EJ.meet (F' := [(4, .pointer (some ⟨b1, 0, none⟩)), (10, .pointer (some ⟨b21, 0, none⟩))]) ⟨Z, Z, trivial⟩ ⟨y23, H, Z, hS.pick [0, 3] [0, 1] Z⟩
 rintro F w1 ⟨y22, he, rfl, hS⟩
 obtain rfl := Option.some.inj he
 have H := K498
 refine EJ.next ?_
 refine CJ.seq (CJ.region ?_)
 refine OJ.st Z Z Z (SR.load Z Z (fun w' hx => ldE oU oI Z Z Z (CA.ext (hS.cells (i := 1) Z) hx) Z)) ?_
 refine OJ.es rfl rfl (Es.put oI hS (i := 0) rfl rfl rfl rfl rfl (vs := (carr 10 (carr 10 cb)).enc y22) rfl ((carr 10 (carr 10 cb)).len _) ((carr 10 (carr 10 cb)).one _) (Put.all (carr 10 (carr 10 cb)) (Arr.mk' (Arr.mk' false : Arr 10 Bool) : Arr 10 (Arr 10 Bool)) y22) (by (try simp only [add_lit, Nat.add_assoc, Nat.zero_add, Nat.add_zero]) <;> rfl)) ?_
 intro w1 hS
 refine OJ.nil (EJ.next ?_)
 refine CJ.ret (?_)
 obtain rfl := Option.some.inj H
 exact EJ.fin Z (.cell Z (ldE oU oI Z Z Z (hS.cells (i := 0) Z) Z) .nil) ⟨Z, hS.ext⟩

def spec_GatesNeeded.l4 (a0 : Pasture) (y12 : Arr 10 (Arr 10 Bool)) (y19 : Int) (y23 : Int) : Nat → (Arr 10 (Arr 10 Bool)) → Int → Option (Arr 10 (Arr 10 Bool))
  | 0, _, _ => none
  | k + 1, y26, y27 => (if y27 < 4 then ((getI y12.l y19).bind fun t29 => (getI t29.l y23).bind fun t30 => some t30) else (some false)).bind fun y28 => if y28 = true then ((spec_l01Next.f (⟨y23, y19⟩ : Spot) y27).bind fun t31 => (spec_l01Is.f a0 t31).bind fun t33 => if t33 = true then ((getI y26.l t31.Y).bind fun t34 => (getI t34.l t31.X).bind fun t35 => spec_GatesNeeded.l4 a0 y12 y19 y23 k (aset y26 t31.Y.toNat (aset t34 t31.X.toNat true)) (IntKind.i64.wrap (y27 + 1))) else (spec_GatesNeeded.l4 a0 y12 y19 y23 k y26 (IntKind.i64.wrap (y27 + 1)))) else (some y26)
def spec_GatesNeeded.l3 (a0 : Pasture) (y12 : Arr 10 (Arr 10 Bool)) (y19 : Int) : Nat → (Arr 10 (Arr 10 Bool)) → Int → Option (Arr 10 (Arr 10 Bool))
  | 0, _, _ => none
  | k + 1, y22, y23 => if y23 < a0.Wide then (((spec_GatesNeeded.l4 a0 y12 y19 y23 k y22 0).bind fun y25 => some y25).bind fun y24 => spec_GatesNeeded.l3 a0 y12 y19 k y24 (IntKind.i8.wrap (y23 + 1))) else (some y22)
def spec_GatesNeeded.l2 (a0 : Pasture) (y12 : Arr 10 (Arr 10 Bool)) : Nat → (Arr 10 (Arr 10 Bool)) → Int → Option (Arr 10 (Arr 10 Bool))
  | 0, _, _ => none
  | k + 1, y18, y19 => if y19 < a0.High then (((spec_GatesNeeded.l3 a0 y12 y19 k y18 0).bind fun y21 => some y21).bind fun y20 => spec_GatesNeeded.l2 a0 y12 k y20 (IntKind.i8.wrap (y19 + 1))) else (some y18)
def spec_GatesNeeded.l1 (a0 : Pasture) (a2 : Spot) : Nat → (Arr 10 (Arr 10 Bool)) → Int → Option Int
  | 0, _, _ => none
  | k + 1, y12, y13 => (getI y12.l a2.Y).bind fun t14 => (getI t14.l a2.X).bind fun t15 => if (!t15) = true then ((spec_GatesNeeded.l2 a0 y12 k y12 0).bind fun y17 => (spec_l03Filled.f k a0 y17).bind fun t36 => spec_GatesNeeded.l1 a0 a2 k t36 (IntKind.i64.wrap (y13 + 1))) else (some y13)
def spec_GatesNeeded.f (k : Nat) (a0 : Pasture) (a1 : Spot) (a2 : Spot) : Option (Int × Int) := (spec_l01Is.f a0 a2).bind fun t4 => (spec_l01Asked.f k a0 a1 t4).bind fun t5 => if t5 ≠ 0 then (some (0, t5)) else ((spec_l01Yard.f k a0 a1).bind fun t6 => (spec_l01Mask.f k t6).bind fun t9 => (spec_GatesNeeded.l1 a0 a2 k t9 0).bind fun y11 => some (y11, 0))
theorem spec_GatesNeeded.c (k : Nat) (w : World) (a0 : Pasture) (a1 : Spot) (a2 : Spot) (r : Int × Int) (H : spec_GatesNeeded.f k a0 a1 a2 = some r) :
 CV Tryz.prog 21 [.agg (cPasture.enc a0).toArray, .agg (cSpot.enc a1).toArray, .agg (cSpot.enc a2).toArray].toArray w fun v w' => v = .tuple #[.int .i64 r.1, .int .i64 r.2] ∧ Ext w w' := by
 have hS := (St.init w no)
 unfold spec_GatesNeeded.f at H
 refine CV.body Tryz.func21 Z Tryz.ntmps21 Z ?_
 refine CJ.seq (CJ.region ?_)
 refine OJ.ef Z Z Z (Ef.box hS Z Z (cPasture.enc a0) Z) ?_
 rintro _ w1 ⟨b1, rfl, hS⟩
 refine OJ.ef Z Z Z (Ef.box hS Z Z (cSpot.enc a1) Z) ?_
 rintro _ w1 ⟨b2, rfl, hS⟩
 refine OJ.ef Z Z Z (Ef.box hS Z Z (cSpot.enc a2) Z) ?_
 rintro _ w1 ⟨b3, rfl, hS⟩
 refine OJ.pures oU 2 Z (OJ.nil (EJ.next ?_))
 refine CJ.seq ?_
 refine CJ.seq ?_
 refine CJ.draw [] [0, 1, 2, 3, 4] mixed (by kernel_rfl) hS fun w1 hS => ?_
 refine DJ.st Z Z Z Z Z (SR.load Z Z (fun w' hx => ldE oU oI Z Z Z (CA.ext (hS.cells (i := 1) Z) hx) Z)) ?_
 refine DJ.st Z Z Z Z Z (SR.load Z Z (fun w' hx => ldE oU oI Z Z Z (CA.ext (hS.cells (i := 2) Z) hx) Z)) ?_
 obtain ⟨t4, ht4, H⟩ := pbind H
 refine DJ.callF rfl rfl rfl rfl rfl rfl rfl hb51 rfl (spec_l01Is.c _ _ a0 (hS.cells (i := 0) rfl) a2 _ ht4) (by rintro v w' ⟨rfl, hs⟩; exact hs) ?_
 rintro _ w1 ⟨rfl, hs⟩
 replace hS := hS.grow hs
 obtain ⟨t5, ht5, H⟩ := pbind H
 refine DJ.callF rfl rfl rfl rfl rfl rfl rfl hb50 rfl (spec_l01Asked.c k _ _ a0 (hS.cells (i := 0) rfl) a1 t4 _ ht5) (by rintro v w' ⟨rfl, hs⟩; exact hs) ?_
 rintro _ w1 ⟨rfl, hs⟩
 replace hS := hS.grow hs
 refine DJ.pures oU 1 Z ?_
 refine DJ.nil (EJ.next ?_)
 refine CJ.seq (CJ.region ?_)
 refine OJ.pures oU 2 Z (OJ.nil (EJ.next ?_))
 refine CJ.cond Z (fun hb => ?_) (fun hb => ?_)
 ·replace H := pif_t (of_decide_eq_true hb) H
  refine CJ.seq (CJ.region ?_)
  refine OJ.pures oU 3 Z (OJ.nil (EJ.next ?_))
  refine CJ.ret (EJ.skR (?_))
  obtain rfl := Option.some.inj H
  exact EJ.fin Z (.tmp Z (.tmp Z .nil)) ⟨Z, hS.ext⟩
 replace H := pif_f (of_decide_eq_false hb) H
 refine CJ.skip (EJ.next ?_)
 refine CJ.seq (CJ.region ?_)
 refine OJ.st Z Z Z (SR.load Z Z (fun w' hx => ldE oU oI Z Z Z (CA.ext (hS.cells (i := 1) Z) hx) Z)) ?_
 obtain ⟨t6, ht6, H⟩ := pbind H
 refine OJ.callF Z Z Z Z Z hb60 Z (spec_l01Yard.c k _ _ a0 (hS.cells (i := 0) Z) a1 _ ht6) ?_
 rintro _ w1 ⟨A7, c8, rfl, hs⟩
 replace hS := hS.addN hs
 obtain ⟨t9, ht9, H⟩ := pbind H
 refine OJ.callF Z Z Z Z Z hb59 Z (spec_l01Mask.c k _ A7 c8 t6 (hS.rd (i := 3) Z) (hS.le (i := 3) Z) _ ht9) ?_
 rintro _ w1 ⟨rfl, hs⟩
 replace hS := hS.grow hs
 refine OJ.ef rfl rfl rfl (Ef.alloc hS oI rfl rfl ((carr 10 (carr 10 cb)).enc (Arr.mk' (Arr.mk' false : Arr 10 Bool) : Arr 10 (Arr 10 Bool))) (by kernel_rfl)) ?_
 rintro _ w1 ⟨b10, rfl, hS⟩
 refine OJ.es rfl rfl (Es.put oI hS (i := 4) rfl rfl rfl rfl rfl (vs := (carr 10 (carr 10 cb)).enc t9) rfl ((carr 10 (carr 10 cb)).len _) ((carr 10 (carr 10 cb)).one _) (Put.all (carr 10 (carr 10 cb)) (Arr.mk' (Arr.mk' false : Arr 10 Bool) : Arr 10 (Arr 10 Bool)) t9) (by (try simp only [add_lit, Nat.add_assoc, Nat.zero_add, Nat.add_zero]) <;> rfl)) ?_
 intro w1 hS
 refine OJ.nil (EJ.next ?_)
 refine CJ.seq (CJ.region ?_)
 refine OJ.pures oU 1 Z (OJ.nil (EJ.next ?_))
 obtain ⟨j315, H, K315⟩ := pbind H
 refine CJ.cut (fun F w1 => ∃ (y11 : Int) , (some y11 : Option Int) = some j315 ∧ F = [(10, .int .i64 y11)] ∧ St w no w1 [] []) ?_ ?_
 ·skip
  refine CJ.block ?_
  refine CJ.loop (fun k F w1 => ∃ (y12 : Arr 10 (Arr 10 Bool)) (y13 : Int), F = [(3, .pointer (some ⟨b1, 0, none⟩)), (5, .pointer (some ⟨b3, 0, none⟩)), (9, .pointer (some ⟨b10, 0, none⟩)), (10, .int .i64 y13)] ∧ St w no w1 [box b1 (cPasture.enc a0) 31, box b3 (cSpot.enc a2) 45, box b10 ((carr 10 (carr 10 cb)).enc y12) 93] [] ∧ spec_GatesNeeded.l1 a0 a2 k y12 y13 = some j315) k (F' := [(3, .pointer (some ⟨b1, 0, none⟩)), (5, .pointer (some ⟨b3, 0, none⟩)), (9, .pointer (some ⟨b10, 0, none⟩)), (10, .int .i64 0)]) ⟨Z, Z, Z, Z, trivial⟩ ⟨t9, 0, Z, hS.pick [0, 2, 4] [] Z, H⟩ ?_
  rintro k F w1 ⟨y12, y13, rfl, hS, H⟩
  cases k with
  | zero => rw [spec_GatesNeeded.l1] at H; cases H
  | succ k =>
    rw [spec_GatesNeeded.l1] at H
    refine CJ.seq ?_
    refine CJ.seq ?_
    refine CJ.draw [] [0, 1, 2, 3, 4, 5, 6, 7] mixed (by kernel_rfl) hS fun w1 hS => ?_
    refine DJ.st Z Z Z Z Z (SR.fieldAddr oU oI Z Z Z Z Z Z) ?_
    refine DJ.st Z Z Z Z Z (SR.load Z Z (fun w' hx => ld1 oU Z Z (CA.ext (CA.sub (hS.cells (i := 1) Z) 1) hx) Z)) ?_
    refine DJ.st Z Z Z Z Z (SR.fieldAddr oU oI Z Z Z Z Z Z) ?_
    refine DJ.st Z Z Z Z Z (SR.load Z Z (fun w' hx => ld1 oU Z Z (CA.ext (CA.sub (hS.cells (i := 1) Z) 0) hx) Z)) ?_
    obtain ⟨t14, ht14, H⟩ := pbind H
    refine DJ.st Z Z Z Z Z (SR.idxA oU oI Z Z Z Z Z (Arr.lt ht14)) ?_
    obtain ⟨t15, ht15, H⟩ := pbind H
    refine DJ.st Z Z Z Z Z (SR.idxA oU oI Z Z Z Z Z (Arr.lt ht15)) ?_
    refine DJ.st Z Z Z Z Z (SR.load Z Z (fun w' hx => ld1 oU Z Z (CA.ext (CA.idx (CA.idx (hS.cells (i := 2) Z) ht14) ht15) hx) Z)) ?_
    refine DJ.pures oU 1 Z ?_
    refine DJ.nil (EJ.next ?_)
    refine CJ.cond Z (fun hb => ?_) (fun hb => ?_)
    · replace H := pif_t hb H
      refine CJ.skip (EJ.next ?_)
      refine CJ.block ?_
      refine CJ.seq (CJ.region ?_)
      refine OJ.st Z Z Z (SR.load Z Z (fun w' hx => ldE oU oI Z Z Z (CA.ext (hS.cells (i := 2) Z) hx) Z)) ?_
      refine OJ.ef rfl rfl rfl (Ef.alloc hS oI rfl rfl ((carr 10 (carr 10 cb)).enc (Arr.mk' (Arr.mk' false : Arr 10 Bool) : Arr 10 (Arr 10 Bool))) (by kernel_rfl)) ?_
      rintro _ w1 ⟨b16, rfl, hS⟩
      refine OJ.es rfl rfl (Es.put oI hS (i := 3) rfl rfl rfl rfl rfl (vs := (carr 10 (carr 10 cb)).enc y12) rfl ((carr 10 (carr 10 cb)).len _) ((carr 10 (carr 10 cb)).one _) (Put.all (carr 10 (carr 10 cb)) (Arr.mk' (Arr.mk' false : Arr 10 Bool) : Arr 10 (Arr 10 Bool)) y12) (by (try simp only [add_lit, Nat.add_assoc, Nat.zero_add, Nat.add_zero]) <;> rfl)) ?_
      intro w1 hS
      refine OJ.nil (EJ.next ?_)
      refine CJ.seq ?_
      refine CJ.seq (CJ.region ?_)
      refine OJ.pures oU 1 Z (OJ.nil (EJ.next ?_))
      obtain ⟨j680, H, K680⟩ := pbind H
      refine CJ.cut1 (fun F w1 => ∃ (y17 : Arr 10 (Arr 10 Bool)) , (some y17 : Option (Arr 10 (Arr 10 Bool))) = some j680 ∧ F = [(3, .pointer (some ⟨b1, 0, none⟩)), (5, .pointer (some ⟨b3, 0, none⟩)), (9, .pointer (some ⟨b10, 0, none⟩)), (10, .int .i64 y13), (11, .pointer (some ⟨b16, 0, none⟩))] ∧ St w no w1 [box b1 (cPasture.enc a0) 31, box b3 (cSpot.enc a2) 45, box b10 ((carr 10 (carr 10 cb)).enc y12) 93, box b16 ((carr 10 (carr 10 cb)).enc y17) 93] []) ?_ ?_
      · skip
        refine CJ.block ?_
        refine CJ.loop (fun k F w1 => ∃ (y18 : Arr 10 (Arr 10 Bool)) (y19 : Int), F = [(3, .pointer (some ⟨b1, 0, none⟩)), (5, .pointer (some ⟨b3, 0, none⟩)), (9, .pointer (some ⟨b10, 0, none⟩)), (10, .int .i64 y13), (11, .pointer (some ⟨b16, 0, none⟩)), (12, .int .i8 y19)] ∧ St w no w1 [box b1 (cPasture.enc a0) 31, box b3 (cSpot.enc a2) 45, box b10 ((carr 10 (carr 10 cb)).enc y12) 93, box b16 ((carr 10 (carr 10 cb)).enc y18) 93] [] ∧ spec_GatesNeeded.l2 a0 y12 k y18 y19 = some j680) k (F' := [(3, .pointer (some ⟨b1, 0, none⟩)), (5, .pointer (some ⟨b3, 0, none⟩)), (9, .pointer (some ⟨b10, 0, none⟩)), (10, .int .i64 y13), (11, .pointer (some ⟨b16, 0, none⟩)), (12, .int .i8 0)]) ⟨Z, Z, Z, Z, Z, Z, trivial⟩ ⟨y12, 0, Z, hS.pick [0, 1, 2, 3] [] Z, H⟩ ?_
        rintro k F w1 ⟨y18, y19, rfl, hS, H⟩
        cases k with
        | zero => rw [spec_GatesNeeded.l2] at H; cases H
        | succ k =>
          rw [spec_GatesNeeded.l2] at H
          refine CJ.seq ?_
          refine CJ.seq (CJ.region ?_)
          refine OJ.pures oU 1 Z ?_
          refine OJ.st Z Z Z (SR.fieldAddr oU oI Z Z Z Z Z Z) ?_
          refine OJ.st Z Z Z (SR.load Z Z (fun w' hx => ld1 oU Z Z (CA.ext (CA.fld (hS.cells (i := 0) Z) (mid_part (fe_Pasture_1 _) (fl_Pasture_1 _) ((ci .i8).len _))) hx) Z)) ?_
          refine OJ.pures oU 1 Z (OJ.nil (EJ.next ?_))
          refine CJ.cond Z (fun hb => ?_) (fun hb => ?_)
          · replace H := pif_t (of_decide_eq_true hb) H
            refine CJ.skip (EJ.next ?_)
            obtain ⟨j795, H, K795⟩ := pbind H
            refine CJ.cut (fun F w1 => ∃ (y20 : Arr 10 (Arr 10 Bool)) , (some y20 : Option (Arr 10 (Arr 10 Bool))) = some j795 ∧ F = [(3, .pointer (some ⟨b1, 0, none⟩)), (5, .pointer (some ⟨b3, 0, none⟩)), (9, .pointer (some ⟨b10, 0, none⟩)), (10, .int .i64 y13), (11, .pointer (some ⟨b16, 0, none⟩)), (12, .int .i8 y19)] ∧ St w no w1 [box b1 (cPasture.enc a0) 31, box b3 (cSpot.enc a2) 45, box b10 ((carr 10 (carr 10 cb)).enc y12) 93, box b16 ((carr 10 (carr 10 cb)).enc y20) 93] []) ?_ ?_
            · skip
              refine CJ.block ?_
              refine CJ.seq (CJ.region ?_)
              refine OJ.pures oU 1 Z (OJ.nil (EJ.next ?_))
              obtain ⟨j824, H, K824⟩ := pbind H
              refine CJ.cut1 (fun F w1 => ∃ (y21 : Arr 10 (Arr 10 Bool)) , (some y21 : Option (Arr 10 (Arr 10 Bool))) = some j824 ∧ F = [(3, .pointer (some ⟨b1, 0, none⟩)), (5, .pointer (some ⟨b3, 0, none⟩)), (9, .pointer (some ⟨b10, 0, none⟩)), (10, .int .i64 y13), (11, .pointer (some ⟨b16, 0, none⟩)), (12, .int .i8 y19)] ∧ St w no w1 [box b1 (cPasture.enc a0) 31, box b3 (cSpot.enc a2) 45, box b10 ((carr 10 (carr 10 cb)).enc y12) 93, box b16 ((carr 10 (carr 10 cb)).enc y21) 93] []) ?_ ?_
              · skip
                refine CJ.block ?_
                refine CJ.loop (fun k F w1 => ∃ (y22 : Arr 10 (Arr 10 Bool)) (y23 : Int), F = [(3, .pointer (some ⟨b1, 0, none⟩)), (5, .pointer (some ⟨b3, 0, none⟩)), (9, .pointer (some ⟨b10, 0, none⟩)), (10, .int .i64 y13), (11, .pointer (some ⟨b16, 0, none⟩)), (12, .int .i8 y19), (13, .int .i8 y23)] ∧ St w no w1 [box b1 (cPasture.enc a0) 31, box b3 (cSpot.enc a2) 45, box b10 ((carr 10 (carr 10 cb)).enc y12) 93, box b16 ((carr 10 (carr 10 cb)).enc y22) 93] [] ∧ spec_GatesNeeded.l3 a0 y12 y19 k y22 y23 = some j824) k (F' := [(3, .pointer (some ⟨b1, 0, none⟩)), (5, .pointer (some ⟨b3, 0, none⟩)), (9, .pointer (some ⟨b10, 0, none⟩)), (10, .int .i64 y13), (11, .pointer (some ⟨b16, 0, none⟩)), (12, .int .i8 y19), (13, .int .i8 0)]) ⟨Z, Z, Z, Z, Z, Z, Z, trivial⟩ ⟨y18, 0, Z, hS.pick [0, 1, 2, 3] [] Z, H⟩ ?_
                rintro k F w1 ⟨y22, y23, rfl, hS, H⟩
                cases k with
                | zero => rw [spec_GatesNeeded.l3] at H; cases H
                | succ k =>
                  rw [spec_GatesNeeded.l3] at H
                  refine CJ.seq ?_
                  refine CJ.seq (CJ.region ?_)
                  refine OJ.pures oU 1 Z ?_
                  refine OJ.st Z Z Z (SR.fieldAddr oU oI Z Z Z Z Z Z) ?_
                  refine OJ.st Z Z Z (SR.load Z Z (fun w' hx => ld1 oU Z Z (CA.ext (CA.fld (hS.cells (i := 0) Z) (mid_part (fe_Pasture_0 _) (fl_Pasture_0 _) ((ci .i8).len _))) hx) Z)) ?_
                  refine OJ.pures oU 1 Z (OJ.nil (EJ.next ?_))
                  refine CJ.cond Z (fun hb => ?_) (fun hb => ?_)
                  · replace H := pif_t (of_decide_eq_true hb) H
                    refine CJ.skip (EJ.next ?_)
                    obtain ⟨j843, H, K843⟩ := pbind H
                    refine CJ.cut (fun F w1 => ∃ (y24 : Arr 10 (Arr 10 Bool)) , (some y24 : Option (Arr 10 (Arr 10 Bool))) = some j843 ∧ F = [(3, .pointer (some ⟨b1, 0, none⟩)), (5, .pointer (some ⟨b3, 0, none⟩)), (9, .pointer (some ⟨b10, 0, none⟩)), (10, .int .i64 y13), (11, .pointer (some ⟨b16, 0, none⟩)), (12, .int .i8 y19), (13, .int .i8 y23)] ∧ St w no w1 [box b1 (cPasture.enc a0) 31, box b3 (cSpot.enc a2) 45, box b10 ((carr 10 (carr 10 cb)).enc y12) 93, box b16 ((carr 10 (carr 10 cb)).enc y24) 93] []) ?_ ?_
                    · skip
                      refine CJ.block ?_
                      refine CJ.seq (CJ.region ?_)
                      refine OJ.pures oU 1 Z (OJ.nil (EJ.next ?_))
                      obtain ⟨j848, H, K848⟩ := pbind H
                      refine CJ.cut1 (fun F w1 => ∃ (y25 : Arr 10 (Arr 10 Bool)) , (some y25 : Option (Arr 10 (Arr 10 Bool))) = some j848 ∧ F = [(3, .pointer (some ⟨b1, 0, none⟩)), (5, .pointer (some ⟨b3, 0, none⟩)), (9, .pointer (some ⟨b10, 0, none⟩)), (10, .int .i64 y13), (11, .pointer (some ⟨b16, 0, none⟩)), (12, .int .i8 y19), (13, .int .i8 y23)] ∧ St w no w1 [box b1 (cPasture.enc a0) 31, box b3 (cSpot.enc a2) 45, box b10 ((carr 10 (carr 10 cb)).enc y12) 93, box b16 ((carr 10 (carr 10 cb)).enc y25) 93] []) ?_ ?_
                      · skip
                        refine CJ.block ?_
                        refine CJ.loop (fun k F w1 => ∃ (y26 : Arr 10 (Arr 10 Bool)) (y27 : Int), F = [(3, .pointer (some ⟨b1, 0, none⟩)), (5, .pointer (some ⟨b3, 0, none⟩)), (9, .pointer (some ⟨b10, 0, none⟩)), (10, .int .i64 y13), (11, .pointer (some ⟨b16, 0, none⟩)), (12, .int .i8 y19), (13, .int .i8 y23), (14, .int .i64 y27)] ∧ St w no w1 [box b1 (cPasture.enc a0) 31, box b3 (cSpot.enc a2) 45, box b10 ((carr 10 (carr 10 cb)).enc y12) 93, box b16 ((carr 10 (carr 10 cb)).enc y26) 93] [] ∧ spec_GatesNeeded.l4 a0 y12 y19 y23 k y26 y27 = some j848) k (F' := [(3, .pointer (some ⟨b1, 0, none⟩)), (5, .pointer (some ⟨b3, 0, none⟩)), (9, .pointer (some ⟨b10, 0, none⟩)), (10, .int .i64 y13), (11, .pointer (some ⟨b16, 0, none⟩)), (12, .int .i8 y19), (13, .int .i8 y23), (14, .int .i64 0)]) ⟨Z, Z, Z, Z, Z, Z, Z, Z, trivial⟩ ⟨y22, 0, Z, hS.pick [0, 1, 2, 3] [] Z, H⟩ ?_
                        rintro k F w1 ⟨y26, y27, rfl, hS, H⟩
                        cases k with
                        | zero => rw [spec_GatesNeeded.l4] at H; cases H
                        | succ k =>
                          rw [spec_GatesNeeded.l4] at H
                          refine CJ.seq ?_
                          obtain ⟨j851, H, K851⟩ := pbind H
                          refine CJ.cut (fun F w1 => ∃ (y28 : Bool) , (some y28 : Option Bool) = some j851 ∧ F = [(3, .pointer (some ⟨b1, 0, none⟩)), (5, .pointer (some ⟨b3, 0, none⟩)), (9, .pointer (some ⟨b10, 0, none⟩)), (10, .int .i64 y13), (11, .pointer (some ⟨b16, 0, none⟩)), (12, .int .i8 y19), (13, .int .i8 y23), (14, .int .i64 y27), (55, .bool y28)] ∧ St w no w1 [box b1 (cPasture.enc a0) 31, box b3 (cSpot.enc a2) 45, box b10 ((carr 10 (carr 10 cb)).enc y12) 93, box b16 ((carr 10 (carr 10 cb)).enc y26) 93] []) ?_ ?_
                          · skip
                            refine CJ.region ?_
                            refine OJ.pures oU 3 Z ?_
                            refine OJ.split (t := 49) Z (fun hb => ?_) (fun hb => ?_)
                            · replace H := pif_t (of_decide_eq_true hb) H
                              refine OJ.pures oU 2 Z ?_
                              obtain ⟨t29, ht29, H⟩ := pbind H
                              refine OJ.st Z Z Z (SR.idxA oU oI Z Z Z Z Z (Arr.lt ht29)) ?_
                              obtain ⟨t30, ht30, H⟩ := pbind H
                              refine OJ.st Z Z Z (SR.idxA oU oI Z Z Z Z Z (Arr.lt ht30)) ?_
                              refine OJ.st Z Z Z (SR.load Z Z (fun w' hx => ld1 oU Z Z (CA.ext (CA.idx (CA.idx (hS.cells (i := 2) Z) ht29) ht30) hx) Z)) ?_
                              refine OJ.pures oU 1 Z ?_
                              refine OJ.nil ?_
                              exact EJ.meet (F' := [(3, .pointer (some ⟨b1, 0, none⟩)), (5, .pointer (some ⟨b3, 0, none⟩)), (9, .pointer (some ⟨b10, 0, none⟩)), (10, .int .i64 y13), (11, .pointer (some ⟨b16, 0, none⟩)), (12, .int .i8 y19), (13, .int .i8 y23), (14, .int .i64 y27), (55, .bool t30)]) ⟨Z, Z, Z, Z, Z, Z, Z, Z, Z, trivial⟩ ⟨t30, H, Z, hS.pick [0, 1, 2, 3] [] Z⟩
                            · replace H := pif_f (of_decide_eq_false hb) H
                              refine OJ.pures oU 6 Z ?_
                              refine OJ.nil ?_
                              exact EJ.meet (F' := [(3, .pointer (some ⟨b1, 0, none⟩)), (5, .pointer (some ⟨b3, 0, none⟩)), (9, .pointer (some ⟨b10, 0, none⟩)), (10, .int .i64 y13), (11, .pointer (some ⟨b16, 0, none⟩)), (12, .int .i8 y19), (13, .int .i8 y23), (14, .int .i64 y27), (55, .bool false)]) ⟨Z, Z, Z, Z, Z, Z, Z, Z, Z, trivial⟩ ⟨false, H, Z, hS.pick [0, 1, 2, 3] [] Z⟩
                          · rintro F w1 ⟨y28, he, rfl, hS⟩
                            obtain rfl := Option.some.inj he
                            have H := K851
                            refine CJ.cond Z (fun hb => ?_) (fun hb => ?_)
                            · replace H := pif_t hb H
                              refine CJ.skip (EJ.next ?_)
                              refine CJ.seq ?_
                              refine CJ.block ?_
                              refine CJ.seq (CJ.region ?_)
                              refine OJ.pures oU 2 Z ?_
                              refine OJ.st Z Z Z (SR.build (C := cSpot) oU oI Z Z Z (zs := [.int .i8 0, .int .i8 0]) Z Z Z (⟨y23, y19⟩ : Spot) Z) ?_
                              refine OJ.pures oU 1 Z ?_
                              obtain ⟨t31, ht31, H⟩ := pbind H
                              refine OJ.callF Z Z Z Z Z hb37 Z (spec_l01Next.c _ (⟨y23, y19⟩ : Spot) y27 _ ht31) ?_
                              rintro _ w1 ⟨rfl, hs⟩
                              replace hS := hS.grow hs
                              refine OJ.ef Z Z Z (Ef.alloc hS oI Z Z (cSpot.enc (⟨0, 0⟩ : Spot)) Z) ?_
                              rintro _ w1 ⟨b32, rfl, hS⟩
                              refine OJ.es Z Z (Es.store oI hS (i := 4) Z Z Z Z Z Z (vs := cSpot.enc t31) Z (cSpot.len _) (cSpot.one _) (Nat.le_of_ble_eq_true Z) (cSpot.enc t31) Z) ?_
                              intro w1 hS
                              refine OJ.nil (EJ.next ?_)
                              refine CJ.seq (CJ.region ?_)
                              refine OJ.st Z Z Z (SR.load Z Z (fun w' hx => ldE oU oI Z Z Z (CA.ext (hS.cells (i := 4) Z) hx) Z)) ?_
                              obtain ⟨t33, ht33, H⟩ := pbind H
                              refine OJ.callF Z Z Z Z Z hb51 Z (spec_l01Is.c _ _ a0 (hS.cells (i := 0) Z) t31 _ ht33) ?_
                              rintro _ w1 ⟨rfl, hs⟩
                              replace hS := hS.grow hs
                              refine OJ.nil (EJ.next ?_)
                              refine CJ.cond Z (fun hb => ?_) (fun hb => ?_)
                              · replace H := pif_t hb H
                                refine CJ.draw [] [0, 1, 2, 3, 4, 5, 6] mixed (by kernel_rfl) hS fun w1 hS => ?_
                                refine DJ.st Z Z Z Z Z (SR.fieldAddr oU oI Z Z Z Z Z Z) ?_
                                refine DJ.st Z Z Z Z Z (SR.load Z Z (fun w' hx => ld1 oU Z Z (CA.ext (CA.sub (hS.cells (i := 4) Z) 1) hx) Z)) ?_
                                refine DJ.st Z Z Z Z Z (SR.fieldAddr oU oI Z Z Z Z Z Z) ?_
                                refine DJ.st Z Z Z Z Z (SR.load Z Z (fun w' hx => ld1 oU Z Z (CA.ext (CA.sub (hS.cells (i := 4) Z) 0) hx) Z)) ?_
                                obtain ⟨t34, ht34, H⟩ := pbind H
                                refine DJ.st Z Z Z Z Z (SR.idxA oU oI Z Z Z Z Z (Arr.lt ht34)) ?_
                                obtain ⟨t35, ht35, H⟩ := pbind H
                                refine DJ.st Z Z Z Z Z (SR.idxA oU oI Z Z Z Z Z (Arr.lt ht35)) ?_
                                refine DJ.es rfl rfl rfl rfl (Es.put oI hS (i := 3) rfl rfl rfl rfl rfl (vs := cb.enc true) rfl rfl (one1 rfl) (Put.idx (Put.idx (Put.all cb t35 true) ht35) ht34) (by (try simp only [add_lit, Nat.add_assoc, Nat.zero_add, Nat.add_zero]) <;> rfl)) ?_
                                intro w1 hS
                                refine DJ.nil (EJ.blk (EJ.next ?_))
                                refine CJ.region ?_
                                refine OJ.pures oU 3 Z ?_
                                refine OJ.nil ?_
                                exact EJ.round k (F' := [(3, .pointer (some ⟨b1, 0, none⟩)), (5, .pointer (some ⟨b3, 0, none⟩)), (9, .pointer (some ⟨b10, 0, none⟩)), (10, .int .i64 y13), (11, .pointer (some ⟨b16, 0, none⟩)), (12, .int .i8 y19), (13, .int .i8 y23), (14, .int .i64 (IntKind.i64.wrap (y27 + 1)))]) ⟨Z, Z, Z, Z, Z, Z, Z, Z, trivial⟩ (Nat.lt_succ_self _) ⟨(aset y26 t31.Y.toNat (aset t34 t31.X.toNat true)), (IntKind.i64.wrap (y27 + 1)), Z, hS.pick [0, 1, 2, 3] [] Z, H⟩
                              · replace H := pifb_f hb H
                                refine CJ.skip (EJ.blk (EJ.next ?_))
                                refine CJ.region ?_
                                refine OJ.pures oU 3 Z ?_
                                refine OJ.nil ?_
                                exact EJ.round k (F' := [(3, .pointer (some ⟨b1, 0, none⟩)), (5, .pointer (some ⟨b3, 0, none⟩)), (9, .pointer (some ⟨b10, 0, none⟩)), (10, .int .i64 y13), (11, .pointer (some ⟨b16, 0, none⟩)), (12, .int .i8 y19), (13, .int .i8 y23), (14, .int .i64 (IntKind.i64.wrap (y27 + 1)))]) ⟨Z, Z, Z, Z, Z, Z, Z, Z, trivial⟩ (Nat.lt_succ_self _) ⟨y26, (IntKind.i64.wrap (y27 + 1)), Z, hS.pick [0, 1, 2, 3] [] Z, H⟩
                            · replace H := pifb_f hb H
                              refine CJ.exit (EJ.skE (EJ.skE (EJ.hit (?_))))
                              exact EJ.meet (F' := [(3, .pointer (some ⟨b1, 0, none⟩)), (5, .pointer (some ⟨b3, 0, none⟩)), (9, .pointer (some ⟨b10, 0, none⟩)), (10, .int .i64 y13), (11, .pointer (some ⟨b16, 0, none⟩)), (12, .int .i8 y19), (13, .int .i8 y23)]) ⟨Z, Z, Z, Z, Z, Z, Z, trivial⟩ ⟨y26, H, Z, hS.pick [0, 1, 2, 3] [] Z⟩
                      · rintro F w1 ⟨y25, he, rfl, hS⟩
                        obtain rfl := Option.some.inj he
                        have H := K848
                        refine EJ.blk (?_)
                        exact EJ.meet (F' := [(3, .pointer (some ⟨b1, 0, none⟩)), (5, .pointer (some ⟨b3, 0, none⟩)), (9, .pointer (some ⟨b10, 0, none⟩)), (10, .int .i64 y13), (11, .pointer (some ⟨b16, 0, none⟩)), (12, .int .i8 y19), (13, .int .i8 y23)]) ⟨Z, Z, Z, Z, Z, Z, Z, trivial⟩ ⟨y25, H, Z, hS.pick [0, 1, 2, 3] [] Z⟩
                    · rintro F w1 ⟨y24, he, rfl, hS⟩
                      obtain rfl := Option.some.inj he
                      have H := K843
                      refine CJ.region ?_
                      refine OJ.pures oU 3 Z ?_
                      refine OJ.nil ?_
                      exact EJ.round k (F' := [(3, .pointer (some ⟨b1, 0, none⟩)), (5, .pointer (some ⟨b3, 0, none⟩)), (9, .pointer (some ⟨b10, 0, none⟩)), (10, .int .i64 y13), (11, .pointer (some ⟨b16, 0, none⟩)), (12, .int .i8 y19), (13, .int .i8 (IntKind.i8.wrap (y23 + 1)))]) ⟨Z, Z, Z, Z, Z, Z, Z, trivial⟩ (Nat.lt_succ_self _) ⟨y24, (IntKind.i8.wrap (y23 + 1)), Z, hS.pick [0, 1, 2, 3] [] Z, H⟩
                  · replace H := pif_f (of_decide_eq_false hb) H
                    refine CJ.exit (EJ.skE (EJ.skE (EJ.hit (?_))))
                    exact EJ.meet (F' := [(3, .pointer (some ⟨b1, 0, none⟩)), (5, .pointer (some ⟨b3, 0, none⟩)), (9, .pointer (some ⟨b10, 0, none⟩)), (10, .int .i64 y13), (11, .pointer (some ⟨b16, 0, none⟩)), (12, .int .i8 y19)]) ⟨Z, Z, Z, Z, Z, Z, trivial⟩ ⟨y22, H, Z, hS.pick [0, 1, 2, 3] [] Z⟩
              · rintro F w1 ⟨y21, he, rfl, hS⟩
                obtain rfl := Option.some.inj he
                have H := K824
                refine EJ.blk (?_)
                exact EJ.meet (F' := [(3, .pointer (some ⟨b1, 0, none⟩)), (5, .pointer (some ⟨b3, 0, none⟩)), (9, .pointer (some ⟨b10, 0, none⟩)), (10, .int .i64 y13), (11, .pointer (some ⟨b16, 0, none⟩)), (12, .int .i8 y19)]) ⟨Z, Z, Z, Z, Z, Z, trivial⟩ ⟨y21, H, Z, hS.pick [0, 1, 2, 3] [] Z⟩
            · rintro F w1 ⟨y20, he, rfl, hS⟩
              obtain rfl := Option.some.inj he
              have H := K795
              refine CJ.region ?_
              refine OJ.pures oU 3 Z ?_
              refine OJ.nil ?_
              exact EJ.round k (F' := [(3, .pointer (some ⟨b1, 0, none⟩)), (5, .pointer (some ⟨b3, 0, none⟩)), (9, .pointer (some ⟨b10, 0, none⟩)), (10, .int .i64 y13), (11, .pointer (some ⟨b16, 0, none⟩)), (12, .int .i8 (IntKind.i8.wrap (y19 + 1)))]) ⟨Z, Z, Z, Z, Z, Z, trivial⟩ (Nat.lt_succ_self _) ⟨y20, (IntKind.i8.wrap (y19 + 1)), Z, hS.pick [0, 1, 2, 3] [] Z, H⟩
          · replace H := pif_f (of_decide_eq_false hb) H
            refine CJ.exit (EJ.skE (EJ.skE (EJ.hit (?_))))
            exact EJ.meet (F' := [(3, .pointer (some ⟨b1, 0, none⟩)), (5, .pointer (some ⟨b3, 0, none⟩)), (9, .pointer (some ⟨b10, 0, none⟩)), (10, .int .i64 y13), (11, .pointer (some ⟨b16, 0, none⟩))]) ⟨Z, Z, Z, Z, Z, trivial⟩ ⟨y18, H, Z, hS.pick [0, 1, 2, 3] [] Z⟩
      · rintro F w1 ⟨y17, he, rfl, hS⟩
        obtain rfl := Option.some.inj he
        have H := K680
        refine EJ.next ?_
        refine CJ.seq (CJ.region ?_)
        obtain ⟨t36, ht36, H⟩ := pbind H
        refine OJ.callF Z Z Z Z Z hb61 Z (spec_l03Filled.c k _ _ a0 (hS.cells (i := 0) Z) _ y17 (hS.cells (i := 3) Z) _ ht36) ?_
        rintro _ w1 ⟨rfl, hs⟩
        replace hS := hS.grow hs
        refine OJ.es rfl rfl (Es.put oI hS (i := 2) rfl rfl rfl rfl rfl (vs := (carr 10 (carr 10 cb)).enc t36) rfl ((carr 10 (carr 10 cb)).len _) ((carr 10 (carr 10 cb)).one _) (Put.all (carr 10 (carr 10 cb)) y12 t36) (by (try simp only [add_lit, Nat.add_assoc, Nat.zero_add, Nat.add_zero]) <;> rfl)) ?_
        intro w1 hS
        refine OJ.nil (EJ.next ?_)
        refine CJ.region ?_
        refine OJ.pures oU 3 Z ?_
        refine OJ.nil (EJ.blk (?_))
        exact EJ.round k (F' := [(3, .pointer (some ⟨b1, 0, none⟩)), (5, .pointer (some ⟨b3, 0, none⟩)), (9, .pointer (some ⟨b10, 0, none⟩)), (10, .int .i64 (IntKind.i64.wrap (y13 + 1)))]) ⟨Z, Z, Z, Z, trivial⟩ (Nat.lt_succ_self _) ⟨t36, (IntKind.i64.wrap (y13 + 1)), Z, hS.pick [0, 1, 2] [] Z, H⟩
    · replace H := pifb_f hb H
      refine CJ.exit (EJ.skE (EJ.skE (EJ.hit (?_))))
      exact EJ.meet (F' := [(10, .int .i64 y13)]) ⟨Z, trivial⟩ ⟨y13, H, Z, hS.pick [] [] Z⟩
 rintro F w1 ⟨y11, he, rfl, hS⟩
 obtain rfl := Option.some.inj he
 have H := K315
 refine CJ.seq (CJ.region ?_)
 refine OJ.pures oU 3 Z (OJ.nil (EJ.next ?_))
 refine CJ.ret (?_)
 obtain rfl := Option.some.inj H
 exact EJ.fin Z (.tmp Z (.tmp Z .nil)) ⟨Z, hS.ext⟩

def spec_l03Asked.l1 (a0 : Pasture) (a1 : List Hurdle) : Nat → Int → Option (Int ⊕ Unit)
  | 0, _ => none
  | k + 1, y2 => if y2 < (a1.length : Int) then ((getI a1 y2).bind fun t3 => (spec_l03Is.f a0 t3).bind fun t4 => if (!t4) = true then (some (Sum.inl 2)) else (spec_l03Asked.l1 a0 a1 k (IntKind.i64.wrap (y2 + 1)))) else (some (Sum.inr ()))
def spec_l03Asked.f (k : Nat) (a0 : Pasture) (a1 : List Hurdle) : Option Int := (spec_l01Ok.f k a0).bind fun t1 => if (!t1) = true then (some 1) else ((spec_l03Asked.l1 a0 a1 k 0).bind fun s856 => match s856 with | .inl r => some r | .inr _ => some 0)
theorem spec_l03Asked.c (k : Nat) (w : World) (pa0 : Addr) (a0 : Pasture) (hp0 : CA w pa0 (cPasture.enc a0)) (Aa1 : Option Addr) (ca1 : Nat) (a1 : List Hurdle) (hr1 : Rd cHurdle w Aa1 a1) (hc1 : a1.length ≤ ca1) (r : Int) (H : spec_l03Asked.f k a0 a1 = some r) :
 CV Tryz.prog 62 [.pointer (some pa0), .slice Aa1 a1.length ca1].toArray w fun v w' => v = .int .i64 r ∧ Ext w w' := by
 have hS := (((St.init w no).paramP pa0 (cPasture.enc a0) hp0).param cHurdle Aa1 ca1 a1 hr1 hc1)
 unfold spec_l03Asked.f at H
 refine CV.body Tryz.func62 Z Tryz.ntmps62 Z ?_
 refine CJ.seq (CJ.region ?_)
 refine OJ.pures oU 1 Z (OJ.nil (EJ.next ?_))
 refine CJ.seq ?_
 refine CJ.seq (CJ.region ?_)
 refine OJ.pures oU 1 Z ?_
 obtain ⟨t1, ht1, H⟩ := pbind H
 refine OJ.callF Z Z Z Z Z hb27 Z (spec_l01Ok.c k _ _ a0 (hS.ca (i := 0) Z) _ ht1) ?_
 rintro _ w1 ⟨rfl, hs⟩
 replace hS := hS.grow hs
 refine OJ.pures oU 1 Z (OJ.nil (EJ.next ?_))
 refine CJ.cond Z (fun hb => ?_) (fun hb => ?_)
 ·replace H := pif_t hb H
  refine CJ.seq (CJ.region ?_)
  refine OJ.pures oU 1 Z (OJ.nil (EJ.next ?_))
  refine CJ.ret (EJ.skR (?_))
  obtain rfl := Option.some.inj H
  exact EJ.fin Z (.tmp Z .nil) ⟨Z, hS.ext⟩
 replace H := pifb_f hb H
 refine CJ.skip (EJ.next ?_)
 refine CJ.seq ?_
 refine CJ.seq (CJ.region ?_)
 refine OJ.pures oU 1 Z (OJ.nil (EJ.next ?_))
 obtain ⟨j856, H, K856⟩ := pbind H
 refine CJ.cut1 (fun F w1 => (some (Sum.inr ()) : Option (Int ⊕ Unit)) = some j856 ∧ F = [] ∧ St w no w1 [] [roP pa0 (cPasture.enc a0), roC cHurdle Aa1 ca1 a1]) ?_ ?_
 ·skip
  refine CJ.block ?_
  refine CJ.loop (fun k F w1 => ∃ (y2 : Int), F = [(0, .pointer (some pa0)), (1, .slice Aa1 a1.length ca1), (5, .int .i64 y2)] ∧ St w no w1 [] [roP pa0 (cPasture.enc a0), roC cHurdle Aa1 ca1 a1] ∧ spec_l03Asked.l1 a0 a1 k y2 = some j856) k (F' := [(0, .pointer (some pa0)), (1, .slice Aa1 a1.length ca1), (5, .int .i64 0)]) ⟨Z, Z, Z, trivial⟩ ⟨0, Z, hS.pick [] [0, 1] Z, H⟩ ?_
  rintro k F w1 ⟨y2, rfl, hS, H⟩
  cases k with
  | zero => rw [spec_l03Asked.l1] at H; cases H
  | succ k =>
    rw [spec_l03Asked.l1] at H
    refine CJ.seq ?_
    refine CJ.seq (CJ.region ?_)
    refine OJ.pures oU 4 Z (OJ.nil (EJ.next ?_))
    refine CJ.cond Z (fun hb => ?_) (fun hb => ?_)
    · replace H := pif_t (of_decide_eq_true hb) H
      refine CJ.skip (EJ.next ?_)
      refine CJ.seq ?_
      refine CJ.block ?_
      refine CJ.seq (CJ.region ?_)
      refine OJ.pures oU 3 Z ?_
      obtain ⟨t3, ht3, H⟩ := pbind H
      obtain ⟨ad3, e3⟩ := (hS.rd' (i := 1) rfl).some' ht3
      refine OJ.st Z Z Z (SR.idxS oU oI Z Z Z Z e3 Z (getI_some ht3).1) ?_
      refine OJ.st Z Z Z (SR.load Z Z (fun w' hx => ldE oU oI Z Z Z (CA.ext ((hS.rd' (i := 1) Z).at_ e3 ht3) hx) Z)) ?_
      obtain ⟨t4, ht4, H⟩ := pbind H
      refine OJ.callF Z Z Z Z Z hb77 Z (spec_l03Is.c _ _ a0 (hS.ca (i := 0) Z) t3 _ ht4) ?_
      rintro _ w1 ⟨rfl, hs⟩
      replace hS := hS.grow hs
      refine OJ.pures oU 1 Z (OJ.nil (EJ.next ?_))
      refine CJ.cond Z (fun hb => ?_) (fun hb => ?_)
      · replace H := pif_t hb H
        refine CJ.seq (CJ.region ?_)
        refine OJ.pures oU 1 Z (OJ.nil (EJ.next ?_))
        refine CJ.ret (EJ.bkR (EJ.skR (EJ.skR (EJ.bkR (EJ.skR (EJ.skR (?_)))))))
        first | (obtain rfl := Option.some.inj H; have H := K856) | (obtain ⟨q856, H2, e856⟩ := pbind H; obtain rfl := Option.some.inj e856; obtain rfl := Option.some.inj K856; have H := H2)
        obtain rfl := Option.some.inj H
        exact EJ.fin Z (.tmp Z .nil) ⟨Z, hS.ext⟩
      · replace H := pifb_f hb H
        refine CJ.skip (EJ.blk (EJ.next ?_))
        refine CJ.region ?_
        refine OJ.pures oU 3 Z ?_
        refine OJ.nil ?_
        exact EJ.round k (F' := [(0, .pointer (some pa0)), (1, .slice Aa1 a1.length ca1), (5, .int .i64 (IntKind.i64.wrap (y2 + 1)))]) ⟨Z, Z, Z, trivial⟩ (Nat.lt_succ_self _) ⟨(IntKind.i64.wrap (y2 + 1)), Z, hS.pick [] [0, 1] Z, H⟩
    · replace H := pif_f (of_decide_eq_false hb) H
      refine CJ.exit (EJ.skE (EJ.skE (EJ.hit (?_))))
      exact EJ.meet (F' := []) trivial ⟨H, Z, hS.pick [] [0, 1] Z⟩
 rintro F w1 ⟨he, rfl, hS⟩
 obtain rfl := Option.some.inj he
 have H := K856
 refine EJ.next ?_
 refine CJ.seq (CJ.region ?_)
 refine OJ.pures oU 1 Z (OJ.nil (EJ.next ?_))
 refine CJ.ret (?_)
 obtain rfl := Option.some.inj H
 exact EJ.fin Z (.tmp Z .nil) ⟨Z, hS.ext⟩

def spec_TakeHurdles.f (k : Nat) (a0 : Pasture) (a1 : List Hurdle) : Option (Pasture × Int) := (spec_l03Asked.f k a0 a1).bind fun t3 => if t3 ≠ 0 then (some ((⟨0, 0, (Arr.mk' (Arr.mk' 0 : Arr 10 Int) : Arr 10 (Arr 10 Int)), (Arr.mk' 0 : Arr 10 Int), (Arr.mk' 0 : Arr 10 Int)⟩ : Pasture), t3)) else ((spec_l03Put.f k a0 a1 false).bind fun t4 => some (t4, 0))
theorem spec_TakeHurdles.c (k : Nat) (w : World) (a0 : Pasture) (Aa1 : Option Addr) (ca1 : Nat) (a1 : List Hurdle) (hr1 : Rd cHurdle w Aa1 a1) (hc1 : a1.length ≤ ca1) (r : Pasture × Int) (H : spec_TakeHurdles.f k a0 a1 = some r) :
 CV Tryz.prog 23 [.agg (cPasture.enc a0).toArray, .slice Aa1 a1.length ca1].toArray w fun v w' => v = .tuple #[.agg (cPasture.enc r.1).toArray, .int .i64 r.2] ∧ Ext w w' := by
 have hS := ((St.init w no).param cHurdle Aa1 ca1 a1 hr1 hc1)
 unfold spec_TakeHurdles.f at H
 refine CV.body Tryz.func23 Z Tryz.ntmps23 Z ?_
 refine CJ.seq (CJ.region ?_)
 refine OJ.ef Z Z Z (Ef.box hS Z Z (cPasture.enc a0) Z) ?_
 rintro _ w1 ⟨b1, rfl, hS⟩
 refine OJ.ef rfl rfl rfl (Ef.alloc hS oI rfl rfl (cPasture.enc (⟨0, 0, (Arr.mk' (Arr.mk' 0 : Arr 10 Int) : Arr 10 (Arr 10 Int)), (Arr.mk' 0 : Arr 10 Int), (Arr.mk' 0 : Arr 10 Int)⟩ : Pasture)) (by kernel_rfl)) ?_
 rintro _ w1 ⟨b2, rfl, hS⟩
 refine OJ.pures oU 1 Z (OJ.nil (EJ.next ?_))
 refine CJ.seq ?_
 refine CJ.seq (CJ.region ?_)
 refine OJ.pures oU 1 Z ?_
 obtain ⟨t3, ht3, H⟩ := pbind H
 refine OJ.callF Z Z Z Z Z hb62 Z (spec_l03Asked.c k _ _ a0 (hS.cells (i := 0) Z) Aa1 ca1 a1 (hS.rd' (i := 0) Z) (hS.le' (i := 0) Z) _ ht3) ?_
 rintro _ w1 ⟨rfl, hs⟩
 replace hS := hS.grow hs
 refine OJ.pures oU 1 Z (OJ.nil (EJ.next ?_))
 refine CJ.seq (CJ.region ?_)
 refine OJ.pures oU 2 Z (OJ.nil (EJ.next ?_))
 refine CJ.cond Z (fun hb => ?_) (fun hb => ?_)
 ·replace H := pif_t (of_decide_eq_true hb) H
  refine CJ.seq (CJ.region ?_)
  refine OJ.st Z Z Z (SR.build (C := cPasture) oU oI Z Z Z (zs := [.int .i8 0, .int .i8 0, .int .i16 0, .int .i16 0, .int .i16 0, .int .i16 0, .int .i16 0, .int .i16 0, .int .i16 0, .int .i16 0, .int .i16 0, .int .i16 0, .int .i16 0, .int .i16 0, .int .i16 0, .int .i16 0, .int .i16 0, .int .i16 0, .int .i16 0, .int .i16 0, .int .i16 0, .int .i16 0, .int .i16 0, .int .i16 0, .int .i16 0, .int .i16 0, .int .i16 0, .int .i16 0, .int .i16 0, .int .i16 0, .int .i16 0, .int .i16 0, .int .i16 0, .int .i16 0, .int .i16 0, .int .i16 0, .int .i16 0, .int .i16 0, .int .i16 0, .int .i16 0, .int .i16 0, .int .i16 0, .int .i16 0, .int .i16 0, .int .i16 0, .int .i16 0, .int .i16 0, .int .i16 0, .int .i16 0, .int .i16 0, .int .i16 0, .int .i16 0, .int .i16 0, .int .i16 0, .int .i16 0, .int .i16 0, .int .i16 0, .int .i16 0, .int .i16 0, .int .i16 0, .int .i16 0, .int .i16 0, .int .i16 0, .int .i16 0, .int .i16 0, .int .i16 0, .int .i16 0, .int .i16 0, .int .i16 0, .int .i16 0, .int .i16 0, .int .i16 0, .int .i16 0, .int .i16 0, .int .i16 0, .int .i16 0, .int .i16 0, .int .i16 0, .int .i16 0, .int .i16 0, .int .i16 0, .int .i16 0, .int .i16 0, .int .i16 0, .int .i16 0, .int .i16 0, .int .i16 0, .int .i16 0, .int .i16 0, .int .i16 0, .int .i16 0, .int .i16 0, .int .i16 0, .int .i16 0, .int .i16 0, .int .i16 0, .int .i16 0, .int .i16 0, .int .i16 0, .int .i16 0, .int .i16 0, .int .i16 0, .int .u16 0, .int .u16 0, .int .u16 0, .int .u16 0, .int .u16 0, .int .u16 0, .int .u16 0, .int .u16 0, .int .u16 0, .int .u16 0, .int .u16 0, .int .u16 0, .int .u16 0, .int .u16 0, .int .u16 0, .int .u16 0, .int .u16 0, .int .u16 0, .int .u16 0, .int .u16 0]) Z Z Z (⟨0, 0, (Arr.mk' (Arr.mk' 0 : Arr 10 Int) : Arr 10 (Arr 10 Int)), (Arr.mk' 0 : Arr 10 Int), (Arr.mk' 0 : Arr 10 Int)⟩ : Pasture) Z) ?_
  refine OJ.pures oU 1 Z ?_
  refine OJ.es rfl rfl (Es.put oI hS (i := 1) rfl rfl rfl rfl rfl (vs := cPasture.enc (⟨0, 0, (Arr.mk' (Arr.mk' 0 : Arr 10 Int) : Arr 10 (Arr 10 Int)), (Arr.mk' 0 : Arr 10 Int), (Arr.mk' 0 : Arr 10 Int)⟩ : Pasture)) rfl (cPasture.len _) (cPasture.one _) (Put.all cPasture (⟨0, 0, (Arr.mk' (Arr.mk' 0 : Arr 10 Int) : Arr 10 (Arr 10 Int)), (Arr.mk' 0 : Arr 10 Int), (Arr.mk' 0 : Arr 10 Int)⟩ : Pasture) (⟨0, 0, (Arr.mk' (Arr.mk' 0 : Arr 10 Int) : Arr 10 (Arr 10 Int)), (Arr.mk' 0 : Arr 10 Int), (Arr.mk' 0 : Arr 10 Int)⟩ : Pasture)) (by (try simp only [add_lit, Nat.add_assoc, Nat.zero_add, Nat.add_zero]) <;> rfl)) ?_
  intro w1 hS
  refine OJ.pures oU 1 Z (OJ.nil (EJ.next ?_))
  refine CJ.ret (EJ.skR (?_))
  obtain rfl := Option.some.inj H
  exact EJ.fin Z (.cell Z (ldE oU oI Z Z Z (hS.cells (i := 1) Z) Z) (.tmp Z .nil)) ⟨Z, hS.ext⟩
 replace H := pif_f (of_decide_eq_false hb) H
 refine CJ.skip (EJ.next ?_)
 refine CJ.seq (CJ.region ?_)
 refine OJ.st Z Z Z (SR.load Z Z (fun w' hx => ldE oU oI Z Z Z (CA.ext (hS.cells (i := 0) Z) hx) Z)) ?_
 refine OJ.pures oU 1 Z ?_
 obtain ⟨t4, ht4, H⟩ := pbind H
 refine OJ.callF Z Z Z Z Z hb48 Z (spec_l03Put.c k _ a0 Aa1 ca1 a1 (hS.rd' (i := 0) Z) (hS.le' (i := 0) Z) false _ ht4) ?_
 rintro _ w1 ⟨rfl, hs⟩
 replace hS := hS.grow hs
 refine OJ.es rfl rfl (Es.put oI hS (i := 1) rfl rfl rfl rfl rfl (vs := cPasture.enc t4) rfl (cPasture.len _) (cPasture.one _) (Put.all cPasture (⟨0, 0, (Arr.mk' (Arr.mk' 0 : Arr 10 Int) : Arr 10 (Arr 10 Int)), (Arr.mk' 0 : Arr 10 Int), (Arr.mk' 0 : Arr 10 Int)⟩ : Pasture) t4) (by (try simp only [add_lit, Nat.add_assoc, Nat.zero_add, Nat.add_zero]) <;> rfl)) ?_
 intro w1 hS
 refine OJ.pures oU 1 Z (OJ.nil (EJ.next ?_))
 refine CJ.ret (?_)
 obtain rfl := Option.some.inj H
 exact EJ.fin Z (.cell Z (ldE oU oI Z Z Z (hS.cells (i := 1) Z) Z) (.tmp Z .nil)) ⟨Z, hS.ext⟩

def spec_StepsBetween.f (k : Nat) (a0 : Pasture) (a1 : Spot) (a2 : Spot) : Option (Int × Int) := (spec_l01Is.f a0 a2).bind fun t4 => (spec_l01Asked.f k a0 a1 t4).bind fun t5 => if t5 ≠ 0 then (some (0, t5)) else ((spec_l01Steps.f k a0 a1).bind fun t6 => (getI t6.l a2.Y).bind fun t8 => (getI t8.l a2.X).bind fun t9 => if t9 = 0 then (some (0, 6)) else ((getI t6.l a2.Y).bind fun t10 => (getI t10.l a2.X).bind fun t11 => some (IntKind.i64.wrap (t11 - 1), 0)))
theorem spec_StepsBetween.c (k : Nat) (w : World) (a0 : Pasture) (a1 : Spot) (a2 : Spot) (r : Int × Int) (H : spec_StepsBetween.f k a0 a1 a2 = some r) :
 CV Tryz.prog 24 [.agg (cPasture.enc a0).toArray, .agg (cSpot.enc a1).toArray, .agg (cSpot.enc a2).toArray].toArray w fun v w' => v = .tuple #[.int .i64 r.1, .int .i64 r.2] ∧ Ext w w' := by
 have hS := (St.init w no)
 unfold spec_StepsBetween.f at H
 refine CV.body Tryz.func24 Z Tryz.ntmps24 Z ?_
 refine CJ.seq (CJ.region ?_)
 refine OJ.ef Z Z Z (Ef.box hS Z Z (cPasture.enc a0) Z) ?_
 rintro _ w1 ⟨b1, rfl, hS⟩
 refine OJ.ef Z Z Z (Ef.box hS Z Z (cSpot.enc a1) Z) ?_
 rintro _ w1 ⟨b2, rfl, hS⟩
 refine OJ.ef Z Z Z (Ef.box hS Z Z (cSpot.enc a2) Z) ?_
 rintro _ w1 ⟨b3, rfl, hS⟩
 refine OJ.pures oU 2 Z (OJ.nil (EJ.next ?_))
 refine CJ.seq ?_
 refine CJ.seq ?_
 refine CJ.draw [] [0, 1, 2, 3, 4] mixed (by kernel_rfl) hS fun w1 hS => ?_
 refine DJ.st Z Z Z Z Z (SR.load Z Z (fun w' hx => ldE oU oI Z Z Z (CA.ext (hS.cells (i := 1) Z) hx) Z)) ?_
 refine DJ.st Z Z Z Z Z (SR.load Z Z (fun w' hx => ldE oU oI Z Z Z (CA.ext (hS.cells (i := 2) Z) hx) Z)) ?_
 obtain ⟨t4, ht4, H⟩ := pbind H
 refine DJ.callF rfl rfl rfl rfl rfl rfl rfl hb51 rfl (spec_l01Is.c _ _ a0 (hS.cells (i := 0) rfl) a2 _ ht4) (by rintro v w' ⟨rfl, hs⟩; exact hs) ?_
 rintro _ w1 ⟨rfl, hs⟩
 replace hS := hS.grow hs
 obtain ⟨t5, ht5, H⟩ := pbind H
 refine DJ.callF rfl rfl rfl rfl rfl rfl rfl hb50 rfl (spec_l01Asked.c k _ _ a0 (hS.cells (i := 0) rfl) a1 t4 _ ht5) (by rintro v w' ⟨rfl, hs⟩; exact hs) ?_
 rintro _ w1 ⟨rfl, hs⟩
 replace hS := hS.grow hs
 refine DJ.pures oU 1 Z ?_
 refine DJ.nil (EJ.next ?_)
 refine CJ.seq (CJ.region ?_)
 refine OJ.pures oU 2 Z (OJ.nil (EJ.next ?_))
 refine CJ.cond Z (fun hb => ?_) (fun hb => ?_)
 ·replace H := pif_t (of_decide_eq_true hb) H
  refine CJ.seq (CJ.region ?_)
  refine OJ.pures oU 3 Z (OJ.nil (EJ.next ?_))
  refine CJ.ret (EJ.skR (?_))
  obtain rfl := Option.some.inj H
  exact EJ.fin Z (.tmp Z (.tmp Z .nil)) ⟨Z, hS.ext⟩
 replace H := pif_f (of_decide_eq_false hb) H
 refine CJ.skip (EJ.next ?_)
 refine CJ.seq (CJ.region ?_)
 refine OJ.st Z Z Z (SR.load Z Z (fun w' hx => ldE oU oI Z Z Z (CA.ext (hS.cells (i := 1) Z) hx) Z)) ?_
 obtain ⟨t6, ht6, H⟩ := pbind H
 refine OJ.callF Z Z Z Z Z hb36 Z (spec_l01Steps.c k _ _ a0 (hS.cells (i := 0) Z) a1 _ ht6) ?_
 rintro _ w1 ⟨rfl, hs⟩
 replace hS := hS.grow hs
 refine OJ.ef rfl rfl rfl (Ef.alloc hS oI rfl rfl ((carr 10 (carr 10 (ci .i64))).enc (Arr.mk' (Arr.mk' 0 : Arr 10 Int) : Arr 10 (Arr 10 Int))) (by kernel_rfl)) ?_
 rintro _ w1 ⟨b7, rfl, hS⟩
 refine OJ.es rfl rfl (Es.put oI hS (i := 3) rfl rfl rfl rfl rfl (vs := (carr 10 (carr 10 (ci .i64))).enc t6) rfl ((carr 10 (carr 10 (ci .i64))).len _) ((carr 10 (carr 10 (ci .i64))).one _) (Put.all (carr 10 (carr 10 (ci .i64))) (Arr.mk' (Arr.mk' 0 : Arr 10 Int) : Arr 10 (Arr 10 Int)) t6) (by (try simp only [add_lit, Nat.add_assoc, Nat.zero_add, Nat.add_zero]) <;> rfl)) ?_
 intro w1 hS
 refine OJ.nil (EJ.next ?_)
 refine CJ.seq ?_
 refine CJ.seq ?_
 refine CJ.draw [] [0, 1, 2, 3, 4, 5, 6, 7] mixed (by kernel_rfl) hS fun w1 hS => ?_
 refine DJ.st Z Z Z Z Z (SR.fieldAddr oU oI Z Z Z Z Z Z) ?_
 refine DJ.st Z Z Z Z Z (SR.load Z Z (fun w' hx => ld1 oU Z Z (CA.ext (CA.sub (hS.cells (i := 2) Z) 1) hx) Z)) ?_
 refine DJ.st Z Z Z Z Z (SR.fieldAddr oU oI Z Z Z Z Z Z) ?_
 refine DJ.st Z Z Z Z Z (SR.load Z Z (fun w' hx => ld1 oU Z Z (CA.ext (CA.sub (hS.cells (i := 2) Z) 0) hx) Z)) ?_
 obtain ⟨t8, ht8, H⟩ := pbind H
 refine DJ.st Z Z Z Z Z (SR.idxA oU oI Z Z Z Z Z (Arr.lt ht8)) ?_
 obtain ⟨t9, ht9, H⟩ := pbind H
 refine DJ.st Z Z Z Z Z (SR.idxA oU oI Z Z Z Z Z (Arr.lt ht9)) ?_
 refine DJ.st Z Z Z Z Z (SR.load Z Z (fun w' hx => ld1 oU Z Z (CA.ext (CA.idx (CA.idx (hS.cells (i := 3) Z) ht8) ht9) hx) Z)) ?_
 refine DJ.pures oU 1 Z ?_
 refine DJ.nil (EJ.next ?_)
 refine CJ.cond Z (fun hb => ?_) (fun hb => ?_)
 ·replace H := pif_t (of_decide_eq_true hb) H
  refine CJ.seq (CJ.region ?_)
  refine OJ.pures oU 2 Z (OJ.nil (EJ.next ?_))
  refine CJ.ret (EJ.skR (?_))
  obtain rfl := Option.some.inj H
  exact EJ.fin Z (.tmp Z (.tmp Z .nil)) ⟨Z, hS.ext⟩
 replace H := pif_f (of_decide_eq_false hb) H
 refine CJ.skip (EJ.next ?_)
 refine CJ.seq ?_
 refine CJ.draw [] [0, 1, 2, 3, 4, 5, 6, 7, 8, 9] mixed (by kernel_rfl) hS fun w1 hS => ?_
 refine DJ.st Z Z Z Z Z (SR.fieldAddr oU oI Z Z Z Z Z Z) ?_
 refine DJ.st Z Z Z Z Z (SR.load Z Z (fun w' hx => ld1 oU Z Z (CA.ext (CA.sub (hS.cells (i := 2) Z) 1) hx) Z)) ?_
 refine DJ.st Z Z Z Z Z (SR.fieldAddr oU oI Z Z Z Z Z Z) ?_
 refine DJ.st Z Z Z Z Z (SR.load Z Z (fun w' hx => ld1 oU Z Z (CA.ext (CA.sub (hS.cells (i := 2) Z) 0) hx) Z)) ?_
 obtain ⟨t10, ht10, H⟩ := pbind H
 refine DJ.st Z Z Z Z Z (SR.idxA oU oI Z Z Z Z Z (Arr.lt ht10)) ?_
 obtain ⟨t11, ht11, H⟩ := pbind H
 refine DJ.st Z Z Z Z Z (SR.idxA oU oI Z Z Z Z Z (Arr.lt ht11)) ?_
 refine DJ.st Z Z Z Z Z (SR.load Z Z (fun w' hx => ld1 oU Z Z (CA.ext (CA.idx (CA.idx (hS.cells (i := 3) Z) ht10) ht11) hx) Z)) ?_
 refine DJ.pures oU 3 Z ?_
 refine DJ.nil (EJ.next ?_)
 refine CJ.ret (?_)
 obtain rfl := Option.some.inj H
 exact EJ.fin Z (.tmp Z (.tmp Z .nil)) ⟨Z, hS.ext⟩
end Go.Proofs.YtloljfkfnpgjfaaGreat
