/-
  What the functions come to.
-/
import Derived.Test.YtplfdbfdalaefaaGreatDoorGP3
namespace Go.Proofs.YtplfdbfdalaefaaGreatDoor
open G
set_option linter.unusedVariables false
set_option linter.unusedSimpArgs false
set_option maxRecDepth 100000
set_option maxHeartbeats 4000000
def spec_l01Ok.l2 (a0 : Pasture) (y4 : Int) : Nat → Int → Option (((Bool ⊕ Unit) ⊕ Unit) ⊕ Unit)
  | 0, _ => none
  | k + 1, y5 => if y5 < 10 then ((getI a0.Grass.l y4).bind fun t6 => (getI t6.l y5).bind fun t7 => (spec_l01Grass.f (IntKind.i64.wrap t7)).bind fun t8 => if (!t8) = true then (some (Sum.inl (Sum.inl (Sum.inl false)))) else (if 0 < (IntKind.i64.wrap t7) then ((spec_l01Is.f a0 (⟨y5, y4⟩ : Spot)).bind fun t9 => if (!t9) = true then (some (Sum.inl (Sum.inl (Sum.inl false)))) else (spec_l01Ok.l2 a0 y4 k (IntKind.i8.wrap (y5 + 1)))) else (spec_l01Ok.l2 a0 y4 k (IntKind.i8.wrap (y5 + 1))))) else (some (Sum.inr ()))
def spec_l01Ok.l1 (a0 : Pasture) : Nat → Int → Option (Bool ⊕ Unit)
  | 0, _ => none
  | k + 1, y4 => if y4 < 10 then (((spec_l01Ok.l2 a0 y4 k 0).bind fun s369 => match s369 with | .inl r => some r | .inr _ => (chk (0 ≤ (IntKind.u64.wrap a0.Wide))).bind fun u10 => if a0.High ≤ y4 then ((getI a0.East.l y4).bind fun t11 => if (andNotI .u16 t11 (shrI .u16 0 1)) ≠ 0 then (some (Sum.inl (Sum.inl false))) else (if (IntKind.i8.wrap (a0.High - 1)) ≤ y4 then ((getI a0.South.l y4).bind fun t12 => if (andNotI .u16 t12 0) ≠ 0 then (some (Sum.inl (Sum.inl false))) else (some (Sum.inr ()))) else ((getI a0.South.l y4).bind fun t13 => if (andNotI .u16 t13 0) ≠ 0 then (some (Sum.inl (Sum.inl false))) else (some (Sum.inr ()))))) else ((getI a0.East.l y4).bind fun t14 => if (andNotI .u16 t14 (shrI .u16 (IntKind.u16.wrap ((shlI .u16 1 (IntKind.u64.wrap a0.Wide)) - 1)) 1)) ≠ 0 then (some (Sum.inl (Sum.inl false))) else (if (IntKind.i8.wrap (a0.High - 1)) ≤ y4 then ((getI a0.South.l y4).bind fun t15 => if (andNotI .u16 t15 0) ≠ 0 then (some (Sum.inl (Sum.inl false))) else (some (Sum.inr ()))) else ((getI a0.South.l y4).bind fun t16 => if (andNotI .u16 t16 (IntKind.u16.wrap ((shlI .u16 1 (IntKind.u64.wrap a0.Wide)) - 1))) ≠ 0 then (some (Sum.inl (Sum.inl false))) else (some (Sum.inr ())))))).bind fun s367 => match s367 with | .inl r => some r | .inr _ => spec_l01Ok.l1 a0 k (IntKind.i8.wrap (y4 + 1))) else (some (Sum.inr ()))
def spec_l01Ok.f (k : Nat) (a0 : Pasture) : Option Bool := ((spec_l00In.f (IntKind.i64.wrap a0.Wide) 1 10).bind fun t2 => if (!t2) = true then (some true) else ((spec_l00In.f (IntKind.i64.wrap a0.High) 1 10).bind fun t3 => some (!t3))).bind fun y1 => if y1 = true then (some false) else ((spec_l01Ok.l1 a0 k 0).bind fun s360 => match s360 with | .inl r => some r | .inr _ => some true)
theorem spec_l01Ok.c {k w} (pa0 : Addr) (a0 : Pasture) (hp0 : CA w pa0 (cPasture.enc a0)) (r : Bool) (H : spec_l01Ok.f k a0 = some r) :
 CV Tryz.prog 74 [.pointer (some pa0)].toArray w fun v w' => v = .bool r ∧ Ext w w' := by
 have hS := ((St.init w no).paramP pa0 (cPasture.enc a0) hp0)
 unfold spec_l01Ok.f at H
 refine CV.body Tryz.func74 Z Tryz.ntmps74 Z ?_
 refine SG ?_
 refine PX 1 ?_
 refine CJ.seq ?_
 obtain ⟨j359, H, K359⟩ := pbind H
 refine CJ.cut (fun F w1 => ∃ y1, some y1 = some j359 ∧ F = [(0, .pointer (some pa0)), (22, .bool y1)] ∧ St w no w1 [] [roP pa0 (cPasture.enc a0)]) ?_ ?_
 refine GO ?_
 refine oS (SL (CA.fld (hS.ca (i := 0) Z) (mid_part (fe_Pasture_0 _) (fl_Pasture_0 _) ((ci .i8).len _)))) ?_
 refine oB H hS hb75 (spec_l00In.c) fun t2 w1 H hS => ?_
 refine OJ.split (t := 14) Z (fun hb => ?_) (fun hb => ?_)
 replace H := pif_t hb H
 exact MD H hS
 replace H := pifb_f hb H
 refine GO ?_
 refine oS (SL (CA.fld (hS.ca (i := 0) Z) (mid_part (fe_Pasture_1 _) (fl_Pasture_1 _) ((ci .i8).len _)))) ?_
 refine OB H hS hb75 (spec_l00In.c) fun t3 w1 H hS => ?_
 exact MD H hS
 rintro F w1 ⟨y1, he, rfl, hS⟩
 obtain rfl := Option.some.inj he
 have H := K359
 refine CB H (fun H => ?_) (fun H => ?_)
 exact FE H hS
 refine GO ?_
 obtain ⟨j360, H, K360⟩ := pbind H
 refine CJ.cut1 (fun F w1 => some j360 = some (Sum.inr ()) ∧ F = [] ∧ St w no w1 [] [roP pa0 (cPasture.enc a0)]) ?_ ?_
 refine CJ.block ?_
 refine LQ (fun k F w1 => ∃ (y4 : Int), F = [(0, .pointer (some pa0)), (3, .int .i8 y4)] ∧ St w no w1 [] [roP pa0 (cPasture.enc a0)] ∧ spec_l01Ok.l1 a0 k y4 = some j360) k H hS ?_
 rintro k F w1 ⟨y4, rfl, hS, H⟩
 rw [spec_l01Ok.l1] at H
 refine GO ?_
 refine CP H (fun H => ?_) (fun H => ?_)
 refine CJ.skip (EJ.next ?_)
 obtain ⟨j367, H, K367⟩ := pbind H
 refine CJ.cut (fun F w1 => some j367 = some (Sum.inr ()) ∧ F = [(0, .pointer (some pa0)), (3, .int .i8 y4)] ∧ St w no w1 [] [roP pa0 (cPasture.enc a0)]) ?_ ?_
 refine CJ.block ?_
 refine GO ?_
 obtain ⟨j369, H, K369⟩ := pbind H
 refine CJ.cut1 (fun F w1 => some j369 = some (Sum.inr ()) ∧ F = [(0, .pointer (some pa0)), (3, .int .i8 y4)] ∧ St w no w1 [] [roP pa0 (cPasture.enc a0)]) ?_ ?_
 refine CJ.block ?_
 refine LQ (fun k F w1 => ∃ (y5 : Int), F = [(0, .pointer (some pa0)), (3, .int .i8 y4), (4, .int .i8 y5)] ∧ St w no w1 [] [roP pa0 (cPasture.enc a0)] ∧ spec_l01Ok.l2 a0 y4 k y5 = some j369) k H hS ?_
 rintro k F w1 ⟨y5, rfl, hS, H⟩
 rw [spec_l01Ok.l2] at H
 refine GO ?_
 refine CP H (fun H => GO ?_) (fun H => ?_)
 refine CJ.block ?_
 refine GO ?_
 obtain ⟨t6, ht6, H⟩ := pbind H
 refine OJ.st Z Z Z (SR.idxA oU oI Z Z Z Z Z (Arr.lt ht6)) ?_
 obtain ⟨t7, ht7, H⟩ := pbind H
 refine OJ.st Z Z Z (SR.idxA oU oI Z Z Z Z Z (Arr.lt ht7)) ?_
 refine oS (SL (CA.idx (CA.idx (CA.fld (hS.ca (i := 0) Z) (mid_part (fe_Pasture_2 _) (fl_Pasture_2 _) ((carr 10 (carr 10 (ci .i16))).len _))) ht6) ht7)) ?_
 refine oB H hS hb126 (spec_l01Grass.c) fun t8 w1 H hS => ?_
 refine OJ.split (t := 43) Z (fun hb => ?_) (fun hb => ?_)
 replace H := pif_t hb H
 refine GO ?_
 refine CJ.condT Z ?_
 refine GO ?_
 obtain rfl := Option.some.inj H; have H := K369
 obtain rfl := Option.some.inj H; have H := K367
 obtain rfl := Option.some.inj H; have H := K360
 exact FE H hS
 replace H := pifb_f hb H
 refine GO ?_
 refine OJ.split (t := 46) Z (fun hb => ?_) (fun hb => ?_)
 replace H := pif_t (of_decide_eq_true hb) H
 refine GO ?_
 refine OJ.st Z Z Z (SR.build (C := cSpot) oU oI Z Z Z (zs := [.int .i8 0, .int .i8 0]) Z Z Z (⟨y5, y4⟩ : Spot) Z) ?_
 refine oB H hS hb120 (spec_l01Is.c _ a0 (hS.ca (i := 0) Z) (⟨y5, y4⟩ : Spot)) fun t9 w1 H hS => ?_
 refine CB H (fun H => GO ?_) (fun H => ?_)
 obtain rfl := Option.some.inj H; have H := K369
 obtain rfl := Option.some.inj H; have H := K367
 obtain rfl := Option.some.inj H; have H := K360
 exact FE H hS
 exact MD H hS
 replace H := pif_f (of_decide_eq_false hb) H
 refine GO ?_
 refine CJ.condF Z ?_
 exact MD H hS
 exact MD H hS
 rintro F w1 ⟨⟨⟩, rfl, hS⟩
 have H := K369
 refine EJ.next ?_
 refine GO ?_
 refine oS (SL (CA.fld (hS.ca (i := 0) Z) (mid_part (fe_Pasture_0 _) (fl_Pasture_0 _) ((ci .i8).len _)))) ?_
 obtain ⟨u10, hu10, H⟩ := pbind H
 refine OJ.st Z Z Z (SR.shl Z Z Z (chk_some hu10)) ?_
 refine GO ?_
 refine oS (SL (CA.fld (hS.ca (i := 0) Z) (mid_part (fe_Pasture_1 _) (fl_Pasture_1 _) ((ci .i8).len _)))) ?_
 refine CP H (fun H => GO ?_) (fun H => ?_)
 obtain ⟨t11, ht11, H⟩ := pbind H
 refine OJ.st Z Z Z (SR.idxA oU oI Z Z Z Z Z (Arr.lt ht11)) ?_
 refine oS (SL (CA.idx (CA.fld (hS.ca (i := 0) Z) (mid_part (fe_Pasture_3 _) (fl_Pasture_3 _) ((carr 10 (ci .u16)).len _))) ht11)) ?_
 refine OJ.st rfl rfl rfl (SR.shr rfl rfl rfl (by decide)) ?_
 refine GO ?_
 refine CP H (fun H => GO ?_) (fun H => ?_)
 obtain rfl := Option.some.inj H; have H := K367
 obtain rfl := Option.some.inj H; have H := K360
 exact FE H hS
 refine GO ?_
 refine oS (SL (CA.fld (hS.ca (i := 0) Z) (mid_part (fe_Pasture_1 _) (fl_Pasture_1 _) ((ci .i8).len _)))) ?_
 refine CP H (fun H => GO ?_) (fun H => ?_)
 obtain ⟨t12, ht12, H⟩ := pbind H
 refine OJ.st Z Z Z (SR.idxA oU oI Z Z Z Z Z (Arr.lt ht12)) ?_
 refine oS (SL (CA.idx (CA.fld (hS.ca (i := 0) Z) (mid_part (fe_Pasture_4 _) (fl_Pasture_4 _) ((carr 10 (ci .u16)).len _))) ht12)) ?_
 refine CP H (fun H => GO ?_) (fun H => ?_)
 obtain rfl := Option.some.inj H; have H := K367
 obtain rfl := Option.some.inj H; have H := K360
 exact FE H hS
 exact MD H hS
 refine GO ?_
 obtain ⟨t13, ht13, H⟩ := pbind H
 refine OJ.st Z Z Z (SR.idxA oU oI Z Z Z Z Z (Arr.lt ht13)) ?_
 refine oS (SL (CA.idx (CA.fld (hS.ca (i := 0) Z) (mid_part (fe_Pasture_4 _) (fl_Pasture_4 _) ((carr 10 (ci .u16)).len _))) ht13)) ?_
 refine CP H (fun H => GO ?_) (fun H => ?_)
 obtain rfl := Option.some.inj H; have H := K367
 obtain rfl := Option.some.inj H; have H := K360
 exact FE H hS
 exact MD H hS
 refine GO ?_
 obtain ⟨t14, ht14, H⟩ := pbind H
 refine OJ.st Z Z Z (SR.idxA oU oI Z Z Z Z Z (Arr.lt ht14)) ?_
 refine oS (SL (CA.idx (CA.fld (hS.ca (i := 0) Z) (mid_part (fe_Pasture_3 _) (fl_Pasture_3 _) ((carr 10 (ci .u16)).len _))) ht14)) ?_
 refine OJ.st rfl rfl rfl (SR.shr rfl rfl rfl (by decide)) ?_
 refine GO ?_
 refine CP H (fun H => GO ?_) (fun H => ?_)
 obtain rfl := Option.some.inj H; have H := K367
 obtain rfl := Option.some.inj H; have H := K360
 exact FE H hS
 refine GO ?_
 refine oS (SL (CA.fld (hS.ca (i := 0) Z) (mid_part (fe_Pasture_1 _) (fl_Pasture_1 _) ((ci .i8).len _)))) ?_
 refine CP H (fun H => GO ?_) (fun H => ?_)
 obtain ⟨t15, ht15, H⟩ := pbind H
 refine OJ.st Z Z Z (SR.idxA oU oI Z Z Z Z Z (Arr.lt ht15)) ?_
 refine oS (SL (CA.idx (CA.fld (hS.ca (i := 0) Z) (mid_part (fe_Pasture_4 _) (fl_Pasture_4 _) ((carr 10 (ci .u16)).len _))) ht15)) ?_
 refine CP H (fun H => GO ?_) (fun H => ?_)
 obtain rfl := Option.some.inj H; have H := K367
 obtain rfl := Option.some.inj H; have H := K360
 exact FE H hS
 exact MD H hS
 refine GO ?_
 obtain ⟨t16, ht16, H⟩ := pbind H
 refine OJ.st Z Z Z (SR.idxA oU oI Z Z Z Z Z (Arr.lt ht16)) ?_
 refine oS (SL (CA.idx (CA.fld (hS.ca (i := 0) Z) (mid_part (fe_Pasture_4 _) (fl_Pasture_4 _) ((carr 10 (ci .u16)).len _))) ht16)) ?_
 refine CP H (fun H => GO ?_) (fun H => ?_)
 obtain rfl := Option.some.inj H; have H := K367
 obtain rfl := Option.some.inj H; have H := K360
 exact FE H hS
 exact MD H hS
 rintro F w1 ⟨⟨⟩, rfl, hS⟩
 have H := K367
 exact MD H hS
 exact MD H hS
 rintro F w1 ⟨⟨⟩, rfl, hS⟩
 have H := K360
 refine EJ.next ?_
 exact FE H hS

def spec_l01Sum.l2 (a0 : Pasture) (y3 : Int) : Nat → Int → Int → Option Int
  | 0, _, _ => none
  | k + 1, y6, y7 => if y7 < 10 then ((getI a0.Grass.l y3).bind fun t8 => (getI t8.l y7).bind fun t9 => spec_l01Sum.l2 a0 y3 k (IntKind.i64.wrap (y6 + (IntKind.i64.wrap t9))) (IntKind.i64.wrap (y7 + 1))) else (some y6)
def spec_l01Sum.l1 (a0 : Pasture) : Nat → Int → Int → Option Int
  | 0, _, _ => none
  | k + 1, y2, y3 => if y3 < 10 then (((spec_l01Sum.l2 a0 y3 k y2 0).bind fun y5 => some y5).bind fun y4 => spec_l01Sum.l1 a0 k y4 (IntKind.i64.wrap (y3 + 1))) else (some y2)
def spec_l01Sum.f (k : Nat) (a0 : Pasture) : Option Int := (spec_l01Sum.l1 a0 k 0 0).bind fun y1 => some y1
theorem spec_l01Sum.c {k w} (pa0 : Addr) (a0 : Pasture) (hp0 : CA w pa0 (cPasture.enc a0)) (r : Int) (H : spec_l01Sum.f k a0 = some r) :
 CV Tryz.prog 76 [.pointer (some pa0)].toArray w fun v w' => v = .int .i64 r ∧ Ext w w' := by
 have hS := ((St.init w no).paramP pa0 (cPasture.enc a0) hp0)
 unfold spec_l01Sum.f at H
 refine CV.body Tryz.func76 Z Tryz.ntmps76 Z ?_
 refine GO ?_
 obtain ⟨j372, H, K372⟩ := pbind H
 refine CJ.cut1 (fun F w1 => ∃ y1, some y1 = some j372 ∧ F = [(3, i6 y1)] ∧ St w no w1 [] [roP pa0 (cPasture.enc a0)]) ?_ ?_
 refine CJ.block ?_
 refine LQ (fun k F w1 => ∃ (y2 : Int) (y3 : Int), F = [(0, .pointer (some pa0)), (3, i6 y2), (4, i6 y3)] ∧ St w no w1 [] [roP pa0 (cPasture.enc a0)] ∧ spec_l01Sum.l1 a0 k y2 y3 = some j372) k H hS ?_
 rintro k F w1 ⟨y2, y3, rfl, hS, H⟩
 rw [spec_l01Sum.l1] at H
 refine GO ?_
 refine CP H (fun H => ?_) (fun H => ?_)
 refine CJ.skip (EJ.next ?_)
 obtain ⟨j379, H, K379⟩ := pbind H
 refine CJ.cut (fun F w1 => ∃ y4, some y4 = some j379 ∧ F = [(0, .pointer (some pa0)), (3, i6 y4), (4, i6 y3)] ∧ St w no w1 [] [roP pa0 (cPasture.enc a0)]) ?_ ?_
 refine CJ.block ?_
 refine GO ?_
 obtain ⟨j381, H, K381⟩ := pbind H
 refine CJ.cut1 (fun F w1 => ∃ y5, some y5 = some j381 ∧ F = [(0, .pointer (some pa0)), (3, i6 y5), (4, i6 y3)] ∧ St w no w1 [] [roP pa0 (cPasture.enc a0)]) ?_ ?_
 refine CJ.block ?_
 refine LQ (fun k F w1 => ∃ (y6 : Int) (y7 : Int), F = [(0, .pointer (some pa0)), (3, i6 y6), (4, i6 y3), (5, i6 y7)] ∧ St w no w1 [] [roP pa0 (cPasture.enc a0)] ∧ spec_l01Sum.l2 a0 y3 k y6 y7 = some j381) k H hS ?_
 rintro k F w1 ⟨y6, y7, rfl, hS, H⟩
 rw [spec_l01Sum.l2] at H
 refine GO ?_
 refine CP H (fun H => GO ?_) (fun H => ?_)
 refine CJ.block ?_
 refine GO ?_
 obtain ⟨t8, ht8, H⟩ := pbind H
 refine OJ.st Z Z Z (SR.idxA oU oI Z Z Z Z Z (Arr.lt ht8)) ?_
 obtain ⟨t9, ht9, H⟩ := pbind H
 refine OJ.st Z Z Z (SR.idxA oU oI Z Z Z Z Z (Arr.lt ht9)) ?_
 refine OS (SL (CA.idx (CA.idx (CA.fld (hS.ca (i := 0) Z) (mid_part (fe_Pasture_2 _) (fl_Pasture_2 _) ((carr 10 (carr 10 (ci .i16))).len _))) ht8) ht9)) ?_
 exact MD H hS
 exact MD H hS
 rintro F w1 ⟨y5, he, rfl, hS⟩
 obtain rfl := Option.some.inj he
 have H := K381
 refine EJ.blk (?_)
 exact MD H hS
 rintro F w1 ⟨y4, he, rfl, hS⟩
 obtain rfl := Option.some.inj he
 have H := K379
 exact MD H hS
 exact MD H hS
 rintro F w1 ⟨y1, he, rfl, hS⟩
 obtain rfl := Option.some.inj he
 have H := K372
 refine EJ.next ?_
 exact FE H hS

def spec_l00Max.f (a0 : Int) (a1 : Int) : Option Int := if a1 < a0 then (some a0) else (some a1)
theorem spec_l00Max.c {w} {a0 : Int} {a1 : Int} (r : Int) (H : spec_l00Max.f a0 a1 = some r) :
 CV Tryz.prog 77 [.int .i64 a0, i6 a1].toArray w fun v w' => v = .int .i64 r ∧ Ext w w' := by
 have hS := (St.init w no)
 unfold spec_l00Max.f at H
 refine CV.body Tryz.func77 Z Tryz.ntmps77 Z ?_
 refine GO ?_
 refine CP H (fun H => ?_) (fun H => ?_)
 exact FE H hS
 exact FE H hS

def spec_CutColumn.l2 (a0 : Pasture) (y12 : Int) : Nat → Int → Int → Option Int
  | 0, _, _ => none
  | k + 1, y17, y18 => if y18 < a0.High then ((getI a0.Grass.l y18).bind fun t19 => (getI t19.l (IntKind.i64.wrap (y12 - 1))).bind fun t20 => spec_CutColumn.l2 a0 y12 k (IntKind.i64.wrap (y17 + (IntKind.i64.wrap t20))) (IntKind.i8.wrap (y18 + 1))) else (some y17)
def spec_CutColumn.l1 (a0 : Pasture) (a1 : Int) (a2 : Int) (t7 : Int) : Nat → Int → Int → Int → Int → Option Int
  | 0, _, _, _, _ => none
  | k + 1, y9, y10, y11, y12 => if y12 ≤ (IntKind.i64.wrap a0.Wide) then ((if 0 < y12 then ((spec_CutColumn.l2 a0 y12 k y9 0).bind fun y16 => (spec_l00Max.f (IntKind.i64.wrap ((IntKind.i64.wrap (y16 * a2)) - (IntKind.i64.wrap ((IntKind.i64.wrap (t7 - y16)) * a1)))) (IntKind.i64.wrap (0 - (IntKind.i64.wrap ((IntKind.i64.wrap (y16 * a2)) - (IntKind.i64.wrap ((IntKind.i64.wrap (t7 - y16)) * a1))))))).bind fun t21 => if y10 < 0 then (some (y16, y12, t21)) else (if t21 < y11 then (some (y16, y12, t21)) else (some (y16, y10, y11)))) else ((spec_l00Max.f (IntKind.i64.wrap ((IntKind.i64.wrap (y9 * a2)) - (IntKind.i64.wrap ((IntKind.i64.wrap (t7 - y9)) * a1)))) (IntKind.i64.wrap (0 - (IntKind.i64.wrap ((IntKind.i64.wrap (y9 * a2)) - (IntKind.i64.wrap ((IntKind.i64.wrap (t7 - y9)) * a1))))))).bind fun t22 => if y10 < 0 then (some (y9, y12, t22)) else (if t22 < y11 then (some (y9, y12, t22)) else (some (y9, y10, y11))))).bind fun (y13, y14, y15) => spec_CutColumn.l1 a0 a1 a2 t7 k y13 y14 y15 (IntKind.i64.wrap (y12 + 1))) else (some y10)
def spec_CutColumn.f (k : Nat) (a0 : Pasture) (a1 : Int) (a2 : Int) : Option (Int × Int) := (spec_l01Ok.f k a0).bind fun t2 => if (!t2) = true then (some (0, 1)) else (((spec_l00In.f a1 0 1000000).bind fun t4 => if (!t4) = true then (some true) else ((spec_l00In.f a2 0 1000000).bind fun t5 => some (!t5))).bind fun y3 => if y3 = true then (some (0, 2)) else ((if a1 = 0 then (some (decide (a2 = 0))) else (some false)).bind fun y6 => if y6 = true then (some (0, 4)) else ((spec_l01Sum.f k a0).bind fun t7 => (spec_CutColumn.l1 a0 a1 a2 t7 k 0 (-1) 0 0).bind fun y8 => some (y8, 0))))
theorem spec_CutColumn.c {k w} (a0 : Pasture) {a1 : Int} {a2 : Int} (r : Int × Int) (H : spec_CutColumn.f k a0 a1 a2 = some r) :
 CV Tryz.prog 26 [.agg (cPasture.enc a0).toArray, .int .i64 a1, i6 a2].toArray w fun v w' => v = .tuple #[.int .i64 r.1, i6 r.2] ∧ Ext w w' := by
 have hS := (St.init w no)
 unfold spec_CutColumn.f at H
 refine CV.body Tryz.func26 Z Tryz.ntmps26 Z ?_
 refine GO ?_
 refine oX hS (cPasture.enc a0) fun b1 w1 hS => ?_
 refine CJ.block ?_
 refine GO ?_
 refine oB H hS hb74 (spec_l01Ok.c _ a0 (hS.cells (i := 0) Z)) fun t2 w1 H hS => ?_
 refine CB H (fun H => ?_) (fun H => ?_)
 exact FE H hS
 obtain ⟨j370, H, K370⟩ := pbind H
 refine CJ.cut (fun F w1 => ∃ y3, some y3 = some j370 ∧ F = [(1, i6 a1), (2, i6 a2), (3, pt b1), (18, .bool y3)] ∧ St w no w1 [box b1 (cPasture.enc a0) 58] []) ?_ ?_
 refine GO ?_
 refine oB H hS hb75 (spec_l00In.c) fun t4 w1 H hS => ?_
 refine OJ.split (t := 22) Z (fun hb => ?_) (fun hb => ?_)
 replace H := pif_t hb H
 exact MD H hS
 replace H := pifb_f hb H
 refine GO ?_
 refine OB H hS hb75 (spec_l00In.c) fun t5 w1 H hS => ?_
 exact MD H hS
 rintro F w1 ⟨y3, he, rfl, hS⟩
 obtain rfl := Option.some.inj he
 have H := K370
 refine CB H (fun H => ?_) (fun H => ?_)
 exact FE H hS
 obtain ⟨j371, H, K371⟩ := pbind H
 refine CJ.cut (fun F w1 => ∃ y6, some y6 = some j371 ∧ F = [(1, i6 a1), (2, i6 a2), (3, pt b1), (27, .bool y6)] ∧ St w no w1 [box b1 (cPasture.enc a0) 58] []) ?_ ?_
 refine GO ?_
 refine OJ.split (t := 30) Z (fun hb => ?_) (fun hb => ?_)
 replace H := pif_t (of_decide_eq_true hb) H
 exact MD H hS
 replace H := pif_f (of_decide_eq_false hb) H
 exact MD H hS
 rintro F w1 ⟨y6, he, rfl, hS⟩
 obtain rfl := Option.some.inj he
 have H := K371
 refine CB H (fun H => ?_) (fun H => ?_)
 exact FE H hS
 refine GO ?_
 refine oB H hS hb76 (spec_l01Sum.c _ a0 (hS.cells (i := 0) Z)) fun t7 w1 H hS => ?_
 obtain ⟨j382, H, K382⟩ := pbind H
 refine CJ.cut1 (fun F w1 => ∃ y8, some y8 = some j382 ∧ F = [(10, i6 y8)] ∧ St w no w1 [] []) ?_ ?_
 refine CJ.block ?_
 refine LQ (fun k F w1 => ∃ (y9 : Int) (y10 : Int) (y11 : Int) (y12 : Int), F = [(1, i6 a1), (2, i6 a2), (3, pt b1), (8, i6 t7), (9, i6 y9), (10, i6 y10), (11, i6 y11), (12, i6 y12)] ∧ St w no w1 [box b1 (cPasture.enc a0) 58] [] ∧ spec_CutColumn.l1 a0 a1 a2 t7 k y9 y10 y11 y12 = some j382) k H hS ?_
 rintro k F w1 ⟨y9, y10, y11, y12, rfl, hS, H⟩
 rw [spec_CutColumn.l1] at H
 refine GO ?_
 refine oS (SL (CA.fld (ce hS 0) (mid_part (fe_Pasture_0 _) (fl_Pasture_0 _) ((ci .i8).len _)))) ?_
 refine CP H (fun H => ?_) (fun H => ?_)
 refine CJ.skip (EJ.next ?_)
 obtain ⟨j389, H, K389⟩ := pbind H
 refine CJ.cut (fun F w1 => ∃ y13 y14 y15, some j389 = some (y13, y14, y15) ∧ F = [(1, i6 a1), (2, i6 a2), (3, pt b1), (8, i6 t7), (9, i6 y13), (10, i6 y14), (11, i6 y15), (12, i6 y12)] ∧ St w no w1 [box b1 (cPasture.enc a0) 58] []) ?_ ?_
 refine CJ.block ?_
 refine GO ?_
 refine CP H (fun H => GO ?_) (fun H => ?_)
 obtain ⟨j391, H, K391⟩ := pbind H
 refine CJ.cut1 (fun F w1 => ∃ y16, some y16 = some j391 ∧ F = [(1, i6 a1), (2, i6 a2), (3, pt b1), (8, i6 t7), (9, i6 y16), (10, i6 y10), (11, i6 y11), (12, i6 y12)] ∧ St w no w1 [box b1 (cPasture.enc a0) 58] []) ?_ ?_
 refine CJ.block ?_
 refine LQ (fun k F w1 => ∃ (y17 : Int) (y18 : Int), F = [(1, i6 a1), (2, i6 a2), (3, pt b1), (8, i6 t7), (9, i6 y17), (10, i6 y10), (11, i6 y11), (12, i6 y12), (13, .int .i8 y18)] ∧ St w no w1 [box b1 (cPasture.enc a0) 58] [] ∧ spec_CutColumn.l2 a0 y12 k y17 y18 = some j391) k H hS ?_
 rintro k F w1 ⟨y17, y18, rfl, hS, H⟩
 rw [spec_CutColumn.l2] at H
 refine GO ?_
 refine oS (SL (CA.fld (ce hS 0) (mid_part (fe_Pasture_1 _) (fl_Pasture_1 _) ((ci .i8).len _)))) ?_
 refine CP H (fun H => GO ?_) (fun H => ?_)
 refine CJ.block ?_
 refine GO ?_
 obtain ⟨t19, ht19, H⟩ := pbind H
 refine OJ.st Z Z Z (SR.idxA oU oI Z Z Z Z Z (Arr.lt ht19)) ?_
 obtain ⟨t20, ht20, H⟩ := pbind H
 refine OJ.st Z Z Z (SR.idxA oU oI Z Z Z Z Z (Arr.lt ht20)) ?_
 refine OS (SL (CA.idx (CA.idx (CA.fld (ce hS 0) (mid_part (fe_Pasture_2 _) (fl_Pasture_2 _) ((carr 10 (carr 10 (ci .i16))).len _))) ht19) ht20)) ?_
 exact MD H hS
 exact MD H hS
 rintro F w1 ⟨y16, he, rfl, hS⟩
 obtain rfl := Option.some.inj he
 have H := K391
 refine EJ.next ?_
 refine GO ?_
 refine oB H hS hb77 (spec_l00Max.c) fun t21 w1 H hS => ?_
 refine OJ.split (t := 75) Z (fun hb => ?_) (fun hb => ?_)
 replace H := pif_t (of_decide_eq_true hb) H
 refine GO ?_
 refine CJ.condT Z ?_
 exact MD H hS
 replace H := pif_f (of_decide_eq_false hb) H
 refine GO ?_
 refine CP H (fun H => ?_) (fun H => ?_)
 exact MD H hS
 exact MD H hS
 refine GO ?_
 refine oB H hS hb77 (spec_l00Max.c) fun t22 w1 H hS => ?_
 refine OJ.split (t := 75) Z (fun hb => ?_) (fun hb => ?_)
 replace H := pif_t (of_decide_eq_true hb) H
 refine GO ?_
 refine CJ.condT Z ?_
 exact MD H hS
 replace H := pif_f (of_decide_eq_false hb) H
 refine GO ?_
 refine CP H (fun H => ?_) (fun H => ?_)
 exact MD H hS
 exact MD H hS
 rintro F w1 ⟨y13, y14, y15, ⟨⟩, rfl, hS⟩
 have H := K389
 exact MD H hS
 exact MD H hS
 rintro F w1 ⟨y8, he, rfl, hS⟩
 obtain rfl := Option.some.inj he
 have H := K382
 refine EJ.next ?_
 exact FE H hS

def spec_A2Spot.f (a0 : List Int) (a1 : Pasture) : Option Spot := (spec_l00From.f a0).bind fun t3 => (spec_l00Src_pick.f (⟨a0, t3.at_, t3.seed⟩ : l00Src) (IntKind.i64.wrap a1.Wide)).bind fun t5 => (spec_l00Src_pick.f (⟨a0, t5.2.at_, t5.2.seed⟩ : l00Src) (IntKind.i64.wrap a1.High)).bind fun t6 => some (⟨IntKind.i8.wrap t5.1, IntKind.i8.wrap t6.1⟩ : Spot)
theorem spec_A2Spot.c {w Aa0 ca0} {a0 : List Int} (hr0 : Rd (ci .u8) w Aa0 a0) (hc0 : a0.length ≤ ca0) (a1 : Pasture) (r : Spot) (H : spec_A2Spot.f a0 a1 = some r) :
 CV Tryz.prog 27 [sl Aa0 a0 ca0, .agg (cPasture.enc a1).toArray].toArray w fun v w' => v = .agg (cSpot.enc r).toArray ∧ Ext w w' := by
 have hS := ((St.init w no).param (ci .u8) Aa0 ca0 a0 hr0 hc0)
 unfold spec_A2Spot.f at H
 refine CV.body Tryz.func27 Z Tryz.ntmps27 Z ?_
 refine GO ?_
 refine OF (EB hS (cPasture.enc a1)) ?_
 rintro _ w1 ⟨b1, rfl, hS⟩
 refine oA hS (cSpot.enc (⟨0, 0⟩ : Spot)) fun b2 w1 hS => ?_
 obtain ⟨t3, ht3, H⟩ := pbind H
 refine OC hb36 (spec_l00From.c (rA hS 0 Z) (rB hS 0 Z) _ ht3) ?_
 rintro _ w1 ⟨b4, rfl, hs⟩
 replace hS := hS.addN hs
 refine GO ?_
 refine oS (SL (CA.fld (ce hS 0) (mid_part (fe_Pasture_0 _) (fl_Pasture_0 _) ((ci .i8).len _)))) ?_
 obtain ⟨t5, ht5, H⟩ := pbind H
 refine OC hb78 (spec_l00Src_pick.c (⟨a0, t3.at_, t3.seed⟩ : l00Src) b4 ((hS.subs [2] [0] [] Z).pick [0] [0] Z) _ ht5) ?_
 rintro _ w1 ⟨rfl, hs⟩
 replace hS := hS.back [2] Z Z [box b4 ([sl Aa0 a0 ca0, i6 t5.2.at_, .int .u64 t5.2.seed]) 145] [] hs ⟨fun _ => Iff.rfl, trivial⟩
 refine GO ?_
 refine oS (SL (CA.fld (ce hS 0) (mid_part (fe_Pasture_1 _) (fl_Pasture_1 _) ((ci .i8).len _)))) ?_
 obtain ⟨t6, ht6, H⟩ := pbind H
 refine OC hb78 (spec_l00Src_pick.c (⟨a0, t5.2.at_, t5.2.seed⟩ : l00Src) b4 ((hS.subs [2] [0] [] Z).pick [0] [0] Z) _ ht6) ?_
 rintro _ w1 ⟨rfl, hs⟩
 replace hS := hS.back [2] Z Z [box b4 ([sl Aa0 a0 ca0, i6 t6.2.at_, .int .u64 t6.2.seed]) 145] [] hs ⟨fun _ => Iff.rfl, trivial⟩
 refine GO ?_
 refine OJ.st Z Z Z (SR.build (C := cSpot) oU oI Z Z Z (zs := [.int .i8 0, .int .i8 0]) Z Z Z (⟨IntKind.i8.wrap t5.1, IntKind.i8.wrap t6.1⟩ : Spot) Z) ?_
 refine OJ.es Z Z (Es.store oI hS (i := 1) Z Z Z Z Z Z (vs := cSpot.enc (⟨IntKind.i8.wrap t5.1, IntKind.i8.wrap t6.1⟩ : Spot)) Z (cSpot.len _) (cSpot.one _) (Nat.le_of_ble_eq_true Z) (cSpot.enc (⟨IntKind.i8.wrap t5.1, IntKind.i8.wrap t6.1⟩ : Spot)) Z) ?_
 intro w1 hS
 refine GO ?_
 obtain rfl := Option.some.inj H
 exact EJ.fin Z (.cell Z (ldE oU oI Z Z Z (hS.cells (i := 1) Z) Z) .nil) ⟨Z, hS.ext⟩

def slices_IndexFunc_impl_Spot_impl_Spot.l1 (a0 : List Spot) (a1 : Spot → Option Bool) : Nat → Int → Option (Int ⊕ Unit)
  | 0, _ => none
  | k + 1, y1 => if y1 < (a0.length : Int) then ((getI a0 y1).bind fun t2 => (a1 t2).bind fun t3 => if t3 = true then (some (Sum.inl y1)) else (slices_IndexFunc_impl_Spot_impl_Spot.l1 a0 a1 k (IntKind.i64.wrap (y1 + 1)))) else (some (Sum.inr ()))
def slices_IndexFunc_impl_Spot_impl_Spot.f (k : Nat) (a0 : List Spot) (a1 : Spot → Option Bool) : Option Int := (slices_IndexFunc_impl_Spot_impl_Spot.l1 a0 a1 k 0).bind fun s458 => match s458 with | .inl r => some r | .inr _ => some (-1)
theorem slices_IndexFunc_impl_Spot_impl_Spot.c {k w Aa0 ca0} {a0 : List Spot} (hr0 : Rd cSpot w Aa0 a0) (hc0 : a0.length ≤ ca0) (na1 : Nat) (fsa1 : Array Value) (capa1 : Array Value) (hb1 : hasBody Tryz.prog na1) (a1 : Spot → Option Bool) (hf1 : ∀ (z0 : Spot) (r : Bool), a1 z0 = some r → ∀ w', Chg no w w' → CV Tryz.prog na1 (fsa1 ++ [.agg (cSpot.enc z0).toArray].toArray ++ capa1) w' fun v w'' => v = .bool r ∧ Ext w' w'') (r : Int) (H : slices_IndexFunc_impl_Spot_impl_Spot.f k a0 a1 = some r) :
 CV Tryz.prog 158 [sl Aa0 a0 ca0, .func (.func na1) fsa1 capa1].toArray w fun v w' => v = .int .i64 r ∧ Ext w w' := by
 have hS := ((St.init w no).param cSpot Aa0 ca0 a0 hr0 hc0)
 unfold slices_IndexFunc_impl_Spot_impl_Spot.f at H
 refine CV.body Tryz.func158 Z Tryz.ntmps158 Z ?_
 refine GO ?_
 obtain ⟨j458, H, K458⟩ := pbind H
 refine CJ.cut1 (fun F w1 => some j458 = some (Sum.inr ()) ∧ F = [] ∧ St w no w1 [] [roC cSpot Aa0 ca0 a0]) ?_ ?_
 refine CJ.block ?_
 refine LQ (fun k F w1 => ∃ (y1 : Int), F = [(0, sl Aa0 a0 ca0), (1, .func (.func na1) fsa1 capa1), (7, i6 (a0.length : Int)), (8, i6 y1)] ∧ St w no w1 [] [roC cSpot Aa0 ca0 a0] ∧ slices_IndexFunc_impl_Spot_impl_Spot.l1 a0 a1 k y1 = some j458) k H hS ?_
 rintro k F w1 ⟨y1, rfl, hS, H⟩
 rw [slices_IndexFunc_impl_Spot_impl_Spot.l1] at H
 refine GO ?_
 refine CP H (fun H => GO ?_) (fun H => ?_)
 refine CJ.block ?_
 refine GO ?_
 obtain ⟨t2, ht2, H⟩ := pbind H
 obtain ⟨ad2, e2⟩ := (rA hS 0 Z).some' ht2
 refine OS (SI e2 (getI_some ht2).1) ?_
 refine OS (SE ((rA hS 0 Z).at_ e2 ht2)) ?_
 obtain ⟨t3, ht3, H⟩ := pbind H
 refine OJ.call Z Z (Nat.le_of_ble_eq_true Z) Z Z Z hb1 Z (hf1 t2 _ ht3 _ hS.chg) ?_
 rintro _ w1 ⟨rfl, hs⟩
 replace hS := hS.grow hs
 refine GO ?_
 refine CB H (fun H => GO ?_) (fun H => ?_)
 obtain rfl := Option.some.inj H; have H := K458
 exact FE H hS
 exact MD H hS
 exact MD H hS
 rintro F w1 ⟨⟨⟩, rfl, hS⟩
 have H := K458
 refine EJ.next ?_
 exact FE H hS

def slices_ContainsFunc_impl_Spot_impl_Spot.f (k : Nat) (a0 : List Spot) (a1 : Spot → Option Bool) : Option Bool := (slices_IndexFunc_impl_Spot_impl_Spot.f k a0 a1).bind fun t1 => some (decide (0 ≤ t1))
theorem slices_ContainsFunc_impl_Spot_impl_Spot.c {k w Aa0 ca0} {a0 : List Spot} (hr0 : Rd cSpot w Aa0 a0) (hc0 : a0.length ≤ ca0) (na1 : Nat) (fsa1 : Array Value) (capa1 : Array Value) (hb1 : hasBody Tryz.prog na1) (a1 : Spot → Option Bool) (hf1 : ∀ (z0 : Spot) (r : Bool), a1 z0 = some r → ∀ w', Chg no w w' → CV Tryz.prog na1 (fsa1 ++ [.agg (cSpot.enc z0).toArray].toArray ++ capa1) w' fun v w'' => v = .bool r ∧ Ext w' w'') (r : Bool) (H : slices_ContainsFunc_impl_Spot_impl_Spot.f k a0 a1 = some r) :
 CV Tryz.prog 128 [sl Aa0 a0 ca0, .func (.func na1) fsa1 capa1].toArray w fun v w' => v = .bool r ∧ Ext w w' := by
 have hS := ((St.init w no).param cSpot Aa0 ca0 a0 hr0 hc0)
 unfold slices_ContainsFunc_impl_Spot_impl_Spot.f at H
 refine CV.body Tryz.func128 Z Tryz.ntmps128 Z ?_
 refine GO ?_
 refine OB H hS hb158 (slices_IndexFunc_impl_Spot_impl_Spot.c (rA hS 0 Z) (rB hS 0 Z) na1 fsa1 capa1 hb1 a1 (fun z0 r h w' hx => hf1 z0 r h w' (hS.chg.then hx (fun _ _ e => e.elim)))) fun t1 w1 H hS => ?_
 exact FE H hS

def impl_cellCode_1.f (a1 : Pasture) (a0 : Spot) : Option Bool := (impl_Pasture_isCell.f a1 a0).bind fun t2 => some (!t2)
theorem impl_cellCode_1.c {w} (pa1 : Addr) (a1 : Pasture) (hp1 : CA w pa1 (cPasture.enc a1)) (a0 : Spot) (r : Bool) (H : impl_cellCode_1.f a1 a0 = some r) :
 CV Tryz.prog 129 [.agg (cSpot.enc a0).toArray, .pointer (some pa1)].toArray w fun v w' => v = .bool r ∧ Ext w w' := by
 have hS := ((St.init w no).paramP pa1 (cPasture.enc a1) hp1)
 unfold impl_cellCode_1.f at H
 refine CV.body Tryz.func129 Z Tryz.ntmps129 Z ?_
 refine GO ?_
 refine oX hS (cSpot.enc a0) fun b1 w1 hS => ?_
 refine OS (SE (hS.ca (i := 0) Z)) ?_
 refine OS (SE (ce hS 0)) ?_
 refine OB H hS hb123 (impl_Pasture_isCell.c a1 a0) fun t2 w1 H hS => ?_
 exact FE H hS

def impl_cellCode.f (k : Nat) (a0 : Pasture) (a1 : List Spot) : Option Int := (impl_ValidPasture.f k a0).bind fun t2 => if (!t2) = true then (some 1) else ((slices_ContainsFunc_impl_Spot_impl_Spot.f k a1 (impl_cellCode_1.f a0)).bind fun t3 => (impl_unless.f (!t3) 2).bind fun t4 => some t4)
theorem impl_cellCode.c {k w} (a0 : Pasture) {Aa1 ca1} {a1 : List Spot} (hr1 : Rd cSpot w Aa1 a1) (hc1 : a1.length ≤ ca1) (r : Int) (H : impl_cellCode.f k a0 a1 = some r) :
 CV Tryz.prog 79 [.agg (cPasture.enc a0).toArray, sl Aa1 a1 ca1].toArray w fun v w' => v = .int .i64 r ∧ Ext w w' := by
 have hS := ((St.init w no).param cSpot Aa1 ca1 a1 hr1 hc1)
 unfold impl_cellCode.f at H
 refine CV.body Tryz.func79 Z Tryz.ntmps79 Z ?_
 refine GO ?_
 refine oX hS (cPasture.enc a0) fun b1 w1 hS => ?_
 refine OS (SE (ce hS 0)) ?_
 refine oB H hS hb69 (impl_ValidPasture.c a0) fun t2 w1 H hS => ?_
 refine CB H (fun H => ?_) (fun H => ?_)
 exact FE H hS
 refine GO ?_
 refine oB H hS hb128 (slices_ContainsFunc_impl_Spot_impl_Spot.c (rA hS 0 Z) (rB hS 0 Z) 129 #[] #[.pointer (some ⟨b1, 0, none⟩)] hb129 (impl_cellCode_1.f a0) (fun z0 r h w' hx => CV.cast (impl_cellCode_1.c ⟨b1, 0, none⟩ a0 (CA.ext (hS.cells (i := 0) rfl) hx) z0 r h) (by simp))) fun t3 w1 H hS => ?_
 refine OB H hS hb59 (impl_unless.c) fun t4 w1 H hS => ?_
 exact FE H hS

def slices_Clone_impl_Spot_impl_Spot.f (a0 : List Spot) : Option (List Spot) := (chk (([] : List Spot).length + a0.length ≤ 4294967296)).bind fun _ => some a0
theorem slices_Clone_impl_Spot_impl_Spot.c {w} (A : Option Addr) (c : Nat) {a0 : List Spot} (hr0 : Rd cSpot w A a0) (hc0 : a0.length ≤ c) (r : List Spot) (H : slices_Clone_impl_Spot_impl_Spot.f a0 = some r) :
 CV Tryz.prog 132 [sl A a0 c].toArray w fun v w' => ∃ (A0 : Option Addr) (c0 : Nat), v = .slice A0 r.length c0 ∧ St w no w' [rowC cSpot A0 c0 63 r] [] := by
 have hS := ((St.init w no).param cSpot A c a0 hr0 hc0)
 obtain ⟨u, hu, H⟩ := pbind H
 obtain rfl := Option.some.inj H
 refine CV.body Tryz.func132 Z Tryz.ntmps132 Z ?_
 refine GO ?_
 refine OJ.st Z Z Z (SR.eqNil oU Z Z Z Z) ?_
 refine GO ?_
 refine CJ.cond Z (fun hb => ?_) (fun hb => ?_)
 obtain rfl := hr0.isNone hb
 refine GO ?_
 replace hS := hS.addNil cSpot 63 none
 exact FT ⟨none, 0, Z, hS.pick [0] [] Z⟩
 refine GO ?_
 refine OF (EL hS cSpot ([] : List Spot)) ?_
 rintro _ w1 ⟨A1, rfl, hS⟩
 refine GO ?_
 refine OW (AP hS 0 (rA hS 0 Z) (chk_some hu)) ?_
 rintro _ w1 ⟨A2, c2, rfl, hS⟩
 refine GO ?_
 exact EJ.fin Z (.tmp Z .nil) ⟨A2, c2, Z, hS.pick [0] [] Z⟩

def impl_Spot_ahead.f (a0 : Spot) (a1 : Int) : Option Spot := if a1 = 0 then (some (⟨a0.X, IntKind.i8.wrap (a0.Y - 1)⟩ : Spot)) else (if a1 = 1 then (some (⟨IntKind.i8.wrap (a0.X + 1), a0.Y⟩ : Spot)) else (if a1 = 2 then (some (⟨a0.X, IntKind.i8.wrap (a0.Y + 1)⟩ : Spot)) else (some (⟨IntKind.i8.wrap (a0.X - 1), a0.Y⟩ : Spot))))
theorem impl_Spot_ahead.c {w} (a0 : Spot) {a1 : Int} (r : Spot) (H : impl_Spot_ahead.f a0 a1 = some r) :
 CV Tryz.prog 193 [.agg (cSpot.enc a0).toArray, .int .i64 a1].toArray w fun v w' => v = .agg (cSpot.enc r).toArray ∧ Ext w w' := by
 have hS := (St.init w no)
 unfold impl_Spot_ahead.f at H
 refine CV.body Tryz.func193 Z Tryz.ntmps193 Z ?_
 refine GO ?_
 refine OF (EB hS (cSpot.enc a0)) ?_
 rintro _ w1 ⟨b1, rfl, hS⟩
 refine oA hS (cSpot.enc (⟨0, 0⟩ : Spot)) fun b2 w1 hS => ?_
 refine CJ.block ?_
 refine GO ?_
 refine CP H (fun H => GO ?_) (fun H => ?_)
 refine oS (SL (cf hS 0 1)) ?_
 refine oE (WS hS 0 ((ci .i8).enc (IntKind.i8.wrap (a0.Y - 1))) (cSpot.enc (⟨a0.X, IntKind.i8.wrap (a0.Y - 1)⟩ : Spot))) fun w1 hS => ?_
 refine OS (SE (ce hS 0)) ?_
 refine OJ.es Z Z (Es.store oI hS (i := 1) Z Z Z Z Z Z (vs := cSpot.enc (⟨a0.X, IntKind.i8.wrap (a0.Y - 1)⟩ : Spot)) Z (cSpot.len _) (cSpot.one _) (Nat.le_of_ble_eq_true Z) (cSpot.enc (⟨a0.X, IntKind.i8.wrap (a0.Y - 1)⟩ : Spot)) Z) ?_
 intro w1 hS
 refine GO ?_
 obtain rfl := Option.some.inj H
 exact EJ.fin Z (.cell Z (ldE oU oI Z Z Z (hS.cells (i := 1) Z) Z) .nil) ⟨Z, hS.ext⟩
 refine GO ?_
 refine CP H (fun H => GO ?_) (fun H => ?_)
 refine oS (SL (cf hS 0 0)) ?_
 refine oE (WS hS 0 ((ci .i8).enc (IntKind.i8.wrap (a0.X + 1))) (cSpot.enc (⟨IntKind.i8.wrap (a0.X + 1), a0.Y⟩ : Spot))) fun w1 hS => ?_
 refine OS (SE (ce hS 0)) ?_
 refine OJ.es Z Z (Es.store oI hS (i := 1) Z Z Z Z Z Z (vs := cSpot.enc (⟨IntKind.i8.wrap (a0.X + 1), a0.Y⟩ : Spot)) Z (cSpot.len _) (cSpot.one _) (Nat.le_of_ble_eq_true Z) (cSpot.enc (⟨IntKind.i8.wrap (a0.X + 1), a0.Y⟩ : Spot)) Z) ?_
 intro w1 hS
 refine GO ?_
 obtain rfl := Option.some.inj H
 exact EJ.fin Z (.cell Z (ldE oU oI Z Z Z (hS.cells (i := 1) Z) Z) .nil) ⟨Z, hS.ext⟩
 refine GO ?_
 refine CP H (fun H => GO ?_) (fun H => ?_)
 refine oS (SL (cf hS 0 1)) ?_
 refine oE (WS hS 0 ((ci .i8).enc (IntKind.i8.wrap (a0.Y + 1))) (cSpot.enc (⟨a0.X, IntKind.i8.wrap (a0.Y + 1)⟩ : Spot))) fun w1 hS => ?_
 refine OS (SE (ce hS 0)) ?_
 refine OJ.es Z Z (Es.store oI hS (i := 1) Z Z Z Z Z Z (vs := cSpot.enc (⟨a0.X, IntKind.i8.wrap (a0.Y + 1)⟩ : Spot)) Z (cSpot.len _) (cSpot.one _) (Nat.le_of_ble_eq_true Z) (cSpot.enc (⟨a0.X, IntKind.i8.wrap (a0.Y + 1)⟩ : Spot)) Z) ?_
 intro w1 hS
 refine GO ?_
 obtain rfl := Option.some.inj H
 exact EJ.fin Z (.cell Z (ldE oU oI Z Z Z (hS.cells (i := 1) Z) Z) .nil) ⟨Z, hS.ext⟩
 refine GO ?_
 refine oS (SL (cf hS 0 0)) ?_
 refine oE (WS hS 0 ((ci .i8).enc (IntKind.i8.wrap (a0.X - 1))) (cSpot.enc (⟨IntKind.i8.wrap (a0.X - 1), a0.Y⟩ : Spot))) fun w1 hS => ?_
 refine OS (SE (ce hS 0)) ?_
 refine OJ.es Z Z (Es.store oI hS (i := 1) Z Z Z Z Z Z (vs := cSpot.enc (⟨IntKind.i8.wrap (a0.X - 1), a0.Y⟩ : Spot)) Z (cSpot.len _) (cSpot.one _) (Nat.le_of_ble_eq_true Z) (cSpot.enc (⟨IntKind.i8.wrap (a0.X - 1), a0.Y⟩ : Spot)) Z) ?_
 intro w1 hS
 refine GO ?_
 obtain rfl := Option.some.inj H
 exact EJ.fin Z (.cell Z (ldE oU oI Z Z Z (hS.cells (i := 1) Z) Z) .nil) ⟨Z, hS.ext⟩

def impl_hurdleAt.f (a0 : Spot) (a1 : Int) : Option Hurdle := (if a1 = 0 then (some true) else (some (decide (a1 = 3)))).bind fun y3 => if y3 = true then ((impl_Spot_ahead.f a0 a1).bind fun t4 => if a1 = 0 then (some (⟨t4, true⟩ : Hurdle)) else (some (⟨t4, decide (a1 = 2)⟩ : Hurdle))) else (if a1 = 0 then (some (⟨a0, true⟩ : Hurdle)) else (some (⟨a0, decide (a1 = 2)⟩ : Hurdle)))
theorem impl_hurdleAt.c {w} (a0 : Spot) {a1 : Int} (r : Hurdle) (H : impl_hurdleAt.f a0 a1 = some r) :
 CV Tryz.prog 218 [.agg (cSpot.enc a0).toArray, .int .i64 a1].toArray w fun v w' => v = .agg (cHurdle.enc r).toArray ∧ Ext w w' := by
 have hS := (St.init w no)
 unfold impl_hurdleAt.f at H
 refine CV.body Tryz.func218 Z Tryz.ntmps218 Z ?_
 refine GO ?_
 refine OF (EB hS (cSpot.enc a0)) ?_
 rintro _ w1 ⟨b1, rfl, hS⟩
 refine OF (EA hS (cHurdle.enc (⟨(⟨0, 0⟩ : Spot), false⟩ : Hurdle))) ?_
 rintro _ w1 ⟨b2, rfl, hS⟩
 refine NX ?_
 refine CJ.seq ?_
 obtain ⟨j476, H, K476⟩ := pbind H
 refine CJ.cut (fun F w1 => ∃ y3, some y3 = some j476 ∧ F = [(1, i6 a1), (2, pt b1), (4, pt b2), (10, .bool y3)] ∧ St w no w1 [box b1 (cSpot.enc a0) 63, box b2 (cHurdle.enc (⟨(⟨0, 0⟩ : Spot), false⟩ : Hurdle)) 245] []) ?_ ?_
 refine GO ?_
 refine OJ.split (t := 7) Z (fun hb => ?_) (fun hb => ?_)
 replace H := pif_t (of_decide_eq_true hb) H
 exact MD H hS
 replace H := pif_f (of_decide_eq_false hb) H
 exact MD H hS
 rintro F w1 ⟨y3, he, rfl, hS⟩
 obtain rfl := Option.some.inj he
 have H := K476
 refine CB H (fun H => GO ?_) (fun H => ?_)
 refine oS (SE (ce hS 0)) ?_
 refine OB H hS hb193 (impl_Spot_ahead.c a0) fun t4 w1 H hS => ?_
 refine OJ.es Z Z (Es.store oI hS (i := 0) Z Z Z Z Z Z (vs := cSpot.enc t4) Z (cSpot.len _) (cSpot.one _) (Nat.le_of_ble_eq_true Z) (cSpot.enc t4) Z) ?_
 intro w1 hS
 refine GO ?_
 refine oS (SE (ce hS 0)) ?_
 refine OJ.split (t := 17) Z (fun hb => ?_) (fun hb => ?_)
 replace H := pif_t (of_decide_eq_true hb) H
 refine GO ?_
 refine OJ.st Z Z Z (SR.build (C := cHurdle) oU oI Z Z Z (zs := [.int .i8 0, .int .i8 0, .bool false]) Z Z Z (⟨t4, true⟩ : Hurdle) Z) ?_
 refine OJ.es Z Z (Es.store oI hS (i := 1) Z Z Z Z Z Z (vs := cHurdle.enc (⟨t4, true⟩ : Hurdle)) Z (cHurdle.len _) (cHurdle.one _) (Nat.le_of_ble_eq_true Z) (cHurdle.enc (⟨t4, true⟩ : Hurdle)) Z) ?_
 intro w1 hS
 refine GO ?_
 obtain rfl := Option.some.inj H
 exact EJ.fin Z (.cell Z (ldE oU oI Z Z Z (hS.cells (i := 1) Z) Z) .nil) ⟨Z, hS.ext⟩
 replace H := pif_f (of_decide_eq_false hb) H
 refine GO ?_
 refine OJ.st Z Z Z (SR.build (C := cHurdle) oU oI Z Z Z (zs := [.int .i8 0, .int .i8 0, .bool false]) Z Z Z (⟨t4, decide (a1 = 2)⟩ : Hurdle) Z) ?_
 refine OJ.es Z Z (Es.store oI hS (i := 1) Z Z Z Z Z Z (vs := cHurdle.enc (⟨t4, decide (a1 = 2)⟩ : Hurdle)) Z (cHurdle.len _) (cHurdle.one _) (Nat.le_of_ble_eq_true Z) (cHurdle.enc (⟨t4, decide (a1 = 2)⟩ : Hurdle)) Z) ?_
 intro w1 hS
 refine GO ?_
 obtain rfl := Option.some.inj H
 exact EJ.fin Z (.cell Z (ldE oU oI Z Z Z (hS.cells (i := 1) Z) Z) .nil) ⟨Z, hS.ext⟩
 refine GO ?_
 refine oS (SE (ce hS 0)) ?_
 refine OJ.split (t := 17) Z (fun hb => ?_) (fun hb => ?_)
 replace H := pif_t (of_decide_eq_true hb) H
 refine GO ?_
 refine OJ.st Z Z Z (SR.build (C := cHurdle) oU oI Z Z Z (zs := [.int .i8 0, .int .i8 0, .bool false]) Z Z Z (⟨a0, true⟩ : Hurdle) Z) ?_
 refine OJ.es Z Z (Es.store oI hS (i := 1) Z Z Z Z Z Z (vs := cHurdle.enc (⟨a0, true⟩ : Hurdle)) Z (cHurdle.len _) (cHurdle.one _) (Nat.le_of_ble_eq_true Z) (cHurdle.enc (⟨a0, true⟩ : Hurdle)) Z) ?_
 intro w1 hS
 refine GO ?_
 obtain rfl := Option.some.inj H
 exact EJ.fin Z (.cell Z (ldE oU oI Z Z Z (hS.cells (i := 1) Z) Z) .nil) ⟨Z, hS.ext⟩
 replace H := pif_f (of_decide_eq_false hb) H
 refine GO ?_
 refine OJ.st Z Z Z (SR.build (C := cHurdle) oU oI Z Z Z (zs := [.int .i8 0, .int .i8 0, .bool false]) Z Z Z (⟨a0, decide (a1 = 2)⟩ : Hurdle) Z) ?_
 refine OJ.es Z Z (Es.store oI hS (i := 1) Z Z Z Z Z Z (vs := cHurdle.enc (⟨a0, decide (a1 = 2)⟩ : Hurdle)) Z (cHurdle.len _) (cHurdle.one _) (Nat.le_of_ble_eq_true Z) (cHurdle.enc (⟨a0, decide (a1 = 2)⟩ : Hurdle)) Z) ?_
 intro w1 hS
 refine GO ?_
 obtain rfl := Option.some.inj H
 exact EJ.fin Z (.cell Z (ldE oU oI Z Z Z (hS.cells (i := 1) Z) Z) .nil) ⟨Z, hS.ext⟩

def impl_Pasture_stands.f (a0 : Pasture) (a1 : Hurdle) : Option Bool := if a1.South = true then ((getI a0.South.l a1.At.Y).bind fun t3 => (chk (0 ≤ a1.At.X)).bind fun u4 => some (decide ((andI .u16 (shrI .u16 t3 a1.At.X) 1) = 1))) else ((getI a0.East.l a1.At.Y).bind fun t5 => (chk (0 ≤ a1.At.X)).bind fun u6 => some (decide ((andI .u16 (shrI .u16 t5 a1.At.X) 1) = 1)))
theorem impl_Pasture_stands.c {w} (a0 : Pasture) (a1 : Hurdle) (r : Bool) (H : impl_Pasture_stands.f a0 a1 = some r) :
 CV Tryz.prog 217 [.agg (cPasture.enc a0).toArray, .agg (cHurdle.enc a1).toArray].toArray w fun v w' => v = .bool r ∧ Ext w w' := by
 have hS := (St.init w no)
 unfold impl_Pasture_stands.f at H
 refine CV.body Tryz.func217 Z Tryz.ntmps217 Z ?_
 refine GO ?_
 refine OF (EB hS (cPasture.enc a0)) ?_
 rintro _ w1 ⟨b1, rfl, hS⟩
 refine oX hS (cHurdle.enc a1) fun b2 w1 hS => ?_
 refine oS (SL (cf hS 1 2)) ?_
 refine CB H (fun H => GO ?_) (fun H => ?_)
 refine CJ.draw [] [0, 1, 2, 3, 4, 5, 6, 7, 8, 9, 10, 11, 12] mixed (by kernel_rfl) hS fun w1 hS => ?_
 refine GO ?_
 refine dS (SL (CA.sub (cf hS 1 0) 1)) ?_
 obtain ⟨t3, ht3, H⟩ := pbind H
 refine DJ.st Z Z Z Z Z (SR.idxA oU oI Z Z Z Z Z (Arr.lt ht3)) ?_
 refine dS (SL (CA.idx (CA.fld (ce hS 0) (mid_part (fe_Pasture_4 _) (fl_Pasture_4 _) ((carr 10 (ci .u16)).len _))) ht3)) ?_
 refine DS (SL (CA.sub (cf hS 1 0) 0)) ?_
 obtain ⟨u4, hu4, H⟩ := pbind H
 refine DJ.st Z Z Z Z Z (SR.shr Z Z Z (chk_some hu4)) ?_
 exact FE H hS
 refine GO ?_
 refine CJ.draw [] [0, 1, 2, 3, 4, 5, 6, 7, 8, 9, 10, 11, 12] mixed (by kernel_rfl) hS fun w1 hS => ?_
 refine GO ?_
 refine dS (SL (CA.sub (cf hS 1 0) 1)) ?_
 obtain ⟨t5, ht5, H⟩ := pbind H
 refine DJ.st Z Z Z Z Z (SR.idxA oU oI Z Z Z Z Z (Arr.lt ht5)) ?_
 refine dS (SL (CA.idx (CA.fld (ce hS 0) (mid_part (fe_Pasture_3 _) (fl_Pasture_3 _) ((carr 10 (ci .u16)).len _))) ht5)) ?_
 refine DS (SL (CA.sub (cf hS 1 0) 0)) ?_
 obtain ⟨u6, hu6, H⟩ := pbind H
 refine DJ.st Z Z Z Z Z (SR.shr Z Z Z (chk_some hu6)) ?_
 exact FE H hS

def impl_Pasture_canGo.f (a0 : Pasture) (a1 : Spot) (a2 : Int) : Option Bool := (impl_Spot_ahead.f a1 a2).bind fun t3 => (impl_Pasture_isCell.f a0 t3).bind fun t4 => if t4 = true then ((impl_hurdleAt.f a1 a2).bind fun t5 => (impl_Pasture_stands.f a0 t5).bind fun t6 => some (!t6)) else (some false)
theorem impl_Pasture_canGo.c {w} (a0 : Pasture) (a1 : Spot) {a2 : Int} (r : Bool) (H : impl_Pasture_canGo.f a0 a1 a2 = some r) :
 CV Tryz.prog 194 [.agg (cPasture.enc a0).toArray, .agg (cSpot.enc a1).toArray, .int .i64 a2].toArray w fun v w' => v = .bool r ∧ Ext w w' := by
 have hS := (St.init w no)
 unfold impl_Pasture_canGo.f at H
 refine CV.body Tryz.func194 Z Tryz.ntmps194 Z ?_
 refine GO ?_
 refine OF (EB hS (cPasture.enc a0)) ?_
 rintro _ w1 ⟨b1, rfl, hS⟩
 refine oX hS (cSpot.enc a1) fun b2 w1 hS => ?_
 refine CJ.draw [] [0, 1, 2, 3, 4, 5, 6, 7, 8, 9, 10, 11, 12, 13] mixed (by kernel_rfl) hS fun w1 hS => ?_
 refine DS (SE (ce hS 0)) ?_
 refine dS (SE (ce hS 1)) ?_
 obtain ⟨t3, ht3, H⟩ := pbind H
 refine DJ.callF rfl rfl rfl rfl rfl rfl rfl hb193 rfl (impl_Spot_ahead.c a1 _ ht3) (by rintro v w' ⟨rfl, hs⟩; exact hs) ?_
 rintro _ w1 ⟨rfl, hs⟩
 replace hS := hS.grow hs
 obtain ⟨t4, ht4, H⟩ := pbind H
 refine DJ.callF rfl rfl rfl rfl rfl rfl rfl hb123 rfl (impl_Pasture_isCell.c a0 t3 _ ht4) (by rintro v w' ⟨rfl, hs⟩; exact hs) ?_
 rintro _ w1 ⟨rfl, hs⟩
 replace hS := hS.grow hs
 refine GO ?_
 refine DJ.split (t := 12) Z (fun hb => ?_) (fun hb => ?_)
 replace H := pif_t hb H
 refine DS (SE (ce hS 0)) ?_
 refine dS (SE (ce hS 1)) ?_
 obtain ⟨t5, ht5, H⟩ := pbind H
 refine DJ.callF rfl rfl rfl rfl rfl rfl rfl hb218 rfl (impl_hurdleAt.c a1 _ ht5) (by rintro v w' ⟨rfl, hs⟩; exact hs) ?_
 rintro _ w1 ⟨rfl, hs⟩
 replace hS := hS.grow hs
 obtain ⟨t6, ht6, H⟩ := pbind H
 refine DJ.callF rfl rfl rfl rfl rfl rfl rfl hb217 rfl (impl_Pasture_stands.c a0 t5 _ ht6) (by rintro v w' ⟨rfl, hs⟩; exact hs) ?_
 rintro _ w1 ⟨rfl, hs⟩
 replace hS := hS.grow hs
 exact FE H hS
 replace H := pifb_f hb H
 exact FE H hS

def impl_Pasture_far.l2 (y6 : Int) : Nat → (Arr 10 (Arr 10 Int)) → Int → Option (Arr 10 (Arr 10 Int))
  | 0, _, _ => none
  | k + 1, y9, y10 => if y10 < 10 then ((getI y9.l y6).bind fun t11 => (getI t11.l y10).bind fun t12 => impl_Pasture_far.l2 y6 k (aset y9 y6.toNat (aset t11 y10.toNat (-1))) (IntKind.i64.wrap (y10 + 1))) else (some y9)
def impl_Pasture_far.l1 : Nat → (Arr 10 (Arr 10 Int)) → Int → Option (Arr 10 (Arr 10 Int))
  | 0, _, _ => none
  | k + 1, y5, y6 => if y6 < 10 then (((impl_Pasture_far.l2 y6 k y5 0).bind fun y8 => some y8).bind fun y7 => impl_Pasture_far.l1 k y7 (IntKind.i64.wrap (y6 + 1))) else (some y5)
def impl_Pasture_far.l3 (a1 : List Spot) : Nat → (Arr 10 (Arr 10 Int)) → Int → Option (Arr 10 (Arr 10 Int))
  | 0, _, _ => none
  | k + 1, y14, y15 => if y15 < (a1.length : Int) then ((getI a1 y15).bind fun t16 => (getI y14.l t16.Y).bind fun t18 => (getI t18.l t16.X).bind fun t19 => impl_Pasture_far.l3 a1 k (aset y14 t16.Y.toNat (aset t18 t16.X.toNat 0)) (IntKind.i64.wrap (y15 + 1))) else (some y14)
def impl_Pasture_far.l5 (a0 : Pasture) (t33 : Spot) : Nat → (Arr 10 (Arr 10 Int)) → (List Spot) → Int → Option ((Arr 10 (Arr 10 Int)) × (List Spot))
  | 0, _, _, _ => none
  | k + 1, y39, y40, y43 => if y43 < 4 then ((impl_Spot_ahead.f t33 y43).bind fun t44 => ((impl_Pasture_canGo.f a0 t33 y43).bind fun t47 => if t47 = true then ((getI y39.l t44.Y).bind fun t48 => (getI t48.l t44.X).bind fun t49 => some (decide (t49 < 0))) else (some false)).bind fun y46 => if y46 = true then ((getI y39.l t33.Y).bind fun t50 => (getI t50.l t33.X).bind fun t51 => (getI y39.l t44.Y).bind fun t52 => (getI t52.l t44.X).bind fun t53 => (chk (y40.length + ([t44] : List Spot).length ≤ 4294967296)).bind fun u55 => impl_Pasture_far.l5 a0 t33 k (aset y39 t44.Y.toNat (aset t52 t44.X.toNat (IntKind.i16.wrap (t51 + 1)))) (y40 ++ ([t44] : List Spot)) (IntKind.i64.wrap (y43 + 1))) else (impl_Pasture_far.l5 a0 t33 k y39 y40 (IntKind.i64.wrap (y43 + 1)))) else (some (y39, y40))
def impl_Pasture_far.l4 (a0 : Pasture) : Nat → (Arr 10 (Arr 10 Int)) → (List Spot) → Int → Option (Arr 10 (Arr 10 Int))
  | 0, _, _, _ => none
  | k + 1, y24, y25, y28 => if y28 < (y25.length : Int) then (((getI y25 y28).bind fun t33 => (impl_Pasture_far.l5 a0 t33 k y24 y25 0).bind fun (y35, y36) => some (y35, y36)).bind fun (y29, y30) => impl_Pasture_far.l4 a0 k y29 y30 (IntKind.i64.wrap (y28 + 1))) else (some y24)
def impl_Pasture_far.f (k : Nat) (a0 : Pasture) (a1 : List Spot) : Option (Arr 10 (Arr 10 Int)) := (impl_Pasture_far.l1 k (Arr.mk' (Arr.mk' 0 : Arr 10 Int) : Arr 10 (Arr 10 Int)) 0).bind fun y4 => (impl_Pasture_far.l3 a1 k y4 0).bind fun y13 => (slices_Clone_impl_Spot_impl_Spot.f a1).bind fun t20 => (impl_Pasture_far.l4 a0 k y13 t20 0).bind fun y23 => some y23
theorem impl_Pasture_far.c {k w} (a0 : Pasture) {Aa1 ca1} {a1 : List Spot} (hr1 : Rd cSpot w Aa1 a1) (hc1 : a1.length ≤ ca1) (r : Arr 10 (Arr 10 Int)) (H : impl_Pasture_far.f k a0 a1 = some r) :
 CV Tryz.prog 159 [.agg (cPasture.enc a0).toArray, sl Aa1 a1 ca1].toArray w fun v w' => v = .agg ((carr 10 (carr 10 (ci .i16))).enc r).toArray ∧ Ext w w' := by
 have hS := ((St.init w no).param cSpot Aa1 ca1 a1 hr1 hc1)
 unfold impl_Pasture_far.f at H
 refine CV.body Tryz.func159 Z Tryz.ntmps159 Z ?_
 refine GO ?_
 refine OF (EB hS (cPasture.enc a0)) ?_
 rintro _ w1 ⟨b1, rfl, hS⟩
 refine OJ.ef rfl rfl rfl (Ef.alloc hS oI rfl rfl ((carr 10 (carr 10 (ci .i16))).enc (Arr.mk' (Arr.mk' 0 : Arr 10 Int) : Arr 10 (Arr 10 Int))) (by kernel_rfl)) ?_
 rintro _ w1 ⟨b2, rfl, hS⟩
 refine GO ?_
 refine OJ.st rfl rfl rfl (SR.buildA oU oI rfl rfl rfl rfl (zs := [.int .i16 0, .int .i16 0, .int .i16 0, .int .i16 0, .int .i16 0, .int .i16 0, .int .i16 0, .int .i16 0, .int .i16 0, .int .i16 0, .int .i16 0, .int .i16 0, .int .i16 0, .int .i16 0, .int .i16 0, .int .i16 0, .int .i16 0, .int .i16 0, .int .i16 0, .int .i16 0, .int .i16 0, .int .i16 0, .int .i16 0, .int .i16 0, .int .i16 0, .int .i16 0, .int .i16 0, .int .i16 0, .int .i16 0, .int .i16 0, .int .i16 0, .int .i16 0, .int .i16 0, .int .i16 0, .int .i16 0, .int .i16 0, .int .i16 0, .int .i16 0, .int .i16 0, .int .i16 0, .int .i16 0, .int .i16 0, .int .i16 0, .int .i16 0, .int .i16 0, .int .i16 0, .int .i16 0, .int .i16 0, .int .i16 0, .int .i16 0, .int .i16 0, .int .i16 0, .int .i16 0, .int .i16 0, .int .i16 0, .int .i16 0, .int .i16 0, .int .i16 0, .int .i16 0, .int .i16 0, .int .i16 0, .int .i16 0, .int .i16 0, .int .i16 0, .int .i16 0, .int .i16 0, .int .i16 0, .int .i16 0, .int .i16 0, .int .i16 0, .int .i16 0, .int .i16 0, .int .i16 0, .int .i16 0, .int .i16 0, .int .i16 0, .int .i16 0, .int .i16 0, .int .i16 0, .int .i16 0, .int .i16 0, .int .i16 0, .int .i16 0, .int .i16 0, .int .i16 0, .int .i16 0, .int .i16 0, .int .i16 0, .int .i16 0, .int .i16 0, .int .i16 0, .int .i16 0, .int .i16 0, .int .i16 0, .int .i16 0, .int .i16 0, .int .i16 0, .int .i16 0, .int .i16 0, .int .i16 0]) rfl rfl ((carr 10 (carr 10 (ci .i16))).enc (Arr.mk' (Arr.mk' 0 : Arr 10 Int) : Arr 10 (Arr 10 Int))) (by kernel_rfl)) ?_
 refine OJ.ef rfl rfl rfl (Ef.alloc hS oI rfl rfl ((carr 10 (carr 10 (ci .i16))).enc (Arr.mk' (Arr.mk' 0 : Arr 10 Int) : Arr 10 (Arr 10 Int))) (by kernel_rfl)) ?_
 rintro _ w1 ⟨b3, rfl, hS⟩
 refine OJ.es rfl rfl (Es.put oI hS (i := 2) rfl rfl rfl rfl rfl (vs := (carr 10 (carr 10 (ci .i16))).enc (Arr.mk' (Arr.mk' 0 : Arr 10 Int) : Arr 10 (Arr 10 Int))) rfl ((carr 10 (carr 10 (ci .i16))).len _) ((carr 10 (carr 10 (ci .i16))).one _) (Put.all (carr 10 (carr 10 (ci .i16))) (Arr.mk' (Arr.mk' 0 : Arr 10 Int) : Arr 10 (Arr 10 Int)) (Arr.mk' (Arr.mk' 0 : Arr 10 Int) : Arr 10 (Arr 10 Int))) (by (try simp only [add_lit, Nat.add_assoc, Nat.zero_add, Nat.add_zero]) <;> rfl)) ?_
 intro w1 hS
 refine GO ?_
 obtain ⟨j461, H, K461⟩ := pbind H
 refine CJ.cut1 (fun F w1 => ∃ y4, some y4 = some j461 ∧ F = [(1, sl Aa1 a1 ca1), (2, pt b1), (4, pt b2), (5, pt b3)] ∧ St w no w1 [box b1 (cPasture.enc a0) 58, box b2 ((carr 10 (carr 10 (ci .i16))).enc (Arr.mk' (Arr.mk' 0 : Arr 10 Int) : Arr 10 (Arr 10 Int))) 191, box b3 ((carr 10 (carr 10 (ci .i16))).enc y4) 191] [roC cSpot Aa1 ca1 a1]) ?_ ?_
 refine CJ.block ?_
 refine LQ (fun k F w1 => ∃ (y5 : Arr 10 (Arr 10 Int)) (y6 : Int), F = [(1, sl Aa1 a1 ca1), (2, pt b1), (4, pt b2), (5, pt b3), (15, i6 y6)] ∧ St w no w1 [box b1 (cPasture.enc a0) 58, box b2 ((carr 10 (carr 10 (ci .i16))).enc (Arr.mk' (Arr.mk' 0 : Arr 10 Int) : Arr 10 (Arr 10 Int))) 191, box b3 ((carr 10 (carr 10 (ci .i16))).enc y5) 191] [roC cSpot Aa1 ca1 a1] ∧ impl_Pasture_far.l1 k y5 y6 = some j461) k H hS ?_
 rintro k F w1 ⟨y5, y6, rfl, hS, H⟩
 rw [impl_Pasture_far.l1] at H
 refine GO ?_
 refine CP H (fun H => ?_) (fun H => ?_)
 refine CJ.skip (EJ.next ?_)
 obtain ⟨j468, H, K468⟩ := pbind H
 refine CJ.cut (fun F w1 => ∃ y7, some y7 = some j468 ∧ F = [(1, sl Aa1 a1 ca1), (2, pt b1), (4, pt b2), (5, pt b3), (15, i6 y6)] ∧ St w no w1 [box b1 (cPasture.enc a0) 58, box b2 ((carr 10 (carr 10 (ci .i16))).enc (Arr.mk' (Arr.mk' 0 : Arr 10 Int) : Arr 10 (Arr 10 Int))) 191, box b3 ((carr 10 (carr 10 (ci .i16))).enc y7) 191] [roC cSpot Aa1 ca1 a1]) ?_ ?_
 refine CJ.block ?_
 refine GO ?_
 obtain ⟨j470, H, K470⟩ := pbind H
 refine CJ.cut1 (fun F w1 => ∃ y8, some y8 = some j470 ∧ F = [(1, sl Aa1 a1 ca1), (2, pt b1), (4, pt b2), (5, pt b3), (15, i6 y6)] ∧ St w no w1 [box b1 (cPasture.enc a0) 58, box b2 ((carr 10 (carr 10 (ci .i16))).enc (Arr.mk' (Arr.mk' 0 : Arr 10 Int) : Arr 10 (Arr 10 Int))) 191, box b3 ((carr 10 (carr 10 (ci .i16))).enc y8) 191] [roC cSpot Aa1 ca1 a1]) ?_ ?_
 refine CJ.block ?_
 refine LQ (fun k F w1 => ∃ (y9 : Arr 10 (Arr 10 Int)) (y10 : Int), F = [(1, sl Aa1 a1 ca1), (2, pt b1), (4, pt b2), (5, pt b3), (6, i6 y6), (15, i6 y6), (18, i6 y10)] ∧ St w no w1 [box b1 (cPasture.enc a0) 58, box b2 ((carr 10 (carr 10 (ci .i16))).enc (Arr.mk' (Arr.mk' 0 : Arr 10 Int) : Arr 10 (Arr 10 Int))) 191, box b3 ((carr 10 (carr 10 (ci .i16))).enc y9) 191] [roC cSpot Aa1 ca1 a1] ∧ impl_Pasture_far.l2 y6 k y9 y10 = some j470) k H hS ?_
 rintro k F w1 ⟨y9, y10, rfl, hS, H⟩
 rw [impl_Pasture_far.l2] at H
 refine GO ?_
 refine CP H (fun H => GO ?_) (fun H => ?_)
 refine CJ.block ?_
 refine GO ?_
 obtain ⟨t11, ht11, H⟩ := pbind H
 refine OJ.st Z Z Z (SR.idxA oU oI Z Z Z Z Z (Arr.lt ht11)) ?_
 obtain ⟨t12, ht12, H⟩ := pbind H
 refine OJ.st Z Z Z (SR.idxA oU oI Z Z Z Z Z (Arr.lt ht12)) ?_
 refine OJ.es rfl rfl (Es.put oI hS (i := 2) rfl rfl rfl rfl rfl (vs := (ci .i16).enc (-1)) rfl rfl (one1 rfl) (Put.idx (Put.idx (Put.all (ci .i16) t12 (-1)) ht12) ht11) (by (try simp only [add_lit, Nat.add_assoc, Nat.zero_add, Nat.add_zero]) <;> rfl)) ?_
 intro w1 hS
 exact MD H hS
 exact MD H hS
 rintro F w1 ⟨y8, he, rfl, hS⟩
 obtain rfl := Option.some.inj he
 have H := K470
 refine EJ.blk (?_)
 exact MD H hS
 rintro F w1 ⟨y7, he, rfl, hS⟩
 obtain rfl := Option.some.inj he
 have H := K468
 exact MD H hS
 exact MD H hS
 rintro F w1 ⟨y4, he, rfl, hS⟩
 obtain rfl := Option.some.inj he
 have H := K461
 refine EJ.next ?_
 refine GO ?_
 obtain ⟨j471, H, K471⟩ := pbind H
 refine CJ.cut1 (fun F w1 => ∃ y13, some y13 = some j471 ∧ F = [(1, sl Aa1 a1 ca1), (2, pt b1), (4, pt b2), (5, pt b3)] ∧ St w no w1 [box b1 (cPasture.enc a0) 58, box b2 ((carr 10 (carr 10 (ci .i16))).enc (Arr.mk' (Arr.mk' 0 : Arr 10 Int) : Arr 10 (Arr 10 Int))) 191, box b3 ((carr 10 (carr 10 (ci .i16))).enc y13) 191] [roC cSpot Aa1 ca1 a1]) ?_ ?_
 refine CJ.block ?_
 refine LQ (fun k F w1 => ∃ (y14 : Arr 10 (Arr 10 Int)) (y15 : Int), F = [(1, sl Aa1 a1 ca1), (2, pt b1), (4, pt b2), (5, pt b3), (27, sl Aa1 a1 ca1), (28, i6 (a1.length : Int)), (29, i6 y15)] ∧ St w no w1 [box b1 (cPasture.enc a0) 58, box b2 ((carr 10 (carr 10 (ci .i16))).enc (Arr.mk' (Arr.mk' 0 : Arr 10 Int) : Arr 10 (Arr 10 Int))) 191, box b3 ((carr 10 (carr 10 (ci .i16))).enc y14) 191] [roC cSpot Aa1 ca1 a1] ∧ impl_Pasture_far.l3 a1 k y14 y15 = some j471) k H hS ?_
 rintro k F w1 ⟨y14, y15, rfl, hS, H⟩
 rw [impl_Pasture_far.l3] at H
 refine GO ?_
 refine CP H (fun H => GO ?_) (fun H => ?_)
 refine CJ.block ?_
 refine GO ?_
 obtain ⟨t16, ht16, H⟩ := pbind H
 obtain ⟨ad16, e16⟩ := (rA hS 0 Z).some' ht16
 refine OS (SI e16 (getI_some ht16).1) ?_
 refine OS (SE ((rA hS 0 Z).at_ e16 ht16)) ?_
 refine OF (EA hS (cSpot.enc (⟨0, 0⟩ : Spot))) ?_
 rintro _ w1 ⟨b17, rfl, hS⟩
 refine OJ.es Z Z (Es.store oI hS (i := 3) Z Z Z Z Z Z (vs := cSpot.enc t16) Z (cSpot.len _) (cSpot.one _) (Nat.le_of_ble_eq_true Z) (cSpot.enc t16) Z) ?_
 intro w1 hS
 refine GO ?_
 refine CJ.draw [] [0, 1, 2, 3, 4, 5, 6] mixed (by kernel_rfl) hS fun w1 hS => ?_
 refine GO ?_
 refine dS (SL (cf hS 3 1)) ?_
 refine DS (SL (cf hS 3 0)) ?_
 obtain ⟨t18, ht18, H⟩ := pbind H
 refine DJ.st Z Z Z Z Z (SR.idxA oU oI Z Z Z Z Z (Arr.lt ht18)) ?_
 obtain ⟨t19, ht19, H⟩ := pbind H
 refine DJ.st Z Z Z Z Z (SR.idxA oU oI Z Z Z Z Z (Arr.lt ht19)) ?_
 refine DJ.es rfl rfl rfl rfl (Es.put oI hS (i := 2) rfl rfl rfl rfl rfl (vs := (ci .i16).enc 0) rfl rfl (one1 rfl) (Put.idx (Put.idx (Put.all (ci .i16) t19 0) ht19) ht18) (by (try simp only [add_lit, Nat.add_assoc, Nat.zero_add, Nat.add_zero]) <;> rfl)) ?_
 intro w1 hS
 exact MD H hS
 exact MD H hS
 rintro F w1 ⟨y13, he, rfl, hS⟩
 obtain rfl := Option.some.inj he
 have H := K471
 refine EJ.next ?_
 refine GO ?_
 obtain ⟨t20, ht20, H⟩ := pbind H
 refine OC hb132 (slices_Clone_impl_Spot_impl_Spot.c Aa1 ca1 (rA hS 0 Z) (rB hS 0 Z) _ ht20) ?_
 rintro _ w1 ⟨A21, c22, rfl, hs⟩
 replace hS := hS.addN hs
 refine GO ?_
 obtain ⟨j472, H, K472⟩ := pbind H
 refine CJ.cut1 (fun F w1 => ∃ y23, some y23 = some j472 ∧ F = [(4, pt b2), (5, pt b3)] ∧ St w no w1 [box b2 ((carr 10 (carr 10 (ci .i16))).enc (Arr.mk' (Arr.mk' 0 : Arr 10 Int) : Arr 10 (Arr 10 Int))) 191, box b3 ((carr 10 (carr 10 (ci .i16))).enc y23) 191] [roC cSpot Aa1 ca1 a1]) ?_ ?_
 refine CJ.block ?_
 refine LQ (fun k F w1 => ∃ (y24 : Arr 10 (Arr 10 Int)) (y25 : List Spot) (y28 : Int) (A26 c27 : _), F = [(1, sl A26 y25 c27), (2, pt b1), (4, pt b2), (5, pt b3), (10, i6 y28)] ∧ St w no w1 [box b1 (cPasture.enc a0) 58, box b2 ((carr 10 (carr 10 (ci .i16))).enc (Arr.mk' (Arr.mk' 0 : Arr 10 Int) : Arr 10 (Arr 10 Int))) 191, box b3 ((carr 10 (carr 10 (ci .i16))).enc y24) 191, rowC cSpot A26 c27 63 y25] [roC cSpot Aa1 ca1 a1] ∧ impl_Pasture_far.l4 a0 k y24 y25 y28 = some j472) k H hS ?_
 rintro k F w1 ⟨y24, y25, y28, A26, c27, rfl, hS, H⟩
 rw [impl_Pasture_far.l4] at H
 refine GO ?_
 refine CP H (fun H => ?_) (fun H => ?_)
 refine CJ.skip (EJ.next ?_)
 obtain ⟨j492, H, K492⟩ := pbind H
 refine CJ.cut (fun F w1 => ∃ y29 y30 A31 c32, some j492 = some (y29, y30) ∧ F = [(1, sl A31 y30 c32), (2, pt b1), (4, pt b2), (5, pt b3), (10, i6 y28)] ∧ St w no w1 [box b1 (cPasture.enc a0) 58, box b2 ((carr 10 (carr 10 (ci .i16))).enc (Arr.mk' (Arr.mk' 0 : Arr 10 Int) : Arr 10 (Arr 10 Int))) 191, box b3 ((carr 10 (carr 10 (ci .i16))).enc y29) 191, rowC cSpot A31 c32 63 y30] [roC cSpot Aa1 ca1 a1]) ?_ ?_
 refine CJ.block ?_
 refine GO ?_
 obtain ⟨t33, ht33, H⟩ := pbind H
 obtain ⟨ad33, e33⟩ := (rC hS 3 Z).some' ht33
 refine OS (SI e33 (getI_some ht33).1) ?_
 refine OS (SE ((rC hS 3 Z).at_ e33 ht33)) ?_
 refine OF (EA hS (cSpot.enc (⟨0, 0⟩ : Spot))) ?_
 rintro _ w1 ⟨b34, rfl, hS⟩
 refine OJ.es Z Z (Es.store oI hS (i := 4) Z Z Z Z Z Z (vs := cSpot.enc t33) Z (cSpot.len _) (cSpot.one _) (Nat.le_of_ble_eq_true Z) (cSpot.enc t33) Z) ?_
 intro w1 hS
 refine GO ?_
 obtain ⟨j497, H, K497⟩ := pbind H
 refine CJ.cut1 (fun F w1 => ∃ y35 y36 A37 c38, some j497 = some (y35, y36) ∧ F = [(1, sl A37 y36 c38), (2, pt b1), (4, pt b2), (5, pt b3), (10, i6 y28)] ∧ St w no w1 [box b1 (cPasture.enc a0) 58, box b2 ((carr 10 (carr 10 (ci .i16))).enc (Arr.mk' (Arr.mk' 0 : Arr 10 Int) : Arr 10 (Arr 10 Int))) 191, box b3 ((carr 10 (carr 10 (ci .i16))).enc y35) 191, rowC cSpot A37 c38 63 y36] [roC cSpot Aa1 ca1 a1]) ?_ ?_
 refine CJ.block ?_
 refine LQ (fun k F w1 => ∃ (y39 : Arr 10 (Arr 10 Int)) (y40 : List Spot) (y43 : Int) (A41 c42 : _), F = [(1, sl A41 y40 c42), (2, pt b1), (4, pt b2), (5, pt b3), (10, i6 y28), (11, pt b34), (52, i6 y43)] ∧ St w no w1 [box b1 (cPasture.enc a0) 58, box b2 ((carr 10 (carr 10 (ci .i16))).enc (Arr.mk' (Arr.mk' 0 : Arr 10 Int) : Arr 10 (Arr 10 Int))) 191, box b3 ((carr 10 (carr 10 (ci .i16))).enc y39) 191, rowC cSpot A41 c42 63 y40, box b34 (cSpot.enc t33) 63] [roC cSpot Aa1 ca1 a1] ∧ impl_Pasture_far.l5 a0 t33 k y39 y40 y43 = some j497) k H hS ?_
 rintro k F w1 ⟨y39, y40, y43, A41, c42, rfl, hS, H⟩
 rw [impl_Pasture_far.l5] at H
 refine GO ?_
 refine CP H (fun H => GO ?_) (fun H => ?_)
 refine CJ.block ?_
 refine GO ?_
 refine oS (SE (ce hS 4)) ?_
 refine OB H hS hb193 (impl_Spot_ahead.c t33) fun t44 w1 H hS => ?_
 refine OF (EA hS (cSpot.enc (⟨0, 0⟩ : Spot))) ?_
 rintro _ w1 ⟨b45, rfl, hS⟩
 refine OJ.es Z Z (Es.store oI hS (i := 5) Z Z Z Z Z Z (vs := cSpot.enc t44) Z (cSpot.len _) (cSpot.one _) (Nat.le_of_ble_eq_true Z) (cSpot.enc t44) Z) ?_
 intro w1 hS
 refine NX ?_
 obtain ⟨j500, H, K500⟩ := pbind H
 refine CJ.cut (fun F w1 => ∃ y46, some y46 = some j500 ∧ F = [(1, sl A41 y40 c42), (2, pt b1), (4, pt b2), (5, pt b3), (10, i6 y28), (11, pt b34), (13, pt b45), (52, i6 y43), (71, .bool y46)] ∧ St w no w1 [box b1 (cPasture.enc a0) 58, box b2 ((carr 10 (carr 10 (ci .i16))).enc (Arr.mk' (Arr.mk' 0 : Arr 10 Int) : Arr 10 (Arr 10 Int))) 191, box b3 ((carr 10 (carr 10 (ci .i16))).enc y39) 191, rowC cSpot A41 c42 63 y40, box b34 (cSpot.enc t33) 63, box b45 (cSpot.enc t44) 63] [roC cSpot Aa1 ca1 a1]) ?_ ?_
 refine CJ.draw [] [0, 1, 2, 3, 4, 5, 6, 7, 8, 9, 10, 11, 12, 13] mixed (by kernel_rfl) hS fun w1 hS => ?_
 refine DS (SE (ce hS 0)) ?_
 refine dS (SE (ce hS 4)) ?_
 obtain ⟨t47, ht47, H⟩ := pbind H
 refine DJ.callF rfl rfl rfl rfl rfl rfl rfl hb194 rfl (impl_Pasture_canGo.c a0 t33 _ ht47) (by rintro v w' ⟨rfl, hs⟩; exact hs) ?_
 rintro _ w1 ⟨rfl, hs⟩
 replace hS := hS.grow hs
 refine GO ?_
 refine DJ.split (t := 62) Z (fun hb => ?_) (fun hb => ?_)
 replace H := pif_t hb H
 refine GO ?_
 refine dS (SL (cf hS 5 1)) ?_
 refine DS (SL (cf hS 5 0)) ?_
 obtain ⟨t48, ht48, H⟩ := pbind H
 refine DJ.st Z Z Z Z Z (SR.idxA oU oI Z Z Z Z Z (Arr.lt ht48)) ?_
 obtain ⟨t49, ht49, H⟩ := pbind H
 refine DJ.st Z Z Z Z Z (SR.idxA oU oI Z Z Z Z Z (Arr.lt ht49)) ?_
 refine DS (SL (CA.idx (CA.idx (ce hS 2) ht48) ht49)) ?_
 exact MD H hS
 replace H := pifb_f hb H
 exact MD H hS
 rintro F w1 ⟨y46, he, rfl, hS⟩
 obtain rfl := Option.some.inj he
 have H := K500
 refine CB H (fun H => GO ?_) (fun H => ?_)
 refine CJ.draw [] [0, 1, 2, 3, 4, 5, 6, 7, 8, 9, 10, 11, 12, 13, 14] mixed (by kernel_rfl) hS fun w1 hS => ?_
 refine GO ?_
 refine dS (SL (cf hS 5 1)) ?_
 refine dS (SL (cf hS 5 0)) ?_
 refine dS (SL (cf hS 4 1)) ?_
 refine DS (SL (cf hS 4 0)) ?_
 obtain ⟨t50, ht50, H⟩ := pbind H
 refine DJ.st Z Z Z Z Z (SR.idxA oU oI Z Z Z Z Z (Arr.lt ht50)) ?_
 obtain ⟨t51, ht51, H⟩ := pbind H
 refine DJ.st Z Z Z Z Z (SR.idxA oU oI Z Z Z Z Z (Arr.lt ht51)) ?_
 refine dS (SL (CA.idx (CA.idx (ce hS 2) ht50) ht51)) ?_
 obtain ⟨t52, ht52, H⟩ := pbind H
 refine DJ.st Z Z Z Z Z (SR.idxA oU oI Z Z Z Z Z (Arr.lt ht52)) ?_
 obtain ⟨t53, ht53, H⟩ := pbind H
 refine DJ.st Z Z Z Z Z (SR.idxA oU oI Z Z Z Z Z (Arr.lt ht53)) ?_
 refine DJ.es rfl rfl rfl rfl (Es.put oI hS (i := 2) rfl rfl rfl rfl rfl (vs := (ci .i16).enc (IntKind.i16.wrap (t51 + 1))) rfl rfl (one1 rfl) (Put.idx (Put.idx (Put.all (ci .i16) t53 (IntKind.i16.wrap (t51 + 1))) ht53) ht52) (by (try simp only [add_lit, Nat.add_assoc, Nat.zero_add, Nat.add_zero]) <;> rfl)) ?_
 intro w1 hS
 refine GO ?_
 refine OS (SE (ce hS 5)) ?_
 refine OF (EL hS cSpot ([t44] : List Spot)) ?_
 rintro _ w1 ⟨A54, rfl, hS⟩
 obtain ⟨u55, hu55, H⟩ := pbind H
 refine OW (AP hS 3 (rC hS 6 Z) (chk_some hu55)) ?_
 rintro _ w1 ⟨A56, c57, rfl, hS⟩
 exact MD H hS
 exact MD H hS
 exact MD H hS
 rintro F w1 ⟨y35, y36, A37, c38, ⟨⟩, rfl, hS⟩
 have H := K497
 refine EJ.blk (?_)
 exact MD H hS
 rintro F w1 ⟨y29, y30, A31, c32, ⟨⟩, rfl, hS⟩
 have H := K492
 exact MD H hS
 exact MD H hS
 rintro F w1 ⟨y23, he, rfl, hS⟩
 obtain rfl := Option.some.inj he
 have H := K472
 refine EJ.next ?_
 refine GO ?_
 refine OS (SE (ce hS 1)) ?_
 refine OJ.es rfl rfl (Es.put oI hS (i := 0) rfl rfl rfl rfl rfl (vs := (carr 10 (carr 10 (ci .i16))).enc y23) rfl ((carr 10 (carr 10 (ci .i16))).len _) ((carr 10 (carr 10 (ci .i16))).one _) (Put.all (carr 10 (carr 10 (ci .i16))) (Arr.mk' (Arr.mk' 0 : Arr 10 Int) : Arr 10 (Arr 10 Int)) y23) (by (try simp only [add_lit, Nat.add_assoc, Nat.zero_add, Nat.add_zero]) <;> rfl)) ?_
 intro w1 hS
 refine GO ?_
 obtain rfl := Option.some.inj H
 exact EJ.fin Z (.cell Z (ldE oU oI Z Z Z (hS.cells (i := 0) Z) Z) .nil) ⟨Z, hS.ext⟩

def impl_steps_at.f (a0 : Arr 10 (Arr 10 Int)) (a1 : Spot) : Option Int := (getI a0.l a1.Y).bind fun t2 => (getI t2.l a1.X).bind fun t3 => some (IntKind.i64.wrap t3)
theorem impl_steps_at.c {w} (pa0 : Addr) (a0 : Arr 10 (Arr 10 Int)) (hp0 : CA w pa0 ((carr 10 (carr 10 (ci .i16))).enc a0)) (a1 : Spot) (r : Int) (H : impl_steps_at.f a0 a1 = some r) :
 CV Tryz.prog 161 [.pointer (some pa0), .agg (cSpot.enc a1).toArray].toArray w fun v w' => v = .int .i64 r ∧ Ext w w' := by
 have hS := ((St.init w no).paramP pa0 ((carr 10 (carr 10 (ci .i16))).enc a0) hp0)
 unfold impl_steps_at.f at H
 refine CV.body Tryz.func161 Z Tryz.ntmps161 Z ?_
 refine GO ?_
 refine oX hS (cSpot.enc a1) fun b1 w1 hS => ?_
 refine CJ.draw [] [0, 1, 2, 3, 4, 5, 6, 7, 8, 9, 10] mixed (by kernel_rfl) hS fun w1 hS => ?_
 refine GO ?_
 refine dS (SL (cf hS 0 1)) ?_
 refine dS (SL (cf hS 0 0)) ?_
 obtain ⟨t2, ht2, H⟩ := pbind H
 refine DJ.st Z Z Z Z Z (SR.idxA oU oI Z Z Z Z Z (Arr.lt ht2)) ?_
 obtain ⟨t3, ht3, H⟩ := pbind H
 refine DJ.st Z Z Z Z Z (SR.idxA oU oI Z Z Z Z Z (Arr.lt ht3)) ?_
 refine DS (SL (CA.idx (CA.idx (hS.ca (i := 0) Z) ht2) ht3)) ?_
 exact FE H hS

def impl_Pasture_yard_1.f (a1 : Arr 10 (Arr 10 Int)) (a0 : Spot) : Option Bool := (impl_steps_at.f a1 a0).bind fun t2 => some (decide (0 ≤ t2))
theorem impl_Pasture_yard_1.c {w} (pa1 : Addr) (a1 : Arr 10 (Arr 10 Int)) (hp1 : CA w pa1 ((carr 10 (carr 10 (ci .i16))).enc a1)) (a0 : Spot) (r : Bool) (H : impl_Pasture_yard_1.f a1 a0 = some r) :
 CV Tryz.prog 160 [.agg (cSpot.enc a0).toArray, .pointer (some pa1)].toArray w fun v w' => v = .bool r ∧ Ext w w' := by
 have hS := ((St.init w no).paramP pa1 ((carr 10 (carr 10 (ci .i16))).enc a1) hp1)
 unfold impl_Pasture_yard_1.f at H
 refine CV.body Tryz.func160 Z Tryz.ntmps160 Z ?_
 refine GO ?_
 refine oX hS (cSpot.enc a0) fun b1 w1 hS => ?_
 refine OS (SE (ce hS 0)) ?_
 refine OB H hS hb161 (impl_steps_at.c _ a1 (hS.ca (i := 0) Z) a0) fun t2 w1 H hS => ?_
 exact FE H hS

def impl_Pasture_yard.f (k : Nat) (a0 : Pasture) (a1 : Spot) : Option (List Spot) := (impl_Pasture_far.f k a0 ([a1] : List Spot)).bind fun t4 => (impl_Pasture_cells.f k a0 (impl_Pasture_yard_1.f t4)).bind fun t6 => some t6
theorem impl_Pasture_yard.c {k w} (a0 : Pasture) (a1 : Spot) (r : List Spot) (H : impl_Pasture_yard.f k a0 a1 = some r) :
 CV Tryz.prog 130 [.agg (cPasture.enc a0).toArray, .agg (cSpot.enc a1).toArray].toArray w fun v w' => ∃ (A0 : Option Addr) (c0 : Nat), v = .slice A0 r.length c0 ∧ St w no w' [rowC cSpot A0 c0 63 r] [] := by
 have hS := (St.init w no)
 unfold impl_Pasture_yard.f at H
 refine CV.body Tryz.func130 Z Tryz.ntmps130 Z ?_
 refine GO ?_
 refine OF (EB hS (cPasture.enc a0)) ?_
 rintro _ w1 ⟨b1, rfl, hS⟩
 refine oX hS (cSpot.enc a1) fun b2 w1 hS => ?_
 refine OS (SE (ce hS 0)) ?_
 refine OS (SE (ce hS 1)) ?_
 refine OF (EL hS cSpot ([a1] : List Spot)) ?_
 rintro _ w1 ⟨A3, rfl, hS⟩
 refine OB H hS hb159 (impl_Pasture_far.c a0 (rC hS 2 Z) (rD hS 2 Z)) fun t4 w1 H hS => ?_
 refine OJ.ef rfl rfl rfl (Ef.alloc hS oI rfl rfl ((carr 10 (carr 10 (ci .i16))).enc (Arr.mk' (Arr.mk' 0 : Arr 10 Int) : Arr 10 (Arr 10 Int))) (by kernel_rfl)) ?_
 rintro _ w1 ⟨b5, rfl, hS⟩
 refine OJ.es rfl rfl (Es.put oI hS (i := 3) rfl rfl rfl rfl rfl (vs := (carr 10 (carr 10 (ci .i16))).enc t4) rfl ((carr 10 (carr 10 (ci .i16))).len _) ((carr 10 (carr 10 (ci .i16))).one _) (Put.all (carr 10 (carr 10 (ci .i16))) (Arr.mk' (Arr.mk' 0 : Arr 10 Int) : Arr 10 (Arr 10 Int)) t4) (by (try simp only [add_lit, Nat.add_assoc, Nat.zero_add, Nat.add_zero]) <;> rfl)) ?_
 intro w1 hS
 refine GO ?_
 refine oS (SE (ce hS 0)) ?_
 obtain ⟨t6, ht6, H⟩ := pbind H
 refine OC hb72 (impl_Pasture_cells.c a0 160 #[] #[.pointer (some ⟨b5, 0, none⟩)] hb160 (impl_Pasture_yard_1.f t4) (fun z0 r h w' hx => CV.cast (impl_Pasture_yard_1.c ⟨b5, 0, none⟩ t4 (CA.ext (hS.cells (i := 3) rfl) hx) z0 r h) (by simp)) _ ht6) ?_
 rintro _ w1 ⟨A7, c8, rfl, hs⟩
 replace hS := hS.addN hs
 refine GO ?_
 obtain rfl := Option.some.inj H
 exact FT ⟨A7, c8, Z, hS.pick [4] [] Z⟩

def impl_Pasture_yards.l2 (t24 : List Spot) : Nat → (List Spot) → Int → Option (List Spot)
  | 0, _, _ => none
  | k + 1, y28, y29 => if y29 < (t24.length : Int) then ((getI t24 y29).bind fun t30 => impl_Pasture_yards.l2 t24 k (addS y28 t30) (IntKind.i64.wrap (y29 + 1))) else (some y28)
def impl_Pasture_yards.l1 (a0 : Pasture) (t4 : List Spot) : Nat → (List (List Spot)) → (List Spot) → Int → Option (List (List Spot))
  | 0, _, _, _ => none
  | k + 1, y11, y15, y16 => if y16 < (t4.length : Int) then (((getI t4 y16).bind fun t22 => if t22 ∈ y15 then (some (y11, y15)) else ((impl_Pasture_yard.f k a0 t22).bind fun t24 => (impl_Pasture_yards.l2 t24 k y15 0).bind fun y27 => (chk (y11.length + [t24].length ≤ 4294967296)).bind fun u33 => some (y11 ++ [t24], y27))).bind fun (y17, y21) => impl_Pasture_yards.l1 a0 t4 k y17 y21 (IntKind.i64.wrap (y16 + 1))) else (some y11)
def impl_Pasture_yards.f (k : Nat) (a0 : Pasture) : Option (List (List Spot)) := (impl_Pasture_all.f k a0).bind fun t4 => (impl_Pasture_yards.l1 a0 t4 k ([] : List (List Spot)) ([] : List Spot) 0).bind fun y7 => some y7
theorem impl_Pasture_yards.c {k w} (a0 : Pasture) (r : List (List Spot)) (H : impl_Pasture_yards.f k a0 = some r) :
 CV Tryz.prog 80 [.agg (cPasture.enc a0).toArray].toArray w fun v w' => ∃ (A0 : Option Addr) (c0 : Nat) (D0 : List SH), v = .slice A0 r.length c0 ∧ St w no w' [rowsC cSpot A0 c0 66 63 D0 r] [] := by
 have hS := (St.init w no)
 unfold impl_Pasture_yards.f at H
 refine CV.body Tryz.func80 Z Tryz.ntmps80 Z ?_
 refine GO ?_
 refine oX hS (cPasture.enc a0) fun b1 w1 hS => ?_
 refine OJ.ef Z Z Z (Ef.litS0 (e := 63) oU oI hS Z Z Z Z cSpot) ?_
 rintro _ w1 ⟨A2, rfl, hS⟩
 refine OJ.ef Z Z Z (Ef.makeMap hS Z cSpot) ?_
 rintro _ w1 ⟨b3, rfl, hS⟩
 refine GO ?_
 refine OS (SE (ce hS 0)) ?_
 obtain ⟨t4, ht4, H⟩ := pbind H
 refine OC hb71 (impl_Pasture_all.c a0 _ ht4) ?_
 rintro _ w1 ⟨A5, c6, rfl, hs⟩
 replace hS := hS.addN hs
 refine GO ?_
 obtain ⟨j459, H, K459⟩ := pbind H
 refine CJ.cut1 (fun F w1 => ∃ y7 A8 c9 D10, some y7 = some j459 ∧ F = [(3, sl A8 y7 c9)] ∧ St w no w1 [rowsC cSpot A8 c9 66 63 D10 y7] []) ?_ ?_
 refine CJ.block ?_
 refine LQ (fun k F w1 => ∃ (y11 : List (List Spot)) (y15 : List Spot) (y16 : Int) (A12 c13 D14 : _), F = [(1, pt b1), (3, sl A12 y11 c13), (4, .map (some b3)), (13, sl A5 t4 c6), (14, i6 (t4.length : Int)), (15, i6 y16)] ∧ St w no w1 [box b1 (cPasture.enc a0) 58, rowsC cSpot A12 c13 66 63 D14 y11, mapC cSpot b3 y15, rowC cSpot A5 c6 63 t4] [] ∧ impl_Pasture_yards.l1 a0 t4 k y11 y15 y16 = some j459) k H hS ?_
 rintro k F w1 ⟨y11, y15, y16, A12, c13, D14, rfl, hS, H⟩
 rw [impl_Pasture_yards.l1] at H
 refine GO ?_
 refine CP H (fun H => ?_) (fun H => ?_)
 refine CJ.skip (EJ.next ?_)
 obtain ⟨j506, H, K506⟩ := pbind H
 refine CJ.cut (fun F w1 => ∃ y17 y21 A18 c19 D20, some j506 = some (y17, y21) ∧ F = [(1, pt b1), (3, sl A18 y17 c19), (4, .map (some b3)), (13, sl A5 t4 c6), (14, i6 (t4.length : Int)), (15, i6 y16)] ∧ St w no w1 [box b1 (cPasture.enc a0) 58, rowsC cSpot A18 c19 66 63 D20 y17, mapC cSpot b3 y21, rowC cSpot A5 c6 63 t4] []) ?_ ?_
 refine CJ.block ?_
 refine GO ?_
 obtain ⟨t22, ht22, H⟩ := pbind H
 obtain ⟨ad22, e22⟩ := (rC hS 3 Z).some' ht22
 refine OS (SI e22 (getI_some ht22).1) ?_
 refine OS (SE ((rC hS 3 Z).at_ e22 ht22)) ?_
 refine OF (EA hS (cSpot.enc (⟨0, 0⟩ : Spot))) ?_
 rintro _ w1 ⟨b23, rfl, hS⟩
 refine OJ.es Z Z (Es.store oI hS (i := 4) Z Z Z Z Z Z (vs := cSpot.enc t22) Z (cSpot.len _) (cSpot.one _) (Nat.le_of_ble_eq_true Z) (cSpot.enc t22) Z) ?_
 intro w1 hS
 refine GO ?_
 refine OS (SE (ce hS 4)) ?_
 refine OJ.st rfl rfl rfl (SR.lookup key63 (E := 4) (by kernel_rfl) (by kernel_rfl) (zero_of (E := 4) oI rfl rfl) hS (i := 2) rfl rfl rfl rfl) ?_
 refine GO ?_
 refine CP H (fun H => ?_) (fun H => ?_)
 exact MD H hS
 refine GO ?_
 refine OS (SE (ce hS 0)) ?_
 refine OS (SE (ce hS 4)) ?_
 obtain ⟨t24, ht24, H⟩ := pbind H
 refine OC hb130 (impl_Pasture_yard.c a0 t22 _ ht24) ?_
 rintro _ w1 ⟨A25, c26, rfl, hs⟩
 replace hS := hS.addN hs
 have hS : St _ _ _ [_, _, _, _, _, _] _ := hS
 refine GO ?_
 obtain ⟨j508, H, K508⟩ := pbind H
 refine CJ.cut1 (fun F w1 => ∃ y27, some y27 = some j508 ∧ F = [(1, pt b1), (3, sl A12 y11 c13), (4, .map (some b3)), (7, sl A25 t24 c26), (13, sl A5 t4 c6), (14, i6 (t4.length : Int)), (15, i6 y16)] ∧ St w no w1 [box b1 (cPasture.enc a0) 58, rowsC cSpot A12 c13 66 63 D14 y11, mapC cSpot b3 y27, rowC cSpot A5 c6 63 t4, rowC cSpot A25 c26 63 t24] []) ?_ ?_
 refine CJ.block ?_
 refine LQ (fun k F w1 => ∃ (y28 : List Spot) (y29 : Int), F = [(1, pt b1), (3, sl A12 y11 c13), (4, .map (some b3)), (7, sl A25 t24 c26), (13, sl A5 t4 c6), (14, i6 (t4.length : Int)), (15, i6 y16), (25, sl A25 t24 c26), (26, i6 (t24.length : Int)), (27, i6 y29)] ∧ St w no w1 [box b1 (cPasture.enc a0) 58, rowsC cSpot A12 c13 66 63 D14 y11, mapC cSpot b3 y28, rowC cSpot A5 c6 63 t4, rowC cSpot A25 c26 63 t24] [] ∧ impl_Pasture_yards.l2 t24 k y28 y29 = some j508) k H hS ?_
 rintro k F w1 ⟨y28, y29, rfl, hS, H⟩
 rw [impl_Pasture_yards.l2] at H
 refine GO ?_
 refine CP H (fun H => GO ?_) (fun H => ?_)
 refine CJ.block ?_
 refine GO ?_
 obtain ⟨t30, ht30, H⟩ := pbind H
 obtain ⟨ad30, e30⟩ := (rC hS 4 Z).some' ht30
 refine OS (SI e30 (getI_some ht30).1) ?_
 refine OS (SE ((rC hS 4 Z).at_ e30 ht30)) ?_
 refine OF (EA hS (cSpot.enc (⟨0, 0⟩ : Spot))) ?_
 rintro _ w1 ⟨b31, rfl, hS⟩
 refine OJ.es Z Z (Es.store oI hS (i := 5) Z Z Z Z Z Z (vs := cSpot.enc t30) Z (cSpot.len _) (cSpot.one _) (Nat.le_of_ble_eq_true Z) (cSpot.enc t30) Z) ?_
 intro w1 hS
 refine GO ?_
 refine OS (SE (ce hS 5)) ?_
 refine OJ.es rfl rfl (Es.mapUpdate key63 (E := 4) (by kernel_rfl) hS (i := 2) rfl rfl rfl rfl rfl) ?_
 intro w1 hS
 exact MD H hS
 exact MD H hS
 rintro F w1 ⟨y27, he, rfl, hS⟩
 obtain rfl := Option.some.inj he
 have H := K508
 refine EJ.next ?_
 refine GO ?_
 refine OJ.ef Z Z Z (Ef.litS1 (C := cSpot) oU oI hS (k := 4) Z Z Z Z Z Z) ?_
 rintro _ w1 ⟨A32, rfl, hS⟩
 obtain ⟨u33, hu33, H⟩ := pbind H
 have hdl := (hS.rowsRo (i := 1) rfl).1
 have dd36 := subD (D := D14) hdl (show ([(A25, c26)] : List SH)[0]? = _ from rfl)
 have xd36 := subD (D := y11) rfl (show ([t24] : List (List Spot))[0]? = _ from rfl)
 refine OJ.ew Z Z Z (Ew.appendS oU oI hS (i := 1) (j := 5) Z Z Z Z Z Z Z Z Z Z Z Z Z Z (chk_some hu33)) ?_
 rintro _ w1 ⟨A34, c35, rfl, hS⟩
 exact MD H hS
 rintro F w1 ⟨y17, y21, A18, c19, D20, ⟨⟩, rfl, hS⟩
 have H := K506
 exact MD H hS
 exact MD H hS
 rintro F w1 ⟨y7, A8, c9, D10, ⟨⟩, rfl, hS⟩
 have H := K459
 refine EJ.next ?_
 refine GO ?_
 obtain rfl := Option.some.inj H
 exact FT ⟨A8, c9, D10, Z, hS.pick [0] [] Z⟩

def slices_DeleteFunc_impl_Spot_impl_Spot.l1 (a1 : Spot → Option Bool) : Nat → (List Spot) → Int → Int → Option ((List Spot) × Int)
  | 0, _, _, _ => none
  | k + 1, y4, y5, y6 => if y6 < (y4.length : Int) then ((getI y4 y6).bind fun t7 => (a1 t7).bind fun t9 => if (!t9) = true then ((getI y4 y5).bind fun t10 => slices_DeleteFunc_impl_Spot_impl_Spot.l1 a1 k (y4.set y5.toNat t7) (IntKind.i64.wrap (y5 + 1)) (IntKind.i64.wrap (y6 + 1))) else (slices_DeleteFunc_impl_Spot_impl_Spot.l1 a1 k y4 y5 (IntKind.i64.wrap (y6 + 1)))) else (some (y4, y5))
def slices_DeleteFunc_impl_Spot_impl_Spot.f (k : Nat) (a0 : List Spot) (a1 : Spot → Option Bool) : Option (List Spot) := (slices_IndexFunc_impl_Spot_impl_Spot.f k a0 a1).bind fun t1 => if t1 = (-1) then (some a0) else ((slices_DeleteFunc_impl_Spot_impl_Spot.l1 a1 k a0 t1 (IntKind.i64.wrap (t1 + 1))).bind fun (y2, y3) => (chk ((0 : Int) ≤ y3 ∧ y3 ≤ (y2.length : Int) ∧ (y2.length : Int) ≤ (y2.length : Int))).bind fun u11 => (chk ((0 : Int) ≤ 0 ∧ 0 ≤ y3 ∧ y3 ≤ ((y2.take y3.toNat ++ List.replicate (y2.length - y3.toNat) (⟨0, 0⟩ : Spot)).length : Int))).bind fun u12 => some ((y2.take y3.toNat ++ List.replicate (y2.length - y3.toNat) (⟨0, 0⟩ : Spot)).take y3.toNat))
theorem slices_DeleteFunc_impl_Spot_impl_Spot.c {k w Aa0 ca0} {a0 : List Spot} (na1 : Nat) (fsa1 : Array Value) (capa1 : Array Value) (hb1 : hasBody Tryz.prog na1) (a1 : Spot → Option Bool) (hf1 : ∀ (z0 : Spot) (r : Bool), a1 z0 = some r → ∀ w', Chg (fpU [rowC cSpot Aa0 ca0 63 a0]) w w' → CV Tryz.prog na1 (fsa1 ++ [.agg (cSpot.enc z0).toArray].toArray ++ capa1) w' fun v w'' => v = .bool r ∧ Ext w' w'') (hin : St w (fpU [rowC cSpot Aa0 ca0 63 a0]) w [rowC cSpot Aa0 ca0 63 a0] []) (r : List Spot) (H : slices_DeleteFunc_impl_Spot_impl_Spot.f k a0 a1 = some r) :
 CV Tryz.prog 131 [sl Aa0 a0 ca0, .func (.func na1) fsa1 capa1].toArray w fun v w' => ∃ (A0 : Option Addr) (c0 : Nat), v = .slice A0 r.length c0 ∧ St w (fpU [rowC cSpot Aa0 ca0 63 a0]) w' [rowC cSpot A0 c0 63 r] [] := by
 have hS := hin
 unfold slices_DeleteFunc_impl_Spot_impl_Spot.f at H
 refine CV.body Tryz.func131 Z Tryz.ntmps131 Z ?_
 refine GO ?_
 refine oB H hS hb158 (slices_IndexFunc_impl_Spot_impl_Spot.c (rC hS 0 Z) (rD hS 0 Z) na1 fsa1 capa1 hb1 a1 (fun z0 r h w' hx => hf1 z0 r h w' (hS.chg.then hx (fun _ _ e => e.elim)))) fun t1 w1 H hS => ?_
 refine CP H (fun H => GO ?_) (fun H => ?_)
 obtain rfl := Option.some.inj H
 exact FT ⟨Aa0, ca0, Z, hS.pick [0] [] Z⟩
 refine GO ?_
 obtain ⟨j510, H, K510⟩ := pbind H
 refine CJ.cut1 (fun F w1 => ∃ y2 y3, some j510 = some (y2, y3) ∧ F = [(0, sl Aa0 y2 ca0), (5, i6 y3)] ∧ St w (fpU [rowC cSpot Aa0 ca0 63 a0]) w1 [rowC cSpot Aa0 ca0 63 y2] []) ?_ ?_
 refine CJ.block ?_
 refine LQ (fun k F w1 => ∃ (y4 : List Spot) (y5 : Int) (y6 : Int), F = [(0, sl Aa0 y4 ca0), (1, .func (.func na1) fsa1 capa1), (5, i6 y5), (6, i6 y6)] ∧ St w (fpU [rowC cSpot Aa0 ca0 63 a0]) w1 [rowC cSpot Aa0 ca0 63 y4] [] ∧ slices_DeleteFunc_impl_Spot_impl_Spot.l1 a1 k y4 y5 y6 = some j510) k H hS ?_
 rintro k F w1 ⟨y4, y5, y6, rfl, hS, H⟩
 rw [slices_DeleteFunc_impl_Spot_impl_Spot.l1] at H
 refine GO ?_
 refine CP H (fun H => GO ?_) (fun H => ?_)
 refine CJ.block ?_
 refine GO ?_
 obtain ⟨t7, ht7, H⟩ := pbind H
 obtain ⟨ad7, e7⟩ := (rC hS 0 Z).some' ht7
 refine OS (SI e7 (getI_some ht7).1) ?_
 refine OS (SE ((rC hS 0 Z).at_ e7 ht7)) ?_
 refine OF (EA hS (cSpot.enc (⟨0, 0⟩ : Spot))) ?_
 rintro _ w1 ⟨b8, rfl, hS⟩
 refine OJ.es Z Z (Es.store oI hS (i := 1) Z Z Z Z Z Z (vs := cSpot.enc t7) Z (cSpot.len _) (cSpot.one _) (Nat.le_of_ble_eq_true Z) (cSpot.enc t7) Z) ?_
 intro w1 hS
 refine GO ?_
 refine OS (SE (ce hS 1)) ?_
 obtain ⟨t9, ht9, H⟩ := pbind H
 refine OJ.call Z Z (Nat.le_of_ble_eq_true Z) Z Z Z hb1 Z (hf1 t7 _ ht9 _ hS.chg) ?_
 rintro _ w1 ⟨rfl, hs⟩
 replace hS := hS.grow hs
 refine GO ?_
 refine CB H (fun H => GO ?_) (fun H => ?_)
 refine OS (SE (ce hS 1)) ?_
 obtain ⟨t10, ht10, H⟩ := pbind H
 obtain ⟨ad10, e10⟩ := (rC hS 0 Z).some' ht10
 refine OS (SI e10 (getI_some ht10).1) ?_
 refine OJ.es Z Z (Es.storeR oI hS (i := 0) (off := 0) Z Z ht10 e10 Z Z Z Z (vs := cSpot.enc t7) Z (cSpot.len _) (cSpot.one _) (Nat.le_of_ble_eq_true Z) t7 Z) ?_
 intro w1 hS
 refine OJ.as (t := 0) rfl (show _ = (.slice Aa0 (y4.set y5.toNat t7).length ca0 : Value) by simp only [List.length_set]) ?_
 refine OJ.as (t := 17) rfl (show _ = (.slice Aa0 (y4.set y5.toNat t7).length ca0 : Value) by simp only [List.length_set]) ?_
 refine OJ.as (t := 22) rfl (show _ = (.slice Aa0 (y4.set y5.toNat t7).length ca0 : Value) by simp only [List.length_set]) ?_
 refine OJ.as (t := 30) rfl (show _ = (.slice Aa0 (y4.set y5.toNat t7).length ca0 : Value) by simp only [List.length_set]) ?_
 exact MD H hS
 exact MD H hS
 exact MD H hS
 rintro F w1 ⟨y2, y3, ⟨⟩, rfl, hS⟩
 have H := K510
 refine EJ.next ?_
 refine GO ?_
 obtain ⟨u11, hu11, H⟩ := pbind H
 refine OJ.st rfl rfl rfl (SR.cutS oU oI (y3.toNat) (y2.length) rfl rfl rfl rfl rfl rfl (.inr ⟨_, _, rfl, (chk_some hu11).1, rfl⟩) (.inl ⟨rfl, rfl⟩) (by have := (chk_some hu11); omega) (by have := (chk_some hu11); have := (hS.le (i := 0) rfl : y2.length ≤ ca0); omega)) ?_
 refine OJ.ewn rfl rfl (Ew.clear oU oI (C := cSpot) (lo := y3.toNat) hS (i := 0) rfl rfl rfl rfl rfl rfl rfl rfl rfl (⟨0, 0⟩ : Spot) rfl (by have := (chk_some hu11); omega) rfl) ?_
 rintro _ w1 ⟨rfl, hS⟩
 refine OJ.as (t := 0) rfl (show _ = (.slice Aa0 (y2.take y3.toNat ++ List.replicate (y2.length - y3.toNat) (⟨0, 0⟩ : Spot)).length ca0 : Value) by (rw [List.length_append, List.length_take, List.length_replicate, Nat.min_eq_left (by have := (chk_some hu11); omega), Nat.add_sub_cancel' (by have := (chk_some hu11); omega)])) ?_
 refine OJ.as (t := 36) rfl (show _ = (.slice Aa0 (y2.take y3.toNat ++ List.replicate (y2.length - y3.toNat) (⟨0, 0⟩ : Spot)).length ca0 : Value) by (rw [List.length_append, List.length_take, List.length_replicate, Nat.min_eq_left (by have := (chk_some hu11); omega), Nat.add_sub_cancel' (by have := (chk_some hu11); omega)])) ?_
 refine GO ?_
 obtain ⟨u12, hu12, H⟩ := pbind H
 refine OJ.st rfl rfl rfl (SR.cut0 oU oI rfl rfl rfl rfl rfl (by have := (chk_some hu12); omega) (by have := (chk_some hu12); have := (hS.le (i := 0) rfl : (y2.take y3.toNat ++ List.replicate (y2.length - y3.toNat) (⟨0, 0⟩ : Spot)).length ≤ ca0); omega)) ?_
 replace hS := hS.shrink (i := 0) (m := y3.toNat) rfl (by have := (chk_some hu12); omega)
 refine OJ.as (t := 41) rfl (show _ = (.slice Aa0 ((y2.take y3.toNat ++ List.replicate (y2.length - y3.toNat) (⟨0, 0⟩ : Spot)).take y3.toNat).length ca0 : Value) by rw [List.length_take, Nat.min_eq_left (by have := (chk_some hu12); omega)]) ?_
 refine GO ?_
 obtain rfl := Option.some.inj H
 exact FT ⟨Aa0, ca0, Z, hS.pick [0] [] Z⟩

def slices_Index_impl_Spot_impl_Spot.l1 (a0 : List Spot) (a1 : Spot) : Nat → Int → Option (Int ⊕ Unit)
  | 0, _ => none
  | k + 1, y2 => if y2 < (a0.length : Int) then ((getI a0 y2).bind fun t3 => if a1 = t3 then (some (Sum.inl y2)) else (slices_Index_impl_Spot_impl_Spot.l1 a0 a1 k (IntKind.i64.wrap (y2 + 1)))) else (some (Sum.inr ()))
def slices_Index_impl_Spot_impl_Spot.f (k : Nat) (a0 : List Spot) (a1 : Spot) : Option Int := (slices_Index_impl_Spot_impl_Spot.l1 a0 a1 k 0).bind fun s511 => match s511 with | .inl r => some r | .inr _ => some (-1)
theorem slices_Index_impl_Spot_impl_Spot.c {k w Aa0 ca0} {a0 : List Spot} (hr0 : Rd cSpot w Aa0 a0) (hc0 : a0.length ≤ ca0) (a1 : Spot) (r : Int) (H : slices_Index_impl_Spot_impl_Spot.f k a0 a1 = some r) :
 CV Tryz.prog 162 [sl Aa0 a0 ca0, .agg (cSpot.enc a1).toArray].toArray w fun v w' => v = .int .i64 r ∧ Ext w w' := by
 have hS := ((St.init w no).param cSpot Aa0 ca0 a0 hr0 hc0)
 unfold slices_Index_impl_Spot_impl_Spot.f at H
 refine CV.body Tryz.func162 Z Tryz.ntmps162 Z ?_
 refine GO ?_
 refine oX hS (cSpot.enc a1) fun b1 w1 hS => ?_
 obtain ⟨j511, H, K511⟩ := pbind H
 refine CJ.cut1 (fun F w1 => some j511 = some (Sum.inr ()) ∧ F = [] ∧ St w no w1 [] [roC cSpot Aa0 ca0 a0]) ?_ ?_
 refine CJ.block ?_
 refine LQ (fun k F w1 => ∃ (y2 : Int), F = [(0, sl Aa0 a0 ca0), (3, pt b1), (7, i6 (a0.length : Int)), (8, i6 y2)] ∧ St w no w1 [box b1 (cSpot.enc a1) 63] [roC cSpot Aa0 ca0 a0] ∧ slices_Index_impl_Spot_impl_Spot.l1 a0 a1 k y2 = some j511) k H hS ?_
 rintro k F w1 ⟨y2, rfl, hS, H⟩
 rw [slices_Index_impl_Spot_impl_Spot.l1] at H
 refine GO ?_
 refine CP H (fun H => GO ?_) (fun H => ?_)
 refine CJ.block ?_
 refine GO ?_
 refine CJ.draw [] [0, 1, 2, 3, 4, 5] mixed (by kernel_rfl) hS fun w1 hS => ?_
 refine dS (SE (ce hS 0)) ?_
 obtain ⟨t3, ht3, H⟩ := pbind H
 obtain ⟨ad3, e3⟩ := (rA hS 0 Z).some' ht3
 refine DS (SI e3 (getI_some ht3).1) ?_
 refine DS (SE ((rA hS 0 Z).at_ e3 ht3)) ?_
 refine DJ.st Z Z Z Z Z (SR.eqS eqT63 eqG63 Z Z Z (Z : _ = (cSpot.enc a1).toArray) (Z : _ = (cSpot.enc t3).toArray)) ?_
 refine GO ?_
 refine CP H (fun H => GO ?_) (fun H => ?_)
 obtain rfl := Option.some.inj H; have H := K511
 exact FE H hS
 exact MD H hS
 exact MD H hS
 rintro F w1 ⟨⟨⟩, rfl, hS⟩
 have H := K511
 refine EJ.next ?_
 exact FE H hS

def slices_Contains_impl_Spot_impl_Spot.f (k : Nat) (a0 : List Spot) (a1 : Spot) : Option Bool := (slices_Index_impl_Spot_impl_Spot.f k a0 a1).bind fun t2 => some (decide (0 ≤ t2))
theorem slices_Contains_impl_Spot_impl_Spot.c {k w Aa0 ca0} {a0 : List Spot} (hr0 : Rd cSpot w Aa0 a0) (hc0 : a0.length ≤ ca0) (a1 : Spot) (r : Bool) (H : slices_Contains_impl_Spot_impl_Spot.f k a0 a1 = some r) :
 CV Tryz.prog 134 [sl Aa0 a0 ca0, .agg (cSpot.enc a1).toArray].toArray w fun v w' => v = .bool r ∧ Ext w w' := by
 have hS := ((St.init w no).param cSpot Aa0 ca0 a0 hr0 hc0)
 unfold slices_Contains_impl_Spot_impl_Spot.f at H
 refine CV.body Tryz.func134 Z Tryz.ntmps134 Z ?_
 refine GO ?_
 refine oX hS (cSpot.enc a1) fun b1 w1 hS => ?_
 refine OS (SE (ce hS 0)) ?_
 refine OB H hS hb162 (slices_Index_impl_Spot_impl_Spot.c (rA hS 0 Z) (rB hS 0 Z) a1) fun t2 w1 H hS => ?_
 exact FE H hS

def impl_common_1.f (k : Nat) (a1 : List Spot) (a0 : Spot) : Option Bool := (slices_Contains_impl_Spot_impl_Spot.f k a1 a0).bind fun t2 => some (!t2)
theorem impl_common_1.c {k w Aa1 ca1} {a1 : List Spot} (hr1 : Rd cSpot w Aa1 a1) (hc1 : a1.length ≤ ca1) (pa1 : Addr) (hp1 : CA w pa1 [sl Aa1 a1 ca1]) (a0 : Spot) (r : Bool) (H : impl_common_1.f k a1 a0 = some r) :
 CV Tryz.prog 133 [.agg (cSpot.enc a0).toArray, .pointer (some pa1)].toArray w fun v w' => v = .bool r ∧ Ext w w' := by
 have hS := (((St.init w no).param cSpot Aa1 ca1 a1 hr1 hc1).paramP pa1 [sl Aa1 a1 ca1] hp1)
 unfold impl_common_1.f at H
 refine CV.body Tryz.func133 Z Tryz.ntmps133 Z ?_
 refine GO ?_
 refine oX hS (cSpot.enc a0) fun b1 w1 hS => ?_
 refine OS (SL (hS.ca (i := 1) Z)) ?_
 refine OS (SE (ce hS 0)) ?_
 refine OB H hS hb134 (slices_Contains_impl_Spot_impl_Spot.c (rA hS 0 Z) (rB hS 0 Z) a0) fun t2 w1 H hS => ?_
 exact FE H hS

def impl_common.f (k : Nat) (a0 : List Spot) (a1 : List Spot) : Option (List Spot) := (slices_Clone_impl_Spot_impl_Spot.f a0).bind fun t2 => (slices_DeleteFunc_impl_Spot_impl_Spot.f k t2 (impl_common_1.f k a1)).bind fun t5 => some t5
theorem impl_common.c {k w Aa0 ca0} {a0 : List Spot} (hr0 : Rd cSpot w Aa0 a0) (hc0 : a0.length ≤ ca0) {Aa1 ca1} {a1 : List Spot} (hr1 : Rd cSpot w Aa1 a1) (hc1 : a1.length ≤ ca1) (r : List Spot) (H : impl_common.f k a0 a1 = some r) :
 CV Tryz.prog 81 [sl Aa0 a0 ca0, sl Aa1 a1 ca1].toArray w fun v w' => ∃ (A0 : Option Addr) (c0 : Nat), v = .slice A0 r.length c0 ∧ St w no w' [rowC cSpot A0 c0 63 r] [] := by
 have hS := (((St.init w no).param cSpot Aa0 ca0 a0 hr0 hc0).param cSpot Aa1 ca1 a1 hr1 hc1)
 unfold impl_common.f at H
 refine CV.body Tryz.func81 Z Tryz.ntmps81 Z ?_
 refine GO ?_
 refine oX hS ([sl Aa1 a1 ca1]) fun b1 w1 hS => ?_
 obtain ⟨t2, ht2, H⟩ := pbind H
 refine OC hb132 (slices_Clone_impl_Spot_impl_Spot.c Aa0 ca0 (rA hS 0 Z) (rB hS 0 Z) _ ht2) ?_
 rintro _ w1 ⟨A3, c4, rfl, hs⟩
 replace hS := hS.addN hs
 refine GO ?_
 obtain ⟨t5, ht5, H⟩ := pbind H
 refine OC hb131 (slices_DeleteFunc_impl_Spot_impl_Spot.c 133 #[] #[.pointer (some ⟨b1, 0, none⟩)] hb133 (impl_common_1.f k a1) (fun z0 r h w' hx => CV.cast (impl_common_1.c (roC.rd (hS.stayR [1] hx (j := 1) rfl)) (rB hS 1 Z) ⟨b1, 0, none⟩ (box.ca (hS.stayL [1] hx (j := 0) rfl rfl)) z0 r h) (by simp)) ((hS.subs [1] [] [] rfl).pick [0] [] rfl) _ ht5) ?_
 rintro _ w1 ⟨A6, c7, rfl, hs⟩
 replace hS := hS.back' [] [1] rfl rfl [] [rowC cSpot A6 c7 63 t5] [] hs trivial (fun _ h => by cases h) (.inr rfl)
 refine GO ?_
 obtain rfl := Option.some.inj H
 exact FT ⟨A6, c7, Z, hS.pick [2] [] Z⟩

def impl_WateredYards.l1 (a1 : List Spot) (t4 : List (List Spot)) : Nat → (List Int) → Int → Option (List Int)
  | 0, _, _ => none
  | k + 1, y11, y14 => if y14 < (t4.length : Int) then ((getI t4 y14).bind fun t15 => (impl_common.f k t15 a1).bind fun t16 => if 0 < (t16.length : Int) then ((chk (y11.length + ([y14] : List Int).length ≤ 4294967296)).bind fun u20 => impl_WateredYards.l1 a1 t4 k (y11 ++ ([y14] : List Int)) (IntKind.i64.wrap (y14 + 1))) else (impl_WateredYards.l1 a1 t4 k y11 (IntKind.i64.wrap (y14 + 1)))) else (some y11)
def impl_WateredYards.f (k : Nat) (a0 : Pasture) (a1 : List Spot) : Option (List Int × Int) := (impl_cellCode.f k a0 a1).bind fun t2 => if t2 ≠ 0 then (some ([], t2)) else ((impl_Pasture_yards.f k a0).bind fun t4 => (impl_WateredYards.l1 a1 t4 k ([] : List Int) 0).bind fun y8 => some (y8, 0))
theorem impl_WateredYards.c {k w} (a0 : Pasture) {Aa1 ca1} {a1 : List Spot} (hr1 : Rd cSpot w Aa1 a1) (hc1 : a1.length ≤ ca1) (r : List Int × Int) (H : impl_WateredYards.f k a0 a1 = some r) :
 CV Tryz.prog 28 [.agg (cPasture.enc a0).toArray, sl Aa1 a1 ca1].toArray w fun v w' => ∃ (A0 : Option Addr) (c0 : Nat), v = .tuple #[sl A0 r.1 c0, i6 r.2] ∧ St w no w' [rowC (ci .i64) A0 c0 2 r.1] [] := by
 have hS := ((St.init w no).param cSpot Aa1 ca1 a1 hr1 hc1)
 unfold impl_WateredYards.f at H
 refine CV.body Tryz.func28 Z Tryz.ntmps28 Z ?_
 refine GO ?_
 refine oX hS (cPasture.enc a0) fun b1 w1 hS => ?_
 refine oS (SE (ce hS 0)) ?_
 refine oB H hS hb79 (impl_cellCode.c a0 (rA hS 0 Z) (rB hS 0 Z)) fun t2 w1 H hS => ?_
 refine CP H (fun H => GO ?_) (fun H => ?_)
 replace hS := hS.addNil (ci .i64) 2 none
 obtain rfl := Option.some.inj H
 exact EJ.fin Z (.tmp Z (.tmp Z .nil)) ⟨none, 0, Z, hS.pick [1] [] Z⟩
 refine GO ?_
 refine OF (EL hS (ci .i64) ([] : List Int)) ?_
 rintro _ w1 ⟨A3, rfl, hS⟩
 refine GO ?_
 refine OS (SE (ce hS 0)) ?_
 obtain ⟨t4, ht4, H⟩ := pbind H
 refine OC hb80 (impl_Pasture_yards.c a0 _ ht4) ?_
 rintro _ w1 ⟨A5, c6, D7, rfl, hs⟩
 replace hS := hS.addN hs
 refine GO ?_
 obtain ⟨j509, H, K509⟩ := pbind H
 refine CJ.cut1 (fun F w1 => ∃ y8 A9 c10, some y8 = some j509 ∧ F = [(7, sl A9 y8 c10)] ∧ St w no w1 [rowC (ci .i64) A9 c10 2 y8] [roC cSpot Aa1 ca1 a1]) ?_ ?_
 refine CJ.block ?_
 refine LQ (fun k F w1 => ∃ (y11 : List Int) (y14 : Int) (A12 c13 : _), F = [(1, sl Aa1 a1 ca1), (7, sl A12 y11 c13), (18, sl A5 t4 c6), (19, i6 (t4.length : Int)), (20, i6 y14)] ∧ St w no w1 [rowC (ci .i64) A12 c13 2 y11, rowsC cSpot A5 c6 66 63 D7 t4] [roC cSpot Aa1 ca1 a1] ∧ impl_WateredYards.l1 a1 t4 k y11 y14 = some j509) k H hS ?_
 rintro k F w1 ⟨y11, y14, A12, c13, rfl, hS, H⟩
 rw [impl_WateredYards.l1] at H
 refine GO ?_
 refine CP H (fun H => GO ?_) (fun H => ?_)
 refine CJ.block ?_
 refine GO ?_
 obtain ⟨t15, ht15, H⟩ := pbind H
 obtain ⟨Ae15, ce15, g15, d15, hx15⟩ := ros_el (hS.rowsRo (i := 1) rfl) ht15
 obtain ⟨ad15, e15⟩ := (ros_rd (hS.rowsRo (i := 1) rfl)).some' g15
 refine OS (SI e15 (getI_some ht15).1) ?_
 refine oS (SL ((ros_rd (hS.rowsRo (i := 1) Z)).at_ e15 g15)) ?_
 obtain ⟨t16, ht16, H⟩ := pbind H
 refine OC hb81 (impl_common.c (ros_sub (hS.rowsRo (i := 1) Z) d15 hx15) (ros_subLe (hS.rowsRo (i := 1) Z) d15 hx15) (rA hS 0 Z) (rB hS 0 Z) _ ht16) ?_
 rintro _ w1 ⟨A17, c18, rfl, hs⟩
 replace hS := hS.addN hs
 refine GO ?_
 refine CP H (fun H => GO ?_) (fun H => ?_)
 refine OF (EL hS (ci .i64) ([y14] : List Int)) ?_
 rintro _ w1 ⟨A19, rfl, hS⟩
 obtain ⟨u20, hu20, H⟩ := pbind H
 refine OW (AP hS 0 (rC hS 3 Z) (chk_some hu20)) ?_
 rintro _ w1 ⟨A21, c22, rfl, hS⟩
 exact MD H hS
 exact MD H hS
 exact MD H hS
 rintro F w1 ⟨y8, A9, c10, he, rfl, hS⟩
 obtain rfl := Option.some.inj he
 have H := K509
 refine EJ.next ?_
 refine GO ?_
 obtain rfl := Option.some.inj H
 exact EJ.fin Z (.tmp Z (.tmp Z .nil)) ⟨A9, c10, Z, hS.pick [0] [] Z⟩

def spec_l01Closed.f (a0 : Pasture) (a1 : Spot) (a2 : Int) : Option Bool := (spec_l01Next.f a1 a2).bind fun t2 => (spec_l01Is.f a0 t2).bind fun t4 => if (!t4) = true then (some true) else (if a2 = 0 then ((getI a0.South.l t2.Y).bind fun t5 => (chk (0 ≤ (IntKind.u64.wrap a1.X))).bind fun u6 => some (decide ((andI .u16 (shrI .u16 t5 (IntKind.u64.wrap a1.X)) 1) = 1))) else (if a2 = 1 then ((getI a0.East.l a1.Y).bind fun t7 => (chk (0 ≤ (IntKind.u64.wrap a1.X))).bind fun u8 => some (decide ((andI .u16 (shrI .u16 t7 (IntKind.u64.wrap a1.X)) 1) = 1))) else (if a2 = 2 then ((getI a0.South.l a1.Y).bind fun t9 => (chk (0 ≤ (IntKind.u64.wrap a1.X))).bind fun u10 => some (decide ((andI .u16 (shrI .u16 t9 (IntKind.u64.wrap a1.X)) 1) = 1))) else ((getI a0.East.l a1.Y).bind fun t11 => (chk (0 ≤ (IntKind.u64.wrap t2.X))).bind fun u12 => some (decide ((andI .u16 (shrI .u16 t11 (IntKind.u64.wrap t2.X)) 1) = 1))))))
theorem spec_l01Closed.c {w} (pa0 : Addr) (a0 : Pasture) (hp0 : CA w pa0 (cPasture.enc a0)) (a1 : Spot) {a2 : Int} (r : Bool) (H : spec_l01Closed.f a0 a1 a2 = some r) :
 CV Tryz.prog 219 [.pointer (some pa0), .agg (cSpot.enc a1).toArray, .int .i64 a2].toArray w fun v w' => v = .bool r ∧ Ext w w' := by
 have hS := ((St.init w no).paramP pa0 (cPasture.enc a0) hp0)
 unfold spec_l01Closed.f at H
 refine CV.body Tryz.func219 Z Tryz.ntmps219 Z ?_
 refine GO ?_
 refine oX hS (cSpot.enc a1) fun b1 w1 hS => ?_
 refine oS (SE (ce hS 0)) ?_
 refine OB H hS hb121 (spec_l01Next.c a1) fun t2 w1 H hS => ?_
 refine OF (EA hS (cSpot.enc (⟨0, 0⟩ : Spot))) ?_
 rintro _ w1 ⟨b3, rfl, hS⟩
 refine OJ.es Z Z (Es.store oI hS (i := 1) Z Z Z Z Z Z (vs := cSpot.enc t2) Z (cSpot.len _) (cSpot.one _) (Nat.le_of_ble_eq_true Z) (cSpot.enc t2) Z) ?_
 intro w1 hS
 refine GO ?_
 refine OS (SE (ce hS 1)) ?_
 refine oB H hS hb120 (spec_l01Is.c _ a0 (hS.ca (i := 0) Z) t2) fun t4 w1 H hS => ?_
 refine CB H (fun H => ?_) (fun H => ?_)
 exact FE H hS
 refine GO ?_
 refine CJ.block ?_
 refine GO ?_
 refine CP H (fun H => GO ?_) (fun H => ?_)
 refine CJ.draw [] [0, 1, 2, 3, 4, 5, 6, 7, 8, 9, 10, 11, 12, 13] mixed (by kernel_rfl) hS fun w1 hS => ?_
 refine GO ?_
 refine dS (SL (cf hS 1 1)) ?_
 obtain ⟨t5, ht5, H⟩ := pbind H
 refine DJ.st Z Z Z Z Z (SR.idxA oU oI Z Z Z Z Z (Arr.lt ht5)) ?_
 refine dS (SL (CA.idx (CA.fld (hS.ca (i := 0) Z) (mid_part (fe_Pasture_4 _) (fl_Pasture_4 _) ((carr 10 (ci .u16)).len _))) ht5)) ?_
 refine dS (SL (cf hS 0 0)) ?_
 obtain ⟨u6, hu6, H⟩ := pbind H
 refine DJ.st Z Z Z Z Z (SR.shr Z Z Z (chk_some hu6)) ?_
 exact FE H hS
 refine GO ?_
 refine CP H (fun H => GO ?_) (fun H => ?_)
 refine CJ.draw [] [0, 1, 2, 3, 4, 5, 6, 7, 8, 9, 10, 11, 12, 13] mixed (by kernel_rfl) hS fun w1 hS => ?_
 refine GO ?_
 refine dS (SL (cf hS 0 1)) ?_
 obtain ⟨t7, ht7, H⟩ := pbind H
 refine DJ.st Z Z Z Z Z (SR.idxA oU oI Z Z Z Z Z (Arr.lt ht7)) ?_
 refine dS (SL (CA.idx (CA.fld (hS.ca (i := 0) Z) (mid_part (fe_Pasture_3 _) (fl_Pasture_3 _) ((carr 10 (ci .u16)).len _))) ht7)) ?_
 refine dS (SL (cf hS 0 0)) ?_
 obtain ⟨u8, hu8, H⟩ := pbind H
 refine DJ.st Z Z Z Z Z (SR.shr Z Z Z (chk_some hu8)) ?_
 exact FE H hS
 refine GO ?_
 refine CP H (fun H => GO ?_) (fun H => ?_)
 refine CJ.draw [] [0, 1, 2, 3, 4, 5, 6, 7, 8, 9, 10, 11, 12, 13] mixed (by kernel_rfl) hS fun w1 hS => ?_
 refine GO ?_
 refine dS (SL (cf hS 0 1)) ?_
 obtain ⟨t9, ht9, H⟩ := pbind H
 refine DJ.st Z Z Z Z Z (SR.idxA oU oI Z Z Z Z Z (Arr.lt ht9)) ?_
 refine dS (SL (CA.idx (CA.fld (hS.ca (i := 0) Z) (mid_part (fe_Pasture_4 _) (fl_Pasture_4 _) ((carr 10 (ci .u16)).len _))) ht9)) ?_
 refine dS (SL (cf hS 0 0)) ?_
 obtain ⟨u10, hu10, H⟩ := pbind H
 refine DJ.st Z Z Z Z Z (SR.shr Z Z Z (chk_some hu10)) ?_
 exact FE H hS
 refine GO ?_
 refine CJ.draw [] [0, 1, 2, 3, 4, 5, 6, 7, 8, 9, 10, 11, 12, 13] mixed (by kernel_rfl) hS fun w1 hS => ?_
 refine GO ?_
 refine dS (SL (cf hS 0 1)) ?_
 obtain ⟨t11, ht11, H⟩ := pbind H
 refine DJ.st Z Z Z Z Z (SR.idxA oU oI Z Z Z Z Z (Arr.lt ht11)) ?_
 refine dS (SL (CA.idx (CA.fld (hS.ca (i := 0) Z) (mid_part (fe_Pasture_3 _) (fl_Pasture_3 _) ((carr 10 (ci .u16)).len _))) ht11)) ?_
 refine dS (SL (cf hS 1 0)) ?_
 obtain ⟨u12, hu12, H⟩ := pbind H
 refine DJ.st Z Z Z Z Z (SR.shr Z Z Z (chk_some hu12)) ?_
 exact FE H hS

def spec_l01Beside.l1 (a0 : Pasture) (a1 : Spot) : Nat → (List Spot) → Int → Option (List Spot)
  | 0, _, _ => none
  | k + 1, y6, y9 => if y9 < 4 then ((spec_l01Closed.f a0 a1 y9).bind fun t10 => if (!t10) = true then ((spec_l01Next.f a1 y9).bind fun t11 => (chk (y6.length + ([t11] : List Spot).length ≤ 4294967296)).bind fun u13 => spec_l01Beside.l1 a0 a1 k (y6 ++ ([t11] : List Spot)) (IntKind.i64.wrap (y9 + 1))) else (spec_l01Beside.l1 a0 a1 k y6 (IntKind.i64.wrap (y9 + 1)))) else (some y6)
def spec_l01Beside.f (k : Nat) (a0 : Pasture) (a1 : Spot) : Option (List Spot) := (spec_l01Beside.l1 a0 a1 k ([] : List Spot) 0).bind fun y3 => some y3
theorem spec_l01Beside.c {k w} (pa0 : Addr) (a0 : Pasture) (hp0 : CA w pa0 (cPasture.enc a0)) (a1 : Spot) (r : List Spot) (H : spec_l01Beside.f k a0 a1 = some r) :
 CV Tryz.prog 195 [.pointer (some pa0), .agg (cSpot.enc a1).toArray].toArray w fun v w' => ∃ (A0 : Option Addr) (c0 : Nat), v = .slice A0 r.length c0 ∧ St w no w' [rowC cSpot A0 c0 63 r] [] := by
 have hS := ((St.init w no).paramP pa0 (cPasture.enc a0) hp0)
 unfold spec_l01Beside.f at H
 refine CV.body Tryz.func195 Z Tryz.ntmps195 Z ?_
 refine GO ?_
 refine oX hS (cSpot.enc a1) fun b1 w1 hS => ?_
 refine OF (EL hS cSpot ([] : List Spot)) ?_
 rintro _ w1 ⟨A2, rfl, hS⟩
 refine GO ?_
 obtain ⟨j518, H, K518⟩ := pbind H
 refine CJ.cut1 (fun F w1 => ∃ y3 A4 c5, some y3 = some j518 ∧ F = [(5, sl A4 y3 c5)] ∧ St w no w1 [rowC cSpot A4 c5 63 y3] [roP pa0 (cPasture.enc a0)]) ?_ ?_
 refine CJ.block ?_
 refine LQ (fun k F w1 => ∃ (y6 : List Spot) (y9 : Int) (A7 c8 : _), F = [(0, .pointer (some pa0)), (3, pt b1), (5, sl A7 y6 c8), (6, i6 y9)] ∧ St w no w1 [box b1 (cSpot.enc a1) 63, rowC cSpot A7 c8 63 y6] [roP pa0 (cPasture.enc a0)] ∧ spec_l01Beside.l1 a0 a1 k y6 y9 = some j518) k H hS ?_
 rintro k F w1 ⟨y6, y9, A7, c8, rfl, hS, H⟩
 rw [spec_l01Beside.l1] at H
 refine GO ?_
 refine CP H (fun H => GO ?_) (fun H => ?_)
 refine CJ.block ?_
 refine GO ?_
 refine oS (SE (ce hS 0)) ?_
 refine oB H hS hb219 (spec_l01Closed.c _ a0 (hS.ca (i := 0) Z) a1) fun t10 w1 H hS => ?_
 refine CB H (fun H => GO ?_) (fun H => ?_)
 refine oS (SE (ce hS 0)) ?_
 refine OB H hS hb121 (spec_l01Next.c a1) fun t11 w1 H hS => ?_
 refine OF (EL hS cSpot ([t11] : List Spot)) ?_
 rintro _ w1 ⟨A12, rfl, hS⟩
 obtain ⟨u13, hu13, H⟩ := pbind H
 refine OW (AP hS 1 (rC hS 2 Z) (chk_some hu13)) ?_
 rintro _ w1 ⟨A14, c15, rfl, hS⟩
 exact MD H hS
 exact MD H hS
 exact MD H hS
 rintro F w1 ⟨y3, A4, c5, he, rfl, hS⟩
 obtain rfl := Option.some.inj he
 have H := K518
 refine EJ.next ?_
 refine GO ?_
 obtain rfl := Option.some.inj H
 exact FT ⟨A4, c5, Z, hS.pick [0] [] Z⟩

def spec_l01Steps.l2 (t17 : Spot) (t19 : List Spot) : Nat → (Arr 10 (Arr 10 Int)) → (List Spot) → Int → Option ((Arr 10 (Arr 10 Int)) × (List Spot))
  | 0, _, _, _ => none
  | k + 1, y26, y27, y30 => if y30 < (t19.length : Int) then ((getI t19 y30).bind fun t31 => (getI t19 y30).bind fun t32 => (getI y26.l t31.Y).bind fun t33 => (getI t33.l t32.X).bind fun t34 => if t34 = 0 then ((getI t19 y30).bind fun t35 => (getI t19 y30).bind fun t36 => (getI y26.l t17.Y).bind fun t37 => (getI t37.l t17.X).bind fun t38 => (getI y26.l t35.Y).bind fun t39 => (getI t39.l t36.X).bind fun t40 => (getI t19 y30).bind fun t41 => (chk (y27.length + ([t41] : List Spot).length ≤ 4294967296)).bind fun u43 => spec_l01Steps.l2 t17 t19 k (aset y26 t35.Y.toNat (aset t39 t36.X.toNat (IntKind.i64.wrap (t38 + 1)))) (y27 ++ ([t41] : List Spot)) (IntKind.i64.wrap (y30 + 1))) else (spec_l01Steps.l2 t17 t19 k y26 y27 (IntKind.i64.wrap (y30 + 1)))) else (some (y26, y27))
def spec_l01Steps.l1 (a0 : Pasture) : Nat → (Arr 10 (Arr 10 Int)) → (List Spot) → Int → Option (Arr 10 (Arr 10 Int))
  | 0, _, _, _ => none
  | k + 1, y8, y9, y12 => if y12 < (y9.length : Int) then (((getI y9 y12).bind fun t17 => (spec_l01Beside.f k a0 t17).bind fun t19 => (spec_l01Steps.l2 t17 t19 k y8 y9 0).bind fun (y22, y23) => some (y22, y23)).bind fun (y13, y14) => spec_l01Steps.l1 a0 k y13 y14 (IntKind.i64.wrap (y12 + 1))) else (some y8)
def spec_l01Steps.f (k : Nat) (a0 : Pasture) (a1 : Spot) : Option (Arr 10 (Arr 10 Int)) := (getI (Arr.mk' (Arr.mk' 0 : Arr 10 Int) : Arr 10 (Arr 10 Int)).l a1.Y).bind fun t4 => (getI t4.l a1.X).bind fun t5 => (spec_l01Steps.l1 a0 k (aset (Arr.mk' (Arr.mk' 0 : Arr 10 Int) : Arr 10 (Arr 10 Int)) a1.Y.toNat (aset t4 a1.X.toNat 1)) ([a1] : List Spot) 0).bind fun y7 => some y7
theorem spec_l01Steps.c {k w} (pa0 : Addr) (a0 : Pasture) (hp0 : CA w pa0 (cPasture.enc a0)) (a1 : Spot) (r : Arr 10 (Arr 10 Int)) (H : spec_l01Steps.f k a0 a1 = some r) :
 CV Tryz.prog 163 [.pointer (some pa0), .agg (cSpot.enc a1).toArray].toArray w fun v w' => v = .agg ((carr 10 (carr 10 (ci .i64))).enc r).toArray ∧ Ext w w' := by
 have hS := ((St.init w no).paramP pa0 (cPasture.enc a0) hp0)
 unfold spec_l01Steps.f at H
 refine CV.body Tryz.func163 Z Tryz.ntmps163 Z ?_
 refine GO ?_
 refine OF (EB hS (cSpot.enc a1)) ?_
 rintro _ w1 ⟨b1, rfl, hS⟩
 refine OJ.ef rfl rfl rfl (Ef.alloc hS oI rfl rfl ((carr 10 (carr 10 (ci .i64))).enc (Arr.mk' (Arr.mk' 0 : Arr 10 Int) : Arr 10 (Arr 10 Int))) (by kernel_rfl)) ?_
 rintro _ w1 ⟨b2, rfl, hS⟩
 refine GO ?_
 refine OJ.st rfl rfl rfl (SR.buildA oU oI rfl rfl rfl rfl (zs := [.int .i64 0, i6 0, i6 0, i6 0, i6 0, i6 0, i6 0, i6 0, i6 0, i6 0, i6 0, i6 0, i6 0, i6 0, i6 0, i6 0, i6 0, i6 0, i6 0, i6 0, i6 0, i6 0, i6 0, i6 0, i6 0, i6 0, i6 0, i6 0, i6 0, i6 0, i6 0, i6 0, i6 0, i6 0, i6 0, i6 0, i6 0, i6 0, i6 0, i6 0, i6 0, i6 0, i6 0, i6 0, i6 0, i6 0, i6 0, i6 0, i6 0, i6 0, i6 0, i6 0, i6 0, i6 0, i6 0, i6 0, i6 0, i6 0, i6 0, i6 0, i6 0, i6 0, i6 0, i6 0, i6 0, i6 0, i6 0, i6 0, i6 0, i6 0, i6 0, i6 0, i6 0, i6 0, i6 0, i6 0, i6 0, i6 0, i6 0, i6 0, i6 0, i6 0, i6 0, i6 0, i6 0, i6 0, i6 0, i6 0, i6 0, i6 0, i6 0, i6 0, i6 0, i6 0, i6 0, i6 0, i6 0, i6 0, i6 0, i6 0]) rfl rfl ((carr 10 (carr 10 (ci .i64))).enc (Arr.mk' (Arr.mk' 0 : Arr 10 Int) : Arr 10 (Arr 10 Int))) (by kernel_rfl)) ?_
 refine OJ.ef rfl rfl rfl (Ef.alloc hS oI rfl rfl ((carr 10 (carr 10 (ci .i64))).enc (Arr.mk' (Arr.mk' 0 : Arr 10 Int) : Arr 10 (Arr 10 Int))) (by kernel_rfl)) ?_
 rintro _ w1 ⟨b3, rfl, hS⟩
 refine OJ.es rfl rfl (Es.put oI hS (i := 2) rfl rfl rfl rfl rfl (vs := (carr 10 (carr 10 (ci .i64))).enc (Arr.mk' (Arr.mk' 0 : Arr 10 Int) : Arr 10 (Arr 10 Int))) rfl ((carr 10 (carr 10 (ci .i64))).len _) ((carr 10 (carr 10 (ci .i64))).one _) (Put.all (carr 10 (carr 10 (ci .i64))) (Arr.mk' (Arr.mk' 0 : Arr 10 Int) : Arr 10 (Arr 10 Int)) (Arr.mk' (Arr.mk' 0 : Arr 10 Int) : Arr 10 (Arr 10 Int))) (by (try simp only [add_lit, Nat.add_assoc, Nat.zero_add, Nat.add_zero]) <;> rfl)) ?_
 intro w1 hS
 refine GO ?_
 refine CJ.draw [] [0, 1, 2, 3, 4, 5, 6] mixed (by kernel_rfl) hS fun w1 hS => ?_
 refine GO ?_
 refine dS (SL (cf hS 0 1)) ?_
 refine DS (SL (cf hS 0 0)) ?_
 obtain ⟨t4, ht4, H⟩ := pbind H
 refine DJ.st Z Z Z Z Z (SR.idxA oU oI Z Z Z Z Z (Arr.lt ht4)) ?_
 obtain ⟨t5, ht5, H⟩ := pbind H
 refine DJ.st Z Z Z Z Z (SR.idxA oU oI Z Z Z Z Z (Arr.lt ht5)) ?_
 refine DJ.es rfl rfl rfl rfl (Es.put oI hS (i := 2) rfl rfl rfl rfl rfl (vs := (ci .i64).enc 1) rfl rfl (one1 rfl) (Put.idx (Put.idx (Put.all (ci .i64) t5 1) ht5) ht4) (by (try simp only [add_lit, Nat.add_assoc, Nat.zero_add, Nat.add_zero]) <;> rfl)) ?_
 intro w1 hS
 refine GO ?_
 refine OS (SE (ce hS 0)) ?_
 refine OF (EL hS cSpot ([a1] : List Spot)) ?_
 rintro _ w1 ⟨A6, rfl, hS⟩
 refine GO ?_
 obtain ⟨j516, H, K516⟩ := pbind H
 refine CJ.cut1 (fun F w1 => ∃ y7, some y7 = some j516 ∧ F = [(4, pt b2), (5, pt b3)] ∧ St w no w1 [box b2 ((carr 10 (carr 10 (ci .i64))).enc (Arr.mk' (Arr.mk' 0 : Arr 10 Int) : Arr 10 (Arr 10 Int))) 131, box b3 ((carr 10 (carr 10 (ci .i64))).enc y7) 131] [roP pa0 (cPasture.enc a0)]) ?_ ?_
 refine CJ.block ?_
 refine LQ (fun k F w1 => ∃ (y8 : Arr 10 (Arr 10 Int)) (y9 : List Spot) (y12 : Int) (A10 c11 : _), F = [(0, .pointer (some pa0)), (4, pt b2), (5, pt b3), (6, sl A10 y9 c11), (7, i6 y12)] ∧ St w no w1 [box b2 ((carr 10 (carr 10 (ci .i64))).enc (Arr.mk' (Arr.mk' 0 : Arr 10 Int) : Arr 10 (Arr 10 Int))) 131, box b3 ((carr 10 (carr 10 (ci .i64))).enc y8) 131, rowC cSpot A10 c11 63 y9] [roP pa0 (cPasture.enc a0)] ∧ spec_l01Steps.l1 a0 k y8 y9 y12 = some j516) k H hS ?_
 rintro k F w1 ⟨y8, y9, y12, A10, c11, rfl, hS, H⟩
 rw [spec_l01Steps.l1] at H
 refine GO ?_
 refine CP H (fun H => ?_) (fun H => ?_)
 refine CJ.skip (EJ.next ?_)
 obtain ⟨j524, H, K524⟩ := pbind H
 refine CJ.cut (fun F w1 => ∃ y13 y14 A15 c16, some j524 = some (y13, y14) ∧ F = [(0, .pointer (some pa0)), (4, pt b2), (5, pt b3), (6, sl A15 y14 c16), (7, i6 y12)] ∧ St w no w1 [box b2 ((carr 10 (carr 10 (ci .i64))).enc (Arr.mk' (Arr.mk' 0 : Arr 10 Int) : Arr 10 (Arr 10 Int))) 131, box b3 ((carr 10 (carr 10 (ci .i64))).enc y13) 131, rowC cSpot A15 c16 63 y14] [roP pa0 (cPasture.enc a0)]) ?_ ?_
 refine CJ.block ?_
 refine GO ?_
 obtain ⟨t17, ht17, H⟩ := pbind H
 obtain ⟨ad17, e17⟩ := (rC hS 2 Z).some' ht17
 refine OS (SI e17 (getI_some ht17).1) ?_
 refine OS (SE ((rC hS 2 Z).at_ e17 ht17)) ?_
 refine OF (EA hS (cSpot.enc (⟨0, 0⟩ : Spot))) ?_
 rintro _ w1 ⟨b18, rfl, hS⟩
 refine OJ.es Z Z (Es.store oI hS (i := 3) Z Z Z Z Z Z (vs := cSpot.enc t17) Z (cSpot.len _) (cSpot.one _) (Nat.le_of_ble_eq_true Z) (cSpot.enc t17) Z) ?_
 intro w1 hS
 refine GO ?_
 refine OS (SE (ce hS 3)) ?_
 obtain ⟨t19, ht19, H⟩ := pbind H
 refine OC hb195 (spec_l01Beside.c _ a0 (hS.ca (i := 0) Z) t17 _ ht19) ?_
 rintro _ w1 ⟨A20, c21, rfl, hs⟩
 replace hS := hS.addN hs
 refine GO ?_
 obtain ⟨j526, H, K526⟩ := pbind H
 refine CJ.cut1 (fun F w1 => ∃ y22 y23 A24 c25, some j526 = some (y22, y23) ∧ F = [(0, .pointer (some pa0)), (4, pt b2), (5, pt b3), (6, sl A24 y23 c25), (7, i6 y12)] ∧ St w no w1 [box b2 ((carr 10 (carr 10 (ci .i64))).enc (Arr.mk' (Arr.mk' 0 : Arr 10 Int) : Arr 10 (Arr 10 Int))) 131, box b3 ((carr 10 (carr 10 (ci .i64))).enc y22) 131, rowC cSpot A24 c25 63 y23] [roP pa0 (cPasture.enc a0)]) ?_ ?_
 refine CJ.block ?_
 refine LQ (fun k F w1 => ∃ (y26 : Arr 10 (Arr 10 Int)) (y27 : List Spot) (y30 : Int) (A28 c29 : _), F = [(0, .pointer (some pa0)), (4, pt b2), (5, pt b3), (6, sl A28 y27 c29), (7, i6 y12), (8, pt b18), (9, sl A20 t19 c21), (10, i6 y30)] ∧ St w no w1 [box b2 ((carr 10 (carr 10 (ci .i64))).enc (Arr.mk' (Arr.mk' 0 : Arr 10 Int) : Arr 10 (Arr 10 Int))) 131, box b3 ((carr 10 (carr 10 (ci .i64))).enc y26) 131, rowC cSpot A28 c29 63 y27, box b18 (cSpot.enc t17) 63, rowC cSpot A20 c21 63 t19] [roP pa0 (cPasture.enc a0)] ∧ spec_l01Steps.l2 t17 t19 k y26 y27 y30 = some j526) k H hS ?_
 rintro k F w1 ⟨y26, y27, y30, A28, c29, rfl, hS, H⟩
 rw [spec_l01Steps.l2] at H
 refine GO ?_
 refine CP H (fun H => GO ?_) (fun H => ?_)
 refine CJ.block ?_
 refine GO ?_
 refine CJ.draw [] [0, 1, 2, 3, 4, 5, 6, 7, 8, 9, 10, 11, 12, 13] mixed (by kernel_rfl) hS fun w1 hS => ?_
 refine GO ?_
 obtain ⟨t31, ht31, H⟩ := pbind H
 obtain ⟨ad31, e31⟩ := (rC hS 4 Z).some' ht31
 refine dS (SI e31 (getI_some ht31).1) ?_
 refine dS (SL (CA.sub ((rC hS 4 Z).at_ e31 ht31) 1)) ?_
 obtain ⟨t32, ht32, H⟩ := pbind H
 obtain ⟨ad32, e32⟩ := (rC hS 4 Z).some' ht32
 refine dS (SI e32 (getI_some ht32).1) ?_
 refine DS (SL (CA.sub ((rC hS 4 Z).at_ e32 ht32) 0)) ?_
 obtain ⟨t33, ht33, H⟩ := pbind H
 refine DJ.st Z Z Z Z Z (SR.idxA oU oI Z Z Z Z Z (Arr.lt ht33)) ?_
 obtain ⟨t34, ht34, H⟩ := pbind H
 refine DJ.st Z Z Z Z Z (SR.idxA oU oI Z Z Z Z Z (Arr.lt ht34)) ?_
 refine dS (SL (CA.idx (CA.idx (ce hS 1) ht33) ht34)) ?_
 refine CP H (fun H => GO ?_) (fun H => ?_)
 refine CJ.draw [] [0, 1, 2, 3, 4, 5, 6, 7, 8, 9, 10, 11, 12, 13, 14, 15, 16, 17, 18, 19, 20] mixed (by kernel_rfl) hS fun w1 hS => ?_
 refine GO ?_
 obtain ⟨t35, ht35, H⟩ := pbind H
 obtain ⟨ad35, e35⟩ := (rC hS 4 Z).some' ht35
 refine dS (SI e35 (getI_some ht35).1) ?_
 refine dS (SL (CA.sub ((rC hS 4 Z).at_ e35 ht35) 1)) ?_
 obtain ⟨t36, ht36, H⟩ := pbind H
 obtain ⟨ad36, e36⟩ := (rC hS 4 Z).some' ht36
 refine dS (SI e36 (getI_some ht36).1) ?_
 refine dS (SL (CA.sub ((rC hS 4 Z).at_ e36 ht36) 0)) ?_
 refine dS (SL (cf hS 3 1)) ?_
 refine DS (SL (cf hS 3 0)) ?_
 obtain ⟨t37, ht37, H⟩ := pbind H
 refine DJ.st Z Z Z Z Z (SR.idxA oU oI Z Z Z Z Z (Arr.lt ht37)) ?_
 obtain ⟨t38, ht38, H⟩ := pbind H
 refine DJ.st Z Z Z Z Z (SR.idxA oU oI Z Z Z Z Z (Arr.lt ht38)) ?_
 refine dS (SL (CA.idx (CA.idx (ce hS 1) ht37) ht38)) ?_
 obtain ⟨t39, ht39, H⟩ := pbind H
 refine DJ.st Z Z Z Z Z (SR.idxA oU oI Z Z Z Z Z (Arr.lt ht39)) ?_
 obtain ⟨t40, ht40, H⟩ := pbind H
 refine DJ.st Z Z Z Z Z (SR.idxA oU oI Z Z Z Z Z (Arr.lt ht40)) ?_
 refine DJ.es rfl rfl rfl rfl (Es.put oI hS (i := 1) rfl rfl rfl rfl rfl (vs := (ci .i64).enc (IntKind.i64.wrap (t38 + 1))) rfl rfl (one1 rfl) (Put.idx (Put.idx (Put.all (ci .i64) t40 (IntKind.i64.wrap (t38 + 1))) ht40) ht39) (by (try simp only [add_lit, Nat.add_assoc, Nat.zero_add, Nat.add_zero]) <;> rfl)) ?_
 intro w1 hS
 refine GO ?_
 obtain ⟨t41, ht41, H⟩ := pbind H
 obtain ⟨ad41, e41⟩ := (rC hS 4 Z).some' ht41
 refine OS (SI e41 (getI_some ht41).1) ?_
 refine OS (SE ((rC hS 4 Z).at_ e41 ht41)) ?_
 refine OF (EL hS cSpot ([t41] : List Spot)) ?_
 rintro _ w1 ⟨A42, rfl, hS⟩
 obtain ⟨u43, hu43, H⟩ := pbind H
 refine OW (AP hS 2 (rC hS 5 Z) (chk_some hu43)) ?_
 rintro _ w1 ⟨A44, c45, rfl, hS⟩
 exact MD H hS
 exact MD H hS
 exact MD H hS
 rintro F w1 ⟨y22, y23, A24, c25, ⟨⟩, rfl, hS⟩
 have H := K526
 refine EJ.blk (?_)
 exact MD H hS
 rintro F w1 ⟨y13, y14, A15, c16, ⟨⟩, rfl, hS⟩
 have H := K524
 exact MD H hS
 exact MD H hS
 rintro F w1 ⟨y7, he, rfl, hS⟩
 obtain rfl := Option.some.inj he
 have H := K516
 refine EJ.next ?_
 refine GO ?_
 refine OS (SE (ce hS 1)) ?_
 refine OJ.es rfl rfl (Es.put oI hS (i := 0) rfl rfl rfl rfl rfl (vs := (carr 10 (carr 10 (ci .i64))).enc y7) rfl ((carr 10 (carr 10 (ci .i64))).len _) ((carr 10 (carr 10 (ci .i64))).one _) (Put.all (carr 10 (carr 10 (ci .i64))) (Arr.mk' (Arr.mk' 0 : Arr 10 Int) : Arr 10 (Arr 10 Int)) y7) (by (try simp only [add_lit, Nat.add_assoc, Nat.zero_add, Nat.add_zero]) <;> rfl)) ?_
 intro w1 hS
 refine GO ?_
 obtain rfl := Option.some.inj H
 exact EJ.fin Z (.cell Z (ldE oU oI Z Z Z (hS.cells (i := 0) Z) Z) .nil) ⟨Z, hS.ext⟩

def spec_l01Yard.l2 (a0 : Pasture) (t2 : Arr 10 (Arr 10 Int)) (y11 : Int) : Nat → (List Spot) → Int → Option (List Spot)
  | 0, _, _ => none
  | k + 1, y18, y21 => if y21 < a0.Wide then ((getI t2.l y11).bind fun t22 => (getI t22.l y21).bind fun t23 => if 0 < t23 then ((chk (y18.length + ([(⟨y21, y11⟩ : Spot)] : List Spot).length ≤ 4294967296)).bind fun u25 => spec_l01Yard.l2 a0 t2 y11 k (y18 ++ ([(⟨y21, y11⟩ : Spot)] : List Spot)) (IntKind.i8.wrap (y21 + 1))) else (spec_l01Yard.l2 a0 t2 y11 k y18 (IntKind.i8.wrap (y21 + 1)))) else (some y18)
def spec_l01Yard.l1 (a0 : Pasture) (t2 : Arr 10 (Arr 10 Int)) : Nat → (List Spot) → Int → Option (List Spot)
  | 0, _, _ => none
  | k + 1, y8, y11 => if y11 < a0.High then (((spec_l01Yard.l2 a0 t2 y11 k y8 0).bind fun y15 => some y15).bind fun y12 => spec_l01Yard.l1 a0 t2 k y12 (IntKind.i8.wrap (y11 + 1))) else (some y8)
def spec_l01Yard.f (k : Nat) (a0 : Pasture) (a1 : Spot) : Option (List Spot) := (spec_l01Steps.f k a0 a1).bind fun t2 => (spec_l01Yard.l1 a0 t2 k ([] : List Spot) 0).bind fun y5 => some y5
theorem spec_l01Yard.c {k w} (pa0 : Addr) (a0 : Pasture) (hp0 : CA w pa0 (cPasture.enc a0)) (a1 : Spot) (r : List Spot) (H : spec_l01Yard.f k a0 a1 = some r) :
 CV Tryz.prog 135 [.pointer (some pa0), .agg (cSpot.enc a1).toArray].toArray w fun v w' => ∃ (A0 : Option Addr) (c0 : Nat), v = .slice A0 r.length c0 ∧ St w no w' [rowC cSpot A0 c0 63 r] [] := by
 have hS := ((St.init w no).paramP pa0 (cPasture.enc a0) hp0)
 unfold spec_l01Yard.f at H
 refine CV.body Tryz.func135 Z Tryz.ntmps135 Z ?_
 refine GO ?_
 refine oX hS (cSpot.enc a1) fun b1 w1 hS => ?_
 refine OS (SE (ce hS 0)) ?_
 refine OB H hS hb163 (spec_l01Steps.c _ a0 (hS.ca (i := 0) Z) a1) fun t2 w1 H hS => ?_
 refine OJ.ef rfl rfl rfl (Ef.alloc hS oI rfl rfl ((carr 10 (carr 10 (ci .i64))).enc (Arr.mk' (Arr.mk' 0 : Arr 10 Int) : Arr 10 (Arr 10 Int))) (by kernel_rfl)) ?_
 rintro _ w1 ⟨b3, rfl, hS⟩
 refine OJ.es rfl rfl (Es.put oI hS (i := 1) rfl rfl rfl rfl rfl (vs := (carr 10 (carr 10 (ci .i64))).enc t2) rfl ((carr 10 (carr 10 (ci .i64))).len _) ((carr 10 (carr 10 (ci .i64))).one _) (Put.all (carr 10 (carr 10 (ci .i64))) (Arr.mk' (Arr.mk' 0 : Arr 10 Int) : Arr 10 (Arr 10 Int)) t2) (by (try simp only [add_lit, Nat.add_assoc, Nat.zero_add, Nat.add_zero]) <;> rfl)) ?_
 intro w1 hS
 refine GO ?_
 refine OF (EL hS cSpot ([] : List Spot)) ?_
 rintro _ w1 ⟨A4, rfl, hS⟩
 refine GO ?_
 obtain ⟨j527, H, K527⟩ := pbind H
 refine CJ.cut1 (fun F w1 => ∃ y5 A6 c7, some y5 = some j527 ∧ F = [(6, sl A6 y5 c7)] ∧ St w no w1 [rowC cSpot A6 c7 63 y5] [roP pa0 (cPasture.enc a0)]) ?_ ?_
 refine CJ.block ?_
 refine LQ (fun k F w1 => ∃ (y8 : List Spot) (y11 : Int) (A9 c10 : _), F = [(0, .pointer (some pa0)), (5, pt b3), (6, sl A9 y8 c10), (7, .int .i8 y11)] ∧ St w no w1 [box b3 ((carr 10 (carr 10 (ci .i64))).enc t2) 131, rowC cSpot A9 c10 63 y8] [roP pa0 (cPasture.enc a0)] ∧ spec_l01Yard.l1 a0 t2 k y8 y11 = some j527) k H hS ?_
 rintro k F w1 ⟨y8, y11, A9, c10, rfl, hS, H⟩
 rw [spec_l01Yard.l1] at H
 refine GO ?_
 refine oS (SL (CA.fld (hS.ca (i := 0) Z) (mid_part (fe_Pasture_1 _) (fl_Pasture_1 _) ((ci .i8).len _)))) ?_
 refine CP H (fun H => ?_) (fun H => ?_)
 refine CJ.skip (EJ.next ?_)
 obtain ⟨j534, H, K534⟩ := pbind H
 refine CJ.cut (fun F w1 => ∃ y12 A13 c14, some y12 = some j534 ∧ F = [(0, .pointer (some pa0)), (5, pt b3), (6, sl A13 y12 c14), (7, .int .i8 y11)] ∧ St w no w1 [box b3 ((carr 10 (carr 10 (ci .i64))).enc t2) 131, rowC cSpot A13 c14 63 y12] [roP pa0 (cPasture.enc a0)]) ?_ ?_
 refine CJ.block ?_
 refine GO ?_
 obtain ⟨j536, H, K536⟩ := pbind H
 refine CJ.cut1 (fun F w1 => ∃ y15 A16 c17, some y15 = some j536 ∧ F = [(0, .pointer (some pa0)), (5, pt b3), (6, sl A16 y15 c17), (7, .int .i8 y11)] ∧ St w no w1 [box b3 ((carr 10 (carr 10 (ci .i64))).enc t2) 131, rowC cSpot A16 c17 63 y15] [roP pa0 (cPasture.enc a0)]) ?_ ?_
 refine CJ.block ?_
 refine LQ (fun k F w1 => ∃ (y18 : List Spot) (y21 : Int) (A19 c20 : _), F = [(0, .pointer (some pa0)), (5, pt b3), (6, sl A19 y18 c20), (7, .int .i8 y11), (8, .int .i8 y21)] ∧ St w no w1 [box b3 ((carr 10 (carr 10 (ci .i64))).enc t2) 131, rowC cSpot A19 c20 63 y18] [roP pa0 (cPasture.enc a0)] ∧ spec_l01Yard.l2 a0 t2 y11 k y18 y21 = some j536) k H hS ?_
 rintro k F w1 ⟨y18, y21, A19, c20, rfl, hS, H⟩
 rw [spec_l01Yard.l2] at H
 refine GO ?_
 refine oS (SL (CA.fld (hS.ca (i := 0) Z) (mid_part (fe_Pasture_0 _) (fl_Pasture_0 _) ((ci .i8).len _)))) ?_
 refine CP H (fun H => GO ?_) (fun H => ?_)
 refine CJ.block ?_
 refine GO ?_
 obtain ⟨t22, ht22, H⟩ := pbind H
 refine OJ.st Z Z Z (SR.idxA oU oI Z Z Z Z Z (Arr.lt ht22)) ?_
 obtain ⟨t23, ht23, H⟩ := pbind H
 refine OJ.st Z Z Z (SR.idxA oU oI Z Z Z Z Z (Arr.lt ht23)) ?_
 refine oS (SL (CA.idx (CA.idx (ce hS 0) ht22) ht23)) ?_
 refine CP H (fun H => GO ?_) (fun H => ?_)
 refine OJ.st Z Z Z (SR.build (C := cSpot) oU oI Z Z Z (zs := [.int .i8 0, .int .i8 0]) Z Z Z (⟨y21, y11⟩ : Spot) Z) ?_
 refine OF (EL hS cSpot ([(⟨y21, y11⟩ : Spot)] : List Spot)) ?_
 rintro _ w1 ⟨A24, rfl, hS⟩
 obtain ⟨u25, hu25, H⟩ := pbind H
 refine OW (AP hS 1 (rC hS 2 Z) (chk_some hu25)) ?_
 rintro _ w1 ⟨A26, c27, rfl, hS⟩
 exact MD H hS
 exact MD H hS
 exact MD H hS
 rintro F w1 ⟨y15, A16, c17, he, rfl, hS⟩
 obtain rfl := Option.some.inj he
 have H := K536
 refine EJ.blk (?_)
 exact MD H hS
 rintro F w1 ⟨y12, A13, c14, he, rfl, hS⟩
 obtain rfl := Option.some.inj he
 have H := K534
 exact MD H hS
 exact MD H hS
 rintro F w1 ⟨y5, A6, c7, he, rfl, hS⟩
 obtain rfl := Option.some.inj he
 have H := K527
 refine EJ.next ?_
 refine GO ?_
 obtain rfl := Option.some.inj H
 exact FT ⟨A6, c7, Z, hS.pick [0] [] Z⟩

def spec_l01Numbers.l3 (y26 : List (List Spot)) (t38 : List Spot) : Nat → (Arr 10 (Arr 10 Int)) → Int → Option (Arr 10 (Arr 10 Int))
  | 0, _, _ => none
  | k + 1, y47, y48 => if y48 < (t38.length : Int) then ((getI t38 y48).bind fun t49 => (getI t38 y48).bind fun t50 => (getI y47.l t49.Y).bind fun t51 => (getI t51.l t50.X).bind fun t52 => spec_l01Numbers.l3 y26 t38 k (aset y47 t49.Y.toNat (aset t51 t50.X.toNat ((y26 ++ [t38]).length : Int))) (IntKind.i64.wrap (y48 + 1))) else (some y47)
def spec_l01Numbers.l2 (a0 : Pasture) (y14 : Int) : Nat → (Arr 10 (Arr 10 Int)) → (List (List Spot)) → Int → Option ((Arr 10 (Arr 10 Int)) × (List (List Spot)))
  | 0, _, _, _ => none
  | k + 1, y25, y26, y30 => if y30 < a0.Wide then (((getI y25.l y14).bind fun t36 => (getI t36.l y30).bind fun t37 => if 0 < t37 then (some (y25, y26)) else ((spec_l01Yard.f k a0 (⟨y30, y14⟩ : Spot)).bind fun t38 => (chk (y26.length + [t38].length ≤ 4294967296)).bind fun u42 => (spec_l01Numbers.l3 y26 t38 k y25 0).bind fun y46 => some (y46, y26 ++ [t38]))).bind fun (y31, y32) => spec_l01Numbers.l2 a0 y14 k y31 y32 (IntKind.i8.wrap (y30 + 1))) else (some (y25, y26))
def spec_l01Numbers.l1 (a0 : Pasture) : Nat → (Arr 10 (Arr 10 Int)) → (List (List Spot)) → Int → Option ((Arr 10 (Arr 10 Int)) × (List (List Spot)))
  | 0, _, _, _ => none
  | k + 1, y9, y10, y14 => if y14 < a0.High then (((spec_l01Numbers.l2 a0 y14 k y9 y10 0).bind fun (y20, y21) => some (y20, y21)).bind fun (y15, y16) => spec_l01Numbers.l1 a0 k y15 y16 (IntKind.i8.wrap (y14 + 1))) else (some (y9, y10))
def spec_l01Numbers.f (k : Nat) (a0 : Pasture) : Option (Arr 10 (Arr 10 Int) × List (List Spot)) := (spec_l01Numbers.l1 a0 k (Arr.mk' (Arr.mk' 0 : Arr 10 Int) : Arr 10 (Arr 10 Int)) ([] : List (List Spot)) 0).bind fun (y4, y5) => some (y4, y5)
theorem spec_l01Numbers.c {k w} (pa0 : Addr) (a0 : Pasture) (hp0 : CA w pa0 (cPasture.enc a0)) (r : Arr 10 (Arr 10 Int) × List (List Spot)) (H : spec_l01Numbers.f k a0 = some r) :
 CV Tryz.prog 82 [.pointer (some pa0)].toArray w fun v w' => ∃ (A1 : Option Addr) (c1 : Nat) (D1 : List SH), v = .tuple #[.agg ((carr 10 (carr 10 (ci .i64))).enc r.1).toArray, sl A1 r.2 c1] ∧ St w no w' [rowsC cSpot A1 c1 66 63 D1 r.2] [] := by
 have hS := ((St.init w no).paramP pa0 (cPasture.enc a0) hp0)
 unfold spec_l01Numbers.f at H
 refine CV.body Tryz.func82 Z Tryz.ntmps82 Z ?_
 refine GO ?_
 refine OJ.ef rfl rfl rfl (Ef.alloc hS oI rfl rfl ((carr 10 (carr 10 (ci .i64))).enc (Arr.mk' (Arr.mk' 0 : Arr 10 Int) : Arr 10 (Arr 10 Int))) (by kernel_rfl)) ?_
 rintro _ w1 ⟨b1, rfl, hS⟩
 refine GO ?_
 refine OJ.st rfl rfl rfl (SR.buildA oU oI rfl rfl rfl rfl (zs := [.int .i64 0, i6 0, i6 0, i6 0, i6 0, i6 0, i6 0, i6 0, i6 0, i6 0, i6 0, i6 0, i6 0, i6 0, i6 0, i6 0, i6 0, i6 0, i6 0, i6 0, i6 0, i6 0, i6 0, i6 0, i6 0, i6 0, i6 0, i6 0, i6 0, i6 0, i6 0, i6 0, i6 0, i6 0, i6 0, i6 0, i6 0, i6 0, i6 0, i6 0, i6 0, i6 0, i6 0, i6 0, i6 0, i6 0, i6 0, i6 0, i6 0, i6 0, i6 0, i6 0, i6 0, i6 0, i6 0, i6 0, i6 0, i6 0, i6 0, i6 0, i6 0, i6 0, i6 0, i6 0, i6 0, i6 0, i6 0, i6 0, i6 0, i6 0, i6 0, i6 0, i6 0, i6 0, i6 0, i6 0, i6 0, i6 0, i6 0, i6 0, i6 0, i6 0, i6 0, i6 0, i6 0, i6 0, i6 0, i6 0, i6 0, i6 0, i6 0, i6 0, i6 0, i6 0, i6 0, i6 0, i6 0, i6 0, i6 0, i6 0]) rfl rfl ((carr 10 (carr 10 (ci .i64))).enc (Arr.mk' (Arr.mk' 0 : Arr 10 Int) : Arr 10 (Arr 10 Int))) (by kernel_rfl)) ?_
 refine OJ.ef rfl rfl rfl (Ef.alloc hS oI rfl rfl ((carr 10 (carr 10 (ci .i64))).enc (Arr.mk' (Arr.mk' 0 : Arr 10 Int) : Arr 10 (Arr 10 Int))) (by kernel_rfl)) ?_
 rintro _ w1 ⟨b2, rfl, hS⟩
 refine OJ.es rfl rfl (Es.put oI hS (i := 1) rfl rfl rfl rfl rfl (vs := (carr 10 (carr 10 (ci .i64))).enc (Arr.mk' (Arr.mk' 0 : Arr 10 Int) : Arr 10 (Arr 10 Int))) rfl ((carr 10 (carr 10 (ci .i64))).len _) ((carr 10 (carr 10 (ci .i64))).one _) (Put.all (carr 10 (carr 10 (ci .i64))) (Arr.mk' (Arr.mk' 0 : Arr 10 Int) : Arr 10 (Arr 10 Int)) (Arr.mk' (Arr.mk' 0 : Arr 10 Int) : Arr 10 (Arr 10 Int))) (by (try simp only [add_lit, Nat.add_assoc, Nat.zero_add, Nat.add_zero]) <;> rfl)) ?_
 intro w1 hS
 refine GO ?_
 refine OJ.ef Z Z Z (Ef.litS0 (e := 63) oU oI hS Z Z Z Z cSpot) ?_
 rintro _ w1 ⟨A3, rfl, hS⟩
 refine GO ?_
 obtain ⟨j512, H, K512⟩ := pbind H
 refine CJ.cut1 (fun F w1 => ∃ y4 y5 A6 c7 D8, some j512 = some (y4, y5) ∧ F = [(2, pt b1), (4, pt b2), (5, sl A6 y5 c7)] ∧ St w no w1 [box b1 ((carr 10 (carr 10 (ci .i64))).enc (Arr.mk' (Arr.mk' 0 : Arr 10 Int) : Arr 10 (Arr 10 Int))) 131, box b2 ((carr 10 (carr 10 (ci .i64))).enc y4) 131, rowsC cSpot A6 c7 66 63 D8 y5] [roP pa0 (cPasture.enc a0)]) ?_ ?_
 refine CJ.block ?_
 refine LQ (fun k F w1 => ∃ (y9 : Arr 10 (Arr 10 Int)) (y10 : List (List Spot)) (y14 : Int) (A11 c12 D13 : _), F = [(0, .pointer (some pa0)), (2, pt b1), (4, pt b2), (5, sl A11 y10 c12), (6, .int .i8 y14)] ∧ St w no w1 [box b1 ((carr 10 (carr 10 (ci .i64))).enc (Arr.mk' (Arr.mk' 0 : Arr 10 Int) : Arr 10 (Arr 10 Int))) 131, box b2 ((carr 10 (carr 10 (ci .i64))).enc y9) 131, rowsC cSpot A11 c12 66 63 D13 y10] [roP pa0 (cPasture.enc a0)] ∧ spec_l01Numbers.l1 a0 k y9 y10 y14 = some j512) k H hS ?_
 rintro k F w1 ⟨y9, y10, y14, A11, c12, D13, rfl, hS, H⟩
 rw [spec_l01Numbers.l1] at H
 refine GO ?_
 refine oS (SL (CA.fld (hS.ca (i := 0) Z) (mid_part (fe_Pasture_1 _) (fl_Pasture_1 _) ((ci .i8).len _)))) ?_
 refine CP H (fun H => ?_) (fun H => ?_)
 refine CJ.skip (EJ.next ?_)
 obtain ⟨j576, H, K576⟩ := pbind H
 refine CJ.cut (fun F w1 => ∃ y15 y16 A17 c18 D19, some j576 = some (y15, y16) ∧ F = [(0, .pointer (some pa0)), (2, pt b1), (4, pt b2), (5, sl A17 y16 c18), (6, .int .i8 y14)] ∧ St w no w1 [box b1 ((carr 10 (carr 10 (ci .i64))).enc (Arr.mk' (Arr.mk' 0 : Arr 10 Int) : Arr 10 (Arr 10 Int))) 131, box b2 ((carr 10 (carr 10 (ci .i64))).enc y15) 131, rowsC cSpot A17 c18 66 63 D19 y16] [roP pa0 (cPasture.enc a0)]) ?_ ?_
 refine CJ.block ?_
 refine GO ?_
 obtain ⟨j587, H, K587⟩ := pbind H
 refine CJ.cut1 (fun F w1 => ∃ y20 y21 A22 c23 D24, some j587 = some (y20, y21) ∧ F = [(0, .pointer (some pa0)), (2, pt b1), (4, pt b2), (5, sl A22 y21 c23), (6, .int .i8 y14)] ∧ St w no w1 [box b1 ((carr 10 (carr 10 (ci .i64))).enc (Arr.mk' (Arr.mk' 0 : Arr 10 Int) : Arr 10 (Arr 10 Int))) 131, box b2 ((carr 10 (carr 10 (ci .i64))).enc y20) 131, rowsC cSpot A22 c23 66 63 D24 y21] [roP pa0 (cPasture.enc a0)]) ?_ ?_
 refine CJ.block ?_
 refine LQ (fun k F w1 => ∃ (y25 : Arr 10 (Arr 10 Int)) (y26 : List (List Spot)) (y30 : Int) (A27 c28 D29 : _), F = [(0, .pointer (some pa0)), (2, pt b1), (4, pt b2), (5, sl A27 y26 c28), (6, .int .i8 y14), (7, .int .i8 y30)] ∧ St w no w1 [box b1 ((carr 10 (carr 10 (ci .i64))).enc (Arr.mk' (Arr.mk' 0 : Arr 10 Int) : Arr 10 (Arr 10 Int))) 131, box b2 ((carr 10 (carr 10 (ci .i64))).enc y25) 131, rowsC cSpot A27 c28 66 63 D29 y26] [roP pa0 (cPasture.enc a0)] ∧ spec_l01Numbers.l2 a0 y14 k y25 y26 y30 = some j587) k H hS ?_
 rintro k F w1 ⟨y25, y26, y30, A27, c28, D29, rfl, hS, H⟩
 rw [spec_l01Numbers.l2] at H
 refine GO ?_
 refine oS (SL (CA.fld (hS.ca (i := 0) Z) (mid_part (fe_Pasture_0 _) (fl_Pasture_0 _) ((ci .i8).len _)))) ?_
 refine CP H (fun H => ?_) (fun H => ?_)
 refine CJ.skip (EJ.next ?_)
 obtain ⟨j594, H, K594⟩ := pbind H
 refine CJ.cut (fun F w1 => ∃ y31 y32 A33 c34 D35, some j594 = some (y31, y32) ∧ F = [(0, .pointer (some pa0)), (2, pt b1), (4, pt b2), (5, sl A33 y32 c34), (6, .int .i8 y14), (7, .int .i8 y30)] ∧ St w no w1 [box b1 ((carr 10 (carr 10 (ci .i64))).enc (Arr.mk' (Arr.mk' 0 : Arr 10 Int) : Arr 10 (Arr 10 Int))) 131, box b2 ((carr 10 (carr 10 (ci .i64))).enc y31) 131, rowsC cSpot A33 c34 66 63 D35 y32] [roP pa0 (cPasture.enc a0)]) ?_ ?_
 refine CJ.block ?_
 refine GO ?_
 obtain ⟨t36, ht36, H⟩ := pbind H
 refine OJ.st Z Z Z (SR.idxA oU oI Z Z Z Z Z (Arr.lt ht36)) ?_
 obtain ⟨t37, ht37, H⟩ := pbind H
 refine OJ.st Z Z Z (SR.idxA oU oI Z Z Z Z Z (Arr.lt ht37)) ?_
 refine oS (SL (CA.idx (CA.idx (ce hS 1) ht36) ht37)) ?_
 refine CP H (fun H => ?_) (fun H => ?_)
 exact MD H hS
 refine GO ?_
 refine OJ.st Z Z Z (SR.build (C := cSpot) oU oI Z Z Z (zs := [.int .i8 0, .int .i8 0]) Z Z Z (⟨y30, y14⟩ : Spot) Z) ?_
 obtain ⟨t38, ht38, H⟩ := pbind H
 refine OC hb135 (spec_l01Yard.c _ a0 (hS.ca (i := 0) Z) (⟨y30, y14⟩ : Spot) _ ht38) ?_
 rintro _ w1 ⟨A39, c40, rfl, hs⟩
 replace hS := hS.addN hs
 refine GO ?_
 refine OJ.ef Z Z Z (Ef.litS1 (C := cSpot) oU oI hS (k := 3) Z Z Z Z Z Z) ?_
 rintro _ w1 ⟨A41, rfl, hS⟩
 obtain ⟨u42, hu42, H⟩ := pbind H
 have hdl := (hS.rowsRo (i := 2) rfl).1
 have dd45 := subD (D := D29) hdl (show ([(A39, c40)] : List SH)[0]? = _ from rfl)
 have xd45 := subD (D := y26) rfl (show ([t38] : List (List Spot))[0]? = _ from rfl)
 refine OJ.ew Z Z Z (Ew.appendS oU oI hS (i := 2) (j := 4) Z Z Z Z Z Z Z Z Z Z Z Z Z Z (chk_some hu42)) ?_
 rintro _ w1 ⟨A43, c44, rfl, hS⟩
 refine GO ?_
 obtain ⟨j596, H, K596⟩ := pbind H
 refine CJ.cut1 (fun F w1 => ∃ y46, some y46 = some j596 ∧ F = [(0, .pointer (some pa0)), (2, pt b1), (4, pt b2), (5, sl A43 (y26 ++ [t38]) c44), (6, .int .i8 y14), (7, .int .i8 y30)] ∧ St w no w1 [box b1 ((carr 10 (carr 10 (ci .i64))).enc (Arr.mk' (Arr.mk' 0 : Arr 10 Int) : Arr 10 (Arr 10 Int))) 131, box b2 ((carr 10 (carr 10 (ci .i64))).enc y46) 131, rowsC cSpot A43 c44 66 63 (D29 ++ [(A39, c40)]) (y26 ++ [t38])] [roP pa0 (cPasture.enc a0)]) ?_ ?_
 refine CJ.block ?_
 refine LQ (fun k F w1 => ∃ (y47 : Arr 10 (Arr 10 Int)) (y48 : Int), F = [(0, .pointer (some pa0)), (2, pt b1), (4, pt b2), (5, sl A43 (y26 ++ [t38]) c44), (6, .int .i8 y14), (7, .int .i8 y30), (8, sl A39 t38 c40), (9, i6 y48)] ∧ St w no w1 [box b1 ((carr 10 (carr 10 (ci .i64))).enc (Arr.mk' (Arr.mk' 0 : Arr 10 Int) : Arr 10 (Arr 10 Int))) 131, box b2 ((carr 10 (carr 10 (ci .i64))).enc y47) 131, rowsC cSpot A43 c44 66 63 (D29 ++ [(A39, c40)]) (y26 ++ [t38])] [roP pa0 (cPasture.enc a0)] ∧ spec_l01Numbers.l3 y26 t38 k y47 y48 = some j596) k H hS ?_
 rintro k F w1 ⟨y47, y48, rfl, hS, H⟩
 rw [spec_l01Numbers.l3] at H
 refine GO ?_
 refine CP H (fun H => GO ?_) (fun H => ?_)
 refine CJ.block ?_
 refine CJ.draw [] [0, 1, 2, 3, 4, 5, 6, 7, 8, 9, 10, 11, 12, 13, 14] mixed (by kernel_rfl) hS fun w1 hS => ?_
 refine GO ?_
 obtain ⟨t49, ht49, H⟩ := pbind H
 obtain ⟨ad49, e49⟩ := ((ros_sub (hS.rowsRo (i := 2) rfl) dd45 xd45)).some' ht49
 refine dS (SI e49 (getI_some ht49).1) ?_
 refine dS (SL (CA.sub ((ros_sub (hS.rowsRo (i := 2) Z) dd45 xd45).at_ e49 ht49) 1)) ?_
 obtain ⟨t50, ht50, H⟩ := pbind H
 obtain ⟨ad50, e50⟩ := ((ros_sub (hS.rowsRo (i := 2) rfl) dd45 xd45)).some' ht50
 refine dS (SI e50 (getI_some ht50).1) ?_
 refine dS (SL (CA.sub ((ros_sub (hS.rowsRo (i := 2) Z) dd45 xd45).at_ e50 ht50) 0)) ?_
 obtain ⟨t51, ht51, H⟩ := pbind H
 refine DJ.st Z Z Z Z Z (SR.idxA oU oI Z Z Z Z Z (Arr.lt ht51)) ?_
 obtain ⟨t52, ht52, H⟩ := pbind H
 refine DJ.st Z Z Z Z Z (SR.idxA oU oI Z Z Z Z Z (Arr.lt ht52)) ?_
 refine DJ.es rfl rfl rfl rfl (Es.put oI hS (i := 1) rfl rfl rfl rfl rfl (vs := (ci .i64).enc ((y26 ++ [t38]).length : Int)) rfl rfl (one1 rfl) (Put.idx (Put.idx (Put.all (ci .i64) t52 ((y26 ++ [t38]).length : Int)) ht52) ht51) (by (try simp only [add_lit, Nat.add_assoc, Nat.zero_add, Nat.add_zero]) <;> rfl)) ?_
 intro w1 hS
 exact MD H hS
 exact MD H hS
 rintro F w1 ⟨y46, he, rfl, hS⟩
 obtain rfl := Option.some.inj he
 have H := K596
 refine EJ.blk (?_)
 exact MD H hS
 rintro F w1 ⟨y31, y32, A33, c34, D35, ⟨⟩, rfl, hS⟩
 have H := K594
 exact MD H hS
 exact MD H hS
 rintro F w1 ⟨y20, y21, A22, c23, D24, ⟨⟩, rfl, hS⟩
 have H := K587
 refine EJ.blk (?_)
 exact MD H hS
 rintro F w1 ⟨y15, y16, A17, c18, D19, ⟨⟩, rfl, hS⟩
 have H := K576
 exact MD H hS
 exact MD H hS
 rintro F w1 ⟨y4, y5, A6, c7, D8, ⟨⟩, rfl, hS⟩
 have H := K512
 refine EJ.next ?_
 refine GO ?_
 refine oS (SE (ce hS 1)) ?_
 refine OJ.es rfl rfl (Es.put oI hS (i := 0) rfl rfl rfl rfl rfl (vs := (carr 10 (carr 10 (ci .i64))).enc y4) rfl ((carr 10 (carr 10 (ci .i64))).len _) ((carr 10 (carr 10 (ci .i64))).one _) (Put.all (carr 10 (carr 10 (ci .i64))) (Arr.mk' (Arr.mk' 0 : Arr 10 Int) : Arr 10 (Arr 10 Int)) y4) (by (try simp only [add_lit, Nat.add_assoc, Nat.zero_add, Nat.add_zero]) <;> rfl)) ?_
 intro w1 hS
 refine GO ?_
 obtain rfl := Option.some.inj H
 exact EJ.fin Z (.cell Z (ldE oU oI Z Z Z (hS.cells (i := 0) Z) Z) (.tmp Z .nil)) ⟨A6, c7, D8, Z, hS.pick [2] [] Z⟩

def spec_YardsOf.f (k : Nat) (a0 : Pasture) : Option (List (List Spot) × Int) := (spec_l01Ok.f k a0).bind fun t2 => if (!t2) = true then (some (([] : List (List Spot)), 1)) else ((spec_l01Numbers.f k a0).bind fun t4 => some (t4.2, 0))
theorem spec_YardsOf.c {k w} (a0 : Pasture) (r : List (List Spot) × Int) (H : spec_YardsOf.f k a0 = some r) :
 CV Tryz.prog 29 [.agg (cPasture.enc a0).toArray].toArray w fun v w' => ∃ (A0 : Option Addr) (c0 : Nat) (D0 : List SH), v = .tuple #[sl A0 r.1 c0, i6 r.2] ∧ St w no w' [rowsC cSpot A0 c0 66 63 D0 r.1] [] := by
 have hS := (St.init w no)
 unfold spec_YardsOf.f at H
 refine CV.body Tryz.func29 Z Tryz.ntmps29 Z ?_
 refine GO ?_
 refine oX hS (cPasture.enc a0) fun b1 w1 hS => ?_
 refine oB H hS hb74 (spec_l01Ok.c _ a0 (hS.cells (i := 0) Z)) fun t2 w1 H hS => ?_
 refine CB H (fun H => GO ?_) (fun H => ?_)
 refine OJ.ef Z Z Z (Ef.litS0 (e := 63) oU oI hS Z Z Z Z cSpot) ?_
 rintro _ w1 ⟨A3, rfl, hS⟩
 refine GO ?_
 obtain rfl := Option.some.inj H
 exact EJ.fin Z (.tmp Z (.tmp Z .nil)) ⟨A3, (([] : List (List Spot)).length), [], Z, hS.pick [1] [] Z⟩
 refine GO ?_
 obtain ⟨t4, ht4, H⟩ := pbind H
 refine OC hb82 (spec_l01Numbers.c _ a0 (hS.cells (i := 0) Z) _ ht4) ?_
 rintro _ w1 ⟨A5, c6, D7, rfl, hs⟩
 replace hS := hS.addN hs
 refine GO ?_
 refine OJ.ef rfl rfl rfl (Ef.alloc hS oI rfl rfl ((carr 10 (carr 10 (ci .i64))).enc (Arr.mk' (Arr.mk' 0 : Arr 10 Int) : Arr 10 (Arr 10 Int))) (by kernel_rfl)) ?_
 rintro _ w1 ⟨b8, rfl, hS⟩
 refine OJ.es rfl rfl (Es.put oI hS (i := 2) rfl rfl rfl rfl rfl (vs := (carr 10 (carr 10 (ci .i64))).enc t4.1) rfl ((carr 10 (carr 10 (ci .i64))).len _) ((carr 10 (carr 10 (ci .i64))).one _) (Put.all (carr 10 (carr 10 (ci .i64))) (Arr.mk' (Arr.mk' 0 : Arr 10 Int) : Arr 10 (Arr 10 Int)) t4.1) (by (try simp only [add_lit, Nat.add_assoc, Nat.zero_add, Nat.add_zero]) <;> rfl)) ?_
 intro w1 hS
 refine GO ?_
 obtain rfl := Option.some.inj H
 exact EJ.fin Z (.tmp Z (.tmp Z .nil)) ⟨A5, c6, D7, Z, hS.pick [1] [] Z⟩

def spec_A2HasSpot.l1 (a0 : List Spot) (a1 : Spot) : Nat → Int → Option (Bool ⊕ Unit)
  | 0, _ => none
  | k + 1, y2 => if y2 < (a0.length : Int) then ((getI a0 y2).bind fun t3 => if t3 = a1 then (some (Sum.inl true)) else (spec_A2HasSpot.l1 a0 a1 k (IntKind.i64.wrap (y2 + 1)))) else (some (Sum.inr ()))
def spec_A2HasSpot.f (k : Nat) (a0 : List Spot) (a1 : Spot) : Option Bool := (spec_A2HasSpot.l1 a0 a1 k 0).bind fun s597 => match s597 with | .inl r => some r | .inr _ => some false
theorem spec_A2HasSpot.c {k w Aa0 ca0} {a0 : List Spot} (hr0 : Rd cSpot w Aa0 a0) (hc0 : a0.length ≤ ca0) (a1 : Spot) (r : Bool) (H : spec_A2HasSpot.f k a0 a1 = some r) :
 CV Tryz.prog 30 [sl Aa0 a0 ca0, .agg (cSpot.enc a1).toArray].toArray w fun v w' => v = .bool r ∧ Ext w w' := by
 have hS := ((St.init w no).param cSpot Aa0 ca0 a0 hr0 hc0)
 unfold spec_A2HasSpot.f at H
 refine CV.body Tryz.func30 Z Tryz.ntmps30 Z ?_
 refine GO ?_
 refine oX hS (cSpot.enc a1) fun b1 w1 hS => ?_
 obtain ⟨j597, H, K597⟩ := pbind H
 refine CJ.cut1 (fun F w1 => some j597 = some (Sum.inr ()) ∧ F = [] ∧ St w no w1 [] [roC cSpot Aa0 ca0 a0]) ?_ ?_
 refine CJ.block ?_
 refine LQ (fun k F w1 => ∃ (y2 : Int), F = [(0, sl Aa0 a0 ca0), (3, pt b1), (5, i6 y2)] ∧ St w no w1 [box b1 (cSpot.enc a1) 63] [roC cSpot Aa0 ca0 a0] ∧ spec_A2HasSpot.l1 a0 a1 k y2 = some j597) k H hS ?_
 rintro k F w1 ⟨y2, rfl, hS, H⟩
 rw [spec_A2HasSpot.l1] at H
 refine GO ?_
 refine CP H (fun H => GO ?_) (fun H => ?_)
 refine CJ.block ?_
 refine GO ?_
 refine CJ.draw [] [0, 1, 2, 3, 4, 5] mixed (by kernel_rfl) hS fun w1 hS => ?_
 refine GO ?_
 obtain ⟨t3, ht3, H⟩ := pbind H
 obtain ⟨ad3, e3⟩ := (rA hS 0 Z).some' ht3
 refine DS (SI e3 (getI_some ht3).1) ?_
 refine DS (SE ((rA hS 0 Z).at_ e3 ht3)) ?_
 refine DS (SE (ce hS 0)) ?_
 refine DJ.st Z Z Z Z Z (SR.eqS eqT63 eqG63 Z Z Z (Z : _ = (cSpot.enc t3).toArray) (Z : _ = (cSpot.enc a1).toArray)) ?_
 refine GO ?_
 refine CP H (fun H => GO ?_) (fun H => ?_)
 obtain rfl := Option.some.inj H; have H := K597
 exact FE H hS
 exact MD H hS
 exact MD H hS
 rintro F w1 ⟨⟨⟩, rfl, hS⟩
 have H := K597
 refine EJ.next ?_
 exact FE H hS
end Go.Proofs.YtplfdbfdalaefaaGreatDoor
