/-
  What the functions come to.
-/
import Derived.Test.YtokanemjghfadaaGreatDoorGP0
namespace Go.Proofs.YtokanemjghfadaaGreatDoor
open G
set_option linter.unusedVariables false
set_option linter.unusedSimpArgs false
set_option maxRecDepth 100000
set_option maxHeartbeats 4000000
def impl_ValidPasture.l2 (a0 : Pasture) (y5 : Int) : Nat → Int → Int → Int → Option (((Bool ⊕ Unit) ⊕ Unit) ⊕ (Int × Int))
  | 0, _, _, _ => none
  | k + 1, y8, y9, y10 => if y10 < 10 then ((impl_Pasture_isCell.f a0 (⟨IntKind.i8.wrap y10, IntKind.i8.wrap y5⟩ : Spot)).bind fun t11 => if t11 = true then ((impl_Pasture_isCell.f a0 (⟨IntKind.i8.wrap (IntKind.i64.wrap (y10 + 1)), IntKind.i8.wrap y5⟩ : Spot)).bind fun t12 => (impl_bit.f t12).bind fun t13 => (chk (0 ≤ y10)).bind fun u14 => (impl_Pasture_isCell.f a0 (⟨IntKind.i8.wrap y10, IntKind.i8.wrap (IntKind.i64.wrap (y5 + 1))⟩ : Spot)).bind fun t15 => (impl_bit.f t15).bind fun t16 => (chk (0 ≤ y10)).bind fun u17 => (getI a0.Grass.l y5).bind fun t18 => (getI t18.l y10).bind fun t19 => (impl_within.f (IntKind.i64.wrap t19) 0 1000).bind fun t20 => if (!t20) = true then (some (Sum.inl (Sum.inl (Sum.inl false)))) else (impl_ValidPasture.l2 a0 y5 k (orI .u16 y8 (shlI .u16 (IntKind.u16.wrap t13) y10)) (orI .u16 y9 (shlI .u16 (IntKind.u16.wrap t16) y10)) (IntKind.i64.wrap (y10 + 1)))) else ((getI a0.Grass.l y5).bind fun t21 => (getI t21.l y10).bind fun t22 => (impl_within.f (IntKind.i64.wrap t22) 0 0).bind fun t23 => if (!t23) = true then (some (Sum.inl (Sum.inl (Sum.inl false)))) else (impl_ValidPasture.l2 a0 y5 k y8 y9 (IntKind.i64.wrap (y10 + 1))))) else (some (Sum.inr (y8, y9)))
def impl_ValidPasture.l1 (a0 : Pasture) : Nat → Int → Option (Bool ⊕ Unit)
  | 0, _ => none
  | k + 1, y5 => if y5 < 10 then (((impl_ValidPasture.l2 a0 y5 k 0 0 0).bind fun s89 => match s89 with | .inl r => some r | .inr (y6, y7) => (getI a0.East.l y5).bind fun t24 => if (andNotI .u16 t24 y6) ≠ 0 then (some (Sum.inl (Sum.inl false))) else ((getI a0.South.l y5).bind fun t25 => if (andNotI .u16 t25 y7) ≠ 0 then (some (Sum.inl (Sum.inl false))) else (some (Sum.inr ())))).bind fun s87 => match s87 with | .inl r => some r | .inr _ => impl_ValidPasture.l1 a0 k (IntKind.i64.wrap (y5 + 1))) else (some (Sum.inr ()))
def impl_ValidPasture.f (k : Nat) (a0 : Pasture) : Option Bool := ((impl_within.f (IntKind.i64.wrap a0.Wide) 1 10).bind fun t3 => if (!t3) = true then (some true) else ((impl_within.f (IntKind.i64.wrap a0.High) 1 10).bind fun t4 => some (!t4))).bind fun y2 => if y2 = true then (some false) else ((impl_ValidPasture.l1 a0 k 0).bind fun s80 => match s80 with | .inl r => some r | .inr _ => some true)
theorem impl_ValidPasture.c (k : Nat) (w : World) (a0 : Pasture) (r : Bool) (H : impl_ValidPasture.f k a0 = some r) :
 CV Tryz.prog 50 [.agg (cPasture.enc a0).toArray].toArray w fun v w' => v = .bool r ∧ Ext w w' := by
 have hS := (St.init w no)
 unfold impl_ValidPasture.f at H
 refine CV.body Tryz.func50 Z Tryz.ntmps50 Z ?_
 refine CJ.seq (CJ.region ?_)
 refine OJ.ef Z Z Z (Ef.box hS Z Z (cPasture.enc a0) Z) ?_
 rintro _ w1 ⟨b1, rfl, hS⟩
 refine OJ.pures oU 1 Z (OJ.nil (EJ.next ?_))
 refine CJ.seq ?_
 obtain ⟨j79, H, K79⟩ := pbind H
 refine CJ.cut (fun F w1 => ∃ (y2 : Bool) , (some y2 : Option Bool) = some j79 ∧ F = [(1, .pointer (some ⟨b1, 0, none⟩)), (19, .bool y2)] ∧ St w no w1 [box b1 (cPasture.enc a0) 31] []) ?_ ?_
 ·skip
  refine CJ.region ?_
  refine OJ.st Z Z Z (SR.fieldAddr oU oI Z Z Z Z Z Z) ?_
  refine OJ.st Z Z Z (SR.load Z Z (fun w' hx => ld1 oU Z Z (CA.ext (CA.fld (hS.cells (i := 0) Z) (mid_part (fe_Pasture_0 _) (fl_Pasture_0 _) ((ci .i8).len _))) hx) Z)) ?_
  refine OJ.pures oU 1 Z ?_
  obtain ⟨t3, ht3, H⟩ := pbind H
  refine OJ.callF Z Z Z Z Z hb74 Z (impl_within.c _ (IntKind.i64.wrap a0.Wide) 1 10 _ ht3) ?_
  rintro _ w1 ⟨rfl, hs⟩
  replace hS := hS.grow hs
  refine OJ.pures oU 2 Z ?_
  refine OJ.split (t := 13) Z (fun hb => ?_) (fun hb => ?_)
  ·replace H := pif_t hb H
   refine OJ.pures oU 6 Z ?_
   refine OJ.nil ?_
   exact EJ.meet (F' := [(1, .pointer (some ⟨b1, 0, none⟩)), (19, .bool true)]) ⟨Z, Z, trivial⟩ ⟨true, H, Z, hS.pick [0] [] Z⟩
  replace H := pifb_f hb H
  refine OJ.st Z Z Z (SR.fieldAddr oU oI Z Z Z Z Z Z) ?_
  refine OJ.st Z Z Z (SR.load Z Z (fun w' hx => ld1 oU Z Z (CA.ext (CA.fld (hS.cells (i := 0) Z) (mid_part (fe_Pasture_1 _) (fl_Pasture_1 _) ((ci .i8).len _))) hx) Z)) ?_
  refine OJ.pures oU 1 Z ?_
  obtain ⟨t4, ht4, H⟩ := pbind H
  refine OJ.callF Z Z Z Z Z hb74 Z (impl_within.c _ (IntKind.i64.wrap a0.High) 1 10 _ ht4) ?_
  rintro _ w1 ⟨rfl, hs⟩
  replace hS := hS.grow hs
  refine OJ.pures oU 2 Z ?_
  refine OJ.nil ?_
  exact EJ.meet (F' := [(1, .pointer (some ⟨b1, 0, none⟩)), (19, .bool (!t4))]) ⟨Z, Z, trivial⟩ ⟨(!t4), H, Z, hS.pick [0] [] Z⟩
 rintro F w1 ⟨y2, he, rfl, hS⟩
 obtain rfl := Option.some.inj he
 have H := K79
 refine CJ.cond Z (fun hb => ?_) (fun hb => ?_)
 ·replace H := pif_t hb H
  refine CJ.seq (CJ.region ?_)
  refine OJ.pures oU 1 Z (OJ.nil (EJ.next ?_))
  refine CJ.ret (EJ.skR (?_))
  obtain rfl := Option.some.inj H
  exact EJ.fin Z (.tmp Z .nil) ⟨Z, hS.ext⟩
 replace H := pifb_f hb H
 refine CJ.skip (EJ.next ?_)
 refine CJ.seq ?_
 refine CJ.seq (CJ.region ?_)
 refine OJ.pures oU 1 Z (OJ.nil (EJ.next ?_))
 obtain ⟨j80, H, K80⟩ := pbind H
 refine CJ.cut1 (fun F w1 => (some (Sum.inr ()) : Option (Bool ⊕ Unit)) = some j80 ∧ F = [] ∧ St w no w1 [] []) ?_ ?_
 ·skip
  refine CJ.block ?_
  refine CJ.loop (fun k F w1 => ∃ (y5 : Int), F = [(1, .pointer (some ⟨b1, 0, none⟩)), (20, .int .i64 y5)] ∧ St w no w1 [box b1 (cPasture.enc a0) 31] [] ∧ impl_ValidPasture.l1 a0 k y5 = some j80) k (F' := [(1, .pointer (some ⟨b1, 0, none⟩)), (20, .int .i64 0)]) ⟨Z, Z, trivial⟩ ⟨0, Z, hS.pick [0] [] Z, H⟩ ?_
  rintro k F w1 ⟨y5, rfl, hS, H⟩
  cases k with
  | zero => rw [impl_ValidPasture.l1] at H; cases H
  | succ k =>
    rw [impl_ValidPasture.l1] at H
    refine CJ.seq (CJ.region ?_)
    refine OJ.pures oU 1 Z (OJ.nil (EJ.next ?_))
    refine CJ.seq ?_
    refine CJ.cond Z (fun hb => ?_) (fun hb => ?_)
    · replace H := pif_t (of_decide_eq_true hb) H
      refine CJ.skip (EJ.next ?_)
      obtain ⟨j87, H, K87⟩ := pbind H
      refine CJ.cut (fun F w1 => (some (Sum.inr ()) : Option ((Bool ⊕ Unit) ⊕ Unit)) = some j87 ∧ F = [(1, .pointer (some ⟨b1, 0, none⟩)), (20, .int .i64 y5)] ∧ St w no w1 [box b1 (cPasture.enc a0) 31] []) ?_ ?_
      · skip
        refine CJ.block ?_
        refine CJ.seq (CJ.region ?_)
        refine OJ.pures oU 2 Z (OJ.nil (EJ.next ?_))
        refine CJ.seq (CJ.region ?_)
        refine OJ.pures oU 2 Z (OJ.nil (EJ.next ?_))
        refine CJ.seq ?_
        refine CJ.seq (CJ.region ?_)
        refine OJ.pures oU 1 Z (OJ.nil (EJ.next ?_))
        obtain ⟨j89, H, K89⟩ := pbind H
        refine CJ.cut1 (fun F w1 => ∃ (y6 : Int) (y7 : Int) , (some (Sum.inr (y6, y7)) : Option (((Bool ⊕ Unit) ⊕ Unit) ⊕ (Int × Int))) = some j89 ∧ F = [(1, .pointer (some ⟨b1, 0, none⟩)), (3, .int .i64 y5), (4, .int .u16 y6), (5, .int .u16 y7), (20, .int .i64 y5)] ∧ St w no w1 [box b1 (cPasture.enc a0) 31] []) ?_ ?_
        · skip
          refine CJ.block ?_
          refine CJ.loop (fun k F w1 => ∃ (y8 : Int) (y9 : Int) (y10 : Int), F = [(1, .pointer (some ⟨b1, 0, none⟩)), (3, .int .i64 y5), (4, .int .u16 y8), (5, .int .u16 y9), (20, .int .i64 y5), (23, .int .i64 y10)] ∧ St w no w1 [box b1 (cPasture.enc a0) 31] [] ∧ impl_ValidPasture.l2 a0 y5 k y8 y9 y10 = some j89) k (F' := [(1, .pointer (some ⟨b1, 0, none⟩)), (3, .int .i64 y5), (4, .int .u16 0), (5, .int .u16 0), (20, .int .i64 y5), (23, .int .i64 0)]) ⟨Z, Z, Z, Z, Z, Z, trivial⟩ ⟨0, 0, 0, Z, hS.pick [0] [] Z, H⟩ ?_
          rintro k F w1 ⟨y8, y9, y10, rfl, hS, H⟩
          cases k with
          | zero => rw [impl_ValidPasture.l2] at H; cases H
          | succ k =>
            rw [impl_ValidPasture.l2] at H
            refine CJ.seq (CJ.region ?_)
            refine OJ.pures oU 1 Z (OJ.nil (EJ.next ?_))
            refine CJ.seq ?_
            refine CJ.cond Z (fun hb => ?_) (fun hb => ?_)
            · replace H := pif_t (of_decide_eq_true hb) H
              refine CJ.skip (EJ.next ?_)
              refine CJ.seq ?_
              refine CJ.block ?_
              refine CJ.seq (CJ.region ?_)
              refine OJ.pures oU 2 Z (OJ.nil (EJ.next ?_))
              refine CJ.seq (CJ.region ?_)
              refine OJ.pures oU 1 Z (OJ.nil (EJ.next ?_))
              refine CJ.seq ?_
              refine CJ.seq (CJ.region ?_)
              refine OJ.st Z Z Z (SR.load Z Z (fun w' hx => ldE oU oI Z Z Z (CA.ext (hS.cells (i := 0) Z) hx) Z)) ?_
              refine OJ.pures oU 4 Z ?_
              refine OJ.st Z Z Z (SR.build (C := cSpot) oU oI Z Z Z (zs := [.int .i8 0, .int .i8 0]) Z Z Z (⟨IntKind.i8.wrap y10, IntKind.i8.wrap y5⟩ : Spot) Z) ?_
              obtain ⟨t11, ht11, H⟩ := pbind H
              refine OJ.callF Z Z Z Z Z hb56 Z (impl_Pasture_isCell.c _ a0 (⟨IntKind.i8.wrap y10, IntKind.i8.wrap y5⟩ : Spot) _ ht11) ?_
              rintro _ w1 ⟨rfl, hs⟩
              replace hS := hS.grow hs
              refine OJ.nil (EJ.next ?_)
              refine CJ.cond Z (fun hb => ?_) (fun hb => ?_)
              · replace H := pif_t hb H
                refine CJ.seq (CJ.region ?_)
                refine OJ.pures oU 1 Z (OJ.nil (EJ.next ?_))
                refine CJ.seq (CJ.region ?_)
                refine OJ.pures oU 1 Z ?_
                refine OJ.st Z Z Z (SR.load Z Z (fun w' hx => ldE oU oI Z Z Z (CA.ext (hS.cells (i := 0) Z) hx) Z)) ?_
                refine OJ.pures oU 5 Z ?_
                refine OJ.st Z Z Z (SR.build (C := cSpot) oU oI Z Z Z (zs := [.int .i8 0, .int .i8 0]) Z Z Z (⟨IntKind.i8.wrap (IntKind.i64.wrap (y10 + 1)), IntKind.i8.wrap y5⟩ : Spot) Z) ?_
                obtain ⟨t12, ht12, H⟩ := pbind H
                refine OJ.callF Z Z Z Z Z hb56 Z (impl_Pasture_isCell.c _ a0 (⟨IntKind.i8.wrap (IntKind.i64.wrap (y10 + 1)), IntKind.i8.wrap y5⟩ : Spot) _ ht12) ?_
                rintro _ w1 ⟨rfl, hs⟩
                replace hS := hS.grow hs
                obtain ⟨t13, ht13, H⟩ := pbind H
                refine OJ.callF Z Z Z Z Z hb99 Z (impl_bit.c _ t12 _ ht13) ?_
                rintro _ w1 ⟨rfl, hs⟩
                replace hS := hS.grow hs
                refine OJ.pures oU 2 Z ?_
                obtain ⟨u14, hu14, H⟩ := pbind H
                refine OJ.st Z Z Z (SR.shl Z Z Z (chk_some hu14)) ?_
                refine OJ.pures oU 2 Z (OJ.nil (EJ.next ?_))
                refine CJ.region ?_
                refine OJ.pures oU 1 Z ?_
                refine OJ.st Z Z Z (SR.load Z Z (fun w' hx => ldE oU oI Z Z Z (CA.ext (hS.cells (i := 0) Z) hx) Z)) ?_
                refine OJ.pures oU 5 Z ?_
                refine OJ.st Z Z Z (SR.build (C := cSpot) oU oI Z Z Z (zs := [.int .i8 0, .int .i8 0]) Z Z Z (⟨IntKind.i8.wrap y10, IntKind.i8.wrap (IntKind.i64.wrap (y5 + 1))⟩ : Spot) Z) ?_
                obtain ⟨t15, ht15, H⟩ := pbind H
                refine OJ.callF Z Z Z Z Z hb56 Z (impl_Pasture_isCell.c _ a0 (⟨IntKind.i8.wrap y10, IntKind.i8.wrap (IntKind.i64.wrap (y5 + 1))⟩ : Spot) _ ht15) ?_
                rintro _ w1 ⟨rfl, hs⟩
                replace hS := hS.grow hs
                obtain ⟨t16, ht16, H⟩ := pbind H
                refine OJ.callF Z Z Z Z Z hb99 Z (impl_bit.c _ t15 _ ht16) ?_
                rintro _ w1 ⟨rfl, hs⟩
                replace hS := hS.grow hs
                refine OJ.pures oU 2 Z ?_
                obtain ⟨u17, hu17, H⟩ := pbind H
                refine OJ.st Z Z Z (SR.shl Z Z Z (chk_some hu17)) ?_
                refine OJ.pures oU 2 Z (OJ.nil (EJ.next ?_))
                refine CJ.seq (CJ.region ?_)
                refine OJ.pures oU 2 Z ?_
                refine OJ.st Z Z Z (SR.fieldAddr oU oI Z Z Z Z Z Z) ?_
                obtain ⟨t18, ht18, H⟩ := pbind H
                refine OJ.st Z Z Z (SR.idxA oU oI Z Z Z Z Z (Arr.lt ht18)) ?_
                obtain ⟨t19, ht19, H⟩ := pbind H
                refine OJ.st Z Z Z (SR.idxA oU oI Z Z Z Z Z (Arr.lt ht19)) ?_
                refine OJ.st Z Z Z (SR.load Z Z (fun w' hx => ld1 oU Z Z (CA.ext (CA.idx (CA.idx (CA.fld (hS.cells (i := 0) Z) (mid_part (fe_Pasture_2 _) (fl_Pasture_2 _) ((carr 10 (carr 10 (ci .i16))).len _))) ht18) ht19) hx) Z)) ?_
                refine OJ.pures oU 2 Z ?_
                obtain ⟨t20, ht20, H⟩ := pbind H
                refine OJ.callF Z Z Z Z Z hb74 Z (impl_within.c _ (IntKind.i64.wrap t19) 0 1000 _ ht20) ?_
                rintro _ w1 ⟨rfl, hs⟩
                replace hS := hS.grow hs
                refine OJ.pures oU 1 Z (OJ.nil (EJ.next ?_))
                refine CJ.cond Z (fun hb => ?_) (fun hb => ?_)
                · replace H := pif_t hb H
                  refine CJ.seq (CJ.region ?_)
                  refine OJ.pures oU 1 Z (OJ.nil (EJ.next ?_))
                  refine CJ.ret (EJ.bkR (EJ.skR (EJ.skR (EJ.bkR (EJ.skR (EJ.skR (EJ.bkR (EJ.skR (EJ.skR (EJ.bkR (EJ.skR (EJ.skR (?_)))))))))))))
                  first | (obtain rfl := Option.some.inj H; have H := K89) | (obtain ⟨q89, H2, e89⟩ := pbind H; obtain rfl := Option.some.inj e89; obtain rfl := Option.some.inj K89; have H := H2)
                  first | (obtain rfl := Option.some.inj H; have H := K87) | (obtain ⟨q87, H2, e87⟩ := pbind H; obtain rfl := Option.some.inj e87; obtain rfl := Option.some.inj K87; have H := H2)
                  first | (obtain rfl := Option.some.inj H; have H := K80) | (obtain ⟨q80, H2, e80⟩ := pbind H; obtain rfl := Option.some.inj e80; obtain rfl := Option.some.inj K80; have H := H2)
                  obtain rfl := Option.some.inj H
                  exact EJ.fin Z (.tmp Z .nil) ⟨Z, hS.ext⟩
                · replace H := pifb_f hb H
                  refine CJ.skip (EJ.blk (EJ.next ?_))
                  refine CJ.region ?_
                  refine OJ.pures oU 2 Z ?_
                  refine OJ.nil ?_
                  exact EJ.round k (F' := [(1, .pointer (some ⟨b1, 0, none⟩)), (3, .int .i64 y5), (4, .int .u16 (orI .u16 y8 (shlI .u16 (IntKind.u16.wrap t13) y10))), (5, .int .u16 (orI .u16 y9 (shlI .u16 (IntKind.u16.wrap t16) y10))), (20, .int .i64 y5), (23, .int .i64 (IntKind.i64.wrap (y10 + 1)))]) ⟨Z, Z, Z, Z, Z, Z, trivial⟩ (Nat.lt_succ_self _) ⟨(orI .u16 y8 (shlI .u16 (IntKind.u16.wrap t13) y10)), (orI .u16 y9 (shlI .u16 (IntKind.u16.wrap t16) y10)), (IntKind.i64.wrap (y10 + 1)), Z, hS.pick [0] [] Z, H⟩
              · replace H := pifb_f hb H
                refine CJ.skip (EJ.next ?_)
                refine CJ.seq (CJ.region ?_)
                refine OJ.pures oU 2 Z ?_
                refine OJ.st Z Z Z (SR.fieldAddr oU oI Z Z Z Z Z Z) ?_
                obtain ⟨t21, ht21, H⟩ := pbind H
                refine OJ.st Z Z Z (SR.idxA oU oI Z Z Z Z Z (Arr.lt ht21)) ?_
                obtain ⟨t22, ht22, H⟩ := pbind H
                refine OJ.st Z Z Z (SR.idxA oU oI Z Z Z Z Z (Arr.lt ht22)) ?_
                refine OJ.st Z Z Z (SR.load Z Z (fun w' hx => ld1 oU Z Z (CA.ext (CA.idx (CA.idx (CA.fld (hS.cells (i := 0) Z) (mid_part (fe_Pasture_2 _) (fl_Pasture_2 _) ((carr 10 (carr 10 (ci .i16))).len _))) ht21) ht22) hx) Z)) ?_
                refine OJ.pures oU 2 Z ?_
                obtain ⟨t23, ht23, H⟩ := pbind H
                refine OJ.callF Z Z Z Z Z hb74 Z (impl_within.c _ (IntKind.i64.wrap t22) 0 0 _ ht23) ?_
                rintro _ w1 ⟨rfl, hs⟩
                replace hS := hS.grow hs
                refine OJ.pures oU 1 Z (OJ.nil (EJ.next ?_))
                refine CJ.cond Z (fun hb => ?_) (fun hb => ?_)
                · replace H := pif_t hb H
                  refine CJ.seq (CJ.region ?_)
                  refine OJ.pures oU 1 Z (OJ.nil (EJ.next ?_))
                  refine CJ.ret (EJ.bkR (EJ.skR (EJ.skR (EJ.bkR (EJ.skR (EJ.skR (EJ.bkR (EJ.skR (EJ.skR (EJ.bkR (EJ.skR (EJ.skR (?_)))))))))))))
                  first | (obtain rfl := Option.some.inj H; have H := K89) | (obtain ⟨q89, H2, e89⟩ := pbind H; obtain rfl := Option.some.inj e89; obtain rfl := Option.some.inj K89; have H := H2)
                  first | (obtain rfl := Option.some.inj H; have H := K87) | (obtain ⟨q87, H2, e87⟩ := pbind H; obtain rfl := Option.some.inj e87; obtain rfl := Option.some.inj K87; have H := H2)
                  first | (obtain rfl := Option.some.inj H; have H := K80) | (obtain ⟨q80, H2, e80⟩ := pbind H; obtain rfl := Option.some.inj e80; obtain rfl := Option.some.inj K80; have H := H2)
                  obtain rfl := Option.some.inj H
                  exact EJ.fin Z (.tmp Z .nil) ⟨Z, hS.ext⟩
                · replace H := pifb_f hb H
                  refine CJ.skip (EJ.blk (EJ.next ?_))
                  refine CJ.region ?_
                  refine OJ.pures oU 2 Z ?_
                  refine OJ.nil ?_
                  exact EJ.round k (F' := [(1, .pointer (some ⟨b1, 0, none⟩)), (3, .int .i64 y5), (4, .int .u16 y8), (5, .int .u16 y9), (20, .int .i64 y5), (23, .int .i64 (IntKind.i64.wrap (y10 + 1)))]) ⟨Z, Z, Z, Z, Z, Z, trivial⟩ (Nat.lt_succ_self _) ⟨y8, y9, (IntKind.i64.wrap (y10 + 1)), Z, hS.pick [0] [] Z, H⟩
            · replace H := pif_f (of_decide_eq_false hb) H
              refine CJ.exit (EJ.skE (EJ.skE (EJ.hit (?_))))
              exact EJ.meet (F' := [(1, .pointer (some ⟨b1, 0, none⟩)), (3, .int .i64 y5), (4, .int .u16 y8), (5, .int .u16 y9), (20, .int .i64 y5)]) ⟨Z, Z, Z, Z, Z, trivial⟩ ⟨y8, y9, H, Z, hS.pick [0] [] Z⟩
        · rintro F w1 ⟨y6, y7, he, rfl, hS⟩
          obtain rfl := Option.some.inj he
          have H := K89
          refine EJ.next ?_
          refine CJ.seq (CJ.region ?_)
          refine OJ.pures oU 1 Z ?_
          refine OJ.st Z Z Z (SR.fieldAddr oU oI Z Z Z Z Z Z) ?_
          obtain ⟨t24, ht24, H⟩ := pbind H
          refine OJ.st Z Z Z (SR.idxA oU oI Z Z Z Z Z (Arr.lt ht24)) ?_
          refine OJ.st Z Z Z (SR.load Z Z (fun w' hx => ld1 oU Z Z (CA.ext (CA.idx (CA.fld (hS.cells (i := 0) Z) (mid_part (fe_Pasture_3 _) (fl_Pasture_3 _) ((carr 10 (ci .u16)).len _))) ht24) hx) Z)) ?_
          refine OJ.pures oU 4 Z ?_
          refine OJ.split (t := 79) Z (fun hb => ?_) (fun hb => ?_)
          · replace H := pif_t (of_decide_eq_true hb) H
            refine OJ.pures oU 8 Z (OJ.nil (EJ.next ?_))
            refine CJ.condT Z ?_
            refine CJ.seq (CJ.region ?_)
            refine OJ.pures oU 1 Z (OJ.nil (EJ.next ?_))
            refine CJ.ret (EJ.bkR (EJ.skR (EJ.skR (EJ.bkR (EJ.skR (EJ.skR (?_)))))))
            first | (obtain rfl := Option.some.inj H; have H := K87) | (obtain ⟨q87, H2, e87⟩ := pbind H; obtain rfl := Option.some.inj e87; obtain rfl := Option.some.inj K87; have H := H2)
            first | (obtain rfl := Option.some.inj H; have H := K80) | (obtain ⟨q80, H2, e80⟩ := pbind H; obtain rfl := Option.some.inj e80; obtain rfl := Option.some.inj K80; have H := H2)
            obtain rfl := Option.some.inj H
            exact EJ.fin Z (.tmp Z .nil) ⟨Z, hS.ext⟩
          · replace H := pif_f (of_decide_eq_false hb) H
            refine OJ.pures oU 1 Z ?_
            refine OJ.st Z Z Z (SR.fieldAddr oU oI Z Z Z Z Z Z) ?_
            obtain ⟨t25, ht25, H⟩ := pbind H
            refine OJ.st Z Z Z (SR.idxA oU oI Z Z Z Z Z (Arr.lt ht25)) ?_
            refine OJ.st Z Z Z (SR.load Z Z (fun w' hx => ld1 oU Z Z (CA.ext (CA.idx (CA.fld (hS.cells (i := 0) Z) (mid_part (fe_Pasture_4 _) (fl_Pasture_4 _) ((carr 10 (ci .u16)).len _))) ht25) hx) Z)) ?_
            refine OJ.pures oU 4 Z (OJ.nil (EJ.next ?_))
            refine CJ.cond Z (fun hb => ?_) (fun hb => ?_)
            · replace H := pif_t (of_decide_eq_true hb) H
              refine CJ.seq (CJ.region ?_)
              refine OJ.pures oU 1 Z (OJ.nil (EJ.next ?_))
              refine CJ.ret (EJ.bkR (EJ.skR (EJ.skR (EJ.bkR (EJ.skR (EJ.skR (?_)))))))
              first | (obtain rfl := Option.some.inj H; have H := K87) | (obtain ⟨q87, H2, e87⟩ := pbind H; obtain rfl := Option.some.inj e87; obtain rfl := Option.some.inj K87; have H := H2)
              first | (obtain rfl := Option.some.inj H; have H := K80) | (obtain ⟨q80, H2, e80⟩ := pbind H; obtain rfl := Option.some.inj e80; obtain rfl := Option.some.inj K80; have H := H2)
              obtain rfl := Option.some.inj H
              exact EJ.fin Z (.tmp Z .nil) ⟨Z, hS.ext⟩
            · replace H := pif_f (of_decide_eq_false hb) H
              refine CJ.skip (EJ.blk (?_))
              exact EJ.meet (F' := [(1, .pointer (some ⟨b1, 0, none⟩)), (20, .int .i64 y5)]) ⟨Z, Z, trivial⟩ ⟨H, Z, hS.pick [0] [] Z⟩
      · rintro F w1 ⟨he, rfl, hS⟩
        obtain rfl := Option.some.inj he
        have H := K87
        refine CJ.region ?_
        refine OJ.pures oU 2 Z ?_
        refine OJ.nil ?_
        exact EJ.round k (F' := [(1, .pointer (some ⟨b1, 0, none⟩)), (20, .int .i64 (IntKind.i64.wrap (y5 + 1)))]) ⟨Z, Z, trivial⟩ (Nat.lt_succ_self _) ⟨(IntKind.i64.wrap (y5 + 1)), Z, hS.pick [0] [] Z, H⟩
    · replace H := pif_f (of_decide_eq_false hb) H
      refine CJ.exit (EJ.skE (EJ.skE (EJ.hit (?_))))
      exact EJ.meet (F' := []) trivial ⟨H, Z, hS.pick [] [] Z⟩
 rintro F w1 ⟨he, rfl, hS⟩
 obtain rfl := Option.some.inj he
 have H := K80
 refine EJ.next ?_
 refine CJ.seq (CJ.region ?_)
 refine OJ.pures oU 1 Z (OJ.nil (EJ.next ?_))
 refine CJ.ret (?_)
 obtain rfl := Option.some.inj H
 exact EJ.fin Z (.tmp Z .nil) ⟨Z, hS.ext⟩

def impl_SquareOf.f (a0 : Spot) (a1 : Spot) : Option Int := some (IntKind.i64.wrap ((IntKind.i64.wrap ((IntKind.i64.wrap ((IntKind.i64.wrap a0.X) - (IntKind.i64.wrap a1.X))) * (IntKind.i64.wrap ((IntKind.i64.wrap a0.X) - (IntKind.i64.wrap a1.X))))) + (IntKind.i64.wrap ((IntKind.i64.wrap ((IntKind.i64.wrap a0.Y) - (IntKind.i64.wrap a1.Y))) * (IntKind.i64.wrap ((IntKind.i64.wrap a0.Y) - (IntKind.i64.wrap a1.Y)))))))
theorem impl_SquareOf.c (w : World) (a0 : Spot) (a1 : Spot) (r : Int) (H : impl_SquareOf.f a0 a1 = some r) :
 CV Tryz.prog 100 [.agg (cSpot.enc a0).toArray, .agg (cSpot.enc a1).toArray].toArray w fun v w' => v = .int .i64 r ∧ Ext w w' := by
 have hS := (St.init w no)
 unfold impl_SquareOf.f at H
 refine CV.body Tryz.func100 Z Tryz.ntmps100 Z ?_
 refine CJ.seq (CJ.region ?_)
 refine OJ.ef Z Z Z (Ef.box hS Z Z (cSpot.enc a0) Z) ?_
 rintro _ w1 ⟨b1, rfl, hS⟩
 refine OJ.ef Z Z Z (Ef.box hS Z Z (cSpot.enc a1) Z) ?_
 rintro _ w1 ⟨b2, rfl, hS⟩
 refine OJ.pures oU 1 Z (OJ.nil (EJ.next ?_))
 refine CJ.seq ?_
 refine CJ.draw [] [0, 1, 2, 3, 4, 5, 6, 7, 8, 9, 10, 11, 12, 13, 14, 15] mixed (by kernel_rfl) hS fun w1 hS => ?_
 refine DJ.st Z Z Z Z Z (SR.fieldAddr oU oI Z Z Z Z Z Z) ?_
 refine DJ.st Z Z Z Z Z (SR.load Z Z (fun w' hx => ld1 oU Z Z (CA.ext (CA.sub (hS.cells (i := 0) Z) 0) hx) Z)) ?_
 refine DJ.pures oU 1 Z ?_
 refine DJ.st Z Z Z Z Z (SR.fieldAddr oU oI Z Z Z Z Z Z) ?_
 refine DJ.st Z Z Z Z Z (SR.load Z Z (fun w' hx => ld1 oU Z Z (CA.ext (CA.sub (hS.cells (i := 1) Z) 0) hx) Z)) ?_
 refine DJ.pures oU 2 Z ?_
 refine DJ.st Z Z Z Z Z (SR.fieldAddr oU oI Z Z Z Z Z Z) ?_
 refine DJ.st Z Z Z Z Z (SR.load Z Z (fun w' hx => ld1 oU Z Z (CA.ext (CA.sub (hS.cells (i := 0) Z) 1) hx) Z)) ?_
 refine DJ.pures oU 1 Z ?_
 refine DJ.st Z Z Z Z Z (SR.fieldAddr oU oI Z Z Z Z Z Z) ?_
 refine DJ.st Z Z Z Z Z (SR.load Z Z (fun w' hx => ld1 oU Z Z (CA.ext (CA.sub (hS.cells (i := 1) Z) 1) hx) Z)) ?_
 refine DJ.pures oU 4 Z ?_
 refine DJ.nil (EJ.next ?_)
 refine CJ.seq (CJ.region ?_)
 refine OJ.pures oU 8 Z (OJ.nil (EJ.next ?_))
 refine CJ.ret (?_)
 obtain rfl := Option.some.inj H
 exact EJ.fin Z (.tmp Z .nil) ⟨Z, hS.ext⟩

def impl_Goat_reaches.f (a0 : Goat) (a1 : Spot) : Option Bool := if a0.Rope = (-1) then (some true) else ((impl_SquareOf.f a0.Stake a1).bind fun t3 => some (decide (t3 ≤ (IntKind.i64.wrap a0.Rope))))
theorem impl_Goat_reaches.c (w : World) (a0 : Goat) (a1 : Spot) (r : Bool) (H : impl_Goat_reaches.f a0 a1 = some r) :
 CV Tryz.prog 57 [.agg (cGoat.enc a0).toArray, .agg (cSpot.enc a1).toArray].toArray w fun v w' => v = .bool r ∧ Ext w w' := by
 have hS := (St.init w no)
 unfold impl_Goat_reaches.f at H
 refine CV.body Tryz.func57 Z Tryz.ntmps57 Z ?_
 refine CJ.seq (CJ.region ?_)
 refine OJ.ef Z Z Z (Ef.box hS Z Z (cGoat.enc a0) Z) ?_
 rintro _ w1 ⟨b1, rfl, hS⟩
 refine OJ.ef Z Z Z (Ef.box hS Z Z (cSpot.enc a1) Z) ?_
 rintro _ w1 ⟨b2, rfl, hS⟩
 refine OJ.pures oU 1 Z (OJ.nil (EJ.next ?_))
 refine CJ.seq ?_
 refine CJ.draw [] [0, 1, 2, 3, 4, 5, 6, 8, 9, 10, 7, 11, 12, 13] mixed (by kernel_rfl) hS fun w1 hS => ?_
 refine DJ.st Z Z Z Z Z (SR.fieldAddr oU oI Z Z Z Z Z Z) ?_
 refine DJ.st Z Z Z Z Z (SR.load Z Z (fun w' hx => ld1 oU Z Z (CA.ext (CA.sub (hS.cells (i := 0) Z) 4) hx) Z)) ?_
 refine DJ.pures oU 2 Z ?_
 refine DJ.split (t := 8) Z (fun hb => ?_) (fun hb => ?_)
 ·replace H := pif_t (of_decide_eq_true hb) H
  refine DJ.pures oU 10 Z ?_
  refine DJ.nil (EJ.next ?_)
  refine CJ.ret (?_)
  obtain rfl := Option.some.inj H
  exact EJ.fin Z (.tmp Z .nil) ⟨Z, hS.ext⟩
 replace H := pif_f (of_decide_eq_false hb) H
 refine DJ.st Z Z Z Z Z (SR.fieldAddr oU oI Z Z Z Z Z Z) ?_
 refine DJ.st Z Z Z Z Z (SR.load Z Z (fun w' hx => ldN oU oI Z Z Z (CA.ext (CA.sub (hS.cells (i := 0) Z) 2) hx) (cSpot.len _) Z)) ?_
 refine DJ.st Z Z Z Z Z (SR.load Z Z (fun w' hx => ldE oU oI Z Z Z (CA.ext (hS.cells (i := 1) Z) hx) Z)) ?_
 refine DJ.st Z Z Z Z Z (SR.fieldAddr oU oI Z Z Z Z Z Z) ?_
 refine DJ.st Z Z Z Z Z (SR.load Z Z (fun w' hx => ld1 oU Z Z (CA.ext (CA.sub (hS.cells (i := 0) Z) 4) hx) Z)) ?_
 refine DJ.pures oU 1 Z ?_
 obtain ⟨t3, ht3, H⟩ := pbind H
 refine DJ.callF rfl rfl rfl rfl rfl rfl rfl hb100 rfl (impl_SquareOf.c _ a0.Stake a1 _ ht3) (by rintro v w' ⟨rfl, hs⟩; exact hs) ?_
 rintro _ w1 ⟨rfl, hs⟩
 replace hS := hS.grow hs
 refine DJ.pures oU 3 Z ?_
 refine DJ.nil (EJ.next ?_)
 refine CJ.ret (?_)
 obtain rfl := Option.some.inj H
 exact EJ.fin Z (.tmp Z .nil) ⟨Z, hS.ext⟩

def impl_ValidGoats_1.f (a1 : Pasture) (a0 : Goat) : Option Bool := (impl_Pasture_isCell.f a1 a0.At).bind fun t2 => if (!t2) = true then (some true) else ((impl_Pasture_isCell.f a1 a0.Stake).bind fun t3 => if (!t3) = true then (some true) else ((impl_isGoat.f a0).bind fun t4 => if (!t4) = true then (some true) else ((impl_Goat_reaches.f a0 a0.At).bind fun t5 => some (!t5))))
theorem impl_ValidGoats_1.c (w : World) (pa1 : Addr) (a1 : Pasture) (hp1 : CA w pa1 (cPasture.enc a1)) (a0 : Goat) (r : Bool) (H : impl_ValidGoats_1.f a1 a0 = some r) :
 CV Tryz.prog 55 [.agg (cGoat.enc a0).toArray, .pointer (some pa1)].toArray w fun v w' => v = .bool r ∧ Ext w w' := by
 have hS := ((St.init w no).paramP pa1 (cPasture.enc a1) hp1)
 unfold impl_ValidGoats_1.f at H
 refine CV.body Tryz.func55 Z Tryz.ntmps55 Z ?_
 refine CJ.seq (CJ.region ?_)
 refine OJ.ef Z Z Z (Ef.box hS Z Z (cGoat.enc a0) Z) ?_
 rintro _ w1 ⟨b1, rfl, hS⟩
 refine OJ.pures oU 1 Z (OJ.nil (EJ.next ?_))
 refine CJ.seq (CJ.region ?_)
 refine OJ.st Z Z Z (SR.load Z Z (fun w' hx => ldE oU oI Z Z Z (CA.ext (hS.ca (i := 0) Z) hx) Z)) ?_
 refine OJ.st Z Z Z (SR.fieldAddr oU oI Z Z Z Z Z Z) ?_
 refine OJ.st Z Z Z (SR.load Z Z (fun w' hx => ldN oU oI Z Z Z (CA.ext (CA.sub (hS.cells (i := 0) Z) 0) hx) (cSpot.len _) Z)) ?_
 obtain ⟨t2, ht2, H⟩ := pbind H
 refine OJ.callF Z Z Z Z Z hb56 Z (impl_Pasture_isCell.c _ a1 a0.At _ ht2) ?_
 rintro _ w1 ⟨rfl, hs⟩
 replace hS := hS.grow hs
 refine OJ.pures oU 2 Z ?_
 refine OJ.split (t := 9) Z (fun hb => ?_) (fun hb => ?_)
 ·replace H := pif_t hb H
  refine OJ.pures oU 19 Z (OJ.nil (EJ.next ?_))
  refine CJ.ret (?_)
  obtain rfl := Option.some.inj H
  exact EJ.fin Z (.tmp Z .nil) ⟨Z, hS.ext⟩
 replace H := pifb_f hb H
 refine OJ.st Z Z Z (SR.load Z Z (fun w' hx => ldE oU oI Z Z Z (CA.ext (hS.ca (i := 0) Z) hx) Z)) ?_
 refine OJ.st Z Z Z (SR.fieldAddr oU oI Z Z Z Z Z Z) ?_
 refine OJ.st Z Z Z (SR.load Z Z (fun w' hx => ldN oU oI Z Z Z (CA.ext (CA.sub (hS.cells (i := 0) Z) 2) hx) (cSpot.len _) Z)) ?_
 obtain ⟨t3, ht3, H⟩ := pbind H
 refine OJ.callF Z Z Z Z Z hb56 Z (impl_Pasture_isCell.c _ a1 a0.Stake _ ht3) ?_
 rintro _ w1 ⟨rfl, hs⟩
 replace hS := hS.grow hs
 refine OJ.pures oU 3 Z ?_
 refine OJ.split (t := 16) Z (fun hb => ?_) (fun hb => ?_)
 ·replace H := pif_t hb H
  refine OJ.pures oU 12 Z (OJ.nil (EJ.next ?_))
  refine CJ.ret (?_)
  obtain rfl := Option.some.inj H
  exact EJ.fin Z (.tmp Z .nil) ⟨Z, hS.ext⟩
 replace H := pifb_f hb H
 refine OJ.st Z Z Z (SR.load Z Z (fun w' hx => ldE oU oI Z Z Z (CA.ext (hS.cells (i := 0) Z) hx) Z)) ?_
 obtain ⟨t4, ht4, H⟩ := pbind H
 refine OJ.callF Z Z Z Z Z hb38 Z (impl_isGoat.c _ a0 _ ht4) ?_
 rintro _ w1 ⟨rfl, hs⟩
 replace hS := hS.grow hs
 refine OJ.pures oU 3 Z ?_
 refine OJ.split (t := 21) Z (fun hb => ?_) (fun hb => ?_)
 ·replace H := pif_t hb H
  refine OJ.pures oU 7 Z (OJ.nil (EJ.next ?_))
  refine CJ.ret (?_)
  obtain rfl := Option.some.inj H
  exact EJ.fin Z (.tmp Z .nil) ⟨Z, hS.ext⟩
 replace H := pifb_f hb H
 refine OJ.st Z Z Z (SR.load Z Z (fun w' hx => ldE oU oI Z Z Z (CA.ext (hS.cells (i := 0) Z) hx) Z)) ?_
 refine OJ.st Z Z Z (SR.fieldAddr oU oI Z Z Z Z Z Z) ?_
 refine OJ.st Z Z Z (SR.load Z Z (fun w' hx => ldN oU oI Z Z Z (CA.ext (CA.sub (hS.cells (i := 0) Z) 0) hx) (cSpot.len _) Z)) ?_
 obtain ⟨t5, ht5, H⟩ := pbind H
 refine OJ.callF Z Z Z Z Z hb57 Z (impl_Goat_reaches.c _ a0 a0.At _ ht5) ?_
 rintro _ w1 ⟨rfl, hs⟩
 replace hS := hS.grow hs
 refine OJ.pures oU 3 Z (OJ.nil (EJ.next ?_))
 refine CJ.ret (?_)
 obtain rfl := Option.some.inj H
 exact EJ.fin Z (.tmp Z .nil) ⟨Z, hS.ext⟩

def impl_ValidGoats.f (k : Nat) (a0 : Pasture) (a1 : List Goat) : Option Bool := (impl_ValidPasture.f k a0).bind fun t2 => if t2 = true then (if (a1.length : Int) ≤ 20 then ((slices_ContainsFunc_impl_Goat_impl_Goat.f k a1 (impl_ValidGoats_1.f a0)).bind fun t3 => some (!t3)) else (some false)) else (some false)
theorem impl_ValidGoats.c (k : Nat) (w : World) (a0 : Pasture) (Aa1 : Option Addr) (ca1 : Nat) (a1 : List Goat) (hr1 : Rd cGoat w Aa1 a1) (hc1 : a1.length ≤ ca1) (r : Bool) (H : impl_ValidGoats.f k a0 a1 = some r) :
 CV Tryz.prog 14 [.agg (cPasture.enc a0).toArray, .slice Aa1 a1.length ca1].toArray w fun v w' => v = .bool r ∧ Ext w w' := by
 have hS := ((St.init w no).param cGoat Aa1 ca1 a1 hr1 hc1)
 unfold impl_ValidGoats.f at H
 refine CV.body Tryz.func14 Z Tryz.ntmps14 Z ?_
 refine CJ.seq (CJ.region ?_)
 refine OJ.ef Z Z Z (Ef.box hS Z Z (cPasture.enc a0) Z) ?_
 rintro _ w1 ⟨b1, rfl, hS⟩
 refine OJ.pures oU 1 Z (OJ.nil (EJ.next ?_))
 refine CJ.seq (CJ.region ?_)
 refine OJ.st Z Z Z (SR.load Z Z (fun w' hx => ldE oU oI Z Z Z (CA.ext (hS.cells (i := 0) Z) hx) Z)) ?_
 obtain ⟨t2, ht2, H⟩ := pbind H
 refine OJ.callF Z Z Z Z Z hb50 Z (impl_ValidPasture.c k _ a0 _ ht2) ?_
 rintro _ w1 ⟨rfl, hs⟩
 replace hS := hS.grow hs
 refine OJ.pures oU 1 Z ?_
 refine OJ.split (t := 7) Z (fun hb => ?_) (fun hb => ?_)
 ·replace H := pif_t hb H
  refine OJ.pures oU 5 Z ?_
  refine OJ.split (t := 12) Z (fun hb => ?_) (fun hb => ?_)
  ·replace H := pif_t (of_decide_eq_true hb) H
   refine OJ.pures oU 2 Z ?_
   obtain ⟨t3, ht3, H⟩ := pbind H
   refine OJ.callF rfl rfl rfl rfl rfl hb35 rfl (slices_ContainsFunc_impl_Goat_impl_Goat.c k _ Aa1 ca1 a1 (hS.rd' (i := 0) rfl) (hS.le' (i := 0) rfl) 55 #[] #[.pointer (some ⟨b1, 0, none⟩)] hb55 (impl_ValidGoats_1.f a0) (fun z0 r h w' hx => CV.cast (impl_ValidGoats_1.c w' ⟨b1, 0, none⟩ a0 (CA.ext (hS.cells (i := 0) rfl) hx)  z0 r h) (by simp)) _ ht3) ?_
   rintro _ w1 ⟨rfl, hs⟩
   replace hS := hS.grow hs
   refine OJ.pures oU 3 Z (OJ.nil (EJ.next ?_))
   refine CJ.ret (?_)
   obtain rfl := Option.some.inj H
   exact EJ.fin Z (.tmp Z .nil) ⟨Z, hS.ext⟩
  replace H := pif_f (of_decide_eq_false hb) H
  refine OJ.pures oU 6 Z (OJ.nil (EJ.next ?_))
  refine CJ.ret (?_)
  obtain rfl := Option.some.inj H
  exact EJ.fin Z (.tmp Z .nil) ⟨Z, hS.ext⟩
 replace H := pifb_f hb H
 refine OJ.pures oU 11 Z (OJ.nil (EJ.next ?_))
 refine CJ.ret (?_)
 obtain rfl := Option.some.inj H
 exact EJ.fin Z (.tmp Z .nil) ⟨Z, hS.ext⟩

def impl_unless.f (a0 : Bool) (a1 : Int) : Option Int := if a0 = true then (some 0) else (some a1)
theorem impl_unless.c (w : World) (a0 : Bool) (a1 : Int) (r : Int) (H : impl_unless.f a0 a1 = some r) :
 CV Tryz.prog 73 [.bool a0, .int .i64 a1].toArray w fun v w' => v = .int .i64 r ∧ Ext w w' := by
 have hS := (St.init w no)
 unfold impl_unless.f at H
 refine CV.body Tryz.func73 Z Tryz.ntmps73 Z ?_
 refine CJ.seq (CJ.region ?_)
 refine OJ.pures oU 1 Z (OJ.nil (EJ.next ?_))
 refine CJ.seq ?_
 refine CJ.seq (CJ.region ?_)
 refine OJ.pures oU 1 Z (OJ.nil (EJ.next ?_))
 refine CJ.cond Z (fun hb => ?_) (fun hb => ?_)
 ·replace H := pif_t hb H
  refine CJ.seq (CJ.region ?_)
  refine OJ.pures oU 1 Z (OJ.nil (EJ.next ?_))
  refine CJ.ret (EJ.skR (?_))
  obtain rfl := Option.some.inj H
  exact EJ.fin Z (.tmp Z .nil) ⟨Z, hS.ext⟩
 replace H := pifb_f hb H
 refine CJ.skip (EJ.next ?_)
 refine CJ.seq (CJ.region ?_)
 refine OJ.pures oU 2 Z (OJ.nil (EJ.next ?_))
 refine CJ.ret (?_)
 obtain rfl := Option.some.inj H
 exact EJ.fin Z (.tmp Z .nil) ⟨Z, hS.ext⟩

def impl_goatCode.f (k : Nat) (a0 : Pasture) (a1 : List Goat) : Option Int := (impl_ValidGoats.f k a0 a1).bind fun t2 => (impl_unless.f t2 1).bind fun t3 => some t3
theorem impl_goatCode.c (k : Nat) (w : World) (a0 : Pasture) (Aa1 : Option Addr) (ca1 : Nat) (a1 : List Goat) (hr1 : Rd cGoat w Aa1 a1) (hc1 : a1.length ≤ ca1) (r : Int) (H : impl_goatCode.f k a0 a1 = some r) :
 CV Tryz.prog 44 [.agg (cPasture.enc a0).toArray, .slice Aa1 a1.length ca1].toArray w fun v w' => v = .int .i64 r ∧ Ext w w' := by
 have hS := ((St.init w no).param cGoat Aa1 ca1 a1 hr1 hc1)
 unfold impl_goatCode.f at H
 refine CV.body Tryz.func44 Z Tryz.ntmps44 Z ?_
 refine CJ.seq (CJ.region ?_)
 refine OJ.ef Z Z Z (Ef.box hS Z Z (cPasture.enc a0) Z) ?_
 rintro _ w1 ⟨b1, rfl, hS⟩
 refine OJ.pures oU 1 Z (OJ.nil (EJ.next ?_))
 refine CJ.seq (CJ.region ?_)
 refine OJ.st Z Z Z (SR.load Z Z (fun w' hx => ldE oU oI Z Z Z (CA.ext (hS.cells (i := 0) Z) hx) Z)) ?_
 refine OJ.pures oU 1 Z ?_
 obtain ⟨t2, ht2, H⟩ := pbind H
 refine OJ.callF Z Z Z Z Z hb14 Z (impl_ValidGoats.c k _ a0 Aa1 ca1 a1 (hS.rd' (i := 0) Z) (hS.le' (i := 0) Z) _ ht2) ?_
 rintro _ w1 ⟨rfl, hs⟩
 replace hS := hS.grow hs
 obtain ⟨t3, ht3, H⟩ := pbind H
 refine OJ.callF Z Z Z Z Z hb73 Z (impl_unless.c _ t2 1 _ ht3) ?_
 rintro _ w1 ⟨rfl, hs⟩
 replace hS := hS.grow hs
 refine OJ.pures oU 1 Z (OJ.nil (EJ.next ?_))
 refine CJ.ret (?_)
 obtain rfl := Option.some.inj H
 exact EJ.fin Z (.tmp Z .nil) ⟨Z, hS.ext⟩

def slices_Clone_impl_Spot_impl_Spot.f (a0 : List Spot) : Option (List Spot) := (chk (([] : List Spot).length + a0.length ≤ 4294967296)).bind fun _ => some a0
theorem slices_Clone_impl_Spot_impl_Spot.c (w : World) (A : Option Addr) (c : Nat) (a0 : List Spot) (hr0 : Rd cSpot w A a0) (hc0 : a0.length ≤ c) (r : List Spot) (H : slices_Clone_impl_Spot_impl_Spot.f a0 = some r) :
 CV Tryz.prog 106 [.slice A a0.length c].toArray w fun v w' => ∃ (A0 : Option Addr) (c0 : Nat), v = .slice A0 r.length c0 ∧ St w no w' [rowC cSpot A0 c0 48 r] [] := by
 have hS := ((St.init w no).param cSpot A c a0 hr0 hc0)
 obtain ⟨u, hu, H⟩ := pbind H
 obtain rfl := Option.some.inj H
 refine CV.body Tryz.func106 Z Tryz.ntmps106 Z ?_
 refine CJ.seq (CJ.region ?_)
 refine OJ.pures oU 1 Z (OJ.nil (EJ.next ?_))
 refine CJ.seq ?_
 refine CJ.seq (CJ.region ?_)
 refine OJ.pures oU 1 Z ?_
 refine OJ.st Z Z Z (SR.eqNil oU Z Z Z Z) ?_
 refine OJ.nil (EJ.next ?_)
 refine CJ.cond Z (fun hb => ?_) (fun hb => ?_)
 ·obtain rfl := hr0.isNone hb
  refine CJ.seq (CJ.region ?_)
  refine OJ.pures oU 1 Z (OJ.nil (EJ.next ?_))
  refine CJ.ret (EJ.skR ?_)
  replace hS := hS.addNil cSpot 48 none
  exact EJ.fin Z (.tmp Z .nil) ⟨none, 0, Z, hS.pick [0] [] Z⟩
 refine CJ.skip (EJ.next ?_)
 refine CJ.seq (CJ.region ?_)
 refine OJ.ef Z Z Z (Ef.lit oU oI hS (C := cSpot) Z Z Z Z Z Z ([] : List Spot) Z Z Z Z) ?_
 rintro _ w1 ⟨A1, rfl, hS⟩
 refine OJ.pures oU 1 Z ?_
 refine OJ.ew Z Z Z (Ew.append oU oI (C := cSpot) (xs := ([] : List Spot)) (ys := a0) hS (i := 0) Z Z Z Z Z Z Z Z Z Z Z Z Z (hS.rd' (i := 0) Z) (chk_some hu)) ?_
 rintro _ w1 ⟨A2, c2, rfl, hS⟩
 refine OJ.pures oU 1 Z (OJ.nil (EJ.next ?_))
 exact CJ.ret (EJ.fin Z (.tmp Z .nil) ⟨A2, c2, Z, hS.pick [0] [] Z⟩)

def impl_Spot_ahead.f (a0 : Spot) (a1 : Int) : Option Spot := if a1 = 0 then (some (⟨a0.X, IntKind.i8.wrap (a0.Y - 1)⟩ : Spot)) else (if a1 = 1 then (some (⟨IntKind.i8.wrap (a0.X + 1), a0.Y⟩ : Spot)) else (if a1 = 2 then (some (⟨a0.X, IntKind.i8.wrap (a0.Y + 1)⟩ : Spot)) else (some (⟨IntKind.i8.wrap (a0.X - 1), a0.Y⟩ : Spot))))
theorem impl_Spot_ahead.c (w : World) (a0 : Spot) (a1 : Int) (r : Spot) (H : impl_Spot_ahead.f a0 a1 = some r) :
 CV Tryz.prog 107 [.agg (cSpot.enc a0).toArray, .int .i64 a1].toArray w fun v w' => v = .agg (cSpot.enc r).toArray ∧ Ext w w' := by
 have hS := (St.init w no)
 unfold impl_Spot_ahead.f at H
 refine CV.body Tryz.func107 Z Tryz.ntmps107 Z ?_
 refine CJ.seq (CJ.region ?_)
 refine OJ.ef Z Z Z (Ef.box hS Z Z (cSpot.enc a0) Z) ?_
 rintro _ w1 ⟨b1, rfl, hS⟩
 refine OJ.ef Z Z Z (Ef.alloc hS oI Z Z (cSpot.enc (⟨0, 0⟩ : Spot)) Z) ?_
 rintro _ w1 ⟨b2, rfl, hS⟩
 refine OJ.nil (EJ.next ?_)
 refine CJ.seq ?_
 refine CJ.seq (CJ.region ?_)
 refine OJ.pures oU 1 Z (OJ.nil (EJ.next ?_))
 refine CJ.block ?_
 refine CJ.seq (CJ.region ?_)
 refine OJ.pures oU 2 Z (OJ.nil (EJ.next ?_))
 refine CJ.cond Z (fun hb => ?_) (fun hb => ?_)
 ·replace H := pif_t (of_decide_eq_true hb) H
  refine CJ.region ?_
  refine OJ.st Z Z Z (SR.fieldAddr oU oI Z Z Z Z Z Z) ?_
  refine OJ.st Z Z Z (SR.load Z Z (fun w' hx => ld1 oU Z Z (CA.ext (CA.sub (hS.cells (i := 0) Z) 1) hx) Z)) ?_
  refine OJ.pures oU 1 Z ?_
  refine OJ.st Z Z Z (SR.fieldAddr oU oI Z Z Z Z Z Z) ?_
  refine OJ.es Z Z (Es.store oI hS (i := 0) Z Z Z (G.ad1 _ _) Z Z (vs := (ci .i8).enc (IntKind.i8.wrap (a0.Y - 1))) Z Z (one1 Z) (Nat.le_of_ble_eq_true Z) (cSpot.enc (⟨a0.X, IntKind.i8.wrap (a0.Y - 1)⟩ : Spot)) Z) ?_
  intro w1 hS
  refine OJ.nil (EJ.blk (EJ.next ?_))
  refine CJ.seq (CJ.region ?_)
  refine OJ.st Z Z Z (SR.load Z Z (fun w' hx => ldE oU oI Z Z Z (CA.ext (hS.cells (i := 0) Z) hx) Z)) ?_
  refine OJ.es Z Z (Es.store oI hS (i := 1) Z Z Z Z Z Z (vs := cSpot.enc (⟨a0.X, IntKind.i8.wrap (a0.Y - 1)⟩ : Spot)) Z (cSpot.len _) (cSpot.one _) (Nat.le_of_ble_eq_true Z) (cSpot.enc (⟨a0.X, IntKind.i8.wrap (a0.Y - 1)⟩ : Spot)) Z) ?_
  intro w1 hS
  refine OJ.nil (EJ.next ?_)
  refine CJ.ret (?_)
  obtain rfl := Option.some.inj H
  exact EJ.fin Z (.cell Z (ldE oU oI Z Z Z (hS.cells (i := 1) Z) Z) .nil) ⟨Z, hS.ext⟩
 replace H := pif_f (of_decide_eq_false hb) H
 refine CJ.seq (CJ.region ?_)
 refine OJ.pures oU 2 Z (OJ.nil (EJ.next ?_))
 refine CJ.cond Z (fun hb => ?_) (fun hb => ?_)
 ·replace H := pif_t (of_decide_eq_true hb) H
  refine CJ.region ?_
  refine OJ.st Z Z Z (SR.fieldAddr oU oI Z Z Z Z Z Z) ?_
  refine OJ.st Z Z Z (SR.load Z Z (fun w' hx => ld1 oU Z Z (CA.ext (CA.sub (hS.cells (i := 0) Z) 0) hx) Z)) ?_
  refine OJ.pures oU 1 Z ?_
  refine OJ.st Z Z Z (SR.fieldAddr oU oI Z Z Z Z Z Z) ?_
  refine OJ.es Z Z (Es.store oI hS (i := 0) Z Z Z (G.ad1 _ _) Z Z (vs := (ci .i8).enc (IntKind.i8.wrap (a0.X + 1))) Z Z (one1 Z) (Nat.le_of_ble_eq_true Z) (cSpot.enc (⟨IntKind.i8.wrap (a0.X + 1), a0.Y⟩ : Spot)) Z) ?_
  intro w1 hS
  refine OJ.nil (EJ.blk (EJ.next ?_))
  refine CJ.seq (CJ.region ?_)
  refine OJ.st Z Z Z (SR.load Z Z (fun w' hx => ldE oU oI Z Z Z (CA.ext (hS.cells (i := 0) Z) hx) Z)) ?_
  refine OJ.es Z Z (Es.store oI hS (i := 1) Z Z Z Z Z Z (vs := cSpot.enc (⟨IntKind.i8.wrap (a0.X + 1), a0.Y⟩ : Spot)) Z (cSpot.len _) (cSpot.one _) (Nat.le_of_ble_eq_true Z) (cSpot.enc (⟨IntKind.i8.wrap (a0.X + 1), a0.Y⟩ : Spot)) Z) ?_
  intro w1 hS
  refine OJ.nil (EJ.next ?_)
  refine CJ.ret (?_)
  obtain rfl := Option.some.inj H
  exact EJ.fin Z (.cell Z (ldE oU oI Z Z Z (hS.cells (i := 1) Z) Z) .nil) ⟨Z, hS.ext⟩
 replace H := pif_f (of_decide_eq_false hb) H
 refine CJ.seq (CJ.region ?_)
 refine OJ.pures oU 2 Z (OJ.nil (EJ.next ?_))
 refine CJ.cond Z (fun hb => ?_) (fun hb => ?_)
 ·replace H := pif_t (of_decide_eq_true hb) H
  refine CJ.region ?_
  refine OJ.st Z Z Z (SR.fieldAddr oU oI Z Z Z Z Z Z) ?_
  refine OJ.st Z Z Z (SR.load Z Z (fun w' hx => ld1 oU Z Z (CA.ext (CA.sub (hS.cells (i := 0) Z) 1) hx) Z)) ?_
  refine OJ.pures oU 1 Z ?_
  refine OJ.st Z Z Z (SR.fieldAddr oU oI Z Z Z Z Z Z) ?_
  refine OJ.es Z Z (Es.store oI hS (i := 0) Z Z Z (G.ad1 _ _) Z Z (vs := (ci .i8).enc (IntKind.i8.wrap (a0.Y + 1))) Z Z (one1 Z) (Nat.le_of_ble_eq_true Z) (cSpot.enc (⟨a0.X, IntKind.i8.wrap (a0.Y + 1)⟩ : Spot)) Z) ?_
  intro w1 hS
  refine OJ.nil (EJ.blk (EJ.next ?_))
  refine CJ.seq (CJ.region ?_)
  refine OJ.st Z Z Z (SR.load Z Z (fun w' hx => ldE oU oI Z Z Z (CA.ext (hS.cells (i := 0) Z) hx) Z)) ?_
  refine OJ.es Z Z (Es.store oI hS (i := 1) Z Z Z Z Z Z (vs := cSpot.enc (⟨a0.X, IntKind.i8.wrap (a0.Y + 1)⟩ : Spot)) Z (cSpot.len _) (cSpot.one _) (Nat.le_of_ble_eq_true Z) (cSpot.enc (⟨a0.X, IntKind.i8.wrap (a0.Y + 1)⟩ : Spot)) Z) ?_
  intro w1 hS
  refine OJ.nil (EJ.next ?_)
  refine CJ.ret (?_)
  obtain rfl := Option.some.inj H
  exact EJ.fin Z (.cell Z (ldE oU oI Z Z Z (hS.cells (i := 1) Z) Z) .nil) ⟨Z, hS.ext⟩
 replace H := pif_f (of_decide_eq_false hb) H
 refine CJ.region ?_
 refine OJ.st Z Z Z (SR.fieldAddr oU oI Z Z Z Z Z Z) ?_
 refine OJ.st Z Z Z (SR.load Z Z (fun w' hx => ld1 oU Z Z (CA.ext (CA.sub (hS.cells (i := 0) Z) 0) hx) Z)) ?_
 refine OJ.pures oU 1 Z ?_
 refine OJ.st Z Z Z (SR.fieldAddr oU oI Z Z Z Z Z Z) ?_
 refine OJ.es Z Z (Es.store oI hS (i := 0) Z Z Z (G.ad1 _ _) Z Z (vs := (ci .i8).enc (IntKind.i8.wrap (a0.X - 1))) Z Z (one1 Z) (Nat.le_of_ble_eq_true Z) (cSpot.enc (⟨IntKind.i8.wrap (a0.X - 1), a0.Y⟩ : Spot)) Z) ?_
 intro w1 hS
 refine OJ.nil (EJ.blk (EJ.next ?_))
 refine CJ.seq (CJ.region ?_)
 refine OJ.st Z Z Z (SR.load Z Z (fun w' hx => ldE oU oI Z Z Z (CA.ext (hS.cells (i := 0) Z) hx) Z)) ?_
 refine OJ.es Z Z (Es.store oI hS (i := 1) Z Z Z Z Z Z (vs := cSpot.enc (⟨IntKind.i8.wrap (a0.X - 1), a0.Y⟩ : Spot)) Z (cSpot.len _) (cSpot.one _) (Nat.le_of_ble_eq_true Z) (cSpot.enc (⟨IntKind.i8.wrap (a0.X - 1), a0.Y⟩ : Spot)) Z) ?_
 intro w1 hS
 refine OJ.nil (EJ.next ?_)
 refine CJ.ret (?_)
 obtain rfl := Option.some.inj H
 exact EJ.fin Z (.cell Z (ldE oU oI Z Z Z (hS.cells (i := 1) Z) Z) .nil) ⟨Z, hS.ext⟩

def impl_hurdleAt.f (a0 : Spot) (a1 : Int) : Option Hurdle := (if a1 = 0 then (some true) else (some (decide (a1 = 3)))).bind fun y3 => if y3 = true then ((impl_Spot_ahead.f a0 a1).bind fun t4 => if a1 = 0 then (some (⟨t4, true⟩ : Hurdle)) else (some (⟨t4, decide (a1 = 2)⟩ : Hurdle))) else (if a1 = 0 then (some (⟨a0, true⟩ : Hurdle)) else (some (⟨a0, decide (a1 = 2)⟩ : Hurdle)))
theorem impl_hurdleAt.c (w : World) (a0 : Spot) (a1 : Int) (r : Hurdle) (H : impl_hurdleAt.f a0 a1 = some r) :
 CV Tryz.prog 124 [.agg (cSpot.enc a0).toArray, .int .i64 a1].toArray w fun v w' => v = .agg (cHurdle.enc r).toArray ∧ Ext w w' := by
 have hS := (St.init w no)
 unfold impl_hurdleAt.f at H
 refine CV.body Tryz.func124 Z Tryz.ntmps124 Z ?_
 refine CJ.seq (CJ.region ?_)
 refine OJ.ef Z Z Z (Ef.box hS Z Z (cSpot.enc a0) Z) ?_
 rintro _ w1 ⟨b1, rfl, hS⟩
 refine OJ.ef Z Z Z (Ef.alloc hS oI Z Z (cHurdle.enc (⟨(⟨0, 0⟩ : Spot), false⟩ : Hurdle)) Z) ?_
 rintro _ w1 ⟨b2, rfl, hS⟩
 refine OJ.nil (EJ.next ?_)
 refine CJ.seq ?_
 obtain ⟨j106, H, K106⟩ := pbind H
 refine CJ.cut (fun F w1 => ∃ (y3 : Bool) , (some y3 : Option Bool) = some j106 ∧ F = [(1, .int .i64 a1), (2, .pointer (some ⟨b1, 0, none⟩)), (4, .pointer (some ⟨b2, 0, none⟩)), (10, .bool y3)] ∧ St w no w1 [box b1 (cSpot.enc a0) 48, box b2 (cHurdle.enc (⟨(⟨0, 0⟩ : Spot), false⟩ : Hurdle)) 169] []) ?_ ?_
 ·skip
  refine CJ.region ?_
  refine OJ.pures oU 3 Z ?_
  refine OJ.split (t := 7) Z (fun hb => ?_) (fun hb => ?_)
  ·replace H := pif_t (of_decide_eq_true hb) H
   refine OJ.pures oU 3 Z ?_
   refine OJ.nil ?_
   exact EJ.meet (F' := [(1, .int .i64 a1), (2, .pointer (some ⟨b1, 0, none⟩)), (4, .pointer (some ⟨b2, 0, none⟩)), (10, .bool true)]) ⟨Z, Z, Z, Z, trivial⟩ ⟨true, H, Z, hS.pick [0, 1] [] Z⟩
  replace H := pif_f (of_decide_eq_false hb) H
  refine OJ.pures oU 3 Z ?_
  refine OJ.nil ?_
  exact EJ.meet (F' := [(1, .int .i64 a1), (2, .pointer (some ⟨b1, 0, none⟩)), (4, .pointer (some ⟨b2, 0, none⟩)), (10, .bool (decide (a1 = 3)))]) ⟨Z, Z, Z, Z, trivial⟩ ⟨(decide (a1 = 3)), H, Z, hS.pick [0, 1] [] Z⟩
 rintro F w1 ⟨y3, he, rfl, hS⟩
 obtain rfl := Option.some.inj he
 have H := K106
 refine CJ.cond Z (fun hb => ?_) (fun hb => ?_)
 ·replace H := pif_t hb H
  refine CJ.region ?_
  refine OJ.st Z Z Z (SR.load Z Z (fun w' hx => ldE oU oI Z Z Z (CA.ext (hS.cells (i := 0) Z) hx) Z)) ?_
  refine OJ.pures oU 1 Z ?_
  obtain ⟨t4, ht4, H⟩ := pbind H
  refine OJ.callF Z Z Z Z Z hb107 Z (impl_Spot_ahead.c _ a0 a1 _ ht4) ?_
  rintro _ w1 ⟨rfl, hs⟩
  replace hS := hS.grow hs
  refine OJ.es Z Z (Es.store oI hS (i := 0) Z Z Z Z Z Z (vs := cSpot.enc t4) Z (cSpot.len _) (cSpot.one _) (Nat.le_of_ble_eq_true Z) (cSpot.enc t4) Z) ?_
  intro w1 hS
  refine OJ.nil (EJ.next ?_)
  refine CJ.seq (CJ.region ?_)
  refine OJ.st Z Z Z (SR.load Z Z (fun w' hx => ldE oU oI Z Z Z (CA.ext (hS.cells (i := 0) Z) hx) Z)) ?_
  refine OJ.pures oU 3 Z ?_
  refine OJ.split (t := 17) Z (fun hb => ?_) (fun hb => ?_)
  ·replace H := pif_t (of_decide_eq_true hb) H
   refine OJ.pures oU 3 Z ?_
   refine OJ.st Z Z Z (SR.build (C := cHurdle) oU oI Z Z Z (zs := [.int .i8 0, .int .i8 0, .bool false]) Z Z Z (⟨t4, true⟩ : Hurdle) Z) ?_
   refine OJ.es Z Z (Es.store oI hS (i := 1) Z Z Z Z Z Z (vs := cHurdle.enc (⟨t4, true⟩ : Hurdle)) Z (cHurdle.len _) (cHurdle.one _) (Nat.le_of_ble_eq_true Z) (cHurdle.enc (⟨t4, true⟩ : Hurdle)) Z) ?_
   intro w1 hS
   refine OJ.nil (EJ.next ?_)
   refine CJ.ret (?_)
   obtain rfl := Option.some.inj H
   exact EJ.fin Z (.cell Z (ldE oU oI Z Z Z (hS.cells (i := 1) Z) Z) .nil) ⟨Z, hS.ext⟩
  replace H := pif_f (of_decide_eq_false hb) H
  refine OJ.pures oU 3 Z ?_
  refine OJ.st Z Z Z (SR.build (C := cHurdle) oU oI Z Z Z (zs := [.int .i8 0, .int .i8 0, .bool false]) Z Z Z (⟨t4, decide (a1 = 2)⟩ : Hurdle) Z) ?_
  refine OJ.es Z Z (Es.store oI hS (i := 1) Z Z Z Z Z Z (vs := cHurdle.enc (⟨t4, decide (a1 = 2)⟩ : Hurdle)) Z (cHurdle.len _) (cHurdle.one _) (Nat.le_of_ble_eq_true Z) (cHurdle.enc (⟨t4, decide (a1 = 2)⟩ : Hurdle)) Z) ?_
  intro w1 hS
  refine OJ.nil (EJ.next ?_)
  refine CJ.ret (?_)
  obtain rfl := Option.some.inj H
  exact EJ.fin Z (.cell Z (ldE oU oI Z Z Z (hS.cells (i := 1) Z) Z) .nil) ⟨Z, hS.ext⟩
 replace H := pifb_f hb H
 refine CJ.skip (EJ.next ?_)
 refine CJ.seq (CJ.region ?_)
 refine OJ.st Z Z Z (SR.load Z Z (fun w' hx => ldE oU oI Z Z Z (CA.ext (hS.cells (i := 0) Z) hx) Z)) ?_
 refine OJ.pures oU 3 Z ?_
 refine OJ.split (t := 17) Z (fun hb => ?_) (fun hb => ?_)
 ·replace H := pif_t (of_decide_eq_true hb) H
  refine OJ.pures oU 3 Z ?_
  refine OJ.st Z Z Z (SR.build (C := cHurdle) oU oI Z Z Z (zs := [.int .i8 0, .int .i8 0, .bool false]) Z Z Z (⟨a0, true⟩ : Hurdle) Z) ?_
  refine OJ.es Z Z (Es.store oI hS (i := 1) Z Z Z Z Z Z (vs := cHurdle.enc (⟨a0, true⟩ : Hurdle)) Z (cHurdle.len _) (cHurdle.one _) (Nat.le_of_ble_eq_true Z) (cHurdle.enc (⟨a0, true⟩ : Hurdle)) Z) ?_
  intro w1 hS
  refine OJ.nil (EJ.next ?_)
  refine CJ.ret (?_)
  obtain rfl := Option.some.inj H
  exact EJ.fin Z (.cell Z (ldE oU oI Z Z Z (hS.cells (i := 1) Z) Z) .nil) ⟨Z, hS.ext⟩
 replace H := pif_f (of_decide_eq_false hb) H
 refine OJ.pures oU 3 Z ?_
 refine OJ.st Z Z Z (SR.build (C := cHurdle) oU oI Z Z Z (zs := [.int .i8 0, .int .i8 0, .bool false]) Z Z Z (⟨a0, decide (a1 = 2)⟩ : Hurdle) Z) ?_
 refine OJ.es Z Z (Es.store oI hS (i := 1) Z Z Z Z Z Z (vs := cHurdle.enc (⟨a0, decide (a1 = 2)⟩ : Hurdle)) Z (cHurdle.len _) (cHurdle.one _) (Nat.le_of_ble_eq_true Z) (cHurdle.enc (⟨a0, decide (a1 = 2)⟩ : Hurdle)) Z) ?_
 intro w1 hS
 refine OJ.nil (EJ.next ?_)
 refine CJ.ret (?_)
 obtain rfl := Option.some.inj H
 exact EJ.fin Z (.cell Z (ldE oU oI Z Z Z (hS.cells (i := 1) Z) Z) .nil) ⟨Z, hS.ext⟩

def impl_Pasture_stands.f (a0 : Pasture) (a1 : Hurdle) : Option Bool := if a1.South = true then ((getI a0.South.l a1.At.Y).bind fun t3 => (chk (0 ≤ a1.At.X)).bind fun u4 => some (decide ((andI .u16 (shrI .u16 t3 a1.At.X) 1) = 1))) else ((getI a0.East.l a1.At.Y).bind fun t5 => (chk (0 ≤ a1.At.X)).bind fun u6 => some (decide ((andI .u16 (shrI .u16 t5 a1.At.X) 1) = 1)))
theorem impl_Pasture_stands.c (w : World) (a0 : Pasture) (a1 : Hurdle) (r : Bool) (H : impl_Pasture_stands.f a0 a1 = some r) :
 CV Tryz.prog 123 [.agg (cPasture.enc a0).toArray, .agg (cHurdle.enc a1).toArray].toArray w fun v w' => v = .bool r ∧ Ext w w' := by
 have hS := (St.init w no)
 unfold impl_Pasture_stands.f at H
 refine CV.body Tryz.func123 Z Tryz.ntmps123 Z ?_
 refine CJ.seq (CJ.region ?_)
 refine OJ.ef Z Z Z (Ef.box hS Z Z (cPasture.enc a0) Z) ?_
 rintro _ w1 ⟨b1, rfl, hS⟩
 refine OJ.ef Z Z Z (Ef.box hS Z Z (cHurdle.enc a1) Z) ?_
 rintro _ w1 ⟨b2, rfl, hS⟩
 refine OJ.pures oU 1 Z (OJ.nil (EJ.next ?_))
 refine CJ.seq ?_
 refine CJ.seq (CJ.region ?_)
 refine OJ.st Z Z Z (SR.fieldAddr oU oI Z Z Z Z Z Z) ?_
 refine OJ.st Z Z Z (SR.load Z Z (fun w' hx => ld1 oU Z Z (CA.ext (CA.sub (hS.cells (i := 1) Z) 2) hx) Z)) ?_
 refine OJ.nil (EJ.next ?_)
 refine CJ.cond Z (fun hb => ?_) (fun hb => ?_)
 ·replace H := pif_t hb H
  refine CJ.seq ?_
  refine CJ.draw [] [0, 1, 2, 3, 4, 5, 6, 7, 8, 9, 10, 11, 12] mixed (by kernel_rfl) hS fun w1 hS => ?_
  refine DJ.st Z Z Z Z Z (SR.fieldAddr oU oI Z Z Z Z Z Z) ?_
  refine DJ.st Z Z Z Z Z (SR.fieldAddr oU oI Z Z Z Z Z Z) ?_
  refine DJ.st Z Z Z Z Z (SR.load Z Z (fun w' hx => ld1 oU Z Z (CA.ext (CA.sub (CA.sub (hS.cells (i := 1) Z) 0) 1) hx) Z)) ?_
  refine DJ.st Z Z Z Z Z (SR.fieldAddr oU oI Z Z Z Z Z Z) ?_
  obtain ⟨t3, ht3, H⟩ := pbind H
  refine DJ.st Z Z Z Z Z (SR.idxA oU oI Z Z Z Z Z (Arr.lt ht3)) ?_
  refine DJ.st Z Z Z Z Z (SR.load Z Z (fun w' hx => ld1 oU Z Z (CA.ext (CA.idx (CA.fld (hS.cells (i := 0) Z) (mid_part (fe_Pasture_4 _) (fl_Pasture_4 _) ((carr 10 (ci .u16)).len _))) ht3) hx) Z)) ?_
  refine DJ.st Z Z Z Z Z (SR.fieldAddr oU oI Z Z Z Z Z Z) ?_
  refine DJ.st Z Z Z Z Z (SR.fieldAddr oU oI Z Z Z Z Z Z) ?_
  refine DJ.st Z Z Z Z Z (SR.load Z Z (fun w' hx => ld1 oU Z Z (CA.ext (CA.sub (CA.sub (hS.cells (i := 1) Z) 0) 0) hx) Z)) ?_
  obtain ⟨u4, hu4, H⟩ := pbind H
  refine DJ.st Z Z Z Z Z (SR.shr Z Z Z (chk_some hu4)) ?_
  refine DJ.pures oU 3 Z ?_
  refine DJ.nil (EJ.next ?_)
  refine CJ.ret (EJ.skR (?_))
  obtain rfl := Option.some.inj H
  exact EJ.fin Z (.tmp Z .nil) ⟨Z, hS.ext⟩
 replace H := pifb_f hb H
 refine CJ.skip (EJ.next ?_)
 refine CJ.seq ?_
 refine CJ.draw [] [0, 1, 2, 3, 4, 5, 6, 7, 8, 9, 10, 11, 12] mixed (by kernel_rfl) hS fun w1 hS => ?_
 refine DJ.st Z Z Z Z Z (SR.fieldAddr oU oI Z Z Z Z Z Z) ?_
 refine DJ.st Z Z Z Z Z (SR.fieldAddr oU oI Z Z Z Z Z Z) ?_
 refine DJ.st Z Z Z Z Z (SR.load Z Z (fun w' hx => ld1 oU Z Z (CA.ext (CA.sub (CA.sub (hS.cells (i := 1) Z) 0) 1) hx) Z)) ?_
 refine DJ.st Z Z Z Z Z (SR.fieldAddr oU oI Z Z Z Z Z Z) ?_
 obtain ⟨t5, ht5, H⟩ := pbind H
 refine DJ.st Z Z Z Z Z (SR.idxA oU oI Z Z Z Z Z (Arr.lt ht5)) ?_
 refine DJ.st Z Z Z Z Z (SR.load Z Z (fun w' hx => ld1 oU Z Z (CA.ext (CA.idx (CA.fld (hS.cells (i := 0) Z) (mid_part (fe_Pasture_3 _) (fl_Pasture_3 _) ((carr 10 (ci .u16)).len _))) ht5) hx) Z)) ?_
 refine DJ.st Z Z Z Z Z (SR.fieldAddr oU oI Z Z Z Z Z Z) ?_
 refine DJ.st Z Z Z Z Z (SR.fieldAddr oU oI Z Z Z Z Z Z) ?_
 refine DJ.st Z Z Z Z Z (SR.load Z Z (fun w' hx => ld1 oU Z Z (CA.ext (CA.sub (CA.sub (hS.cells (i := 1) Z) 0) 0) hx) Z)) ?_
 obtain ⟨u6, hu6, H⟩ := pbind H
 refine DJ.st Z Z Z Z Z (SR.shr Z Z Z (chk_some hu6)) ?_
 refine DJ.pures oU 3 Z ?_
 refine DJ.nil (EJ.next ?_)
 refine CJ.ret (?_)
 obtain rfl := Option.some.inj H
 exact EJ.fin Z (.tmp Z .nil) ⟨Z, hS.ext⟩

def impl_Pasture_canGo.f (a0 : Pasture) (a1 : Spot) (a2 : Int) : Option Bool := (impl_Spot_ahead.f a1 a2).bind fun t3 => (impl_Pasture_isCell.f a0 t3).bind fun t4 => if t4 = true then ((impl_hurdleAt.f a1 a2).bind fun t5 => (impl_Pasture_stands.f a0 t5).bind fun t6 => some (!t6)) else (some false)
theorem impl_Pasture_canGo.c (w : World) (a0 : Pasture) (a1 : Spot) (a2 : Int) (r : Bool) (H : impl_Pasture_canGo.f a0 a1 a2 = some r) :
 CV Tryz.prog 108 [.agg (cPasture.enc a0).toArray, .agg (cSpot.enc a1).toArray, .int .i64 a2].toArray w fun v w' => v = .bool r ∧ Ext w w' := by
 have hS := (St.init w no)
 unfold impl_Pasture_canGo.f at H
 refine CV.body Tryz.func108 Z Tryz.ntmps108 Z ?_
 refine CJ.seq (CJ.region ?_)
 refine OJ.ef Z Z Z (Ef.box hS Z Z (cPasture.enc a0) Z) ?_
 rintro _ w1 ⟨b1, rfl, hS⟩
 refine OJ.ef Z Z Z (Ef.box hS Z Z (cSpot.enc a1) Z) ?_
 rintro _ w1 ⟨b2, rfl, hS⟩
 refine OJ.pures oU 1 Z (OJ.nil (EJ.next ?_))
 refine CJ.seq ?_
 refine CJ.draw [] [0, 1, 2, 3, 4, 5, 6, 7, 8, 9, 10, 11, 12, 13] mixed (by kernel_rfl) hS fun w1 hS => ?_
 refine DJ.st Z Z Z Z Z (SR.load Z Z (fun w' hx => ldE oU oI Z Z Z (CA.ext (hS.cells (i := 0) Z) hx) Z)) ?_
 refine DJ.st Z Z Z Z Z (SR.load Z Z (fun w' hx => ldE oU oI Z Z Z (CA.ext (hS.cells (i := 1) Z) hx) Z)) ?_
 refine DJ.pures oU 1 Z ?_
 obtain ⟨t3, ht3, H⟩ := pbind H
 refine DJ.callF rfl rfl rfl rfl rfl rfl rfl hb107 rfl (impl_Spot_ahead.c _ a1 a2 _ ht3) (by rintro v w' ⟨rfl, hs⟩; exact hs) ?_
 rintro _ w1 ⟨rfl, hs⟩
 replace hS := hS.grow hs
 obtain ⟨t4, ht4, H⟩ := pbind H
 refine DJ.callF rfl rfl rfl rfl rfl rfl rfl hb56 rfl (impl_Pasture_isCell.c _ a0 t3 _ ht4) (by rintro v w' ⟨rfl, hs⟩; exact hs) ?_
 rintro _ w1 ⟨rfl, hs⟩
 replace hS := hS.grow hs
 refine DJ.pures oU 1 Z ?_
 refine DJ.split (t := 12) Z (fun hb => ?_) (fun hb => ?_)
 ·replace H := pif_t hb H
  refine DJ.st Z Z Z Z Z (SR.load Z Z (fun w' hx => ldE oU oI Z Z Z (CA.ext (hS.cells (i := 0) Z) hx) Z)) ?_
  refine DJ.st Z Z Z Z Z (SR.load Z Z (fun w' hx => ldE oU oI Z Z Z (CA.ext (hS.cells (i := 1) Z) hx) Z)) ?_
  refine DJ.pures oU 1 Z ?_
  obtain ⟨t5, ht5, H⟩ := pbind H
  refine DJ.callF rfl rfl rfl rfl rfl rfl rfl hb124 rfl (impl_hurdleAt.c _ a1 a2 _ ht5) (by rintro v w' ⟨rfl, hs⟩; exact hs) ?_
  rintro _ w1 ⟨rfl, hs⟩
  replace hS := hS.grow hs
  obtain ⟨t6, ht6, H⟩ := pbind H
  refine DJ.callF rfl rfl rfl rfl rfl rfl rfl hb123 rfl (impl_Pasture_stands.c _ a0 t5 _ ht6) (by rintro v w' ⟨rfl, hs⟩; exact hs) ?_
  rintro _ w1 ⟨rfl, hs⟩
  replace hS := hS.grow hs
  refine DJ.pures oU 3 Z ?_
  refine DJ.nil (EJ.next ?_)
  refine CJ.ret (?_)
  obtain rfl := Option.some.inj H
  exact EJ.fin Z (.tmp Z .nil) ⟨Z, hS.ext⟩
 replace H := pifb_f hb H
 refine DJ.pures oU 8 Z ?_
 refine DJ.nil (EJ.next ?_)
 refine CJ.ret (?_)
 obtain rfl := Option.some.inj H
 exact EJ.fin Z (.tmp Z .nil) ⟨Z, hS.ext⟩

def impl_Pasture_far.l2 (y6 : Int) : Nat → (Arr 10 (Arr 10 Int)) → Int → Option (Arr 10 (Arr 10 Int))
  | 0, _, _ => none
  | k + 1, y9, y10 => if y10 < 10 then ((getI y9.l y6).bind fun t11 => (getI t11.l y10).bind fun t12 => impl_Pasture_far.l2 y6 k (aset y9 y6.toNat (aset t11 y10.toNat (-1))) (IntKind.i64.wrap (y10 + 1))) else (some y9)
def impl_Pasture_far.l1 : Nat → (Arr 10 (Arr 10 Int)) → Int → Option (Arr 10 (Arr 10 Int))
  | 0, _, _ => none
  | k + 1, y5, y6 => if y6 < 10 then (((impl_Pasture_far.l2 y6 k y5 0).bind fun y8 => some y8).bind fun y7 => impl_Pasture_far.l1 k y7 (IntKind.i64.wrap (y6 + 1))) else (some y5)
def impl_Pasture_far.l3 (a1 : List Spot) : Nat → (Arr 10 (Arr 10 Int)) → Int → Option (Arr 10 (Arr 10 Int))
  | 0, _, _ => none
  | k + 1, y14, y15 => if y15 < (a1.length : Int) then ((getI a1 y15).bind fun t16 => (getI y14.l t16.Y).bind fun t18 => (getI t18.l t16.X).bind fun t19 => impl_Pasture_far.l3 a1 k (aset y14 t16.Y.toNat (aset t18 t16.X.toNat 0)) (IntKind.i64.wrap (y15 + 1))) else (some y14)
def impl_Pasture_far.l5 (a0 : Pasture) (t33 : Spot) : Nat → (Arr 10 (Arr 10 Int)) → (List Spot) → Int → Option ((Arr 10 (Arr 10 Int)) × (List Spot))
  | 0, _, _, _ => none
  | k + 1, y39, y40, y43 => if y43 < 4 then ((impl_Spot_ahead.f t33 y43).bind fun t44 => ((impl_Pasture_canGo.f a0 t33 y43).bind fun t47 => if t47 = true then ((getI y39.l t44.Y).bind fun t48 => (getI t48.l t44.X).bind fun t49 => some (decide (t49 < 0))) else (some false)).bind fun y46 => if y46 = true then ((getI y39.l t33.Y).bind fun t50 => (getI t50.l t33.X).bind fun t51 => (getI y39.l t44.Y).bind fun t52 => (getI t52.l t44.X).bind fun t53 => (chk (y40.length + ([t44] : List Spot).length ≤ 4294967296)).bind fun u55 => impl_Pasture_far.l5 a0 t33 k (aset y39 t44.Y.toNat (aset t52 t44.X.toNat (IntKind.i16.wrap (t51 + 1)))) (y40 ++ ([t44] : List Spot)) (IntKind.i64.wrap (y43 + 1))) else (impl_Pasture_far.l5 a0 t33 k y39 y40 (IntKind.i64.wrap (y43 + 1)))) else (some (y39, y40))
def impl_Pasture_far.l4 (a0 : Pasture) : Nat → (Arr 10 (Arr 10 Int)) → (List Spot) → Int → Option (Arr 10 (Arr 10 Int))
  | 0, _, _, _ => none
  | k + 1, y24, y25, y28 => if y28 < (y25.length : Int) then (((getI y25 y28).bind fun t33 => (impl_Pasture_far.l5 a0 t33 k y24 y25 0).bind fun (y35, y36) => some (y35, y36)).bind fun (y29, y30) => impl_Pasture_far.l4 a0 k y29 y30 (IntKind.i64.wrap (y28 + 1))) else (some y24)
def impl_Pasture_far.f (k : Nat) (a0 : Pasture) (a1 : List Spot) : Option (Arr 10 (Arr 10 Int)) := (impl_Pasture_far.l1 k (Arr.mk' (Arr.mk' 0 : Arr 10 Int) : Arr 10 (Arr 10 Int)) 0).bind fun y4 => (impl_Pasture_far.l3 a1 k y4 0).bind fun y13 => (slices_Clone_impl_Spot_impl_Spot.f a1).bind fun t20 => (impl_Pasture_far.l4 a0 k y13 t20 0).bind fun y23 => some y23
theorem impl_Pasture_far.c (k : Nat) (w : World) (a0 : Pasture) (Aa1 : Option Addr) (ca1 : Nat) (a1 : List Spot) (hr1 : Rd cSpot w Aa1 a1) (hc1 : a1.length ≤ ca1) (r : Arr 10 (Arr 10 Int)) (H : impl_Pasture_far.f k a0 a1 = some r) :
 CV Tryz.prog 68 [.agg (cPasture.enc a0).toArray, .slice Aa1 a1.length ca1].toArray w fun v w' => v = .agg ((carr 10 (carr 10 (ci .i16))).enc r).toArray ∧ Ext w w' := by
 have hS := ((St.init w no).param cSpot Aa1 ca1 a1 hr1 hc1)
 unfold impl_Pasture_far.f at H
 refine CV.body Tryz.func68 Z Tryz.ntmps68 Z ?_
 refine CJ.seq (CJ.region ?_)
 refine OJ.ef Z Z Z (Ef.box hS Z Z (cPasture.enc a0) Z) ?_
 rintro _ w1 ⟨b1, rfl, hS⟩
 refine OJ.ef rfl rfl rfl (Ef.alloc hS oI rfl rfl ((carr 10 (carr 10 (ci .i16))).enc (Arr.mk' (Arr.mk' 0 : Arr 10 Int) : Arr 10 (Arr 10 Int))) (by kernel_rfl)) ?_
 rintro _ w1 ⟨b2, rfl, hS⟩
 refine OJ.nil (EJ.next ?_)
 refine CJ.seq (CJ.region ?_)
 refine OJ.st rfl rfl rfl (SR.buildA oU oI rfl rfl rfl rfl (zs := [.int .i16 0, .int .i16 0, .int .i16 0, .int .i16 0, .int .i16 0, .int .i16 0, .int .i16 0, .int .i16 0, .int .i16 0, .int .i16 0, .int .i16 0, .int .i16 0, .int .i16 0, .int .i16 0, .int .i16 0, .int .i16 0, .int .i16 0, .int .i16 0, .int .i16 0, .int .i16 0, .int .i16 0, .int .i16 0, .int .i16 0, .int .i16 0, .int .i16 0, .int .i16 0, .int .i16 0, .int .i16 0, .int .i16 0, .int .i16 0, .int .i16 0, .int .i16 0, .int .i16 0, .int .i16 0, .int .i16 0, .int .i16 0, .int .i16 0, .int .i16 0, .int .i16 0, .int .i16 0, .int .i16 0, .int .i16 0, .int .i16 0, .int .i16 0, .int .i16 0, .int .i16 0, .int .i16 0, .int .i16 0, .int .i16 0, .int .i16 0, .int .i16 0, .int .i16 0, .int .i16 0, .int .i16 0, .int .i16 0, .int .i16 0, .int .i16 0, .int .i16 0, .int .i16 0, .int .i16 0, .int .i16 0, .int .i16 0, .int .i16 0, .int .i16 0, .int .i16 0, .int .i16 0, .int .i16 0, .int .i16 0, .int .i16 0, .int .i16 0, .int .i16 0, .int .i16 0, .int .i16 0, .int .i16 0, .int .i16 0, .int .i16 0, .int .i16 0, .int .i16 0, .int .i16 0, .int .i16 0, .int .i16 0, .int .i16 0, .int .i16 0, .int .i16 0, .int .i16 0, .int .i16 0, .int .i16 0, .int .i16 0, .int .i16 0, .int .i16 0, .int .i16 0, .int .i16 0, .int .i16 0, .int .i16 0, .int .i16 0, .int .i16 0, .int .i16 0, .int .i16 0, .int .i16 0, .int .i16 0]) rfl rfl ((carr 10 (carr 10 (ci .i16))).enc (Arr.mk' (Arr.mk' 0 : Arr 10 Int) : Arr 10 (Arr 10 Int))) (by kernel_rfl)) ?_
 refine OJ.ef rfl rfl rfl (Ef.alloc hS oI rfl rfl ((carr 10 (carr 10 (ci .i16))).enc (Arr.mk' (Arr.mk' 0 : Arr 10 Int) : Arr 10 (Arr 10 Int))) (by kernel_rfl)) ?_
 rintro _ w1 ⟨b3, rfl, hS⟩
 refine OJ.es rfl rfl (Es.put oI hS (i := 2) rfl rfl rfl rfl rfl (vs := (carr 10 (carr 10 (ci .i16))).enc (Arr.mk' (Arr.mk' 0 : Arr 10 Int) : Arr 10 (Arr 10 Int))) rfl ((carr 10 (carr 10 (ci .i16))).len _) ((carr 10 (carr 10 (ci .i16))).one _) (Put.all (carr 10 (carr 10 (ci .i16))) (Arr.mk' (Arr.mk' 0 : Arr 10 Int) : Arr 10 (Arr 10 Int)) (Arr.mk' (Arr.mk' 0 : Arr 10 Int) : Arr 10 (Arr 10 Int))) (by (try simp only [add_lit, Nat.add_assoc, Nat.zero_add, Nat.add_zero]) <;> rfl)) ?_
 intro w1 hS
 refine OJ.nil (EJ.next ?_)
 refine CJ.seq ?_
 refine CJ.seq (CJ.region ?_)
 refine OJ.pures oU 1 Z (OJ.nil (EJ.next ?_))
 obtain ⟨j91, H, K91⟩ := pbind H
 refine CJ.cut1 (fun F w1 => ∃ (y4 : Arr 10 (Arr 10 Int)) , (some y4 : Option (Arr 10 (Arr 10 Int))) = some j91 ∧ F = [(1, .slice Aa1 a1.length ca1), (2, .pointer (some ⟨b1, 0, none⟩)), (4, .pointer (some ⟨b2, 0, none⟩)), (5, .pointer (some ⟨b3, 0, none⟩))] ∧ St w no w1 [box b1 (cPasture.enc a0) 31, box b2 ((carr 10 (carr 10 (ci .i16))).enc (Arr.mk' (Arr.mk' 0 : Arr 10 Int) : Arr 10 (Arr 10 Int))) 114, box b3 ((carr 10 (carr 10 (ci .i16))).enc y4) 114] [roC cSpot Aa1 ca1 a1]) ?_ ?_
 ·skip
  refine CJ.block ?_
  refine CJ.loop (fun k F w1 => ∃ (y5 : Arr 10 (Arr 10 Int)) (y6 : Int), F = [(1, .slice Aa1 a1.length ca1), (2, .pointer (some ⟨b1, 0, none⟩)), (4, .pointer (some ⟨b2, 0, none⟩)), (5, .pointer (some ⟨b3, 0, none⟩)), (15, .int .i64 y6)] ∧ St w no w1 [box b1 (cPasture.enc a0) 31, box b2 ((carr 10 (carr 10 (ci .i16))).enc (Arr.mk' (Arr.mk' 0 : Arr 10 Int) : Arr 10 (Arr 10 Int))) 114, box b3 ((carr 10 (carr 10 (ci .i16))).enc y5) 114] [roC cSpot Aa1 ca1 a1] ∧ impl_Pasture_far.l1 k y5 y6 = some j91) k (F' := [(1, .slice Aa1 a1.length ca1), (2, .pointer (some ⟨b1, 0, none⟩)), (4, .pointer (some ⟨b2, 0, none⟩)), (5, .pointer (some ⟨b3, 0, none⟩)), (15, .int .i64 0)]) ⟨Z, Z, Z, Z, Z, trivial⟩ ⟨(Arr.mk' (Arr.mk' 0 : Arr 10 Int) : Arr 10 (Arr 10 Int)), 0, Z, hS.pick [0, 1, 2] [0] Z, H⟩ ?_
  rintro k F w1 ⟨y5, y6, rfl, hS, H⟩
  cases k with
  | zero => rw [impl_Pasture_far.l1] at H; cases H
  | succ k =>
    rw [impl_Pasture_far.l1] at H
    refine CJ.seq (CJ.region ?_)
    refine OJ.pures oU 1 Z (OJ.nil (EJ.next ?_))
    refine CJ.seq ?_
    refine CJ.cond Z (fun hb => ?_) (fun hb => ?_)
    · replace H := pif_t (of_decide_eq_true hb) H
      refine CJ.skip (EJ.next ?_)
      obtain ⟨j98, H, K98⟩ := pbind H
      refine CJ.cut (fun F w1 => ∃ (y7 : Arr 10 (Arr 10 Int)) , (some y7 : Option (Arr 10 (Arr 10 Int))) = some j98 ∧ F = [(1, .slice Aa1 a1.length ca1), (2, .pointer (some ⟨b1, 0, none⟩)), (4, .pointer (some ⟨b2, 0, none⟩)), (5, .pointer (some ⟨b3, 0, none⟩)), (15, .int .i64 y6)] ∧ St w no w1 [box b1 (cPasture.enc a0) 31, box b2 ((carr 10 (carr 10 (ci .i16))).enc (Arr.mk' (Arr.mk' 0 : Arr 10 Int) : Arr 10 (Arr 10 Int))) 114, box b3 ((carr 10 (carr 10 (ci .i16))).enc y7) 114] [roC cSpot Aa1 ca1 a1]) ?_ ?_
      · skip
        refine CJ.block ?_
        refine CJ.seq (CJ.region ?_)
        refine OJ.pures oU 2 Z (OJ.nil (EJ.next ?_))
        refine CJ.seq (CJ.region ?_)
        refine OJ.pures oU 1 Z (OJ.nil (EJ.next ?_))
        obtain ⟨j100, H, K100⟩ := pbind H
        refine CJ.cut1 (fun F w1 => ∃ (y8 : Arr 10 (Arr 10 Int)) , (some y8 : Option (Arr 10 (Arr 10 Int))) = some j100 ∧ F = [(1, .slice Aa1 a1.length ca1), (2, .pointer (some ⟨b1, 0, none⟩)), (4, .pointer (some ⟨b2, 0, none⟩)), (5, .pointer (some ⟨b3, 0, none⟩)), (15, .int .i64 y6)] ∧ St w no w1 [box b1 (cPasture.enc a0) 31, box b2 ((carr 10 (carr 10 (ci .i16))).enc (Arr.mk' (Arr.mk' 0 : Arr 10 Int) : Arr 10 (Arr 10 Int))) 114, box b3 ((carr 10 (carr 10 (ci .i16))).enc y8) 114] [roC cSpot Aa1 ca1 a1]) ?_ ?_
        · skip
          refine CJ.block ?_
          refine CJ.loop (fun k F w1 => ∃ (y9 : Arr 10 (Arr 10 Int)) (y10 : Int), F = [(1, .slice Aa1 a1.length ca1), (2, .pointer (some ⟨b1, 0, none⟩)), (4, .pointer (some ⟨b2, 0, none⟩)), (5, .pointer (some ⟨b3, 0, none⟩)), (6, .int .i64 y6), (15, .int .i64 y6), (18, .int .i64 y10)] ∧ St w no w1 [box b1 (cPasture.enc a0) 31, box b2 ((carr 10 (carr 10 (ci .i16))).enc (Arr.mk' (Arr.mk' 0 : Arr 10 Int) : Arr 10 (Arr 10 Int))) 114, box b3 ((carr 10 (carr 10 (ci .i16))).enc y9) 114] [roC cSpot Aa1 ca1 a1] ∧ impl_Pasture_far.l2 y6 k y9 y10 = some j100) k (F' := [(1, .slice Aa1 a1.length ca1), (2, .pointer (some ⟨b1, 0, none⟩)), (4, .pointer (some ⟨b2, 0, none⟩)), (5, .pointer (some ⟨b3, 0, none⟩)), (6, .int .i64 y6), (15, .int .i64 y6), (18, .int .i64 0)]) ⟨Z, Z, Z, Z, Z, Z, Z, trivial⟩ ⟨y5, 0, Z, hS.pick [0, 1, 2] [0] Z, H⟩ ?_
          rintro k F w1 ⟨y9, y10, rfl, hS, H⟩
          cases k with
          | zero => rw [impl_Pasture_far.l2] at H; cases H
          | succ k =>
            rw [impl_Pasture_far.l2] at H
            refine CJ.seq (CJ.region ?_)
            refine OJ.pures oU 1 Z (OJ.nil (EJ.next ?_))
            refine CJ.seq ?_
            refine CJ.cond Z (fun hb => ?_) (fun hb => ?_)
            · replace H := pif_t (of_decide_eq_true hb) H
              refine CJ.skip (EJ.next ?_)
              refine CJ.seq ?_
              refine CJ.block ?_
              refine CJ.seq (CJ.region ?_)
              refine OJ.pures oU 2 Z (OJ.nil (EJ.next ?_))
              refine CJ.region ?_
              refine OJ.pures oU 2 Z ?_
              obtain ⟨t11, ht11, H⟩ := pbind H
              refine OJ.st Z Z Z (SR.idxA oU oI Z Z Z Z Z (Arr.lt ht11)) ?_
              obtain ⟨t12, ht12, H⟩ := pbind H
              refine OJ.st Z Z Z (SR.idxA oU oI Z Z Z Z Z (Arr.lt ht12)) ?_
              refine OJ.es rfl rfl (Es.put oI hS (i := 2) rfl rfl rfl rfl rfl (vs := (ci .i16).enc (-1)) rfl rfl (one1 rfl) (Put.idx (Put.idx (Put.all (ci .i16) t12 (-1)) ht12) ht11) (by (try simp only [add_lit, Nat.add_assoc, Nat.zero_add, Nat.add_zero]) <;> rfl)) ?_
              intro w1 hS
              refine OJ.nil (EJ.blk (EJ.next ?_))
              refine CJ.region ?_
              refine OJ.pures oU 2 Z ?_
              refine OJ.nil ?_
              exact EJ.round k (F' := [(1, .slice Aa1 a1.length ca1), (2, .pointer (some ⟨b1, 0, none⟩)), (4, .pointer (some ⟨b2, 0, none⟩)), (5, .pointer (some ⟨b3, 0, none⟩)), (6, .int .i64 y6), (15, .int .i64 y6), (18, .int .i64 (IntKind.i64.wrap (y10 + 1)))]) ⟨Z, Z, Z, Z, Z, Z, Z, trivial⟩ (Nat.lt_succ_self _) ⟨(aset y9 y6.toNat (aset t11 y10.toNat (-1))), (IntKind.i64.wrap (y10 + 1)), Z, hS.pick [0, 1, 2] [0] Z, H⟩
            · replace H := pif_f (of_decide_eq_false hb) H
              refine CJ.exit (EJ.skE (EJ.skE (EJ.hit (?_))))
              exact EJ.meet (F' := [(1, .slice Aa1 a1.length ca1), (2, .pointer (some ⟨b1, 0, none⟩)), (4, .pointer (some ⟨b2, 0, none⟩)), (5, .pointer (some ⟨b3, 0, none⟩)), (15, .int .i64 y6)]) ⟨Z, Z, Z, Z, Z, trivial⟩ ⟨y9, H, Z, hS.pick [0, 1, 2] [0] Z⟩
        · rintro F w1 ⟨y8, he, rfl, hS⟩
          obtain rfl := Option.some.inj he
          have H := K100
          refine EJ.blk (?_)
          exact EJ.meet (F' := [(1, .slice Aa1 a1.length ca1), (2, .pointer (some ⟨b1, 0, none⟩)), (4, .pointer (some ⟨b2, 0, none⟩)), (5, .pointer (some ⟨b3, 0, none⟩)), (15, .int .i64 y6)]) ⟨Z, Z, Z, Z, Z, trivial⟩ ⟨y8, H, Z, hS.pick [0, 1, 2] [0] Z⟩
      · rintro F w1 ⟨y7, he, rfl, hS⟩
        obtain rfl := Option.some.inj he
        have H := K98
        refine CJ.region ?_
        refine OJ.pures oU 2 Z ?_
        refine OJ.nil ?_
        exact EJ.round k (F' := [(1, .slice Aa1 a1.length ca1), (2, .pointer (some ⟨b1, 0, none⟩)), (4, .pointer (some ⟨b2, 0, none⟩)), (5, .pointer (some ⟨b3, 0, none⟩)), (15, .int .i64 (IntKind.i64.wrap (y6 + 1)))]) ⟨Z, Z, Z, Z, Z, trivial⟩ (Nat.lt_succ_self _) ⟨y7, (IntKind.i64.wrap (y6 + 1)), Z, hS.pick [0, 1, 2] [0] Z, H⟩
    · replace H := pif_f (of_decide_eq_false hb) H
      refine CJ.exit (EJ.skE (EJ.skE (EJ.hit (?_))))
      exact EJ.meet (F' := [(1, .slice Aa1 a1.length ca1), (2, .pointer (some ⟨b1, 0, none⟩)), (4, .pointer (some ⟨b2, 0, none⟩)), (5, .pointer (some ⟨b3, 0, none⟩))]) ⟨Z, Z, Z, Z, trivial⟩ ⟨y5, H, Z, hS.pick [0, 1, 2] [0] Z⟩
 rintro F w1 ⟨y4, he, rfl, hS⟩
 obtain rfl := Option.some.inj he
 have H := K91
 refine EJ.next ?_
 refine CJ.seq ?_
 refine CJ.seq (CJ.region ?_)
 refine OJ.pures oU 3 Z (OJ.nil (EJ.next ?_))
 obtain ⟨j101, H, K101⟩ := pbind H
 refine CJ.cut1 (fun F w1 => ∃ (y13 : Arr 10 (Arr 10 Int)) , (some y13 : Option (Arr 10 (Arr 10 Int))) = some j101 ∧ F = [(1, .slice Aa1 a1.length ca1), (2, .pointer (some ⟨b1, 0, none⟩)), (4, .pointer (some ⟨b2, 0, none⟩)), (5, .pointer (some ⟨b3, 0, none⟩))] ∧ St w no w1 [box b1 (cPasture.enc a0) 31, box b2 ((carr 10 (carr 10 (ci .i16))).enc (Arr.mk' (Arr.mk' 0 : Arr 10 Int) : Arr 10 (Arr 10 Int))) 114, box b3 ((carr 10 (carr 10 (ci .i16))).enc y13) 114] [roC cSpot Aa1 ca1 a1]) ?_ ?_
 ·skip
  refine CJ.block ?_
  refine CJ.loop (fun k F w1 => ∃ (y14 : Arr 10 (Arr 10 Int)) (y15 : Int), F = [(1, .slice Aa1 a1.length ca1), (2, .pointer (some ⟨b1, 0, none⟩)), (4, .pointer (some ⟨b2, 0, none⟩)), (5, .pointer (some ⟨b3, 0, none⟩)), (27, .slice Aa1 a1.length ca1), (28, .int .i64 (a1.length : Int)), (29, .int .i64 y15)] ∧ St w no w1 [box b1 (cPasture.enc a0) 31, box b2 ((carr 10 (carr 10 (ci .i16))).enc (Arr.mk' (Arr.mk' 0 : Arr 10 Int) : Arr 10 (Arr 10 Int))) 114, box b3 ((carr 10 (carr 10 (ci .i16))).enc y14) 114] [roC cSpot Aa1 ca1 a1] ∧ impl_Pasture_far.l3 a1 k y14 y15 = some j101) k (F' := [(1, .slice Aa1 a1.length ca1), (2, .pointer (some ⟨b1, 0, none⟩)), (4, .pointer (some ⟨b2, 0, none⟩)), (5, .pointer (some ⟨b3, 0, none⟩)), (27, .slice Aa1 a1.length ca1), (28, .int .i64 (a1.length : Int)), (29, .int .i64 0)]) ⟨Z, Z, Z, Z, Z, Z, Z, trivial⟩ ⟨y4, 0, Z, hS.pick [0, 1, 2] [0] Z, H⟩ ?_
  rintro k F w1 ⟨y14, y15, rfl, hS, H⟩
  cases k with
  | zero => rw [impl_Pasture_far.l3] at H; cases H
  | succ k =>
    rw [impl_Pasture_far.l3] at H
    refine CJ.seq (CJ.region ?_)
    refine OJ.pures oU 1 Z (OJ.nil (EJ.next ?_))
    refine CJ.seq ?_
    refine CJ.cond Z (fun hb => ?_) (fun hb => ?_)
    · replace H := pif_t (of_decide_eq_true hb) H
      refine CJ.skip (EJ.next ?_)
      refine CJ.seq ?_
      refine CJ.block ?_
      refine CJ.seq (CJ.region ?_)
      obtain ⟨t16, ht16, H⟩ := pbind H
      obtain ⟨ad16, e16⟩ := (hS.rd' (i := 0) rfl).some' ht16
      refine OJ.st Z Z Z (SR.idxS oU oI Z Z Z Z e16 Z (getI_some ht16).1) ?_
      refine OJ.st Z Z Z (SR.load Z Z (fun w' hx => ldE oU oI Z Z Z (CA.ext ((hS.rd' (i := 0) Z).at_ e16 ht16) hx) Z)) ?_
      refine OJ.ef Z Z Z (Ef.alloc hS oI Z Z (cSpot.enc (⟨0, 0⟩ : Spot)) Z) ?_
      rintro _ w1 ⟨b17, rfl, hS⟩
      refine OJ.es Z Z (Es.store oI hS (i := 3) Z Z Z Z Z Z (vs := cSpot.enc t16) Z (cSpot.len _) (cSpot.one _) (Nat.le_of_ble_eq_true Z) (cSpot.enc t16) Z) ?_
      intro w1 hS
      refine OJ.nil (EJ.next ?_)
      refine CJ.draw [] [0, 1, 2, 3, 4, 5, 6] mixed (by kernel_rfl) hS fun w1 hS => ?_
      refine DJ.st Z Z Z Z Z (SR.fieldAddr oU oI Z Z Z Z Z Z) ?_
      refine DJ.st Z Z Z Z Z (SR.load Z Z (fun w' hx => ld1 oU Z Z (CA.ext (CA.sub (hS.cells (i := 3) Z) 1) hx) Z)) ?_
      refine DJ.st Z Z Z Z Z (SR.fieldAddr oU oI Z Z Z Z Z Z) ?_
      refine DJ.st Z Z Z Z Z (SR.load Z Z (fun w' hx => ld1 oU Z Z (CA.ext (CA.sub (hS.cells (i := 3) Z) 0) hx) Z)) ?_
      obtain ⟨t18, ht18, H⟩ := pbind H
      refine DJ.st Z Z Z Z Z (SR.idxA oU oI Z Z Z Z Z (Arr.lt ht18)) ?_
      obtain ⟨t19, ht19, H⟩ := pbind H
      refine DJ.st Z Z Z Z Z (SR.idxA oU oI Z Z Z Z Z (Arr.lt ht19)) ?_
      refine DJ.es rfl rfl rfl rfl (Es.put oI hS (i := 2) rfl rfl rfl rfl rfl (vs := (ci .i16).enc 0) rfl rfl (one1 rfl) (Put.idx (Put.idx (Put.all (ci .i16) t19 0) ht19) ht18) (by (try simp only [add_lit, Nat.add_assoc, Nat.zero_add, Nat.add_zero]) <;> rfl)) ?_
      intro w1 hS
      refine DJ.nil (EJ.blk (EJ.next ?_))
      refine CJ.region ?_
      refine OJ.pures oU 2 Z ?_
      refine OJ.nil ?_
      exact EJ.round k (F' := [(1, .slice Aa1 a1.length ca1), (2, .pointer (some ⟨b1, 0, none⟩)), (4, .pointer (some ⟨b2, 0, none⟩)), (5, .pointer (some ⟨b3, 0, none⟩)), (27, .slice Aa1 a1.length ca1), (28, .int .i64 (a1.length : Int)), (29, .int .i64 (IntKind.i64.wrap (y15 + 1)))]) ⟨Z, Z, Z, Z, Z, Z, Z, trivial⟩ (Nat.lt_succ_self _) ⟨(aset y14 t16.Y.toNat (aset t18 t16.X.toNat 0)), (IntKind.i64.wrap (y15 + 1)), Z, hS.pick [0, 1, 2] [0] Z, H⟩
    · replace H := pif_f (of_decide_eq_false hb) H
      refine CJ.exit (EJ.skE (EJ.skE (EJ.hit (?_))))
      exact EJ.meet (F' := [(1, .slice Aa1 a1.length ca1), (2, .pointer (some ⟨b1, 0, none⟩)), (4, .pointer (some ⟨b2, 0, none⟩)), (5, .pointer (some ⟨b3, 0, none⟩))]) ⟨Z, Z, Z, Z, trivial⟩ ⟨y14, H, Z, hS.pick [0, 1, 2] [0] Z⟩
 rintro F w1 ⟨y13, he, rfl, hS⟩
 obtain rfl := Option.some.inj he
 have H := K101
 refine EJ.next ?_
 refine CJ.seq (CJ.region ?_)
 refine OJ.pures oU 1 Z ?_
 obtain ⟨t20, ht20, H⟩ := pbind H
 refine OJ.callF Z Z Z Z Z hb106 Z (slices_Clone_impl_Spot_impl_Spot.c _ Aa1 ca1 a1 (hS.rd' (i := 0) Z) (hS.le' (i := 0) Z) _ ht20) ?_
 rintro _ w1 ⟨A21, c22, rfl, hs⟩
 replace hS := hS.addN hs
 refine OJ.pures oU 1 Z (OJ.nil (EJ.next ?_))
 refine CJ.seq ?_
 refine CJ.seq (CJ.region ?_)
 refine OJ.pures oU 1 Z (OJ.nil (EJ.next ?_))
 obtain ⟨j102, H, K102⟩ := pbind H
 refine CJ.cut1 (fun F w1 => ∃ (y23 : Arr 10 (Arr 10 Int)) , (some y23 : Option (Arr 10 (Arr 10 Int))) = some j102 ∧ F = [(4, .pointer (some ⟨b2, 0, none⟩)), (5, .pointer (some ⟨b3, 0, none⟩))] ∧ St w no w1 [box b2 ((carr 10 (carr 10 (ci .i16))).enc (Arr.mk' (Arr.mk' 0 : Arr 10 Int) : Arr 10 (Arr 10 Int))) 114, box b3 ((carr 10 (carr 10 (ci .i16))).enc y23) 114] [roC cSpot Aa1 ca1 a1]) ?_ ?_
 ·skip
  refine CJ.block ?_
  refine CJ.loop (fun k F w1 => ∃ (y24 : Arr 10 (Arr 10 Int)) (y25 : List Spot) (y28 : Int) (A26 : Option Addr) (c27 : Nat), F = [(1, .slice A26 y25.length c27), (2, .pointer (some ⟨b1, 0, none⟩)), (4, .pointer (some ⟨b2, 0, none⟩)), (5, .pointer (some ⟨b3, 0, none⟩)), (10, .int .i64 y28)] ∧ St w no w1 [box b1 (cPasture.enc a0) 31, box b2 ((carr 10 (carr 10 (ci .i16))).enc (Arr.mk' (Arr.mk' 0 : Arr 10 Int) : Arr 10 (Arr 10 Int))) 114, box b3 ((carr 10 (carr 10 (ci .i16))).enc y24) 114, rowC cSpot A26 c27 48 y25] [roC cSpot Aa1 ca1 a1] ∧ impl_Pasture_far.l4 a0 k y24 y25 y28 = some j102) k (F' := [(1, .slice A21 t20.length c22), (2, .pointer (some ⟨b1, 0, none⟩)), (4, .pointer (some ⟨b2, 0, none⟩)), (5, .pointer (some ⟨b3, 0, none⟩)), (10, .int .i64 0)]) ⟨Z, Z, Z, Z, Z, trivial⟩ ⟨y13, t20, 0, A21, c22, Z, hS.pick [0, 1, 2, 3] [0] Z, H⟩ ?_
  rintro k F w1 ⟨y24, y25, y28, A26, c27, rfl, hS, H⟩
  cases k with
  | zero => rw [impl_Pasture_far.l4] at H; cases H
  | succ k =>
    rw [impl_Pasture_far.l4] at H
    refine CJ.seq ?_
    refine CJ.seq (CJ.region ?_)
    refine OJ.pures oU 4 Z (OJ.nil (EJ.next ?_))
    refine CJ.cond Z (fun hb => ?_) (fun hb => ?_)
    · replace H := pif_t (of_decide_eq_true hb) H
      refine CJ.skip (EJ.next ?_)
      obtain ⟨j122, H, K122⟩ := pbind H
      refine CJ.cut (fun F w1 => ∃ (y29 : Arr 10 (Arr 10 Int)) (y30 : List Spot) (A31 : Option Addr) (c32 : Nat), (some (y29, y30) : Option ((Arr 10 (Arr 10 Int)) × (List Spot))) = some j122 ∧ F = [(1, .slice A31 y30.length c32), (2, .pointer (some ⟨b1, 0, none⟩)), (4, .pointer (some ⟨b2, 0, none⟩)), (5, .pointer (some ⟨b3, 0, none⟩)), (10, .int .i64 y28)] ∧ St w no w1 [box b1 (cPasture.enc a0) 31, box b2 ((carr 10 (carr 10 (ci .i16))).enc (Arr.mk' (Arr.mk' 0 : Arr 10 Int) : Arr 10 (Arr 10 Int))) 114, box b3 ((carr 10 (carr 10 (ci .i16))).enc y29) 114, rowC cSpot A31 c32 48 y30] [roC cSpot Aa1 ca1 a1]) ?_ ?_
      · skip
        refine CJ.block ?_
        refine CJ.seq (CJ.region ?_)
        refine OJ.pures oU 2 Z ?_
        obtain ⟨t33, ht33, H⟩ := pbind H
        obtain ⟨ad33, e33⟩ := (hS.rd (i := 3) rfl).some' ht33
        refine OJ.st Z Z Z (SR.idxS oU oI Z Z Z Z e33 Z (getI_some ht33).1) ?_
        refine OJ.st Z Z Z (SR.load Z Z (fun w' hx => ldE oU oI Z Z Z (CA.ext ((hS.rd (i := 3) Z).at_ e33 ht33) hx) Z)) ?_
        refine OJ.ef Z Z Z (Ef.alloc hS oI Z Z (cSpot.enc (⟨0, 0⟩ : Spot)) Z) ?_
        rintro _ w1 ⟨b34, rfl, hS⟩
        refine OJ.es Z Z (Es.store oI hS (i := 4) Z Z Z Z Z Z (vs := cSpot.enc t33) Z (cSpot.len _) (cSpot.one _) (Nat.le_of_ble_eq_true Z) (cSpot.enc t33) Z) ?_
        intro w1 hS
        refine OJ.nil (EJ.next ?_)
        refine CJ.seq (CJ.region ?_)
        refine OJ.pures oU 1 Z (OJ.nil (EJ.next ?_))
        obtain ⟨j127, H, K127⟩ := pbind H
        refine CJ.cut1 (fun F w1 => ∃ (y35 : Arr 10 (Arr 10 Int)) (y36 : List Spot) (A37 : Option Addr) (c38 : Nat), (some (y35, y36) : Option ((Arr 10 (Arr 10 Int)) × (List Spot))) = some j127 ∧ F = [(1, .slice A37 y36.length c38), (2, .pointer (some ⟨b1, 0, none⟩)), (4, .pointer (some ⟨b2, 0, none⟩)), (5, .pointer (some ⟨b3, 0, none⟩)), (10, .int .i64 y28)] ∧ St w no w1 [box b1 (cPasture.enc a0) 31, box b2 ((carr 10 (carr 10 (ci .i16))).enc (Arr.mk' (Arr.mk' 0 : Arr 10 Int) : Arr 10 (Arr 10 Int))) 114, box b3 ((carr 10 (carr 10 (ci .i16))).enc y35) 114, rowC cSpot A37 c38 48 y36] [roC cSpot Aa1 ca1 a1]) ?_ ?_
        · skip
          refine CJ.block ?_
          refine CJ.loop (fun k F w1 => ∃ (y39 : Arr 10 (Arr 10 Int)) (y40 : List Spot) (y43 : Int) (A41 : Option Addr) (c42 : Nat), F = [(1, .slice A41 y40.length c42), (2, .pointer (some ⟨b1, 0, none⟩)), (4, .pointer (some ⟨b2, 0, none⟩)), (5, .pointer (some ⟨b3, 0, none⟩)), (10, .int .i64 y28), (11, .pointer (some ⟨b34, 0, none⟩)), (52, .int .i64 y43)] ∧ St w no w1 [box b1 (cPasture.enc a0) 31, box b2 ((carr 10 (carr 10 (ci .i16))).enc (Arr.mk' (Arr.mk' 0 : Arr 10 Int) : Arr 10 (Arr 10 Int))) 114, box b3 ((carr 10 (carr 10 (ci .i16))).enc y39) 114, rowC cSpot A41 c42 48 y40, box b34 (cSpot.enc t33) 48] [roC cSpot Aa1 ca1 a1] ∧ impl_Pasture_far.l5 a0 t33 k y39 y40 y43 = some j127) k (F' := [(1, .slice A26 y25.length c27), (2, .pointer (some ⟨b1, 0, none⟩)), (4, .pointer (some ⟨b2, 0, none⟩)), (5, .pointer (some ⟨b3, 0, none⟩)), (10, .int .i64 y28), (11, .pointer (some ⟨b34, 0, none⟩)), (52, .int .i64 0)]) ⟨Z, Z, Z, Z, Z, Z, Z, trivial⟩ ⟨y24, y25, 0, A26, c27, Z, hS.pick [0, 1, 2, 3, 4] [0] Z, H⟩ ?_
          rintro k F w1 ⟨y39, y40, y43, A41, c42, rfl, hS, H⟩
          cases k with
          | zero => rw [impl_Pasture_far.l5] at H; cases H
          | succ k =>
            rw [impl_Pasture_far.l5] at H
            refine CJ.seq (CJ.region ?_)
            refine OJ.pures oU 1 Z (OJ.nil (EJ.next ?_))
            refine CJ.seq ?_
            refine CJ.cond Z (fun hb => ?_) (fun hb => ?_)
            · replace H := pif_t (of_decide_eq_true hb) H
              refine CJ.skip (EJ.next ?_)
              refine CJ.seq ?_
              refine CJ.block ?_
              refine CJ.seq (CJ.region ?_)
              refine OJ.pures oU 2 Z (OJ.nil (EJ.next ?_))
              refine CJ.seq (CJ.region ?_)
              refine OJ.st Z Z Z (SR.load Z Z (fun w' hx => ldE oU oI Z Z Z (CA.ext (hS.cells (i := 4) Z) hx) Z)) ?_
              refine OJ.pures oU 1 Z ?_
              obtain ⟨t44, ht44, H⟩ := pbind H
              refine OJ.callF Z Z Z Z Z hb107 Z (impl_Spot_ahead.c _ t33 y43 _ ht44) ?_
              rintro _ w1 ⟨rfl, hs⟩
              replace hS := hS.grow hs
              refine OJ.ef Z Z Z (Ef.alloc hS oI Z Z (cSpot.enc (⟨0, 0⟩ : Spot)) Z) ?_
              rintro _ w1 ⟨b45, rfl, hS⟩
              refine OJ.es Z Z (Es.store oI hS (i := 5) Z Z Z Z Z Z (vs := cSpot.enc t44) Z (cSpot.len _) (cSpot.one _) (Nat.le_of_ble_eq_true Z) (cSpot.enc t44) Z) ?_
              intro w1 hS
              refine OJ.nil (EJ.next ?_)
              obtain ⟨j130, H, K130⟩ := pbind H
              refine CJ.cut (fun F w1 => ∃ (y46 : Bool) , (some y46 : Option Bool) = some j130 ∧ F = [(1, .slice A41 y40.length c42), (2, .pointer (some ⟨b1, 0, none⟩)), (4, .pointer (some ⟨b2, 0, none⟩)), (5, .pointer (some ⟨b3, 0, none⟩)), (10, .int .i64 y28), (11, .pointer (some ⟨b34, 0, none⟩)), (13, .pointer (some ⟨b45, 0, none⟩)), (52, .int .i64 y43), (71, .bool y46)] ∧ St w no w1 [box b1 (cPasture.enc a0) 31, box b2 ((carr 10 (carr 10 (ci .i16))).enc (Arr.mk' (Arr.mk' 0 : Arr 10 Int) : Arr 10 (Arr 10 Int))) 114, box b3 ((carr 10 (carr 10 (ci .i16))).enc y39) 114, rowC cSpot A41 c42 48 y40, box b34 (cSpot.enc t33) 48, box b45 (cSpot.enc t44) 48] [roC cSpot Aa1 ca1 a1]) ?_ ?_
              · skip
                refine CJ.draw [] [0, 1, 2, 3, 4, 5, 6, 7, 8, 9, 10, 11, 12, 13] mixed (by kernel_rfl) hS fun w1 hS => ?_
                refine DJ.st Z Z Z Z Z (SR.load Z Z (fun w' hx => ldE oU oI Z Z Z (CA.ext (hS.cells (i := 0) Z) hx) Z)) ?_
                refine DJ.st Z Z Z Z Z (SR.load Z Z (fun w' hx => ldE oU oI Z Z Z (CA.ext (hS.cells (i := 4) Z) hx) Z)) ?_
                refine DJ.pures oU 1 Z ?_
                obtain ⟨t47, ht47, H⟩ := pbind H
                refine DJ.callF rfl rfl rfl rfl rfl rfl rfl hb108 rfl (impl_Pasture_canGo.c _ a0 t33 y43 _ ht47) (by rintro v w' ⟨rfl, hs⟩; exact hs) ?_
                rintro _ w1 ⟨rfl, hs⟩
                replace hS := hS.grow hs
                refine DJ.pures oU 1 Z ?_
                refine DJ.split (t := 62) Z (fun hb => ?_) (fun hb => ?_)
                · replace H := pif_t hb H
                  refine DJ.st Z Z Z Z Z (SR.fieldAddr oU oI Z Z Z Z Z Z) ?_
                  refine DJ.st Z Z Z Z Z (SR.load Z Z (fun w' hx => ld1 oU Z Z (CA.ext (CA.sub (hS.cells (i := 5) Z) 1) hx) Z)) ?_
                  refine DJ.st Z Z Z Z Z (SR.fieldAddr oU oI Z Z Z Z Z Z) ?_
                  refine DJ.st Z Z Z Z Z (SR.load Z Z (fun w' hx => ld1 oU Z Z (CA.ext (CA.sub (hS.cells (i := 5) Z) 0) hx) Z)) ?_
                  obtain ⟨t48, ht48, H⟩ := pbind H
                  refine DJ.st Z Z Z Z Z (SR.idxA oU oI Z Z Z Z Z (Arr.lt ht48)) ?_
                  obtain ⟨t49, ht49, H⟩ := pbind H
                  refine DJ.st Z Z Z Z Z (SR.idxA oU oI Z Z Z Z Z (Arr.lt ht49)) ?_
                  refine DJ.st Z Z Z Z Z (SR.load Z Z (fun w' hx => ld1 oU Z Z (CA.ext (CA.idx (CA.idx (hS.cells (i := 2) Z) ht48) ht49) hx) Z)) ?_
                  refine DJ.pures oU 2 Z ?_
                  refine DJ.nil ?_
                  exact EJ.meet (F' := [(1, .slice A41 y40.length c42), (2, .pointer (some ⟨b1, 0, none⟩)), (4, .pointer (some ⟨b2, 0, none⟩)), (5, .pointer (some ⟨b3, 0, none⟩)), (10, .int .i64 y28), (11, .pointer (some ⟨b34, 0, none⟩)), (13, .pointer (some ⟨b45, 0, none⟩)), (52, .int .i64 y43), (71, .bool (decide (t49 < 0)))]) ⟨Z, Z, Z, Z, Z, Z, Z, Z, Z, trivial⟩ ⟨(decide (t49 < 0)), H, Z, hS.pick [0, 1, 2, 3, 4, 5] [0] Z⟩
                · replace H := pifb_f hb H
                  refine DJ.pures oU 9 Z ?_
                  refine DJ.nil ?_
                  exact EJ.meet (F' := [(1, .slice A41 y40.length c42), (2, .pointer (some ⟨b1, 0, none⟩)), (4, .pointer (some ⟨b2, 0, none⟩)), (5, .pointer (some ⟨b3, 0, none⟩)), (10, .int .i64 y28), (11, .pointer (some ⟨b34, 0, none⟩)), (13, .pointer (some ⟨b45, 0, none⟩)), (52, .int .i64 y43), (71, .bool false)]) ⟨Z, Z, Z, Z, Z, Z, Z, Z, Z, trivial⟩ ⟨false, H, Z, hS.pick [0, 1, 2, 3, 4, 5] [0] Z⟩
              · rintro F w1 ⟨y46, he, rfl, hS⟩
                obtain rfl := Option.some.inj he
                have H := K130
                refine CJ.cond Z (fun hb => ?_) (fun hb => ?_)
                · replace H := pif_t hb H
                  refine CJ.seq ?_
                  refine CJ.draw [] [0, 1, 2, 3, 4, 5, 6, 7, 8, 9, 10, 11, 12, 13, 14] mixed (by kernel_rfl) hS fun w1 hS => ?_
                  refine DJ.st Z Z Z Z Z (SR.fieldAddr oU oI Z Z Z Z Z Z) ?_
                  refine DJ.st Z Z Z Z Z (SR.load Z Z (fun w' hx => ld1 oU Z Z (CA.ext (CA.sub (hS.cells (i := 5) Z) 1) hx) Z)) ?_
                  refine DJ.st Z Z Z Z Z (SR.fieldAddr oU oI Z Z Z Z Z Z) ?_
                  refine DJ.st Z Z Z Z Z (SR.load Z Z (fun w' hx => ld1 oU Z Z (CA.ext (CA.sub (hS.cells (i := 5) Z) 0) hx) Z)) ?_
                  refine DJ.st Z Z Z Z Z (SR.fieldAddr oU oI Z Z Z Z Z Z) ?_
                  refine DJ.st Z Z Z Z Z (SR.load Z Z (fun w' hx => ld1 oU Z Z (CA.ext (CA.sub (hS.cells (i := 4) Z) 1) hx) Z)) ?_
                  refine DJ.st Z Z Z Z Z (SR.fieldAddr oU oI Z Z Z Z Z Z) ?_
                  refine DJ.st Z Z Z Z Z (SR.load Z Z (fun w' hx => ld1 oU Z Z (CA.ext (CA.sub (hS.cells (i := 4) Z) 0) hx) Z)) ?_
                  obtain ⟨t50, ht50, H⟩ := pbind H
                  refine DJ.st Z Z Z Z Z (SR.idxA oU oI Z Z Z Z Z (Arr.lt ht50)) ?_
                  obtain ⟨t51, ht51, H⟩ := pbind H
                  refine DJ.st Z Z Z Z Z (SR.idxA oU oI Z Z Z Z Z (Arr.lt ht51)) ?_
                  refine DJ.st Z Z Z Z Z (SR.load Z Z (fun w' hx => ld1 oU Z Z (CA.ext (CA.idx (CA.idx (hS.cells (i := 2) Z) ht50) ht51) hx) Z)) ?_
                  refine DJ.pures oU 1 Z ?_
                  obtain ⟨t52, ht52, H⟩ := pbind H
                  refine DJ.st Z Z Z Z Z (SR.idxA oU oI Z Z Z Z Z (Arr.lt ht52)) ?_
                  obtain ⟨t53, ht53, H⟩ := pbind H
                  refine DJ.st Z Z Z Z Z (SR.idxA oU oI Z Z Z Z Z (Arr.lt ht53)) ?_
                  refine DJ.es rfl rfl rfl rfl (Es.put oI hS (i := 2) rfl rfl rfl rfl rfl (vs := (ci .i16).enc (IntKind.i16.wrap (t51 + 1))) rfl rfl (one1 rfl) (Put.idx (Put.idx (Put.all (ci .i16) t53 (IntKind.i16.wrap (t51 + 1))) ht53) ht52) (by (try simp only [add_lit, Nat.add_assoc, Nat.zero_add, Nat.add_zero]) <;> rfl)) ?_
                  intro w1 hS
                  refine DJ.nil (EJ.next ?_)
                  refine CJ.region ?_
                  refine OJ.pures oU 1 Z ?_
                  refine OJ.st Z Z Z (SR.load Z Z (fun w' hx => ldE oU oI Z Z Z (CA.ext (hS.cells (i := 5) Z) hx) Z)) ?_
                  refine OJ.ef Z Z Z (Ef.lit oU oI hS (C := cSpot) Z Z Z Z Z Z ([t44] : List Spot) Z Z Z Z) ?_
                  rintro _ w1 ⟨A54, rfl, hS⟩
                  obtain ⟨u55, hu55, H⟩ := pbind H
                  refine OJ.ew Z Z Z (Ew.append oU oI (C := cSpot) (xs := y40) (ys := ([t44] : List Spot)) hS (i := 3) Z Z Z Z Z Z Z Z Z Z Z Z Z (hS.rd (i := 6) Z) (chk_some hu55)) ?_
                  rintro _ w1 ⟨A56, c57, rfl, hS⟩
                  refine OJ.pures oU 1 Z ?_
                  refine OJ.nil (EJ.blk (EJ.next ?_))
                  refine CJ.region ?_
                  refine OJ.pures oU 2 Z ?_
                  refine OJ.nil ?_
                  exact EJ.round k (F' := [(1, .slice A56 (y40 ++ ([t44] : List Spot)).length c57), (2, .pointer (some ⟨b1, 0, none⟩)), (4, .pointer (some ⟨b2, 0, none⟩)), (5, .pointer (some ⟨b3, 0, none⟩)), (10, .int .i64 y28), (11, .pointer (some ⟨b34, 0, none⟩)), (52, .int .i64 (IntKind.i64.wrap (y43 + 1)))]) ⟨Z, Z, Z, Z, Z, Z, Z, trivial⟩ (Nat.lt_succ_self _) ⟨(aset y39 t44.Y.toNat (aset t52 t44.X.toNat (IntKind.i16.wrap (t51 + 1)))), (y40 ++ ([t44] : List Spot)), (IntKind.i64.wrap (y43 + 1)), A56, c57, Z, hS.pick [0, 1, 2, 3, 4] [0] Z, H⟩
                · replace H := pifb_f hb H
                  refine CJ.skip (EJ.blk (EJ.next ?_))
                  refine CJ.region ?_
                  refine OJ.pures oU 2 Z ?_
                  refine OJ.nil ?_
                  exact EJ.round k (F' := [(1, .slice A41 y40.length c42), (2, .pointer (some ⟨b1, 0, none⟩)), (4, .pointer (some ⟨b2, 0, none⟩)), (5, .pointer (some ⟨b3, 0, none⟩)), (10, .int .i64 y28), (11, .pointer (some ⟨b34, 0, none⟩)), (52, .int .i64 (IntKind.i64.wrap (y43 + 1)))]) ⟨Z, Z, Z, Z, Z, Z, Z, trivial⟩ (Nat.lt_succ_self _) ⟨y39, y40, (IntKind.i64.wrap (y43 + 1)), A41, c42, Z, hS.pick [0, 1, 2, 3, 4] [0] Z, H⟩
            · replace H := pif_f (of_decide_eq_false hb) H
              refine CJ.exit (EJ.skE (EJ.skE (EJ.hit (?_))))
              exact EJ.meet (F' := [(1, .slice A41 y40.length c42), (2, .pointer (some ⟨b1, 0, none⟩)), (4, .pointer (some ⟨b2, 0, none⟩)), (5, .pointer (some ⟨b3, 0, none⟩)), (10, .int .i64 y28)]) ⟨Z, Z, Z, Z, Z, trivial⟩ ⟨y39, y40, A41, c42, H, Z, hS.pick [0, 1, 2, 3] [0] Z⟩
        · rintro F w1 ⟨y35, y36, A37, c38, he, rfl, hS⟩
          obtain rfl := Option.some.inj he
          have H := K127
          refine EJ.blk (?_)
          exact EJ.meet (F' := [(1, .slice A37 y36.length c38), (2, .pointer (some ⟨b1, 0, none⟩)), (4, .pointer (some ⟨b2, 0, none⟩)), (5, .pointer (some ⟨b3, 0, none⟩)), (10, .int .i64 y28)]) ⟨Z, Z, Z, Z, Z, trivial⟩ ⟨y35, y36, A37, c38, H, Z, hS.pick [0, 1, 2, 3] [0] Z⟩
      · rintro F w1 ⟨y29, y30, A31, c32, he, rfl, hS⟩
        obtain rfl := Option.some.inj he
        have H := K122
        refine CJ.region ?_
        refine OJ.pures oU 3 Z ?_
        refine OJ.nil ?_
        exact EJ.round k (F' := [(1, .slice A31 y30.length c32), (2, .pointer (some ⟨b1, 0, none⟩)), (4, .pointer (some ⟨b2, 0, none⟩)), (5, .pointer (some ⟨b3, 0, none⟩)), (10, .int .i64 (IntKind.i64.wrap (y28 + 1)))]) ⟨Z, Z, Z, Z, Z, trivial⟩ (Nat.lt_succ_self _) ⟨y29, y30, (IntKind.i64.wrap (y28 + 1)), A31, c32, Z, hS.pick [0, 1, 2, 3] [0] Z, H⟩
    · replace H := pif_f (of_decide_eq_false hb) H
      refine CJ.exit (EJ.skE (EJ.skE (EJ.hit (?_))))
      exact EJ.meet (F' := [(4, .pointer (some ⟨b2, 0, none⟩)), (5, .pointer (some ⟨b3, 0, none⟩))]) ⟨Z, Z, trivial⟩ ⟨y24, H, Z, hS.pick [1, 2] [0] Z⟩
 rintro F w1 ⟨y23, he, rfl, hS⟩
 obtain rfl := Option.some.inj he
 have H := K102
 refine EJ.next ?_
 refine CJ.seq (CJ.region ?_)
 refine OJ.st Z Z Z (SR.load Z Z (fun w' hx => ldE oU oI Z Z Z (CA.ext (hS.cells (i := 1) Z) hx) Z)) ?_
 refine OJ.es rfl rfl (Es.put oI hS (i := 0) rfl rfl rfl rfl rfl (vs := (carr 10 (carr 10 (ci .i16))).enc y23) rfl ((carr 10 (carr 10 (ci .i16))).len _) ((carr 10 (carr 10 (ci .i16))).one _) (Put.all (carr 10 (carr 10 (ci .i16))) (Arr.mk' (Arr.mk' 0 : Arr 10 Int) : Arr 10 (Arr 10 Int)) y23) (by (try simp only [add_lit, Nat.add_assoc, Nat.zero_add, Nat.add_zero]) <;> rfl)) ?_
 intro w1 hS
 refine OJ.nil (EJ.next ?_)
 refine CJ.ret (?_)
 obtain rfl := Option.some.inj H
 exact EJ.fin Z (.cell Z (ldE oU oI Z Z Z (hS.cells (i := 0) Z) Z) .nil) ⟨Z, hS.ext⟩

def impl_Pasture_cells.l2 (a0 : Pasture) (a1 : Spot → Option Bool) (y9 : Int) : Nat → (List Spot) → Int → Option (List Spot)
  | 0, _, _ => none
  | k + 1, y16, y19 => if y19 < a0.Wide then ((a1 (⟨y19, y9⟩ : Spot)).bind fun t21 => if t21 = true then ((chk (y16.length + ([(⟨y19, y9⟩ : Spot)] : List Spot).length ≤ 4294967296)).bind fun u23 => impl_Pasture_cells.l2 a0 a1 y9 k (y16 ++ ([(⟨y19, y9⟩ : Spot)] : List Spot)) (IntKind.i8.wrap (y19 + 1))) else (impl_Pasture_cells.l2 a0 a1 y9 k y16 (IntKind.i8.wrap (y19 + 1)))) else (some y16)
def impl_Pasture_cells.l1 (a0 : Pasture) (a1 : Spot → Option Bool) : Nat → (List Spot) → Int → Option (List Spot)
  | 0, _, _ => none
  | k + 1, y6, y9 => if y9 < a0.High then (((impl_Pasture_cells.l2 a0 a1 y9 k y6 0).bind fun y13 => some y13).bind fun y10 => impl_Pasture_cells.l1 a0 a1 k y10 (IntKind.i8.wrap (y9 + 1))) else (some y6)
def impl_Pasture_cells.f (k : Nat) (a0 : Pasture) (a1 : Spot → Option Bool) : Option (List Spot) := (impl_Pasture_cells.l1 a0 a1 k ([] : List Spot) 0).bind fun y3 => some y3
theorem impl_Pasture_cells.c (k : Nat) (w : World) (a0 : Pasture) (na1 : Nat) (fsa1 capa1 : Array Value) (hb1 : hasBody Tryz.prog na1) (a1 : Spot → Option Bool) (hf1 : ∀ (z0 : Spot) (r : Bool), a1 z0 = some r → ∀ w', Chg no w w' → CV Tryz.prog na1 (fsa1 ++ [.agg (cSpot.enc z0).toArray].toArray ++ capa1) w' fun v w'' => v = .bool r ∧ Ext w' w'') (r : List Spot) (H : impl_Pasture_cells.f k a0 a1 = some r) :
 CV Tryz.prog 51 [.agg (cPasture.enc a0).toArray, .func (.func na1) fsa1 capa1].toArray w fun v w' => ∃ (A0 : Option Addr) (c0 : Nat), v = .slice A0 r.length c0 ∧ St w no w' [rowC cSpot A0 c0 48 r] [] := by
 have hS := (St.init w no)
 unfold impl_Pasture_cells.f at H
 refine CV.body Tryz.func51 Z Tryz.ntmps51 Z ?_
 refine CJ.seq (CJ.region ?_)
 refine OJ.ef Z Z Z (Ef.box hS Z Z (cPasture.enc a0) Z) ?_
 rintro _ w1 ⟨b1, rfl, hS⟩
 refine OJ.pures oU 1 Z (OJ.nil (EJ.next ?_))
 refine CJ.seq (CJ.region ?_)
 refine OJ.ef Z Z Z (Ef.lit oU oI hS (C := cSpot) Z Z Z Z Z Z ([] : List Spot) Z Z Z Z) ?_
 rintro _ w1 ⟨A2, rfl, hS⟩
 refine OJ.pures oU 1 Z (OJ.nil (EJ.next ?_))
 refine CJ.seq ?_
 refine CJ.seq (CJ.region ?_)
 refine OJ.st Z Z Z (SR.fieldAddr oU oI Z Z Z Z Z Z) ?_
 refine OJ.st Z Z Z (SR.load Z Z (fun w' hx => ld1 oU Z Z (CA.ext (CA.fld (hS.cells (i := 0) Z) (mid_part (fe_Pasture_1 _) (fl_Pasture_1 _) ((ci .i8).len _))) hx) Z)) ?_
 refine OJ.pures oU 1 Z (OJ.nil (EJ.next ?_))
 obtain ⟨j131, H, K131⟩ := pbind H
 refine CJ.cut1 (fun F w1 => ∃ (y3 : List Spot) (A4 : Option Addr) (c5 : Nat), (some y3 : Option (List Spot)) = some j131 ∧ F = [(5, .slice A4 y3.length c5)] ∧ St w no w1 [rowC cSpot A4 c5 48 y3] []) ?_ ?_
 ·skip
  refine CJ.block ?_
  refine CJ.loop (fun k F w1 => ∃ (y6 : List Spot) (y9 : Int) (A7 : Option Addr) (c8 : Nat), F = [(1, .func (.func na1) fsa1 capa1), (2, .pointer (some ⟨b1, 0, none⟩)), (5, .slice A7 y6.length c8), (11, .int .i8 a0.High), (12, .int .i8 y9)] ∧ St w no w1 [box b1 (cPasture.enc a0) 31, rowC cSpot A7 c8 48 y6] [] ∧ impl_Pasture_cells.l1 a0 a1 k y6 y9 = some j131) k (F' := [(1, .func (.func na1) fsa1 capa1), (2, .pointer (some ⟨b1, 0, none⟩)), (5, .slice A2 ([] : List Spot).length (([] : List Spot).length)), (11, .int .i8 a0.High), (12, .int .i8 0)]) ⟨Z, Z, Z, Z, Z, trivial⟩ ⟨([] : List Spot), 0, A2, (([] : List Spot).length), Z, hS.pick [0, 1] [] Z, H⟩ ?_
  rintro k F w1 ⟨y6, y9, A7, c8, rfl, hS, H⟩
  cases k with
  | zero => rw [impl_Pasture_cells.l1] at H; cases H
  | succ k =>
    rw [impl_Pasture_cells.l1] at H
    refine CJ.seq (CJ.region ?_)
    refine OJ.pures oU 1 Z (OJ.nil (EJ.next ?_))
    refine CJ.seq ?_
    refine CJ.cond Z (fun hb => ?_) (fun hb => ?_)
    · replace H := pif_t (of_decide_eq_true hb) H
      refine CJ.skip (EJ.next ?_)
      obtain ⟨j138, H, K138⟩ := pbind H
      refine CJ.cut (fun F w1 => ∃ (y10 : List Spot) (A11 : Option Addr) (c12 : Nat), (some y10 : Option (List Spot)) = some j138 ∧ F = [(1, .func (.func na1) fsa1 capa1), (2, .pointer (some ⟨b1, 0, none⟩)), (5, .slice A11 y10.length c12), (11, .int .i8 a0.High), (12, .int .i8 y9)] ∧ St w no w1 [box b1 (cPasture.enc a0) 31, rowC cSpot A11 c12 48 y10] []) ?_ ?_
      · skip
        refine CJ.block ?_
        refine CJ.seq (CJ.region ?_)
        refine OJ.pures oU 2 Z (OJ.nil (EJ.next ?_))
        refine CJ.seq (CJ.region ?_)
        refine OJ.st Z Z Z (SR.fieldAddr oU oI Z Z Z Z Z Z) ?_
        refine OJ.st Z Z Z (SR.load Z Z (fun w' hx => ld1 oU Z Z (CA.ext (CA.fld (hS.cells (i := 0) Z) (mid_part (fe_Pasture_0 _) (fl_Pasture_0 _) ((ci .i8).len _))) hx) Z)) ?_
        refine OJ.pures oU 1 Z (OJ.nil (EJ.next ?_))
        obtain ⟨j140, H, K140⟩ := pbind H
        refine CJ.cut1 (fun F w1 => ∃ (y13 : List Spot) (A14 : Option Addr) (c15 : Nat), (some y13 : Option (List Spot)) = some j140 ∧ F = [(1, .func (.func na1) fsa1 capa1), (2, .pointer (some ⟨b1, 0, none⟩)), (5, .slice A14 y13.length c15), (11, .int .i8 a0.High), (12, .int .i8 y9)] ∧ St w no w1 [box b1 (cPasture.enc a0) 31, rowC cSpot A14 c15 48 y13] []) ?_ ?_
        · skip
          refine CJ.block ?_
          refine CJ.loop (fun k F w1 => ∃ (y16 : List Spot) (y19 : Int) (A17 : Option Addr) (c18 : Nat), F = [(1, .func (.func na1) fsa1 capa1), (2, .pointer (some ⟨b1, 0, none⟩)), (5, .slice A17 y16.length c18), (6, .int .i8 y9), (11, .int .i8 a0.High), (12, .int .i8 y9), (16, .int .i8 a0.Wide), (17, .int .i8 y19)] ∧ St w no w1 [box b1 (cPasture.enc a0) 31, rowC cSpot A17 c18 48 y16] [] ∧ impl_Pasture_cells.l2 a0 a1 y9 k y16 y19 = some j140) k (F' := [(1, .func (.func na1) fsa1 capa1), (2, .pointer (some ⟨b1, 0, none⟩)), (5, .slice A7 y6.length c8), (6, .int .i8 y9), (11, .int .i8 a0.High), (12, .int .i8 y9), (16, .int .i8 a0.Wide), (17, .int .i8 0)]) ⟨Z, Z, Z, Z, Z, Z, Z, Z, trivial⟩ ⟨y6, 0, A7, c8, Z, hS.pick [0, 1] [] Z, H⟩ ?_
          rintro k F w1 ⟨y16, y19, A17, c18, rfl, hS, H⟩
          cases k with
          | zero => rw [impl_Pasture_cells.l2] at H; cases H
          | succ k =>
            rw [impl_Pasture_cells.l2] at H
            refine CJ.seq (CJ.region ?_)
            refine OJ.pures oU 1 Z (OJ.nil (EJ.next ?_))
            refine CJ.seq ?_
            refine CJ.cond Z (fun hb => ?_) (fun hb => ?_)
            · replace H := pif_t (of_decide_eq_true hb) H
              refine CJ.skip (EJ.next ?_)
              refine CJ.seq ?_
              refine CJ.block ?_
              refine CJ.seq (CJ.region ?_)
              refine OJ.pures oU 2 Z (OJ.nil (EJ.next ?_))
              refine CJ.seq (CJ.region ?_)
              refine OJ.pures oU 2 Z ?_
              refine OJ.st Z Z Z (SR.build (C := cSpot) oU oI Z Z Z (zs := [.int .i8 0, .int .i8 0]) Z Z Z (⟨y19, y9⟩ : Spot) Z) ?_
              refine OJ.ef Z Z Z (Ef.alloc hS oI Z Z (cSpot.enc (⟨0, 0⟩ : Spot)) Z) ?_
              rintro _ w1 ⟨b20, rfl, hS⟩
              refine OJ.es Z Z (Es.store oI hS (i := 2) Z Z Z Z Z Z (vs := cSpot.enc (⟨y19, y9⟩ : Spot)) Z (cSpot.len _) (cSpot.one _) (Nat.le_of_ble_eq_true Z) (cSpot.enc (⟨y19, y9⟩ : Spot)) Z) ?_
              intro w1 hS
              refine OJ.nil (EJ.next ?_)
              refine CJ.seq (CJ.region ?_)
              refine OJ.pures oU 1 Z ?_
              refine OJ.st Z Z Z (SR.load Z Z (fun w' hx => ldE oU oI Z Z Z (CA.ext (hS.cells (i := 2) Z) hx) Z)) ?_
              obtain ⟨t21, ht21, H⟩ := pbind H
              refine OJ.call Z Z (Nat.le_of_ble_eq_true Z) Z Z Z hb1 Z (hf1 (⟨y19, y9⟩ : Spot) _ ht21 _ hS.chg) ?_
              rintro _ w1 ⟨rfl, hs⟩
              replace hS := hS.grow hs
              refine OJ.nil (EJ.next ?_)
              refine CJ.cond Z (fun hb => ?_) (fun hb => ?_)
              · replace H := pif_t hb H
                refine CJ.region ?_
                refine OJ.pures oU 1 Z ?_
                refine OJ.st Z Z Z (SR.load Z Z (fun w' hx => ldE oU oI Z Z Z (CA.ext (hS.cells (i := 2) Z) hx) Z)) ?_
                refine OJ.ef Z Z Z (Ef.lit oU oI hS (C := cSpot) Z Z Z Z Z Z ([(⟨y19, y9⟩ : Spot)] : List Spot) Z Z Z Z) ?_
                rintro _ w1 ⟨A22, rfl, hS⟩
                obtain ⟨u23, hu23, H⟩ := pbind H
                refine OJ.ew Z Z Z (Ew.append oU oI (C := cSpot) (xs := y16) (ys := ([(⟨y19, y9⟩ : Spot)] : List Spot)) hS (i := 1) Z Z Z Z Z Z Z Z Z Z Z Z Z (hS.rd (i := 3) Z) (chk_some hu23)) ?_
                rintro _ w1 ⟨A24, c25, rfl, hS⟩
                refine OJ.pures oU 1 Z ?_
                refine OJ.nil (EJ.blk (EJ.next ?_))
                refine CJ.region ?_
                refine OJ.pures oU 2 Z ?_
                refine OJ.nil ?_
                exact EJ.round k (F' := [(1, .func (.func na1) fsa1 capa1), (2, .pointer (some ⟨b1, 0, none⟩)), (5, .slice A24 (y16 ++ ([(⟨y19, y9⟩ : Spot)] : List Spot)).length c25), (6, .int .i8 y9), (11, .int .i8 a0.High), (12, .int .i8 y9), (16, .int .i8 a0.Wide), (17, .int .i8 (IntKind.i8.wrap (y19 + 1)))]) ⟨Z, Z, Z, Z, Z, Z, Z, Z, trivial⟩ (Nat.lt_succ_self _) ⟨(y16 ++ ([(⟨y19, y9⟩ : Spot)] : List Spot)), (IntKind.i8.wrap (y19 + 1)), A24, c25, Z, hS.pick [0, 1] [] Z, H⟩
              · replace H := pifb_f hb H
                refine CJ.skip (EJ.blk (EJ.next ?_))
                refine CJ.region ?_
                refine OJ.pures oU 2 Z ?_
                refine OJ.nil ?_
                exact EJ.round k (F' := [(1, .func (.func na1) fsa1 capa1), (2, .pointer (some ⟨b1, 0, none⟩)), (5, .slice A17 y16.length c18), (6, .int .i8 y9), (11, .int .i8 a0.High), (12, .int .i8 y9), (16, .int .i8 a0.Wide), (17, .int .i8 (IntKind.i8.wrap (y19 + 1)))]) ⟨Z, Z, Z, Z, Z, Z, Z, Z, trivial⟩ (Nat.lt_succ_self _) ⟨y16, (IntKind.i8.wrap (y19 + 1)), A17, c18, Z, hS.pick [0, 1] [] Z, H⟩
            · replace H := pif_f (of_decide_eq_false hb) H
              refine CJ.exit (EJ.skE (EJ.skE (EJ.hit (?_))))
              exact EJ.meet (F' := [(1, .func (.func na1) fsa1 capa1), (2, .pointer (some ⟨b1, 0, none⟩)), (5, .slice A17 y16.length c18), (11, .int .i8 a0.High), (12, .int .i8 y9)]) ⟨Z, Z, Z, Z, Z, trivial⟩ ⟨y16, A17, c18, H, Z, hS.pick [0, 1] [] Z⟩
        · rintro F w1 ⟨y13, A14, c15, he, rfl, hS⟩
          obtain rfl := Option.some.inj he
          have H := K140
          refine EJ.blk (?_)
          exact EJ.meet (F' := [(1, .func (.func na1) fsa1 capa1), (2, .pointer (some ⟨b1, 0, none⟩)), (5, .slice A14 y13.length c15), (11, .int .i8 a0.High), (12, .int .i8 y9)]) ⟨Z, Z, Z, Z, Z, trivial⟩ ⟨y13, A14, c15, H, Z, hS.pick [0, 1] [] Z⟩
      · rintro F w1 ⟨y10, A11, c12, he, rfl, hS⟩
        obtain rfl := Option.some.inj he
        have H := K138
        refine CJ.region ?_
        refine OJ.pures oU 2 Z ?_
        refine OJ.nil ?_
        exact EJ.round k (F' := [(1, .func (.func na1) fsa1 capa1), (2, .pointer (some ⟨b1, 0, none⟩)), (5, .slice A11 y10.length c12), (11, .int .i8 a0.High), (12, .int .i8 (IntKind.i8.wrap (y9 + 1)))]) ⟨Z, Z, Z, Z, Z, trivial⟩ (Nat.lt_succ_self _) ⟨y10, (IntKind.i8.wrap (y9 + 1)), A11, c12, Z, hS.pick [0, 1] [] Z, H⟩
    · replace H := pif_f (of_decide_eq_false hb) H
      refine CJ.exit (EJ.skE (EJ.skE (EJ.hit (?_))))
      exact EJ.meet (F' := [(5, .slice A7 y6.length c8)]) ⟨Z, trivial⟩ ⟨y6, A7, c8, H, Z, hS.pick [1] [] Z⟩
 rintro F w1 ⟨y3, A4, c5, he, rfl, hS⟩
 obtain rfl := Option.some.inj he
 have H := K131
 refine EJ.next ?_
 refine CJ.seq (CJ.region ?_)
 refine OJ.pures oU 2 Z (OJ.nil (EJ.next ?_))
 refine CJ.ret (?_)
 obtain rfl := Option.some.inj H
 exact EJ.fin Z (.tmp Z .nil) ⟨A4, c5, Z, hS.pick [0] [] Z⟩

def impl_steps_at.f (a0 : Arr 10 (Arr 10 Int)) (a1 : Spot) : Option Int := (getI a0.l a1.Y).bind fun t2 => (getI t2.l a1.X).bind fun t3 => some (IntKind.i64.wrap t3)
theorem impl_steps_at.c (w : World) (pa0 : Addr) (a0 : Arr 10 (Arr 10 Int)) (hp0 : CA w pa0 ((carr 10 (carr 10 (ci .i16))).enc a0)) (a1 : Spot) (r : Int) (H : impl_steps_at.f a0 a1 = some r) :
 CV Tryz.prog 69 [.pointer (some pa0), .agg (cSpot.enc a1).toArray].toArray w fun v w' => v = .int .i64 r ∧ Ext w w' := by
 have hS := ((St.init w no).paramP pa0 ((carr 10 (carr 10 (ci .i16))).enc a0) hp0)
 unfold impl_steps_at.f at H
 refine CV.body Tryz.func69 Z Tryz.ntmps69 Z ?_
 refine CJ.seq (CJ.region ?_)
 refine OJ.ef Z Z Z (Ef.box hS Z Z (cSpot.enc a1) Z) ?_
 rintro _ w1 ⟨b1, rfl, hS⟩
 refine OJ.pures oU 1 Z (OJ.nil (EJ.next ?_))
 refine CJ.seq ?_
 refine CJ.draw [] [0, 1, 2, 3, 4, 5, 6, 7, 8, 9, 10] mixed (by kernel_rfl) hS fun w1 hS => ?_
 refine DJ.pures oU 1 Z ?_
 refine DJ.st Z Z Z Z Z (SR.fieldAddr oU oI Z Z Z Z Z Z) ?_
 refine DJ.st Z Z Z Z Z (SR.load Z Z (fun w' hx => ld1 oU Z Z (CA.ext (CA.sub (hS.cells (i := 0) Z) 1) hx) Z)) ?_
 refine DJ.st Z Z Z Z Z (SR.fieldAddr oU oI Z Z Z Z Z Z) ?_
 refine DJ.st Z Z Z Z Z (SR.load Z Z (fun w' hx => ld1 oU Z Z (CA.ext (CA.sub (hS.cells (i := 0) Z) 0) hx) Z)) ?_
 refine DJ.pures oU 1 Z ?_
 obtain ⟨t2, ht2, H⟩ := pbind H
 refine DJ.st Z Z Z Z Z (SR.idxA oU oI Z Z Z Z Z (Arr.lt ht2)) ?_
 obtain ⟨t3, ht3, H⟩ := pbind H
 refine DJ.st Z Z Z Z Z (SR.idxA oU oI Z Z Z Z Z (Arr.lt ht3)) ?_
 refine DJ.st Z Z Z Z Z (SR.load Z Z (fun w' hx => ld1 oU Z Z (CA.ext (CA.idx (CA.idx (hS.ca (i := 0) Z) ht2) ht3) hx) Z)) ?_
 refine DJ.pures oU 2 Z ?_
 refine DJ.nil (EJ.next ?_)
 refine CJ.ret (?_)
 obtain rfl := Option.some.inj H
 exact EJ.fin Z (.tmp Z .nil) ⟨Z, hS.ext⟩

def impl_Pasture_yard_1.f (a1 : Arr 10 (Arr 10 Int)) (a0 : Spot) : Option Bool := (impl_steps_at.f a1 a0).bind fun t2 => some (decide (0 ≤ t2))
theorem impl_Pasture_yard_1.c (w : World) (pa1 : Addr) (a1 : Arr 10 (Arr 10 Int)) (hp1 : CA w pa1 ((carr 10 (carr 10 (ci .i16))).enc a1)) (a0 : Spot) (r : Bool) (H : impl_Pasture_yard_1.f a1 a0 = some r) :
 CV Tryz.prog 103 [.agg (cSpot.enc a0).toArray, .pointer (some pa1)].toArray w fun v w' => v = .bool r ∧ Ext w w' := by
 have hS := ((St.init w no).paramP pa1 ((carr 10 (carr 10 (ci .i16))).enc a1) hp1)
 unfold impl_Pasture_yard_1.f at H
 refine CV.body Tryz.func103 Z Tryz.ntmps103 Z ?_
 refine CJ.seq (CJ.region ?_)
 refine OJ.ef Z Z Z (Ef.box hS Z Z (cSpot.enc a0) Z) ?_
 rintro _ w1 ⟨b1, rfl, hS⟩
 refine OJ.pures oU 1 Z (OJ.nil (EJ.next ?_))
 refine CJ.seq (CJ.region ?_)
 refine OJ.st Z Z Z (SR.load Z Z (fun w' hx => ldE oU oI Z Z Z (CA.ext (hS.cells (i := 0) Z) hx) Z)) ?_
 obtain ⟨t2, ht2, H⟩ := pbind H
 refine OJ.callF Z Z Z Z Z hb69 Z (impl_steps_at.c _ _ a1 (hS.ca (i := 0) Z) a0 _ ht2) ?_
 rintro _ w1 ⟨rfl, hs⟩
 replace hS := hS.grow hs
 refine OJ.pures oU 2 Z (OJ.nil (EJ.next ?_))
 refine CJ.ret (?_)
 obtain rfl := Option.some.inj H
 exact EJ.fin Z (.tmp Z .nil) ⟨Z, hS.ext⟩

def impl_Pasture_yard.f (k : Nat) (a0 : Pasture) (a1 : Spot) : Option (List Spot) := (impl_Pasture_far.f k a0 ([a1] : List Spot)).bind fun t4 => (impl_Pasture_cells.f k a0 (impl_Pasture_yard_1.f t4)).bind fun t6 => some t6
theorem impl_Pasture_yard.c (k : Nat) (w : World) (a0 : Pasture) (a1 : Spot) (r : List Spot) (H : impl_Pasture_yard.f k a0 a1 = some r) :
 CV Tryz.prog 60 [.agg (cPasture.enc a0).toArray, .agg (cSpot.enc a1).toArray].toArray w fun v w' => ∃ (A0 : Option Addr) (c0 : Nat), v = .slice A0 r.length c0 ∧ St w no w' [rowC cSpot A0 c0 48 r] [] := by
 have hS := (St.init w no)
 unfold impl_Pasture_yard.f at H
 refine CV.body Tryz.func60 Z Tryz.ntmps60 Z ?_
 refine CJ.seq (CJ.region ?_)
 refine OJ.ef Z Z Z (Ef.box hS Z Z (cPasture.enc a0) Z) ?_
 rintro _ w1 ⟨b1, rfl, hS⟩
 refine OJ.ef Z Z Z (Ef.box hS Z Z (cSpot.enc a1) Z) ?_
 rintro _ w1 ⟨b2, rfl, hS⟩
 refine OJ.pures oU 1 Z (OJ.nil (EJ.next ?_))
 refine CJ.seq (CJ.region ?_)
 refine OJ.st Z Z Z (SR.load Z Z (fun w' hx => ldE oU oI Z Z Z (CA.ext (hS.cells (i := 0) Z) hx) Z)) ?_
 refine OJ.st Z Z Z (SR.load Z Z (fun w' hx => ldE oU oI Z Z Z (CA.ext (hS.cells (i := 1) Z) hx) Z)) ?_
 refine OJ.ef Z Z Z (Ef.lit oU oI hS (C := cSpot) Z Z Z Z Z Z ([a1] : List Spot) Z Z Z Z) ?_
 rintro _ w1 ⟨A3, rfl, hS⟩
 obtain ⟨t4, ht4, H⟩ := pbind H
 refine OJ.callF Z Z Z Z Z hb68 Z (impl_Pasture_far.c k _ a0 A3 (([a1] : List Spot).length) ([a1] : List Spot) (hS.rd (i := 2) Z) (hS.le (i := 2) Z) _ ht4) ?_
 rintro _ w1 ⟨rfl, hs⟩
 replace hS := hS.grow hs
 refine OJ.ef rfl rfl rfl (Ef.alloc hS oI rfl rfl ((carr 10 (carr 10 (ci .i16))).enc (Arr.mk' (Arr.mk' 0 : Arr 10 Int) : Arr 10 (Arr 10 Int))) (by kernel_rfl)) ?_
 rintro _ w1 ⟨b5, rfl, hS⟩
 refine OJ.es rfl rfl (Es.put oI hS (i := 3) rfl rfl rfl rfl rfl (vs := (carr 10 (carr 10 (ci .i16))).enc t4) rfl ((carr 10 (carr 10 (ci .i16))).len _) ((carr 10 (carr 10 (ci .i16))).one _) (Put.all (carr 10 (carr 10 (ci .i16))) (Arr.mk' (Arr.mk' 0 : Arr 10 Int) : Arr 10 (Arr 10 Int)) t4) (by (try simp only [add_lit, Nat.add_assoc, Nat.zero_add, Nat.add_zero]) <;> rfl)) ?_
 intro w1 hS
 refine OJ.nil (EJ.next ?_)
 refine CJ.seq (CJ.region ?_)
 refine OJ.st Z Z Z (SR.load Z Z (fun w' hx => ldE oU oI Z Z Z (CA.ext (hS.cells (i := 0) Z) hx) Z)) ?_
 refine OJ.pures oU 1 Z ?_
 obtain ⟨t6, ht6, H⟩ := pbind H
 refine OJ.callF rfl rfl rfl rfl rfl hb51 rfl (impl_Pasture_cells.c k _ a0 103 #[] #[.pointer (some ⟨b5, 0, none⟩)] hb103 (impl_Pasture_yard_1.f t4) (fun z0 r h w' hx => CV.cast (impl_Pasture_yard_1.c w' ⟨b5, 0, none⟩ t4 (CA.ext (hS.cells (i := 3) rfl) hx)  z0 r h) (by simp)) _ ht6) ?_
 rintro _ w1 ⟨A7, c8, rfl, hs⟩
 replace hS := hS.addN hs
 refine OJ.pures oU 1 Z (OJ.nil (EJ.next ?_))
 refine CJ.ret (?_)
 obtain rfl := Option.some.inj H
 exact EJ.fin Z (.tmp Z .nil) ⟨A7, c8, Z, hS.pick [4] [] Z⟩

def slices_IndexFunc_impl_Spot_impl_Spot.l1 (a0 : List Spot) (a1 : Spot → Option Bool) : Nat → Int → Option (Int ⊕ Unit)
  | 0, _ => none
  | k + 1, y1 => if y1 < (a0.length : Int) then ((getI a0 y1).bind fun t2 => (a1 t2).bind fun t3 => if t3 = true then (some (Sum.inl y1)) else (slices_IndexFunc_impl_Spot_impl_Spot.l1 a0 a1 k (IntKind.i64.wrap (y1 + 1)))) else (some (Sum.inr ()))
def slices_IndexFunc_impl_Spot_impl_Spot.f (k : Nat) (a0 : List Spot) (a1 : Spot → Option Bool) : Option Int := (slices_IndexFunc_impl_Spot_impl_Spot.l1 a0 a1 k 0).bind fun s141 => match s141 with | .inl r => some r | .inr _ => some (-1)
theorem slices_IndexFunc_impl_Spot_impl_Spot.c (k : Nat) (w : World) (Aa0 : Option Addr) (ca0 : Nat) (a0 : List Spot) (hr0 : Rd cSpot w Aa0 a0) (hc0 : a0.length ≤ ca0) (na1 : Nat) (fsa1 capa1 : Array Value) (hb1 : hasBody Tryz.prog na1) (a1 : Spot → Option Bool) (hf1 : ∀ (z0 : Spot) (r : Bool), a1 z0 = some r → ∀ w', Chg no w w' → CV Tryz.prog na1 (fsa1 ++ [.agg (cSpot.enc z0).toArray].toArray ++ capa1) w' fun v w'' => v = .bool r ∧ Ext w' w'') (r : Int) (H : slices_IndexFunc_impl_Spot_impl_Spot.f k a0 a1 = some r) :
 CV Tryz.prog 119 [.slice Aa0 a0.length ca0, .func (.func na1) fsa1 capa1].toArray w fun v w' => v = .int .i64 r ∧ Ext w w' := by
 have hS := ((St.init w no).param cSpot Aa0 ca0 a0 hr0 hc0)
 unfold slices_IndexFunc_impl_Spot_impl_Spot.f at H
 refine CV.body Tryz.func119 Z Tryz.ntmps119 Z ?_
 refine CJ.seq (CJ.region ?_)
 refine OJ.pures oU 1 Z (OJ.nil (EJ.next ?_))
 refine CJ.seq ?_
 refine CJ.seq (CJ.region ?_)
 refine OJ.pures oU 3 Z (OJ.nil (EJ.next ?_))
 obtain ⟨j141, H, K141⟩ := pbind H
 refine CJ.cut1 (fun F w1 => (some (Sum.inr ()) : Option (Int ⊕ Unit)) = some j141 ∧ F = [] ∧ St w no w1 [] [roC cSpot Aa0 ca0 a0]) ?_ ?_
 ·skip
  refine CJ.block ?_
  refine CJ.loop (fun k F w1 => ∃ (y1 : Int), F = [(0, .slice Aa0 a0.length ca0), (1, .func (.func na1) fsa1 capa1), (7, .int .i64 (a0.length : Int)), (8, .int .i64 y1)] ∧ St w no w1 [] [roC cSpot Aa0 ca0 a0] ∧ slices_IndexFunc_impl_Spot_impl_Spot.l1 a0 a1 k y1 = some j141) k (F' := [(0, .slice Aa0 a0.length ca0), (1, .func (.func na1) fsa1 capa1), (7, .int .i64 (a0.length : Int)), (8, .int .i64 0)]) ⟨Z, Z, Z, Z, trivial⟩ ⟨0, Z, hS.pick [] [0] Z, H⟩ ?_
  rintro k F w1 ⟨y1, rfl, hS, H⟩
  cases k with
  | zero => rw [slices_IndexFunc_impl_Spot_impl_Spot.l1] at H; cases H
  | succ k =>
    rw [slices_IndexFunc_impl_Spot_impl_Spot.l1] at H
    refine CJ.seq (CJ.region ?_)
    refine OJ.pures oU 1 Z (OJ.nil (EJ.next ?_))
    refine CJ.seq ?_
    refine CJ.cond Z (fun hb => ?_) (fun hb => ?_)
    · replace H := pif_t (of_decide_eq_true hb) H
      refine CJ.skip (EJ.next ?_)
      refine CJ.seq ?_
      refine CJ.block ?_
      refine CJ.seq (CJ.region ?_)
      refine OJ.pures oU 2 Z (OJ.nil (EJ.next ?_))
      refine CJ.seq (CJ.region ?_)
      refine OJ.pures oU 3 Z ?_
      obtain ⟨t2, ht2, H⟩ := pbind H
      obtain ⟨ad2, e2⟩ := (hS.rd' (i := 0) rfl).some' ht2
      refine OJ.st Z Z Z (SR.idxS oU oI Z Z Z Z e2 Z (getI_some ht2).1) ?_
      refine OJ.st Z Z Z (SR.load Z Z (fun w' hx => ldE oU oI Z Z Z (CA.ext ((hS.rd' (i := 0) Z).at_ e2 ht2) hx) Z)) ?_
      obtain ⟨t3, ht3, H⟩ := pbind H
      refine OJ.call Z Z (Nat.le_of_ble_eq_true Z) Z Z Z hb1 Z (hf1 t2 _ ht3 _ hS.chg) ?_
      rintro _ w1 ⟨rfl, hs⟩
      replace hS := hS.grow hs
      refine OJ.nil (EJ.next ?_)
      refine CJ.cond Z (fun hb => ?_) (fun hb => ?_)
      · replace H := pif_t hb H
        refine CJ.seq (CJ.region ?_)
        refine OJ.pures oU 2 Z (OJ.nil (EJ.next ?_))
        refine CJ.ret (EJ.bkR (EJ.skR (EJ.skR (EJ.bkR (EJ.skR (EJ.skR (?_)))))))
        first | (obtain rfl := Option.some.inj H; have H := K141) | (obtain ⟨q141, H2, e141⟩ := pbind H; obtain rfl := Option.some.inj e141; obtain rfl := Option.some.inj K141; have H := H2)
        obtain rfl := Option.some.inj H
        exact EJ.fin Z (.tmp Z .nil) ⟨Z, hS.ext⟩
      · replace H := pifb_f hb H
        refine CJ.skip (EJ.blk (EJ.next ?_))
        refine CJ.region ?_
        refine OJ.pures oU 2 Z ?_
        refine OJ.nil ?_
        exact EJ.round k (F' := [(0, .slice Aa0 a0.length ca0), (1, .func (.func na1) fsa1 capa1), (7, .int .i64 (a0.length : Int)), (8, .int .i64 (IntKind.i64.wrap (y1 + 1)))]) ⟨Z, Z, Z, Z, trivial⟩ (Nat.lt_succ_self _) ⟨(IntKind.i64.wrap (y1 + 1)), Z, hS.pick [] [0] Z, H⟩
    · replace H := pif_f (of_decide_eq_false hb) H
      refine CJ.exit (EJ.skE (EJ.skE (EJ.hit (?_))))
      exact EJ.meet (F' := []) trivial ⟨H, Z, hS.pick [] [0] Z⟩
 rintro F w1 ⟨he, rfl, hS⟩
 obtain rfl := Option.some.inj he
 have H := K141
 refine EJ.next ?_
 refine CJ.seq (CJ.region ?_)
 refine OJ.pures oU 1 Z (OJ.nil (EJ.next ?_))
 refine CJ.ret (?_)
 obtain rfl := Option.some.inj H
 exact EJ.fin Z (.tmp Z .nil) ⟨Z, hS.ext⟩

def slices_DeleteFunc_impl_Spot_impl_Spot.l1 (a1 : Spot → Option Bool) : Nat → (List Spot) → Int → Int → Option ((List Spot) × Int)
  | 0, _, _, _ => none
  | k + 1, y4, y5, y6 => if y6 < (y4.length : Int) then ((getI y4 y6).bind fun t7 => (a1 t7).bind fun t9 => if (!t9) = true then ((getI y4 y5).bind fun t10 => slices_DeleteFunc_impl_Spot_impl_Spot.l1 a1 k (y4.set y5.toNat t7) (IntKind.i64.wrap (y5 + 1)) (IntKind.i64.wrap (y6 + 1))) else (slices_DeleteFunc_impl_Spot_impl_Spot.l1 a1 k y4 y5 (IntKind.i64.wrap (y6 + 1)))) else (some (y4, y5))
def slices_DeleteFunc_impl_Spot_impl_Spot.f (k : Nat) (a0 : List Spot) (a1 : Spot → Option Bool) : Option (List Spot) := (slices_IndexFunc_impl_Spot_impl_Spot.f k a0 a1).bind fun t1 => if t1 = (-1) then (some a0) else ((slices_DeleteFunc_impl_Spot_impl_Spot.l1 a1 k a0 t1 (IntKind.i64.wrap (t1 + 1))).bind fun (y2, y3) => (chk ((0 : Int) ≤ y3 ∧ y3 ≤ (y2.length : Int) ∧ (y2.length : Int) ≤ (y2.length : Int))).bind fun u11 => (chk ((0 : Int) ≤ 0 ∧ 0 ≤ y3 ∧ y3 ≤ ((y2.take y3.toNat ++ List.replicate (y2.length - y3.toNat) (⟨0, 0⟩ : Spot)).length : Int))).bind fun u12 => some ((y2.take y3.toNat ++ List.replicate (y2.length - y3.toNat) (⟨0, 0⟩ : Spot)).take y3.toNat))
theorem slices_DeleteFunc_impl_Spot_impl_Spot.c (k : Nat) (w : World) (Aa0 : Option Addr) (ca0 : Nat) (a0 : List Spot) (na1 : Nat) (fsa1 capa1 : Array Value) (hb1 : hasBody Tryz.prog na1) (a1 : Spot → Option Bool) (hf1 : ∀ (z0 : Spot) (r : Bool), a1 z0 = some r → ∀ w', Chg (fpU [rowC cSpot Aa0 ca0 48 a0]) w w' → CV Tryz.prog na1 (fsa1 ++ [.agg (cSpot.enc z0).toArray].toArray ++ capa1) w' fun v w'' => v = .bool r ∧ Ext w' w'') (hin : St w (fpU [rowC cSpot Aa0 ca0 48 a0]) w [rowC cSpot Aa0 ca0 48 a0] []) (r : List Spot) (H : slices_DeleteFunc_impl_Spot_impl_Spot.f k a0 a1 = some r) :
 CV Tryz.prog 93 [.slice Aa0 a0.length ca0, .func (.func na1) fsa1 capa1].toArray w fun v w' => ∃ (A0 : Option Addr) (c0 : Nat), v = .slice A0 r.length c0 ∧ St w (fpU [rowC cSpot Aa0 ca0 48 a0]) w' [rowC cSpot A0 c0 48 r] [] := by
 have hS := hin
 unfold slices_DeleteFunc_impl_Spot_impl_Spot.f at H
 refine CV.body Tryz.func93 Z Tryz.ntmps93 Z ?_
 refine CJ.seq (CJ.region ?_)
 refine OJ.pures oU 1 Z (OJ.nil (EJ.next ?_))
 refine CJ.seq (CJ.region ?_)
 refine OJ.pures oU 2 Z ?_
 obtain ⟨t1, ht1, H⟩ := pbind H
 refine OJ.callF Z Z Z Z Z hb119 Z (slices_IndexFunc_impl_Spot_impl_Spot.c k _ Aa0 ca0 a0 (hS.rd (i := 0) Z) (hS.le (i := 0) Z) na1 fsa1 capa1 hb1 a1 (fun z0 r h w' hx => hf1 z0 r h w' (hS.chg.then hx (fun _ _ e => e.elim))) _ ht1) ?_
 rintro _ w1 ⟨rfl, hs⟩
 replace hS := hS.grow hs
 refine OJ.pures oU 1 Z (OJ.nil (EJ.next ?_))
 refine CJ.seq ?_
 refine CJ.seq (CJ.region ?_)
 refine OJ.pures oU 2 Z (OJ.nil (EJ.next ?_))
 refine CJ.cond Z (fun hb => ?_) (fun hb => ?_)
 ·replace H := pif_t (of_decide_eq_true hb) H
  refine CJ.seq (CJ.region ?_)
  refine OJ.pures oU 2 Z (OJ.nil (EJ.next ?_))
  refine CJ.ret (EJ.skR (?_))
  obtain rfl := Option.some.inj H
  exact EJ.fin Z (.tmp Z .nil) ⟨Aa0, ca0, Z, hS.pick [0] [] Z⟩
 replace H := pif_f (of_decide_eq_false hb) H
 refine CJ.skip (EJ.next ?_)
 refine CJ.seq ?_
 refine CJ.seq (CJ.region ?_)
 refine OJ.pures oU 3 Z (OJ.nil (EJ.next ?_))
 obtain ⟨j142, H, K142⟩ := pbind H
 refine CJ.cut1 (fun F w1 => ∃ (y2 : List Spot) (y3 : Int) , (some (y2, y3) : Option ((List Spot) × Int)) = some j142 ∧ F = [(0, .slice Aa0 y2.length ca0), (5, .int .i64 y3)] ∧ St w (fpU [rowC cSpot Aa0 ca0 48 a0]) w1 [rowC cSpot Aa0 ca0 48 y2] []) ?_ ?_
 ·skip
  refine CJ.block ?_
  refine CJ.loop (fun k F w1 => ∃ (y4 : List Spot) (y5 : Int) (y6 : Int), F = [(0, .slice Aa0 y4.length ca0), (1, .func (.func na1) fsa1 capa1), (5, .int .i64 y5), (6, .int .i64 y6)] ∧ St w (fpU [rowC cSpot Aa0 ca0 48 a0]) w1 [rowC cSpot Aa0 ca0 48 y4] [] ∧ slices_DeleteFunc_impl_Spot_impl_Spot.l1 a1 k y4 y5 y6 = some j142) k (F' := [(0, .slice Aa0 a0.length ca0), (1, .func (.func na1) fsa1 capa1), (5, .int .i64 t1), (6, .int .i64 (IntKind.i64.wrap (t1 + 1)))]) ⟨Z, Z, Z, Z, trivial⟩ ⟨a0, t1, (IntKind.i64.wrap (t1 + 1)), Z, hS.pick [0] [] Z, H⟩ ?_
  rintro k F w1 ⟨y4, y5, y6, rfl, hS, H⟩
  cases k with
  | zero => rw [slices_DeleteFunc_impl_Spot_impl_Spot.l1] at H; cases H
  | succ k =>
    rw [slices_DeleteFunc_impl_Spot_impl_Spot.l1] at H
    refine CJ.seq ?_
    refine CJ.seq (CJ.region ?_)
    refine OJ.pures oU 4 Z (OJ.nil (EJ.next ?_))
    refine CJ.cond Z (fun hb => ?_) (fun hb => ?_)
    · replace H := pif_t (of_decide_eq_true hb) H
      refine CJ.skip (EJ.next ?_)
      refine CJ.seq ?_
      refine CJ.block ?_
      refine CJ.seq (CJ.region ?_)
      refine OJ.pures oU 2 Z ?_
      obtain ⟨t7, ht7, H⟩ := pbind H
      obtain ⟨ad7, e7⟩ := (hS.rd (i := 0) rfl).some' ht7
      refine OJ.st Z Z Z (SR.idxS oU oI Z Z Z Z e7 Z (getI_some ht7).1) ?_
      refine OJ.st Z Z Z (SR.load Z Z (fun w' hx => ldE oU oI Z Z Z (CA.ext ((hS.rd (i := 0) Z).at_ e7 ht7) hx) Z)) ?_
      refine OJ.ef Z Z Z (Ef.alloc hS oI Z Z (cSpot.enc (⟨0, 0⟩ : Spot)) Z) ?_
      rintro _ w1 ⟨b8, rfl, hS⟩
      refine OJ.es Z Z (Es.store oI hS (i := 1) Z Z Z Z Z Z (vs := cSpot.enc t7) Z (cSpot.len _) (cSpot.one _) (Nat.le_of_ble_eq_true Z) (cSpot.enc t7) Z) ?_
      intro w1 hS
      refine OJ.nil (EJ.next ?_)
      refine CJ.seq (CJ.region ?_)
      refine OJ.pures oU 1 Z ?_
      refine OJ.st Z Z Z (SR.load Z Z (fun w' hx => ldE oU oI Z Z Z (CA.ext (hS.cells (i := 1) Z) hx) Z)) ?_
      obtain ⟨t9, ht9, H⟩ := pbind H
      refine OJ.call Z Z (Nat.le_of_ble_eq_true Z) Z Z Z hb1 Z (hf1 t7 _ ht9 _ hS.chg) ?_
      rintro _ w1 ⟨rfl, hs⟩
      replace hS := hS.grow hs
      refine OJ.pures oU 1 Z (OJ.nil (EJ.next ?_))
      refine CJ.cond Z (fun hb => ?_) (fun hb => ?_)
      · replace H := pif_t hb H
        refine CJ.seq (CJ.region ?_)
        refine OJ.pures oU 2 Z ?_
        refine OJ.st Z Z Z (SR.load Z Z (fun w' hx => ldE oU oI Z Z Z (CA.ext (hS.cells (i := 1) Z) hx) Z)) ?_
        obtain ⟨t10, ht10, H⟩ := pbind H
        obtain ⟨ad10, e10⟩ := (hS.rd (i := 0) rfl).some' ht10
        refine OJ.st Z Z Z (SR.idxS oU oI Z Z Z Z e10 Z (getI_some ht10).1) ?_
        refine OJ.es Z Z (Es.storeR oI hS (i := 0) (off := 0) Z Z ht10 e10 Z Z Z Z (vs := cSpot.enc t7) Z (cSpot.len _) (cSpot.one _) (Nat.le_of_ble_eq_true Z) t7 Z) ?_
        intro w1 hS
        refine OJ.as (t := 0) rfl (show _ = (.slice Aa0 (y4.set y5.toNat t7).length ca0 : Value) by simp only [List.length_set]) ?_
        refine OJ.as (t := 17) rfl (show _ = (.slice Aa0 (y4.set y5.toNat t7).length ca0 : Value) by simp only [List.length_set]) ?_
        refine OJ.as (t := 22) rfl (show _ = (.slice Aa0 (y4.set y5.toNat t7).length ca0 : Value) by simp only [List.length_set]) ?_
        refine OJ.as (t := 30) rfl (show _ = (.slice Aa0 (y4.set y5.toNat t7).length ca0 : Value) by simp only [List.length_set]) ?_
        refine OJ.nil (EJ.next ?_)
        refine CJ.region ?_
        refine OJ.pures oU 3 Z ?_
        refine OJ.nil (EJ.blk (EJ.next ?_))
        refine CJ.region ?_
        refine OJ.pures oU 3 Z ?_
        refine OJ.nil ?_
        exact EJ.round k (F' := [(0, .slice Aa0 (y4.set y5.toNat t7).length ca0), (1, .func (.func na1) fsa1 capa1), (5, .int .i64 (IntKind.i64.wrap (y5 + 1))), (6, .int .i64 (IntKind.i64.wrap (y6 + 1)))]) ⟨Z, Z, Z, Z, trivial⟩ (Nat.lt_succ_self _) ⟨(y4.set y5.toNat t7), (IntKind.i64.wrap (y5 + 1)), (IntKind.i64.wrap (y6 + 1)), Z, hS.pick [0] [] Z, H⟩
      · replace H := pifb_f hb H
        refine CJ.skip (EJ.blk (EJ.next ?_))
        refine CJ.region ?_
        refine OJ.pures oU 3 Z ?_
        refine OJ.nil ?_
        exact EJ.round k (F' := [(0, .slice Aa0 y4.length ca0), (1, .func (.func na1) fsa1 capa1), (5, .int .i64 y5), (6, .int .i64 (IntKind.i64.wrap (y6 + 1)))]) ⟨Z, Z, Z, Z, trivial⟩ (Nat.lt_succ_self _) ⟨y4, y5, (IntKind.i64.wrap (y6 + 1)), Z, hS.pick [0] [] Z, H⟩
    · replace H := pif_f (of_decide_eq_false hb) H
      refine CJ.exit (EJ.skE (EJ.skE (EJ.hit (?_))))
      exact EJ.meet (F' := [(0, .slice Aa0 y4.length ca0), (5, .int .i64 y5)]) ⟨Z, Z, trivial⟩ ⟨y4, y5, H, Z, hS.pick [0] [] Z⟩
 rintro F w1 ⟨y2, y3, he, rfl, hS⟩
 obtain rfl := Option.some.inj he
 have H := K142
 refine EJ.next ?_
 refine CJ.seq (CJ.region ?_)
 refine OJ.pures oU 2 Z ?_
 obtain ⟨u11, hu11, H⟩ := pbind H
 refine OJ.st rfl rfl rfl (SR.cutS oU oI (y3.toNat) (y2.length) rfl rfl rfl rfl rfl rfl (.inr ⟨_, _, rfl, (chk_some hu11).1, rfl⟩) (.inl ⟨rfl, rfl⟩) (by have := (chk_some hu11); omega) (by have := (chk_some hu11); have := (hS.le (i := 0) rfl : y2.length ≤ ca0); omega)) ?_
 refine OJ.ewn rfl rfl (Ew.clear oU oI (C := cSpot) (lo := y3.toNat) hS (i := 0) rfl rfl rfl rfl rfl rfl rfl rfl rfl (⟨0, 0⟩ : Spot) rfl (by have := (chk_some hu11); omega) rfl) ?_
 rintro _ w1 ⟨rfl, hS⟩
 refine OJ.as (t := 0) rfl (show _ = (.slice Aa0 (y2.take y3.toNat ++ List.replicate (y2.length - y3.toNat) (⟨0, 0⟩ : Spot)).length ca0 : Value) by (rw [List.length_append, List.length_take, List.length_replicate, Nat.min_eq_left (by have := (chk_some hu11); omega), Nat.add_sub_cancel' (by have := (chk_some hu11); omega)])) ?_
 refine OJ.as (t := 36) rfl (show _ = (.slice Aa0 (y2.take y3.toNat ++ List.replicate (y2.length - y3.toNat) (⟨0, 0⟩ : Spot)).length ca0 : Value) by (rw [List.length_append, List.length_take, List.length_replicate, Nat.min_eq_left (by have := (chk_some hu11); omega), Nat.add_sub_cancel' (by have := (chk_some hu11); omega)])) ?_
 refine OJ.nil (EJ.next ?_)
 refine CJ.seq (CJ.region ?_)
 refine OJ.pures oU 2 Z ?_
 obtain ⟨u12, hu12, H⟩ := pbind H
 refine OJ.st rfl rfl rfl (SR.cut0 oU oI rfl rfl rfl rfl rfl (by have := (chk_some hu12); omega) (by have := (chk_some hu12); have := (hS.le (i := 0) rfl : (y2.take y3.toNat ++ List.replicate (y2.length - y3.toNat) (⟨0, 0⟩ : Spot)).length ≤ ca0); omega)) ?_
 replace hS := hS.shrink (i := 0) (m := y3.toNat) rfl (by have := (chk_some hu12); omega)
 refine OJ.as (t := 41) rfl (show _ = (.slice Aa0 ((y2.take y3.toNat ++ List.replicate (y2.length - y3.toNat) (⟨0, 0⟩ : Spot)).take y3.toNat).length ca0 : Value) by rw [List.length_take, Nat.min_eq_left (by have := (chk_some hu12); omega)]) ?_
 refine OJ.pures oU 1 Z (OJ.nil (EJ.next ?_))
 refine CJ.ret (?_)
 obtain rfl := Option.some.inj H
 exact EJ.fin Z (.tmp Z .nil) ⟨Aa0, ca0, Z, hS.pick [0] [] Z⟩

def impl_Pasture_cellsFor_1.f (a1 : Goat) (a0 : Spot) : Option Bool := (impl_Goat_reaches.f a1 a0).bind fun t2 => some (!t2)
theorem impl_Pasture_cellsFor_1.c (w : World) (pa1 : Addr) (a1 : Goat) (hp1 : CA w pa1 (cGoat.enc a1)) (a0 : Spot) (r : Bool) (H : impl_Pasture_cellsFor_1.f a1 a0 = some r) :
 CV Tryz.prog 94 [.agg (cSpot.enc a0).toArray, .pointer (some pa1)].toArray w fun v w' => v = .bool r ∧ Ext w w' := by
 have hS := ((St.init w no).paramP pa1 (cGoat.enc a1) hp1)
 unfold impl_Pasture_cellsFor_1.f at H
 refine CV.body Tryz.func94 Z Tryz.ntmps94 Z ?_
 refine CJ.seq (CJ.region ?_)
 refine OJ.ef Z Z Z (Ef.box hS Z Z (cSpot.enc a0) Z) ?_
 rintro _ w1 ⟨b1, rfl, hS⟩
 refine OJ.pures oU 1 Z (OJ.nil (EJ.next ?_))
 refine CJ.seq (CJ.region ?_)
 refine OJ.st Z Z Z (SR.load Z Z (fun w' hx => ldE oU oI Z Z Z (CA.ext (hS.ca (i := 0) Z) hx) Z)) ?_
 refine OJ.st Z Z Z (SR.load Z Z (fun w' hx => ldE oU oI Z Z Z (CA.ext (hS.cells (i := 0) Z) hx) Z)) ?_
 obtain ⟨t2, ht2, H⟩ := pbind H
 refine OJ.callF Z Z Z Z Z hb57 Z (impl_Goat_reaches.c _ a1 a0 _ ht2) ?_
 rintro _ w1 ⟨rfl, hs⟩
 replace hS := hS.grow hs
 refine OJ.pures oU 2 Z (OJ.nil (EJ.next ?_))
 refine CJ.ret (?_)
 obtain rfl := Option.some.inj H
 exact EJ.fin Z (.tmp Z .nil) ⟨Z, hS.ext⟩

def impl_Pasture_cellsFor.f (k : Nat) (a0 : Pasture) (a1 : Goat) : Option (List Spot) := (impl_Pasture_yard.f k a0 a1.At).bind fun t3 => (slices_DeleteFunc_impl_Spot_impl_Spot.f k t3 (impl_Pasture_cellsFor_1.f a1)).bind fun t6 => some t6
theorem impl_Pasture_cellsFor.c (k : Nat) (w : World) (a0 : Pasture) (a1 : Goat) (r : List Spot) (H : impl_Pasture_cellsFor.f k a0 a1 = some r) :
 CV Tryz.prog 45 [.agg (cPasture.enc a0).toArray, .agg (cGoat.enc a1).toArray].toArray w fun v w' => ∃ (A0 : Option Addr) (c0 : Nat), v = .slice A0 r.length c0 ∧ St w no w' [rowC cSpot A0 c0 48 r] [] := by
 have hS := (St.init w no)
 unfold impl_Pasture_cellsFor.f at H
 refine CV.body Tryz.func45 Z Tryz.ntmps45 Z ?_
 refine CJ.seq (CJ.region ?_)
 refine OJ.ef Z Z Z (Ef.box hS Z Z (cPasture.enc a0) Z) ?_
 rintro _ w1 ⟨b1, rfl, hS⟩
 refine OJ.ef Z Z Z (Ef.box hS Z Z (cGoat.enc a1) Z) ?_
 rintro _ w1 ⟨b2, rfl, hS⟩
 refine OJ.pures oU 1 Z (OJ.nil (EJ.next ?_))
 refine CJ.seq (CJ.region ?_)
 refine OJ.st Z Z Z (SR.load Z Z (fun w' hx => ldE oU oI Z Z Z (CA.ext (hS.cells (i := 0) Z) hx) Z)) ?_
 refine OJ.st Z Z Z (SR.fieldAddr oU oI Z Z Z Z Z Z) ?_
 refine OJ.st Z Z Z (SR.load Z Z (fun w' hx => ldN oU oI Z Z Z (CA.ext (CA.sub (hS.cells (i := 1) Z) 0) hx) (cSpot.len _) Z)) ?_
 obtain ⟨t3, ht3, H⟩ := pbind H
 refine OJ.callF Z Z Z Z Z hb60 Z (impl_Pasture_yard.c k _ a0 a1.At _ ht3) ?_
 rintro _ w1 ⟨A4, c5, rfl, hs⟩
 replace hS := hS.addN hs
 refine OJ.pures oU 1 Z ?_
 obtain ⟨t6, ht6, H⟩ := pbind H
 refine OJ.callF rfl rfl rfl rfl rfl hb93 rfl (slices_DeleteFunc_impl_Spot_impl_Spot.c k _ A4 c5 t3 94 #[] #[.pointer (some ⟨b2, 0, none⟩)] hb94 (impl_Pasture_cellsFor_1.f a1) (fun z0 r h w' hx => CV.cast (impl_Pasture_cellsFor_1.c w' ⟨b2, 0, none⟩ a1 (box.ca (hS.stayL [2] hx (j := 1) rfl rfl))  z0 r h) (by simp)) ((hS.subs [2] [] [] rfl).pick [0] [] rfl) _ ht6) ?_
 rintro _ w1 ⟨A7, c8, rfl, hs⟩
 replace hS := hS.back' [] [2] rfl rfl [] [rowC cSpot A7 c8 48 t6] [] hs trivial (fun _ h => by cases h) (.inr rfl)
 refine OJ.pures oU 1 Z (OJ.nil (EJ.next ?_))
 refine CJ.ret (?_)
 obtain rfl := Option.some.inj H
 exact EJ.fin Z (.tmp Z .nil) ⟨A7, c8, Z, hS.pick [3] [] Z⟩

def slices_Index_impl_Spot_impl_Spot.l1 (a0 : List Spot) (a1 : Spot) : Nat → Int → Option (Int ⊕ Unit)
  | 0, _ => none
  | k + 1, y2 => if y2 < (a0.length : Int) then ((getI a0 y2).bind fun t3 => if a1 = t3 then (some (Sum.inl y2)) else (slices_Index_impl_Spot_impl_Spot.l1 a0 a1 k (IntKind.i64.wrap (y2 + 1)))) else (some (Sum.inr ()))
def slices_Index_impl_Spot_impl_Spot.f (k : Nat) (a0 : List Spot) (a1 : Spot) : Option Int := (slices_Index_impl_Spot_impl_Spot.l1 a0 a1 k 0).bind fun s146 => match s146 with | .inl r => some r | .inr _ => some (-1)
theorem slices_Index_impl_Spot_impl_Spot.c (k : Nat) (w : World) (Aa0 : Option Addr) (ca0 : Nat) (a0 : List Spot) (hr0 : Rd cSpot w Aa0 a0) (hc0 : a0.length ≤ ca0) (a1 : Spot) (r : Int) (H : slices_Index_impl_Spot_impl_Spot.f k a0 a1 = some r) :
 CV Tryz.prog 104 [.slice Aa0 a0.length ca0, .agg (cSpot.enc a1).toArray].toArray w fun v w' => v = .int .i64 r ∧ Ext w w' := by
 have hS := ((St.init w no).param cSpot Aa0 ca0 a0 hr0 hc0)
 unfold slices_Index_impl_Spot_impl_Spot.f at H
 refine CV.body Tryz.func104 Z Tryz.ntmps104 Z ?_
 refine CJ.seq (CJ.region ?_)
 refine OJ.ef Z Z Z (Ef.box hS Z Z (cSpot.enc a1) Z) ?_
 rintro _ w1 ⟨b1, rfl, hS⟩
 refine OJ.pures oU 1 Z (OJ.nil (EJ.next ?_))
 refine CJ.seq ?_
 refine CJ.seq (CJ.region ?_)
 refine OJ.pures oU 3 Z (OJ.nil (EJ.next ?_))
 obtain ⟨j146, H, K146⟩ := pbind H
 refine CJ.cut1 (fun F w1 => (some (Sum.inr ()) : Option (Int ⊕ Unit)) = some j146 ∧ F = [] ∧ St w no w1 [] [roC cSpot Aa0 ca0 a0]) ?_ ?_
 ·skip
  refine CJ.block ?_
  refine CJ.loop (fun k F w1 => ∃ (y2 : Int), F = [(0, .slice Aa0 a0.length ca0), (3, .pointer (some ⟨b1, 0, none⟩)), (7, .int .i64 (a0.length : Int)), (8, .int .i64 y2)] ∧ St w no w1 [box b1 (cSpot.enc a1) 48] [roC cSpot Aa0 ca0 a0] ∧ slices_Index_impl_Spot_impl_Spot.l1 a0 a1 k y2 = some j146) k (F' := [(0, .slice Aa0 a0.length ca0), (3, .pointer (some ⟨b1, 0, none⟩)), (7, .int .i64 (a0.length : Int)), (8, .int .i64 0)]) ⟨Z, Z, Z, Z, trivial⟩ ⟨0, Z, hS.pick [0] [0] Z, H⟩ ?_
  rintro k F w1 ⟨y2, rfl, hS, H⟩
  cases k with
  | zero => rw [slices_Index_impl_Spot_impl_Spot.l1] at H; cases H
  | succ k =>
    rw [slices_Index_impl_Spot_impl_Spot.l1] at H
    refine CJ.seq (CJ.region ?_)
    refine OJ.pures oU 1 Z (OJ.nil (EJ.next ?_))
    refine CJ.seq ?_
    refine CJ.cond Z (fun hb => ?_) (fun hb => ?_)
    · replace H := pif_t (of_decide_eq_true hb) H
      refine CJ.skip (EJ.next ?_)
      refine CJ.seq ?_
      refine CJ.block ?_
      refine CJ.seq (CJ.region ?_)
      refine OJ.pures oU 2 Z (OJ.nil (EJ.next ?_))
      refine CJ.seq ?_
      refine CJ.draw [] [0, 1, 2, 3, 4, 5] mixed (by kernel_rfl) hS fun w1 hS => ?_
      refine DJ.st Z Z Z Z Z (SR.load Z Z (fun w' hx => ldE oU oI Z Z Z (CA.ext (hS.cells (i := 0) Z) hx) Z)) ?_
      refine DJ.pures oU 2 Z ?_
      obtain ⟨t3, ht3, H⟩ := pbind H
      obtain ⟨ad3, e3⟩ := (hS.rd' (i := 0) rfl).some' ht3
      refine DJ.st Z Z Z Z Z (SR.idxS oU oI Z Z Z Z e3 Z (getI_some ht3).1) ?_
      refine DJ.st Z Z Z Z Z (SR.load Z Z (fun w' hx => ldE oU oI Z Z Z (CA.ext ((hS.rd' (i := 0) Z).at_ e3 ht3) hx) Z)) ?_
      refine DJ.st Z Z Z Z Z (SR.eqS eqT48 eqG48 Z Z Z (Z : _ = (cSpot.enc a1).toArray) (Z : _ = (cSpot.enc t3).toArray)) ?_
      refine DJ.nil (EJ.next ?_)
      refine CJ.cond Z (fun hb => ?_) (fun hb => ?_)
      · replace H := pif_t (of_decide_eq_true hb) H
        refine CJ.seq (CJ.region ?_)
        refine OJ.pures oU 2 Z (OJ.nil (EJ.next ?_))
        refine CJ.ret (EJ.bkR (EJ.skR (EJ.skR (EJ.bkR (EJ.skR (EJ.skR (?_)))))))
        first | (obtain rfl := Option.some.inj H; have H := K146) | (obtain ⟨q146, H2, e146⟩ := pbind H; obtain rfl := Option.some.inj e146; obtain rfl := Option.some.inj K146; have H := H2)
        obtain rfl := Option.some.inj H
        exact EJ.fin Z (.tmp Z .nil) ⟨Z, hS.ext⟩
      · replace H := pif_f (of_decide_eq_false hb) H
        refine CJ.skip (EJ.blk (EJ.next ?_))
        refine CJ.region ?_
        refine OJ.pures oU 2 Z ?_
        refine OJ.nil ?_
        exact EJ.round k (F' := [(0, .slice Aa0 a0.length ca0), (3, .pointer (some ⟨b1, 0, none⟩)), (7, .int .i64 (a0.length : Int)), (8, .int .i64 (IntKind.i64.wrap (y2 + 1)))]) ⟨Z, Z, Z, Z, trivial⟩ (Nat.lt_succ_self _) ⟨(IntKind.i64.wrap (y2 + 1)), Z, hS.pick [0] [0] Z, H⟩
    · replace H := pif_f (of_decide_eq_false hb) H
      refine CJ.exit (EJ.skE (EJ.skE (EJ.hit (?_))))
      exact EJ.meet (F' := []) trivial ⟨H, Z, hS.pick [] [0] Z⟩
 rintro F w1 ⟨he, rfl, hS⟩
 obtain rfl := Option.some.inj he
 have H := K146
 refine EJ.next ?_
 refine CJ.seq (CJ.region ?_)
 refine OJ.pures oU 1 Z (OJ.nil (EJ.next ?_))
 refine CJ.ret (?_)
 obtain rfl := Option.some.inj H
 exact EJ.fin Z (.tmp Z .nil) ⟨Z, hS.ext⟩

def slices_Contains_impl_Spot_impl_Spot.f (k : Nat) (a0 : List Spot) (a1 : Spot) : Option Bool := (slices_Index_impl_Spot_impl_Spot.f k a0 a1).bind fun t2 => some (decide (0 ≤ t2))
theorem slices_Contains_impl_Spot_impl_Spot.c (k : Nat) (w : World) (Aa0 : Option Addr) (ca0 : Nat) (a0 : List Spot) (hr0 : Rd cSpot w Aa0 a0) (hc0 : a0.length ≤ ca0) (a1 : Spot) (r : Bool) (H : slices_Contains_impl_Spot_impl_Spot.f k a0 a1 = some r) :
 CV Tryz.prog 62 [.slice Aa0 a0.length ca0, .agg (cSpot.enc a1).toArray].toArray w fun v w' => v = .bool r ∧ Ext w w' := by
 have hS := ((St.init w no).param cSpot Aa0 ca0 a0 hr0 hc0)
 unfold slices_Contains_impl_Spot_impl_Spot.f at H
 refine CV.body Tryz.func62 Z Tryz.ntmps62 Z ?_
 refine CJ.seq (CJ.region ?_)
 refine OJ.ef Z Z Z (Ef.box hS Z Z (cSpot.enc a1) Z) ?_
 rintro _ w1 ⟨b1, rfl, hS⟩
 refine OJ.pures oU 1 Z (OJ.nil (EJ.next ?_))
 refine CJ.seq (CJ.region ?_)
 refine OJ.pures oU 1 Z ?_
 refine OJ.st Z Z Z (SR.load Z Z (fun w' hx => ldE oU oI Z Z Z (CA.ext (hS.cells (i := 0) Z) hx) Z)) ?_
 obtain ⟨t2, ht2, H⟩ := pbind H
 refine OJ.callF Z Z Z Z Z hb104 Z (slices_Index_impl_Spot_impl_Spot.c k _ Aa0 ca0 a0 (hS.rd' (i := 0) Z) (hS.le' (i := 0) Z) a1 _ ht2) ?_
 rintro _ w1 ⟨rfl, hs⟩
 replace hS := hS.grow hs
 refine OJ.pures oU 2 Z (OJ.nil (EJ.next ?_))
 refine CJ.ret (?_)
 obtain rfl := Option.some.inj H
 exact EJ.fin Z (.tmp Z .nil) ⟨Z, hS.ext⟩

def impl_common_1.f (k : Nat) (a1 : List Spot) (a0 : Spot) : Option Bool := (slices_Contains_impl_Spot_impl_Spot.f k a1 a0).bind fun t2 => some (!t2)
theorem impl_common_1.c (k : Nat) (w : World) (Aa1 : Option Addr) (ca1 : Nat) (a1 : List Spot) (hr1 : Rd cSpot w Aa1 a1) (hc1 : a1.length ≤ ca1) (pa1 : Addr) (hp1 : CA w pa1 [.slice Aa1 a1.length ca1]) (a0 : Spot) (r : Bool) (H : impl_common_1.f k a1 a0 = some r) :
 CV Tryz.prog 120 [.agg (cSpot.enc a0).toArray, .pointer (some pa1)].toArray w fun v w' => v = .bool r ∧ Ext w w' := by
 have hS := (((St.init w no).param cSpot Aa1 ca1 a1 hr1 hc1).paramP pa1 [.slice Aa1 a1.length ca1] hp1)
 unfold impl_common_1.f at H
 refine CV.body Tryz.func120 Z Tryz.ntmps120 Z ?_
 refine CJ.seq (CJ.region ?_)
 refine OJ.ef Z Z Z (Ef.box hS Z Z (cSpot.enc a0) Z) ?_
 rintro _ w1 ⟨b1, rfl, hS⟩
 refine OJ.pures oU 1 Z (OJ.nil (EJ.next ?_))
 refine CJ.seq (CJ.region ?_)
 refine OJ.st Z Z Z (SR.load Z Z (fun w' hx => ld1 oU Z Z (CA.ext (hS.ca (i := 1) Z) hx) Z)) ?_
 refine OJ.st Z Z Z (SR.load Z Z (fun w' hx => ldE oU oI Z Z Z (CA.ext (hS.cells (i := 0) Z) hx) Z)) ?_
 obtain ⟨t2, ht2, H⟩ := pbind H
 refine OJ.callF Z Z Z Z Z hb62 Z (slices_Contains_impl_Spot_impl_Spot.c k _ Aa1 ca1 a1 (hS.rd' (i := 0) Z) (hS.le' (i := 0) Z) a0 _ ht2) ?_
 rintro _ w1 ⟨rfl, hs⟩
 replace hS := hS.grow hs
 refine OJ.pures oU 2 Z (OJ.nil (EJ.next ?_))
 refine CJ.ret (?_)
 obtain rfl := Option.some.inj H
 exact EJ.fin Z (.tmp Z .nil) ⟨Z, hS.ext⟩

def impl_common.f (k : Nat) (a0 : List Spot) (a1 : List Spot) : Option (List Spot) := (slices_Clone_impl_Spot_impl_Spot.f a0).bind fun t2 => (slices_DeleteFunc_impl_Spot_impl_Spot.f k t2 (impl_common_1.f k a1)).bind fun t5 => some t5
theorem impl_common.c (k : Nat) (w : World) (Aa0 : Option Addr) (ca0 : Nat) (a0 : List Spot) (hr0 : Rd cSpot w Aa0 a0) (hc0 : a0.length ≤ ca0) (Aa1 : Option Addr) (ca1 : Nat) (a1 : List Spot) (hr1 : Rd cSpot w Aa1 a1) (hc1 : a1.length ≤ ca1) (r : List Spot) (H : impl_common.f k a0 a1 = some r) :
 CV Tryz.prog 95 [.slice Aa0 a0.length ca0, .slice Aa1 a1.length ca1].toArray w fun v w' => ∃ (A0 : Option Addr) (c0 : Nat), v = .slice A0 r.length c0 ∧ St w no w' [rowC cSpot A0 c0 48 r] [] := by
 have hS := (((St.init w no).param cSpot Aa0 ca0 a0 hr0 hc0).param cSpot Aa1 ca1 a1 hr1 hc1)
 unfold impl_common.f at H
 refine CV.body Tryz.func95 Z Tryz.ntmps95 Z ?_
 refine CJ.seq (CJ.region ?_)
 refine OJ.ef Z Z Z (Ef.box hS Z Z ([.slice Aa1 a1.length ca1]) Z) ?_
 rintro _ w1 ⟨b1, rfl, hS⟩
 refine OJ.pures oU 1 Z (OJ.nil (EJ.next ?_))
 refine CJ.seq (CJ.region ?_)
 refine OJ.pures oU 1 Z ?_
 obtain ⟨t2, ht2, H⟩ := pbind H
 refine OJ.callF Z Z Z Z Z hb106 Z (slices_Clone_impl_Spot_impl_Spot.c _ Aa0 ca0 a0 (hS.rd' (i := 0) Z) (hS.le' (i := 0) Z) _ ht2) ?_
 rintro _ w1 ⟨A3, c4, rfl, hs⟩
 replace hS := hS.addN hs
 refine OJ.pures oU 1 Z ?_
 obtain ⟨t5, ht5, H⟩ := pbind H
 refine OJ.callF rfl rfl rfl rfl rfl hb93 rfl (slices_DeleteFunc_impl_Spot_impl_Spot.c k _ A3 c4 t2 120 #[] #[.pointer (some ⟨b1, 0, none⟩)] hb120 (impl_common_1.f k a1) (fun z0 r h w' hx => CV.cast (impl_common_1.c k w' Aa1 ca1 a1 (roC.rd (hS.stayR [1] hx (j := 1) rfl)) (hS.le' (i := 1) rfl) ⟨b1, 0, none⟩ (box.ca (hS.stayL [1] hx (j := 0) rfl rfl))  z0 r h) (by simp)) ((hS.subs [1] [] [] rfl).pick [0] [] rfl) _ ht5) ?_
 rintro _ w1 ⟨A6, c7, rfl, hs⟩
 replace hS := hS.back' [] [1] rfl rfl [] [rowC cSpot A6 c7 48 t5] [] hs trivial (fun _ h => by cases h) (.inr rfl)
 refine OJ.pures oU 1 Z (OJ.nil (EJ.next ?_))
 refine CJ.ret (?_)
 obtain rfl := Option.some.inj H
 exact EJ.fin Z (.tmp Z .nil) ⟨A6, c7, Z, hS.pick [2] [] Z⟩

def impl_pairs.l2 (a0 : List (List Spot)) (y8 : Int) (t12 : List Spot) : Nat → (List (Arr 2 Int)) → Int → Option (List (Arr 2 Int))
  | 0, _, _ => none
  | k + 1, y16, y19 => if y19 < (a0.length : Int) then ((getI a0 y19).bind fun t20 => (impl_common.f k t12 t20).bind fun t21 => if 0 < (t21.length : Int) then ((chk (y16.length + ([(⟨[y8, y19], rfl⟩ : Arr 2 Int)] : List (Arr 2 Int)).length ≤ 4294967296)).bind fun u25 => impl_pairs.l2 a0 y8 t12 k (y16 ++ ([(⟨[y8, y19], rfl⟩ : Arr 2 Int)] : List (Arr 2 Int))) (IntKind.i64.wrap (y19 + 1))) else (impl_pairs.l2 a0 y8 t12 k y16 (IntKind.i64.wrap (y19 + 1)))) else (some y16)
def impl_pairs.l1 (a0 : List (List Spot)) : Nat → (List (Arr 2 Int)) → Int → Option (List (Arr 2 Int))
  | 0, _, _ => none
  | k + 1, y5, y8 => if y8 < (a0.length : Int) then (((getI a0 y8).bind fun t12 => (impl_pairs.l2 a0 y8 t12 k y5 (IntKind.i64.wrap (y8 + 1))).bind fun y13 => some y13).bind fun y9 => impl_pairs.l1 a0 k y9 (IntKind.i64.wrap (y8 + 1))) else (some y5)
def impl_pairs.f (k : Nat) (a0 : List (List Spot)) : Option (List (Arr 2 Int)) := (impl_pairs.l1 a0 k ([] : List (Arr 2 Int)) 0).bind fun y2 => some y2
theorem impl_pairs.c (k : Nat) (w : World) (Aa0 : Option Addr) (ca0 : Nat) (Da0 : List SH) (a0 : List (List Spot)) (hr0 : (rosC cSpot Aa0 ca0 Da0 a0).holds w) (r : List (Arr 2 Int)) (H : impl_pairs.f k a0 = some r) :
 CV Tryz.prog 46 [.slice Aa0 a0.length ca0].toArray w fun v w' => ∃ (A0 : Option Addr) (c0 : Nat), v = .slice A0 r.length c0 ∧ St w no w' [rowC (carr 2 (ci .i64)) A0 c0 101 r] [] := by
 have hS := ((St.init w no).paramC (rosC cSpot Aa0 ca0 Da0 a0) hr0)
 unfold impl_pairs.f at H
 refine CV.body Tryz.func46 Z Tryz.ntmps46 Z ?_
 refine CJ.seq (CJ.region ?_)
 refine OJ.pures oU 1 Z (OJ.nil (EJ.next ?_))
 refine CJ.seq (CJ.region ?_)
 refine OJ.ef Z Z Z (Ef.lit oU oI hS (C := (carr 2 (ci .i64))) Z Z Z Z Z Z ([] : List (Arr 2 Int)) Z Z Z Z) ?_
 rintro _ w1 ⟨A1, rfl, hS⟩
 refine OJ.pures oU 1 Z (OJ.nil (EJ.next ?_))
 refine CJ.seq ?_
 refine CJ.seq (CJ.region ?_)
 refine OJ.pures oU 3 Z (OJ.nil (EJ.next ?_))
 obtain ⟨j143, H, K143⟩ := pbind H
 refine CJ.cut1 (fun F w1 => ∃ (y2 : List (Arr 2 Int)) (A3 : Option Addr) (c4 : Nat), (some y2 : Option (List (Arr 2 Int))) = some j143 ∧ F = [(3, .slice A3 y2.length c4)] ∧ St w no w1 [rowC (carr 2 (ci .i64)) A3 c4 101 y2] [rosC cSpot Aa0 ca0 Da0 a0]) ?_ ?_
 ·skip
  refine CJ.block ?_
  refine CJ.loop (fun k F w1 => ∃ (y5 : List (Arr 2 Int)) (y8 : Int) (A6 : Option Addr) (c7 : Nat), F = [(0, .slice Aa0 a0.length ca0), (3, .slice A6 y5.length c7), (8, .slice Aa0 a0.length ca0), (9, .int .i64 (a0.length : Int)), (10, .int .i64 y8)] ∧ St w no w1 [rowC (carr 2 (ci .i64)) A6 c7 101 y5] [rosC cSpot Aa0 ca0 Da0 a0] ∧ impl_pairs.l1 a0 k y5 y8 = some j143) k (F' := [(0, .slice Aa0 a0.length ca0), (3, .slice A1 ([] : List (Arr 2 Int)).length (([] : List (Arr 2 Int)).length)), (8, .slice Aa0 a0.length ca0), (9, .int .i64 (a0.length : Int)), (10, .int .i64 0)]) ⟨Z, Z, Z, Z, Z, trivial⟩ ⟨([] : List (Arr 2 Int)), 0, A1, (([] : List (Arr 2 Int)).length), Z, hS.pick [0] [0] Z, H⟩ ?_
  rintro k F w1 ⟨y5, y8, A6, c7, rfl, hS, H⟩
  cases k with
  | zero => rw [impl_pairs.l1] at H; cases H
  | succ k =>
    rw [impl_pairs.l1] at H
    refine CJ.seq (CJ.region ?_)
    refine OJ.pures oU 1 Z (OJ.nil (EJ.next ?_))
    refine CJ.seq ?_
    refine CJ.cond Z (fun hb => ?_) (fun hb => ?_)
    · replace H := pif_t (of_decide_eq_true hb) H
      refine CJ.skip (EJ.next ?_)
      obtain ⟨j151, H, K151⟩ := pbind H
      refine CJ.cut (fun F w1 => ∃ (y9 : List (Arr 2 Int)) (A10 : Option Addr) (c11 : Nat), (some y9 : Option (List (Arr 2 Int))) = some j151 ∧ F = [(0, .slice Aa0 a0.length ca0), (3, .slice A10 y9.length c11), (8, .slice Aa0 a0.length ca0), (9, .int .i64 (a0.length : Int)), (10, .int .i64 y8)] ∧ St w no w1 [rowC (carr 2 (ci .i64)) A10 c11 101 y9] [rosC cSpot Aa0 ca0 Da0 a0]) ?_ ?_
      · skip
        refine CJ.block ?_
        refine CJ.seq (CJ.region ?_)
        refine OJ.pures oU 1 Z ?_
        obtain ⟨t12, ht12, H⟩ := pbind H
        obtain ⟨Ae12, ce12, g12, d12, hx12⟩ := ros_el (hS.rosH (i := 0) rfl) ht12
        obtain ⟨ad12, e12⟩ := (ros_rd (hS.rosH (i := 0) rfl)).some' g12
        refine OJ.st Z Z Z (SR.idxS oU oI Z Z Z Z e12 Z (getI_some ht12).1) ?_
        refine OJ.st Z Z Z (SR.load Z Z (fun w' hx => ld1 oU Z Z (CA.ext ((ros_rd (hS.rosH (i := 0) Z)).at_ e12 g12) hx) Z)) ?_
        refine OJ.pures oU 2 Z (OJ.nil (EJ.next ?_))
        refine CJ.seq (CJ.region ?_)
        refine OJ.pures oU 3 Z (OJ.nil (EJ.next ?_))
        obtain ⟨j153, H, K153⟩ := pbind H
        refine CJ.cut1 (fun F w1 => ∃ (y13 : List (Arr 2 Int)) (A14 : Option Addr) (c15 : Nat), (some y13 : Option (List (Arr 2 Int))) = some j153 ∧ F = [(0, .slice Aa0 a0.length ca0), (3, .slice A14 y13.length c15), (8, .slice Aa0 a0.length ca0), (9, .int .i64 (a0.length : Int)), (10, .int .i64 y8)] ∧ St w no w1 [rowC (carr 2 (ci .i64)) A14 c15 101 y13] [rosC cSpot Aa0 ca0 Da0 a0]) ?_ ?_
        · skip
          refine CJ.block ?_
          refine CJ.loop (fun k F w1 => ∃ (y16 : List (Arr 2 Int)) (y19 : Int) (A17 : Option Addr) (c18 : Nat), F = [(0, .slice Aa0 a0.length ca0), (3, .slice A17 y16.length c18), (4, .int .i64 y8), (5, .slice Ae12 t12.length ce12), (6, .int .i64 y19), (8, .slice Aa0 a0.length ca0), (9, .int .i64 (a0.length : Int)), (10, .int .i64 y8)] ∧ St w no w1 [rowC (carr 2 (ci .i64)) A17 c18 101 y16] [rosC cSpot Aa0 ca0 Da0 a0] ∧ impl_pairs.l2 a0 y8 t12 k y16 y19 = some j153) k (F' := [(0, .slice Aa0 a0.length ca0), (3, .slice A6 y5.length c7), (4, .int .i64 y8), (5, .slice Ae12 t12.length ce12), (6, .int .i64 (IntKind.i64.wrap (y8 + 1))), (8, .slice Aa0 a0.length ca0), (9, .int .i64 (a0.length : Int)), (10, .int .i64 y8)]) ⟨Z, Z, Z, Z, Z, Z, Z, Z, trivial⟩ ⟨y5, (IntKind.i64.wrap (y8 + 1)), A6, c7, Z, hS.pick [0] [0] Z, H⟩ ?_
          rintro k F w1 ⟨y16, y19, A17, c18, rfl, hS, H⟩
          cases k with
          | zero => rw [impl_pairs.l2] at H; cases H
          | succ k =>
            rw [impl_pairs.l2] at H
            refine CJ.seq ?_
            refine CJ.seq (CJ.region ?_)
            refine OJ.pures oU 4 Z (OJ.nil (EJ.next ?_))
            refine CJ.cond Z (fun hb => ?_) (fun hb => ?_)
            · replace H := pif_t (of_decide_eq_true hb) H
              refine CJ.skip (EJ.next ?_)
              refine CJ.seq ?_
              refine CJ.block ?_
              refine CJ.seq (CJ.region ?_)
              refine OJ.pures oU 3 Z ?_
              obtain ⟨t20, ht20, H⟩ := pbind H
              obtain ⟨Ae20, ce20, g20, d20, hx20⟩ := ros_el (hS.rosH (i := 0) rfl) ht20
              obtain ⟨ad20, e20⟩ := (ros_rd (hS.rosH (i := 0) rfl)).some' g20
              refine OJ.st Z Z Z (SR.idxS oU oI Z Z Z Z e20 Z (getI_some ht20).1) ?_
              refine OJ.st Z Z Z (SR.load Z Z (fun w' hx => ld1 oU Z Z (CA.ext ((ros_rd (hS.rosH (i := 0) Z)).at_ e20 g20) hx) Z)) ?_
              obtain ⟨t21, ht21, H⟩ := pbind H
              refine OJ.callF Z Z Z Z Z hb95 Z (impl_common.c k _ Ae12 ce12 t12 (ros_sub (hS.rosH (i := 0) Z) d12 hx12) (ros_subLe (hS.rosH (i := 0) Z) d12 hx12) Ae20 ce20 t20 (ros_sub (hS.rosH (i := 0) Z) d20 hx20) (ros_subLe (hS.rosH (i := 0) Z) d20 hx20) _ ht21) ?_
              rintro _ w1 ⟨A22, c23, rfl, hs⟩
              replace hS := hS.addN hs
              refine OJ.pures oU 2 Z (OJ.nil (EJ.next ?_))
              refine CJ.cond Z (fun hb => ?_) (fun hb => ?_)
              · replace H := pif_t (of_decide_eq_true hb) H
                refine CJ.region ?_
                refine OJ.pures oU 3 Z ?_
                refine OJ.st rfl rfl rfl (SR.buildA oU oI rfl rfl rfl rfl (zs := [.int .i64 0, .int .i64 0]) rfl rfl ((carr 2 (ci .i64)).enc (⟨[y8, y19], rfl⟩ : Arr 2 Int)) (by kernel_rfl)) ?_
                refine OJ.ef Z Z Z (Ef.lit oU oI hS (C := (carr 2 (ci .i64))) Z Z Z Z Z Z ([(⟨[y8, y19], Z⟩ : Arr 2 Int)] : List (Arr 2 Int)) Z Z Z Z) ?_
                rintro _ w1 ⟨A24, rfl, hS⟩
                obtain ⟨u25, hu25, H⟩ := pbind H
                refine OJ.ew Z Z Z (Ew.append oU oI (C := (carr 2 (ci .i64))) (xs := y16) (ys := ([(⟨[y8, y19], Z⟩ : Arr 2 Int)] : List (Arr 2 Int))) hS (i := 0) Z Z Z Z Z Z Z Z Z Z Z Z Z (hS.rd (i := 2) Z) (chk_some hu25)) ?_
                rintro _ w1 ⟨A26, c27, rfl, hS⟩
                refine OJ.pures oU 1 Z ?_
                refine OJ.nil (EJ.blk (EJ.next ?_))
                refine CJ.region ?_
                refine OJ.pures oU 3 Z ?_
                refine OJ.nil ?_
                exact EJ.round k (F' := [(0, .slice Aa0 a0.length ca0), (3, .slice A26 (y16 ++ ([(⟨[y8, y19], Z⟩ : Arr 2 Int)] : List (Arr 2 Int))).length c27), (4, .int .i64 y8), (5, .slice Ae12 t12.length ce12), (6, .int .i64 (IntKind.i64.wrap (y19 + 1))), (8, .slice Aa0 a0.length ca0), (9, .int .i64 (a0.length : Int)), (10, .int .i64 y8)]) ⟨Z, Z, Z, Z, Z, Z, Z, Z, trivial⟩ (Nat.lt_succ_self _) ⟨(y16 ++ ([(⟨[y8, y19], Z⟩ : Arr 2 Int)] : List (Arr 2 Int))), (IntKind.i64.wrap (y19 + 1)), A26, c27, Z, hS.pick [0] [0] Z, H⟩
              · replace H := pif_f (of_decide_eq_false hb) H
                refine CJ.skip (EJ.blk (EJ.next ?_))
                refine CJ.region ?_
                refine OJ.pures oU 3 Z ?_
                refine OJ.nil ?_
                exact EJ.round k (F' := [(0, .slice Aa0 a0.length ca0), (3, .slice A17 y16.length c18), (4, .int .i64 y8), (5, .slice Ae12 t12.length ce12), (6, .int .i64 (IntKind.i64.wrap (y19 + 1))), (8, .slice Aa0 a0.length ca0), (9, .int .i64 (a0.length : Int)), (10, .int .i64 y8)]) ⟨Z, Z, Z, Z, Z, Z, Z, Z, trivial⟩ (Nat.lt_succ_self _) ⟨y16, (IntKind.i64.wrap (y19 + 1)), A17, c18, Z, hS.pick [0] [0] Z, H⟩
            · replace H := pif_f (of_decide_eq_false hb) H
              refine CJ.exit (EJ.skE (EJ.skE (EJ.hit (?_))))
              exact EJ.meet (F' := [(0, .slice Aa0 a0.length ca0), (3, .slice A17 y16.length c18), (8, .slice Aa0 a0.length ca0), (9, .int .i64 (a0.length : Int)), (10, .int .i64 y8)]) ⟨Z, Z, Z, Z, Z, trivial⟩ ⟨y16, A17, c18, H, Z, hS.pick [0] [0] Z⟩
        · rintro F w1 ⟨y13, A14, c15, he, rfl, hS⟩
          obtain rfl := Option.some.inj he
          have H := K153
          refine EJ.blk (?_)
          exact EJ.meet (F' := [(0, .slice Aa0 a0.length ca0), (3, .slice A14 y13.length c15), (8, .slice Aa0 a0.length ca0), (9, .int .i64 (a0.length : Int)), (10, .int .i64 y8)]) ⟨Z, Z, Z, Z, Z, trivial⟩ ⟨y13, A14, c15, H, Z, hS.pick [0] [0] Z⟩
      · rintro F w1 ⟨y9, A10, c11, he, rfl, hS⟩
        obtain rfl := Option.some.inj he
        have H := K151
        refine CJ.region ?_
        refine OJ.pures oU 2 Z ?_
        refine OJ.nil ?_
        exact EJ.round k (F' := [(0, .slice Aa0 a0.length ca0), (3, .slice A10 y9.length c11), (8, .slice Aa0 a0.length ca0), (9, .int .i64 (a0.length : Int)), (10, .int .i64 (IntKind.i64.wrap (y8 + 1)))]) ⟨Z, Z, Z, Z, Z, trivial⟩ (Nat.lt_succ_self _) ⟨y9, (IntKind.i64.wrap (y8 + 1)), A10, c11, Z, hS.pick [0] [0] Z, H⟩
    · replace H := pif_f (of_decide_eq_false hb) H
      refine CJ.exit (EJ.skE (EJ.skE (EJ.hit (?_))))
      exact EJ.meet (F' := [(3, .slice A6 y5.length c7)]) ⟨Z, trivial⟩ ⟨y5, A6, c7, H, Z, hS.pick [0] [0] Z⟩
 rintro F w1 ⟨y2, A3, c4, he, rfl, hS⟩
 obtain rfl := Option.some.inj he
 have H := K143
 refine EJ.next ?_
 refine CJ.seq (CJ.region ?_)
 refine OJ.pures oU 2 Z (OJ.nil (EJ.next ?_))
 refine CJ.ret (?_)
 obtain rfl := Option.some.inj H
 exact EJ.fin Z (.tmp Z .nil) ⟨A3, c4, Z, hS.pick [0] [] Z⟩

def impl_CanMeet.l1 (a0 : Pasture) (a1 : List Goat) : Nat → (List (List Spot)) → Int → Option (List (List Spot))
  | 0, _, _ => none
  | k + 1, y8, y12 => if y12 < (a1.length : Int) then ((getI a1 y12).bind fun t13 => (impl_Pasture_cellsFor.f k a0 t13).bind fun t15 => (chk (y8.length + [t15].length ≤ 4294967296)).bind fun u19 => impl_CanMeet.l1 a0 a1 k (y8 ++ [t15]) (IntKind.i64.wrap (y12 + 1))) else (some y8)
def impl_CanMeet.f (k : Nat) (a0 : Pasture) (a1 : List Goat) : Option (List (Arr 2 Int) × Int) := (impl_goatCode.f k a0 a1).bind fun t2 => if t2 ≠ 0 then (some ([], t2)) else ((impl_CanMeet.l1 a0 a1 k ([] : List (List Spot)) 0).bind fun y4 => (impl_pairs.f k y4).bind fun t23 => some (t23, 0))
theorem impl_CanMeet.c (k : Nat) (w : World) (a0 : Pasture) (Aa1 : Option Addr) (ca1 : Nat) (a1 : List Goat) (hr1 : Rd cGoat w Aa1 a1) (hc1 : a1.length ≤ ca1) (r : List (Arr 2 Int) × Int) (H : impl_CanMeet.f k a0 a1 = some r) :
 CV Tryz.prog 9 [.agg (cPasture.enc a0).toArray, .slice Aa1 a1.length ca1].toArray w fun v w' => ∃ (A0 : Option Addr) (c0 : Nat), v = .tuple #[.slice A0 r.1.length c0, .int .i64 r.2] ∧ St w no w' [rowC (carr 2 (ci .i64)) A0 c0 101 r.1] [] := by
 have hS := ((St.init w no).param cGoat Aa1 ca1 a1 hr1 hc1)
 unfold impl_CanMeet.f at H
 refine CV.body Tryz.func9 Z Tryz.ntmps9 Z ?_
 refine CJ.seq (CJ.region ?_)
 refine OJ.ef Z Z Z (Ef.box hS Z Z (cPasture.enc a0) Z) ?_
 rintro _ w1 ⟨b1, rfl, hS⟩
 refine OJ.pures oU 2 Z (OJ.nil (EJ.next ?_))
 refine CJ.seq ?_
 refine CJ.seq (CJ.region ?_)
 refine OJ.st Z Z Z (SR.load Z Z (fun w' hx => ldE oU oI Z Z Z (CA.ext (hS.cells (i := 0) Z) hx) Z)) ?_
 refine OJ.pures oU 1 Z ?_
 obtain ⟨t2, ht2, H⟩ := pbind H
 refine OJ.callF Z Z Z Z Z hb44 Z (impl_goatCode.c k _ a0 Aa1 ca1 a1 (hS.rd' (i := 0) Z) (hS.le' (i := 0) Z) _ ht2) ?_
 rintro _ w1 ⟨rfl, hs⟩
 replace hS := hS.grow hs
 refine OJ.pures oU 1 Z (OJ.nil (EJ.next ?_))
 refine CJ.seq (CJ.region ?_)
 refine OJ.pures oU 2 Z (OJ.nil (EJ.next ?_))
 refine CJ.cond Z (fun hb => ?_) (fun hb => ?_)
 ·replace H := pif_t (of_decide_eq_true hb) H
  refine CJ.seq (CJ.region ?_)
  refine OJ.pures oU 3 Z (OJ.nil (EJ.next ?_))
  refine CJ.ret (EJ.skR (?_))
  replace hS := hS.addNil (carr 2 (ci .i64)) 101 none
  obtain rfl := Option.some.inj H
  exact EJ.fin Z (.tmp Z (.tmp Z .nil)) ⟨none, 0, Z, hS.pick [1] [] Z⟩
 replace H := pif_f (of_decide_eq_false hb) H
 refine CJ.skip (EJ.next ?_)
 refine CJ.seq (CJ.region ?_)
 refine OJ.ef Z Z Z (Ef.litS0 (e := 48) oU oI hS Z Z Z Z cSpot) ?_
 rintro _ w1 ⟨A3, rfl, hS⟩
 refine OJ.pures oU 1 Z (OJ.nil (EJ.next ?_))
 refine CJ.seq ?_
 refine CJ.seq (CJ.region ?_)
 refine OJ.pures oU 3 Z (OJ.nil (EJ.next ?_))
 obtain ⟨j90, H, K90⟩ := pbind H
 refine CJ.cut1 (fun F w1 => ∃ (y4 : List (List Spot)) (A5 : Option Addr) (c6 : Nat) (D7 : List SH), (some y4 : Option (List (List Spot))) = some j90 ∧ F = [(7, .slice A5 y4.length c6)] ∧ St w no w1 [rowsC cSpot A5 c6 41 48 D7 y4] [roC cGoat Aa1 ca1 a1]) ?_ ?_
 ·skip
  refine CJ.block ?_
  refine CJ.loop (fun k F w1 => ∃ (y8 : List (List Spot)) (y12 : Int) (A9 : Option Addr) (c10 : Nat) (D11 : List SH), F = [(2, .pointer (some ⟨b1, 0, none⟩)), (7, .slice A9 y8.length c10), (17, .slice Aa1 a1.length ca1), (18, .int .i64 (a1.length : Int)), (19, .int .i64 y12)] ∧ St w no w1 [box b1 (cPasture.enc a0) 31, rowsC cSpot A9 c10 41 48 D11 y8] [roC cGoat Aa1 ca1 a1] ∧ impl_CanMeet.l1 a0 a1 k y8 y12 = some j90) k (F' := [(2, .pointer (some ⟨b1, 0, none⟩)), (7, .slice A3 ([] : List (List Spot)).length (([] : List (List Spot)).length)), (17, .slice Aa1 a1.length ca1), (18, .int .i64 (a1.length : Int)), (19, .int .i64 0)]) ⟨Z, Z, Z, Z, Z, trivial⟩ ⟨([] : List (List Spot)), 0, A3, (([] : List (List Spot)).length), [], Z, hS.pick [0, 1] [0] Z, H⟩ ?_
  rintro k F w1 ⟨y8, y12, A9, c10, D11, rfl, hS, H⟩
  cases k with
  | zero => rw [impl_CanMeet.l1] at H; cases H
  | succ k =>
    rw [impl_CanMeet.l1] at H
    refine CJ.seq (CJ.region ?_)
    refine OJ.pures oU 1 Z (OJ.nil (EJ.next ?_))
    refine CJ.seq ?_
    refine CJ.cond Z (fun hb => ?_) (fun hb => ?_)
    · replace H := pif_t (of_decide_eq_true hb) H
      refine CJ.skip (EJ.next ?_)
      refine CJ.seq ?_
      refine CJ.block ?_
      refine CJ.seq (CJ.region ?_)
      obtain ⟨t13, ht13, H⟩ := pbind H
      obtain ⟨ad13, e13⟩ := (hS.rd' (i := 0) rfl).some' ht13
      refine OJ.st Z Z Z (SR.idxS oU oI Z Z Z Z e13 Z (getI_some ht13).1) ?_
      refine OJ.st Z Z Z (SR.load Z Z (fun w' hx => ldE oU oI Z Z Z (CA.ext ((hS.rd' (i := 0) Z).at_ e13 ht13) hx) Z)) ?_
      refine OJ.ef Z Z Z (Ef.alloc hS oI Z Z (cGoat.enc (⟨(⟨0, 0⟩ : Spot), (⟨0, 0⟩ : Spot), 0, 0, 0⟩ : Goat)) Z) ?_
      rintro _ w1 ⟨b14, rfl, hS⟩
      refine OJ.es Z Z (Es.store oI hS (i := 2) Z Z Z Z Z Z (vs := cGoat.enc t13) Z (cGoat.len _) (cGoat.one _) (Nat.le_of_ble_eq_true Z) (cGoat.enc t13) Z) ?_
      intro w1 hS
      refine OJ.nil (EJ.next ?_)
      refine CJ.region ?_
      refine OJ.pures oU 1 Z ?_
      refine OJ.st Z Z Z (SR.load Z Z (fun w' hx => ldE oU oI Z Z Z (CA.ext (hS.cells (i := 0) Z) hx) Z)) ?_
      refine OJ.st Z Z Z (SR.load Z Z (fun w' hx => ldE oU oI Z Z Z (CA.ext (hS.cells (i := 2) Z) hx) Z)) ?_
      obtain ⟨t15, ht15, H⟩ := pbind H
      refine OJ.callF Z Z Z Z Z hb45 Z (impl_Pasture_cellsFor.c k _ a0 t13 _ ht15) ?_
      rintro _ w1 ⟨A16, c17, rfl, hs⟩
      replace hS := hS.addN hs
      refine OJ.ef Z Z Z (Ef.litS1 (C := cSpot) oU oI hS (k := 3) Z Z Z Z Z Z) ?_
      rintro _ w1 ⟨A18, rfl, hS⟩
      obtain ⟨u19, hu19, H⟩ := pbind H
      have hdl := (hS.rowsRo (i := 1) rfl).1
      have dd22 := subD (D := D11) hdl (show ([(A16, c17)] : List SH)[0]? = _ from rfl)
      have xd22 := subD (D := y8) rfl (show ([t15] : List (List Spot))[0]? = _ from rfl)
      refine OJ.ew Z Z Z (Ew.appendS oU oI hS (i := 1) (j := 4) Z Z Z Z Z Z Z Z Z Z Z Z Z Z (chk_some hu19)) ?_
      rintro _ w1 ⟨A20, c21, rfl, hS⟩
      refine OJ.pures oU 1 Z ?_
      refine OJ.nil (EJ.blk (EJ.next ?_))
      refine CJ.region ?_
      refine OJ.pures oU 2 Z ?_
      refine OJ.nil ?_
      exact EJ.round k (F' := [(2, .pointer (some ⟨b1, 0, none⟩)), (7, .slice A20 (y8 ++ [t15]).length c21), (17, .slice Aa1 a1.length ca1), (18, .int .i64 (a1.length : Int)), (19, .int .i64 (IntKind.i64.wrap (y12 + 1)))]) ⟨Z, Z, Z, Z, Z, trivial⟩ (Nat.lt_succ_self _) ⟨(y8 ++ [t15]), (IntKind.i64.wrap (y12 + 1)), A20, c21, (D11 ++ [(A16, c17)]), Z, hS.pick [0, 1] [0] Z, H⟩
    · replace H := pif_f (of_decide_eq_false hb) H
      refine CJ.exit (EJ.skE (EJ.skE (EJ.hit (?_))))
      exact EJ.meet (F' := [(7, .slice A9 y8.length c10)]) ⟨Z, trivial⟩ ⟨y8, A9, c10, D11, H, Z, hS.pick [1] [0] Z⟩
 rintro F w1 ⟨y4, A5, c6, D7, he, rfl, hS⟩
 obtain rfl := Option.some.inj he
 have H := K90
 refine EJ.next ?_
 refine CJ.seq (CJ.region ?_)
 refine OJ.pures oU 1 Z ?_
 obtain ⟨t23, ht23, H⟩ := pbind H
 refine OJ.callF Z Z Z Z Z hb46 Z (impl_pairs.c k _ A5 c6 D7 y4 (hS.rowsRo (i := 0) Z) _ ht23) ?_
 rintro _ w1 ⟨A24, c25, rfl, hs⟩
 replace hS := hS.addN hs
 refine OJ.pures oU 2 Z (OJ.nil (EJ.next ?_))
 refine CJ.ret (?_)
 obtain rfl := Option.some.inj H
 exact EJ.fin Z (.tmp Z (.tmp Z .nil)) ⟨A24, c25, Z, hS.pick [1] [] Z⟩

def spec_l01Grass.f (a0 : Int) : Option Bool := (spec_l00In.f a0 0 1000).bind fun t1 => some t1
theorem spec_l01Grass.c (w : World) (a0 : Int) (r : Bool) (H : spec_l01Grass.f a0 = some r) :
 CV Tryz.prog 121 [.int .i64 a0].toArray w fun v w' => v = .bool r ∧ Ext w w' := by
 have hS := (St.init w no)
 unfold spec_l01Grass.f at H
 refine CV.body Tryz.func121 Z Tryz.ntmps121 Z ?_
 refine CJ.seq (CJ.region ?_)
 refine OJ.pures oU 1 Z (OJ.nil (EJ.next ?_))
 refine CJ.seq (CJ.region ?_)
 refine OJ.pures oU 1 Z ?_
 obtain ⟨t1, ht1, H⟩ := pbind H
 refine OJ.callF Z Z Z Z Z hb105 Z (spec_l00In.c _ a0 0 1000 _ ht1) ?_
 rintro _ w1 ⟨rfl, hs⟩
 replace hS := hS.grow hs
 refine OJ.pures oU 1 Z (OJ.nil (EJ.next ?_))
 refine CJ.ret (?_)
 obtain rfl := Option.some.inj H
 exact EJ.fin Z (.tmp Z .nil) ⟨Z, hS.ext⟩

def spec_l01Ok.l2 (a0 : Pasture) (y4 : Int) : Nat → Int → Option (((Bool ⊕ Unit) ⊕ Unit) ⊕ Unit)
  | 0, _ => none
  | k + 1, y5 => if y5 < 10 then ((getI a0.Grass.l y4).bind fun t6 => (getI t6.l y5).bind fun t7 => (spec_l01Grass.f (IntKind.i64.wrap t7)).bind fun t8 => if (!t8) = true then (some (Sum.inl (Sum.inl (Sum.inl false)))) else (if 0 < (IntKind.i64.wrap t7) then ((spec_l01Is.f a0 (⟨y5, y4⟩ : Spot)).bind fun t9 => if (!t9) = true then (some (Sum.inl (Sum.inl (Sum.inl false)))) else (spec_l01Ok.l2 a0 y4 k (IntKind.i8.wrap (y5 + 1)))) else (spec_l01Ok.l2 a0 y4 k (IntKind.i8.wrap (y5 + 1))))) else (some (Sum.inr ()))
def spec_l01Ok.l1 (a0 : Pasture) : Nat → Int → Option (Bool ⊕ Unit)
  | 0, _ => none
  | k + 1, y4 => if y4 < 10 then (((spec_l01Ok.l2 a0 y4 k 0).bind fun s164 => match s164 with | .inl r => some r | .inr _ => (chk (0 ≤ (IntKind.u64.wrap a0.Wide))).bind fun u10 => if a0.High ≤ y4 then ((getI a0.East.l y4).bind fun t11 => if (andNotI .u16 t11 (shrI .u16 0 1)) ≠ 0 then (some (Sum.inl (Sum.inl false))) else (if (IntKind.i8.wrap (a0.High - 1)) ≤ y4 then ((getI a0.South.l y4).bind fun t12 => if (andNotI .u16 t12 0) ≠ 0 then (some (Sum.inl (Sum.inl false))) else (some (Sum.inr ()))) else ((getI a0.South.l y4).bind fun t13 => if (andNotI .u16 t13 0) ≠ 0 then (some (Sum.inl (Sum.inl false))) else (some (Sum.inr ()))))) else ((getI a0.East.l y4).bind fun t14 => if (andNotI .u16 t14 (shrI .u16 (IntKind.u16.wrap ((shlI .u16 1 (IntKind.u64.wrap a0.Wide)) - 1)) 1)) ≠ 0 then (some (Sum.inl (Sum.inl false))) else (if (IntKind.i8.wrap (a0.High - 1)) ≤ y4 then ((getI a0.South.l y4).bind fun t15 => if (andNotI .u16 t15 0) ≠ 0 then (some (Sum.inl (Sum.inl false))) else (some (Sum.inr ()))) else ((getI a0.South.l y4).bind fun t16 => if (andNotI .u16 t16 (IntKind.u16.wrap ((shlI .u16 1 (IntKind.u64.wrap a0.Wide)) - 1))) ≠ 0 then (some (Sum.inl (Sum.inl false))) else (some (Sum.inr ())))))).bind fun s162 => match s162 with | .inl r => some r | .inr _ => spec_l01Ok.l1 a0 k (IntKind.i8.wrap (y4 + 1))) else (some (Sum.inr ()))
def spec_l01Ok.f (k : Nat) (a0 : Pasture) : Option Bool := ((spec_l00In.f (IntKind.i64.wrap a0.Wide) 1 10).bind fun t2 => if (!t2) = true then (some true) else ((spec_l00In.f (IntKind.i64.wrap a0.High) 1 10).bind fun t3 => some (!t3))).bind fun y1 => if y1 = true then (some false) else ((spec_l01Ok.l1 a0 k 0).bind fun s155 => match s155 with | .inl r => some r | .inr _ => some true)
theorem spec_l01Ok.c (k : Nat) (w : World) (pa0 : Addr) (a0 : Pasture) (hp0 : CA w pa0 (cPasture.enc a0)) (r : Bool) (H : spec_l01Ok.f k a0 = some r) :
 CV Tryz.prog 96 [.pointer (some pa0)].toArray w fun v w' => v = .bool r ∧ Ext w w' := by
 have hS := ((St.init w no).paramP pa0 (cPasture.enc a0) hp0)
 unfold spec_l01Ok.f at H
 refine CV.body Tryz.func96 Z Tryz.ntmps96 Z ?_
 refine CJ.seq (CJ.region ?_)
 refine OJ.pures oU 1 Z (OJ.nil (EJ.next ?_))
 refine CJ.seq ?_
 obtain ⟨j154, H, K154⟩ := pbind H
 refine CJ.cut (fun F w1 => ∃ (y1 : Bool) , (some y1 : Option Bool) = some j154 ∧ F = [(0, .pointer (some pa0)), (22, .bool y1)] ∧ St w no w1 [] [roP pa0 (cPasture.enc a0)]) ?_ ?_
 ·skip
  refine CJ.region ?_
  refine OJ.pures oU 2 Z ?_
  refine OJ.st Z Z Z (SR.fieldAddr oU oI Z Z Z Z Z Z) ?_
  refine OJ.st Z Z Z (SR.load Z Z (fun w' hx => ld1 oU Z Z (CA.ext (CA.fld (hS.ca (i := 0) Z) (mid_part (fe_Pasture_0 _) (fl_Pasture_0 _) ((ci .i8).len _))) hx) Z)) ?_
  refine OJ.pures oU 1 Z ?_
  obtain ⟨t2, ht2, H⟩ := pbind H
  refine OJ.callF Z Z Z Z Z hb105 Z (spec_l00In.c _ (IntKind.i64.wrap a0.Wide) 1 10 _ ht2) ?_
  rintro _ w1 ⟨rfl, hs⟩
  replace hS := hS.grow hs
  refine OJ.pures oU 2 Z ?_
  refine OJ.split (t := 14) Z (fun hb => ?_) (fun hb => ?_)
  ·replace H := pif_t hb H
   refine OJ.pures oU 8 Z ?_
   refine OJ.nil ?_
   exact EJ.meet (F' := [(0, .pointer (some pa0)), (22, .bool true)]) ⟨Z, Z, trivial⟩ ⟨true, H, Z, hS.pick [] [0] Z⟩
  replace H := pifb_f hb H
  refine OJ.pures oU 2 Z ?_
  refine OJ.st Z Z Z (SR.fieldAddr oU oI Z Z Z Z Z Z) ?_
  refine OJ.st Z Z Z (SR.load Z Z (fun w' hx => ld1 oU Z Z (CA.ext (CA.fld (hS.ca (i := 0) Z) (mid_part (fe_Pasture_1 _) (fl_Pasture_1 _) ((ci .i8).len _))) hx) Z)) ?_
  refine OJ.pures oU 1 Z ?_
  obtain ⟨t3, ht3, H⟩ := pbind H
  refine OJ.callF Z Z Z Z Z hb105 Z (spec_l00In.c _ (IntKind.i64.wrap a0.High) 1 10 _ ht3) ?_
  rintro _ w1 ⟨rfl, hs⟩
  replace hS := hS.grow hs
  refine OJ.pures oU 2 Z ?_
  refine OJ.nil ?_
  exact EJ.meet (F' := [(0, .pointer (some pa0)), (22, .bool (!t3))]) ⟨Z, Z, trivial⟩ ⟨(!t3), H, Z, hS.pick [] [0] Z⟩
 rintro F w1 ⟨y1, he, rfl, hS⟩
 obtain rfl := Option.some.inj he
 have H := K154
 refine CJ.cond Z (fun hb => ?_) (fun hb => ?_)
 ·replace H := pif_t hb H
  refine CJ.seq (CJ.region ?_)
  refine OJ.pures oU 1 Z (OJ.nil (EJ.next ?_))
  refine CJ.ret (EJ.skR (?_))
  obtain rfl := Option.some.inj H
  exact EJ.fin Z (.tmp Z .nil) ⟨Z, hS.ext⟩
 replace H := pifb_f hb H
 refine CJ.skip (EJ.next ?_)
 refine CJ.seq ?_
 refine CJ.seq (CJ.region ?_)
 refine OJ.pures oU 1 Z (OJ.nil (EJ.next ?_))
 obtain ⟨j155, H, K155⟩ := pbind H
 refine CJ.cut1 (fun F w1 => (some (Sum.inr ()) : Option (Bool ⊕ Unit)) = some j155 ∧ F = [] ∧ St w no w1 [] [roP pa0 (cPasture.enc a0)]) ?_ ?_
 ·skip
  refine CJ.block ?_
  refine CJ.loop (fun k F w1 => ∃ (y4 : Int), F = [(0, .pointer (some pa0)), (3, .int .i8 y4)] ∧ St w no w1 [] [roP pa0 (cPasture.enc a0)] ∧ spec_l01Ok.l1 a0 k y4 = some j155) k (F' := [(0, .pointer (some pa0)), (3, .int .i8 0)]) ⟨Z, Z, trivial⟩ ⟨0, Z, hS.pick [] [0] Z, H⟩ ?_
  rintro k F w1 ⟨y4, rfl, hS, H⟩
  cases k with
  | zero => rw [spec_l01Ok.l1] at H; cases H
  | succ k =>
    rw [spec_l01Ok.l1] at H
    refine CJ.seq ?_
    refine CJ.seq (CJ.region ?_)
    refine OJ.pures oU 2 Z (OJ.nil (EJ.next ?_))
    refine CJ.cond Z (fun hb => ?_) (fun hb => ?_)
    · replace H := pif_t (of_decide_eq_true hb) H
      refine CJ.skip (EJ.next ?_)
      obtain ⟨j162, H, K162⟩ := pbind H
      refine CJ.cut (fun F w1 => (some (Sum.inr ()) : Option ((Bool ⊕ Unit) ⊕ Unit)) = some j162 ∧ F = [(0, .pointer (some pa0)), (3, .int .i8 y4)] ∧ St w no w1 [] [roP pa0 (cPasture.enc a0)]) ?_ ?_
      · skip
        refine CJ.block ?_
        refine CJ.seq ?_
        refine CJ.seq (CJ.region ?_)
        refine OJ.pures oU 1 Z (OJ.nil (EJ.next ?_))
        obtain ⟨j164, H, K164⟩ := pbind H
        refine CJ.cut1 (fun F w1 => (some (Sum.inr ()) : Option (((Bool ⊕ Unit) ⊕ Unit) ⊕ Unit)) = some j164 ∧ F = [(0, .pointer (some pa0)), (3, .int .i8 y4)] ∧ St w no w1 [] [roP pa0 (cPasture.enc a0)]) ?_ ?_
        · skip
          refine CJ.block ?_
          refine CJ.loop (fun k F w1 => ∃ (y5 : Int), F = [(0, .pointer (some pa0)), (3, .int .i8 y4), (4, .int .i8 y5)] ∧ St w no w1 [] [roP pa0 (cPasture.enc a0)] ∧ spec_l01Ok.l2 a0 y4 k y5 = some j164) k (F' := [(0, .pointer (some pa0)), (3, .int .i8 y4), (4, .int .i8 0)]) ⟨Z, Z, Z, trivial⟩ ⟨0, Z, hS.pick [] [0] Z, H⟩ ?_
          rintro k F w1 ⟨y5, rfl, hS, H⟩
          cases k with
          | zero => rw [spec_l01Ok.l2] at H; cases H
          | succ k =>
            rw [spec_l01Ok.l2] at H
            refine CJ.seq ?_
            refine CJ.seq (CJ.region ?_)
            refine OJ.pures oU 2 Z (OJ.nil (EJ.next ?_))
            refine CJ.cond Z (fun hb => ?_) (fun hb => ?_)
            · replace H := pif_t (of_decide_eq_true hb) H
              refine CJ.skip (EJ.next ?_)
              refine CJ.seq ?_
              refine CJ.block ?_
              refine CJ.seq (CJ.region ?_)
              refine OJ.pures oU 4 Z ?_
              refine OJ.st Z Z Z (SR.fieldAddr oU oI Z Z Z Z Z Z) ?_
              obtain ⟨t6, ht6, H⟩ := pbind H
              refine OJ.st Z Z Z (SR.idxA oU oI Z Z Z Z Z (Arr.lt ht6)) ?_
              obtain ⟨t7, ht7, H⟩ := pbind H
              refine OJ.st Z Z Z (SR.idxA oU oI Z Z Z Z Z (Arr.lt ht7)) ?_
              refine OJ.st Z Z Z (SR.load Z Z (fun w' hx => ld1 oU Z Z (CA.ext (CA.idx (CA.idx (CA.fld (hS.ca (i := 0) Z) (mid_part (fe_Pasture_2 _) (fl_Pasture_2 _) ((carr 10 (carr 10 (ci .i16))).len _))) ht6) ht7) hx) Z)) ?_
              refine OJ.pures oU 2 Z (OJ.nil (EJ.next ?_))
              refine CJ.seq (CJ.region ?_)
              refine OJ.pures oU 1 Z ?_
              obtain ⟨t8, ht8, H⟩ := pbind H
              refine OJ.callF Z Z Z Z Z hb121 Z (spec_l01Grass.c _ (IntKind.i64.wrap t7) _ ht8) ?_
              rintro _ w1 ⟨rfl, hs⟩
              replace hS := hS.grow hs
              refine OJ.pures oU 2 Z ?_
              refine OJ.split (t := 43) Z (fun hb => ?_) (fun hb => ?_)
              · replace H := pif_t hb H
                refine OJ.pures oU 11 Z (OJ.nil (EJ.next ?_))
                refine CJ.condT Z ?_
                refine CJ.seq (CJ.region ?_)
                refine OJ.pures oU 1 Z (OJ.nil (EJ.next ?_))
                refine CJ.ret (EJ.bkR (EJ.skR (EJ.skR (EJ.bkR (EJ.skR (EJ.skR (EJ.bkR (EJ.skR (EJ.skR (EJ.bkR (EJ.skR (EJ.skR (?_)))))))))))))
                first | (obtain rfl := Option.some.inj H; have H := K164) | (obtain ⟨q164, H2, e164⟩ := pbind H; obtain rfl := Option.some.inj e164; obtain rfl := Option.some.inj K164; have H := H2)
                first | (obtain rfl := Option.some.inj H; have H := K162) | (obtain ⟨q162, H2, e162⟩ := pbind H; obtain rfl := Option.some.inj e162; obtain rfl := Option.some.inj K162; have H := H2)
                first | (obtain rfl := Option.some.inj H; have H := K155) | (obtain ⟨q155, H2, e155⟩ := pbind H; obtain rfl := Option.some.inj e155; obtain rfl := Option.some.inj K155; have H := H2)
                obtain rfl := Option.some.inj H
                exact EJ.fin Z (.tmp Z .nil) ⟨Z, hS.ext⟩
              · replace H := pifb_f hb H
                refine OJ.pures oU 3 Z ?_
                refine OJ.split (t := 46) Z (fun hb => ?_) (fun hb => ?_)
                · replace H := pif_t (of_decide_eq_true hb) H
                  refine OJ.pures oU 3 Z ?_
                  refine OJ.st Z Z Z (SR.build (C := cSpot) oU oI Z Z Z (zs := [.int .i8 0, .int .i8 0]) Z Z Z (⟨y5, y4⟩ : Spot) Z) ?_
                  obtain ⟨t9, ht9, H⟩ := pbind H
                  refine OJ.callF Z Z Z Z Z hb71 Z (spec_l01Is.c _ _ a0 (hS.ca (i := 0) Z) (⟨y5, y4⟩ : Spot) _ ht9) ?_
                  rintro _ w1 ⟨rfl, hs⟩
                  replace hS := hS.grow hs
                  refine OJ.pures oU 3 Z (OJ.nil (EJ.next ?_))
                  refine CJ.cond Z (fun hb => ?_) (fun hb => ?_)
                  · replace H := pif_t hb H
                    refine CJ.seq (CJ.region ?_)
                    refine OJ.pures oU 1 Z (OJ.nil (EJ.next ?_))
                    refine CJ.ret (EJ.bkR (EJ.skR (EJ.skR (EJ.bkR (EJ.skR (EJ.skR (EJ.bkR (EJ.skR (EJ.skR (EJ.bkR (EJ.skR (EJ.skR (?_)))))))))))))
                    first | (obtain rfl := Option.some.inj H; have H := K164) | (obtain ⟨q164, H2, e164⟩ := pbind H; obtain rfl := Option.some.inj e164; obtain rfl := Option.some.inj K164; have H := H2)
                    first | (obtain rfl := Option.some.inj H; have H := K162) | (obtain ⟨q162, H2, e162⟩ := pbind H; obtain rfl := Option.some.inj e162; obtain rfl := Option.some.inj K162; have H := H2)
                    first | (obtain rfl := Option.some.inj H; have H := K155) | (obtain ⟨q155, H2, e155⟩ := pbind H; obtain rfl := Option.some.inj e155; obtain rfl := Option.some.inj K155; have H := H2)
                    obtain rfl := Option.some.inj H
                    exact EJ.fin Z (.tmp Z .nil) ⟨Z, hS.ext⟩
                  · replace H := pifb_f hb H
                    refine CJ.skip (EJ.blk (EJ.next ?_))
                    refine CJ.region ?_
                    refine OJ.pures oU 3 Z ?_
                    refine OJ.nil ?_
                    exact EJ.round k (F' := [(0, .pointer (some pa0)), (3, .int .i8 y4), (4, .int .i8 (IntKind.i8.wrap (y5 + 1)))]) ⟨Z, Z, Z, trivial⟩ (Nat.lt_succ_self _) ⟨(IntKind.i8.wrap (y5 + 1)), Z, hS.pick [] [0] Z, H⟩
                · replace H := pif_f (of_decide_eq_false hb) H
                  refine OJ.pures oU 8 Z (OJ.nil (EJ.next ?_))
                  refine CJ.condF Z ?_
                  refine CJ.skip (EJ.blk (EJ.next ?_))
                  refine CJ.region ?_
                  refine OJ.pures oU 3 Z ?_
                  refine OJ.nil ?_
                  exact EJ.round k (F' := [(0, .pointer (some pa0)), (3, .int .i8 y4), (4, .int .i8 (IntKind.i8.wrap (y5 + 1)))]) ⟨Z, Z, Z, trivial⟩ (Nat.lt_succ_self _) ⟨(IntKind.i8.wrap (y5 + 1)), Z, hS.pick [] [0] Z, H⟩
            · replace H := pif_f (of_decide_eq_false hb) H
              refine CJ.exit (EJ.skE (EJ.skE (EJ.hit (?_))))
              exact EJ.meet (F' := [(0, .pointer (some pa0)), (3, .int .i8 y4)]) ⟨Z, Z, trivial⟩ ⟨H, Z, hS.pick [] [0] Z⟩
        · rintro F w1 ⟨he, rfl, hS⟩
          obtain rfl := Option.some.inj he
          have H := K164
          refine EJ.next ?_
          refine CJ.seq (CJ.region ?_)
          refine OJ.pures oU 2 Z ?_
          refine OJ.st Z Z Z (SR.fieldAddr oU oI Z Z Z Z Z Z) ?_
          refine OJ.st Z Z Z (SR.load Z Z (fun w' hx => ld1 oU Z Z (CA.ext (CA.fld (hS.ca (i := 0) Z) (mid_part (fe_Pasture_0 _) (fl_Pasture_0 _) ((ci .i8).len _))) hx) Z)) ?_
          refine OJ.pures oU 1 Z ?_
          obtain ⟨u10, hu10, H⟩ := pbind H
          refine OJ.st Z Z Z (SR.shl Z Z Z (chk_some hu10)) ?_
          refine OJ.pures oU 2 Z (OJ.nil (EJ.next ?_))
          refine CJ.seq ?_
          refine CJ.seq (CJ.region ?_)
          refine OJ.pures oU 3 Z ?_
          refine OJ.st Z Z Z (SR.fieldAddr oU oI Z Z Z Z Z Z) ?_
          refine OJ.st Z Z Z (SR.load Z Z (fun w' hx => ld1 oU Z Z (CA.ext (CA.fld (hS.ca (i := 0) Z) (mid_part (fe_Pasture_1 _) (fl_Pasture_1 _) ((ci .i8).len _))) hx) Z)) ?_
          refine OJ.pures oU 1 Z (OJ.nil (EJ.next ?_))
          refine CJ.cond Z (fun hb => ?_) (fun hb => ?_)
          · replace H := pif_t (of_decide_eq_true hb) H
            refine CJ.region ?_
            refine OJ.pures oU 1 Z (OJ.nil (EJ.next ?_))
            refine CJ.seq ?_
            refine CJ.seq (CJ.region ?_)
            refine OJ.pures oU 3 Z ?_
            refine OJ.st Z Z Z (SR.fieldAddr oU oI Z Z Z Z Z Z) ?_
            obtain ⟨t11, ht11, H⟩ := pbind H
            refine OJ.st Z Z Z (SR.idxA oU oI Z Z Z Z Z (Arr.lt ht11)) ?_
            refine OJ.st Z Z Z (SR.load Z Z (fun w' hx => ld1 oU Z Z (CA.ext (CA.idx (CA.fld (hS.ca (i := 0) Z) (mid_part (fe_Pasture_3 _) (fl_Pasture_3 _) ((carr 10 (ci .u16)).len _))) ht11) hx) Z)) ?_
            refine OJ.pures oU 1 Z ?_
            refine OJ.st rfl rfl rfl (SR.shr rfl rfl rfl (by decide)) ?_
            refine OJ.pures oU 2 Z (OJ.nil (EJ.next ?_))
            refine CJ.cond Z (fun hb => ?_) (fun hb => ?_)
            · replace H := pif_t (of_decide_eq_true hb) H
              refine CJ.seq (CJ.region ?_)
              refine OJ.pures oU 1 Z (OJ.nil (EJ.next ?_))
              refine CJ.ret (EJ.skR (EJ.bkR (EJ.skR (EJ.skR (EJ.bkR (EJ.skR (EJ.skR (?_))))))))
              first | (obtain rfl := Option.some.inj H; have H := K162) | (obtain ⟨q162, H2, e162⟩ := pbind H; obtain rfl := Option.some.inj e162; obtain rfl := Option.some.inj K162; have H := H2)
              first | (obtain rfl := Option.some.inj H; have H := K155) | (obtain ⟨q155, H2, e155⟩ := pbind H; obtain rfl := Option.some.inj e155; obtain rfl := Option.some.inj K155; have H := H2)
              obtain rfl := Option.some.inj H
              exact EJ.fin Z (.tmp Z .nil) ⟨Z, hS.ext⟩
            · replace H := pif_f (of_decide_eq_false hb) H
              refine CJ.skip (EJ.next ?_)
              refine CJ.seq ?_
              refine CJ.seq (CJ.region ?_)
              refine OJ.pures oU 3 Z ?_
              refine OJ.st Z Z Z (SR.fieldAddr oU oI Z Z Z Z Z Z) ?_
              refine OJ.st Z Z Z (SR.load Z Z (fun w' hx => ld1 oU Z Z (CA.ext (CA.fld (hS.ca (i := 0) Z) (mid_part (fe_Pasture_1 _) (fl_Pasture_1 _) ((ci .i8).len _))) hx) Z)) ?_
              refine OJ.pures oU 2 Z (OJ.nil (EJ.next ?_))
              refine CJ.cond Z (fun hb => ?_) (fun hb => ?_)
              · replace H := pif_t (of_decide_eq_true hb) H
                refine CJ.region ?_
                refine OJ.pures oU 1 Z (OJ.nil (EJ.next ?_))
                refine CJ.seq (CJ.region ?_)
                refine OJ.pures oU 3 Z ?_
                refine OJ.st Z Z Z (SR.fieldAddr oU oI Z Z Z Z Z Z) ?_
                obtain ⟨t12, ht12, H⟩ := pbind H
                refine OJ.st Z Z Z (SR.idxA oU oI Z Z Z Z Z (Arr.lt ht12)) ?_
                refine OJ.st Z Z Z (SR.load Z Z (fun w' hx => ld1 oU Z Z (CA.ext (CA.idx (CA.fld (hS.ca (i := 0) Z) (mid_part (fe_Pasture_4 _) (fl_Pasture_4 _) ((carr 10 (ci .u16)).len _))) ht12) hx) Z)) ?_
                refine OJ.pures oU 3 Z (OJ.nil (EJ.next ?_))
                refine CJ.cond Z (fun hb => ?_) (fun hb => ?_)
                · replace H := pif_t (of_decide_eq_true hb) H
                  refine CJ.seq (CJ.region ?_)
                  refine OJ.pures oU 1 Z (OJ.nil (EJ.next ?_))
                  refine CJ.ret (EJ.bkR (EJ.skR (EJ.skR (EJ.bkR (EJ.skR (EJ.skR (?_)))))))
                  first | (obtain rfl := Option.some.inj H; have H := K162) | (obtain ⟨q162, H2, e162⟩ := pbind H; obtain rfl := Option.some.inj e162; obtain rfl := Option.some.inj K162; have H := H2)
                  first | (obtain rfl := Option.some.inj H; have H := K155) | (obtain ⟨q155, H2, e155⟩ := pbind H; obtain rfl := Option.some.inj e155; obtain rfl := Option.some.inj K155; have H := H2)
                  obtain rfl := Option.some.inj H
                  exact EJ.fin Z (.tmp Z .nil) ⟨Z, hS.ext⟩
                · replace H := pif_f (of_decide_eq_false hb) H
                  refine CJ.skip (EJ.blk (?_))
                  exact EJ.meet (F' := [(0, .pointer (some pa0)), (3, .int .i8 y4)]) ⟨Z, Z, trivial⟩ ⟨H, Z, hS.pick [] [0] Z⟩
              · replace H := pif_f (of_decide_eq_false hb) H
                refine CJ.skip (EJ.next ?_)
                refine CJ.seq (CJ.region ?_)
                refine OJ.pures oU 3 Z ?_
                refine OJ.st Z Z Z (SR.fieldAddr oU oI Z Z Z Z Z Z) ?_
                obtain ⟨t13, ht13, H⟩ := pbind H
                refine OJ.st Z Z Z (SR.idxA oU oI Z Z Z Z Z (Arr.lt ht13)) ?_
                refine OJ.st Z Z Z (SR.load Z Z (fun w' hx => ld1 oU Z Z (CA.ext (CA.idx (CA.fld (hS.ca (i := 0) Z) (mid_part (fe_Pasture_4 _) (fl_Pasture_4 _) ((carr 10 (ci .u16)).len _))) ht13) hx) Z)) ?_
                refine OJ.pures oU 3 Z (OJ.nil (EJ.next ?_))
                refine CJ.cond Z (fun hb => ?_) (fun hb => ?_)
                · replace H := pif_t (of_decide_eq_true hb) H
                  refine CJ.seq (CJ.region ?_)
                  refine OJ.pures oU 1 Z (OJ.nil (EJ.next ?_))
                  refine CJ.ret (EJ.bkR (EJ.skR (EJ.skR (EJ.bkR (EJ.skR (EJ.skR (?_)))))))
                  first | (obtain rfl := Option.some.inj H; have H := K162) | (obtain ⟨q162, H2, e162⟩ := pbind H; obtain rfl := Option.some.inj e162; obtain rfl := Option.some.inj K162; have H := H2)
                  first | (obtain rfl := Option.some.inj H; have H := K155) | (obtain ⟨q155, H2, e155⟩ := pbind H; obtain rfl := Option.some.inj e155; obtain rfl := Option.some.inj K155; have H := H2)
                  obtain rfl := Option.some.inj H
                  exact EJ.fin Z (.tmp Z .nil) ⟨Z, hS.ext⟩
                · replace H := pif_f (of_decide_eq_false hb) H
                  refine CJ.skip (EJ.blk (?_))
                  exact EJ.meet (F' := [(0, .pointer (some pa0)), (3, .int .i8 y4)]) ⟨Z, Z, trivial⟩ ⟨H, Z, hS.pick [] [0] Z⟩
          · replace H := pif_f (of_decide_eq_false hb) H
            refine CJ.skip (EJ.next ?_)
            refine CJ.seq ?_
            refine CJ.seq (CJ.region ?_)
            refine OJ.pures oU 3 Z ?_
            refine OJ.st Z Z Z (SR.fieldAddr oU oI Z Z Z Z Z Z) ?_
            obtain ⟨t14, ht14, H⟩ := pbind H
            refine OJ.st Z Z Z (SR.idxA oU oI Z Z Z Z Z (Arr.lt ht14)) ?_
            refine OJ.st Z Z Z (SR.load Z Z (fun w' hx => ld1 oU Z Z (CA.ext (CA.idx (CA.fld (hS.ca (i := 0) Z) (mid_part (fe_Pasture_3 _) (fl_Pasture_3 _) ((carr 10 (ci .u16)).len _))) ht14) hx) Z)) ?_
            refine OJ.pures oU 1 Z ?_
            refine OJ.st rfl rfl rfl (SR.shr rfl rfl rfl (by decide)) ?_
            refine OJ.pures oU 2 Z (OJ.nil (EJ.next ?_))
            refine CJ.cond Z (fun hb => ?_) (fun hb => ?_)
            · replace H := pif_t (of_decide_eq_true hb) H
              refine CJ.seq (CJ.region ?_)
              refine OJ.pures oU 1 Z (OJ.nil (EJ.next ?_))
              refine CJ.ret (EJ.skR (EJ.bkR (EJ.skR (EJ.skR (EJ.bkR (EJ.skR (EJ.skR (?_))))))))
              first | (obtain rfl := Option.some.inj H; have H := K162) | (obtain ⟨q162, H2, e162⟩ := pbind H; obtain rfl := Option.some.inj e162; obtain rfl := Option.some.inj K162; have H := H2)
              first | (obtain rfl := Option.some.inj H; have H := K155) | (obtain ⟨q155, H2, e155⟩ := pbind H; obtain rfl := Option.some.inj e155; obtain rfl := Option.some.inj K155; have H := H2)
              obtain rfl := Option.some.inj H
              exact EJ.fin Z (.tmp Z .nil) ⟨Z, hS.ext⟩
            · replace H := pif_f (of_decide_eq_false hb) H
              refine CJ.skip (EJ.next ?_)
              refine CJ.seq ?_
              refine CJ.seq (CJ.region ?_)
              refine OJ.pures oU 3 Z ?_
              refine OJ.st Z Z Z (SR.fieldAddr oU oI Z Z Z Z Z Z) ?_
              refine OJ.st Z Z Z (SR.load Z Z (fun w' hx => ld1 oU Z Z (CA.ext (CA.fld (hS.ca (i := 0) Z) (mid_part (fe_Pasture_1 _) (fl_Pasture_1 _) ((ci .i8).len _))) hx) Z)) ?_
              refine OJ.pures oU 2 Z (OJ.nil (EJ.next ?_))
              refine CJ.cond Z (fun hb => ?_) (fun hb => ?_)
              · replace H := pif_t (of_decide_eq_true hb) H
                refine CJ.region ?_
                refine OJ.pures oU 1 Z (OJ.nil (EJ.next ?_))
                refine CJ.seq (CJ.region ?_)
                refine OJ.pures oU 3 Z ?_
                refine OJ.st Z Z Z (SR.fieldAddr oU oI Z Z Z Z Z Z) ?_
                obtain ⟨t15, ht15, H⟩ := pbind H
                refine OJ.st Z Z Z (SR.idxA oU oI Z Z Z Z Z (Arr.lt ht15)) ?_
                refine OJ.st Z Z Z (SR.load Z Z (fun w' hx => ld1 oU Z Z (CA.ext (CA.idx (CA.fld (hS.ca (i := 0) Z) (mid_part (fe_Pasture_4 _) (fl_Pasture_4 _) ((carr 10 (ci .u16)).len _))) ht15) hx) Z)) ?_
                refine OJ.pures oU 3 Z (OJ.nil (EJ.next ?_))
                refine CJ.cond Z (fun hb => ?_) (fun hb => ?_)
                · replace H := pif_t (of_decide_eq_true hb) H
                  refine CJ.seq (CJ.region ?_)
                  refine OJ.pures oU 1 Z (OJ.nil (EJ.next ?_))
                  refine CJ.ret (EJ.bkR (EJ.skR (EJ.skR (EJ.bkR (EJ.skR (EJ.skR (?_)))))))
                  first | (obtain rfl := Option.some.inj H; have H := K162) | (obtain ⟨q162, H2, e162⟩ := pbind H; obtain rfl := Option.some.inj e162; obtain rfl := Option.some.inj K162; have H := H2)
                  first | (obtain rfl := Option.some.inj H; have H := K155) | (obtain ⟨q155, H2, e155⟩ := pbind H; obtain rfl := Option.some.inj e155; obtain rfl := Option.some.inj K155; have H := H2)
                  obtain rfl := Option.some.inj H
                  exact EJ.fin Z (.tmp Z .nil) ⟨Z, hS.ext⟩
                · replace H := pif_f (of_decide_eq_false hb) H
                  refine CJ.skip (EJ.blk (?_))
                  exact EJ.meet (F' := [(0, .pointer (some pa0)), (3, .int .i8 y4)]) ⟨Z, Z, trivial⟩ ⟨H, Z, hS.pick [] [0] Z⟩
              · replace H := pif_f (of_decide_eq_false hb) H
                refine CJ.skip (EJ.next ?_)
                refine CJ.seq (CJ.region ?_)
                refine OJ.pures oU 3 Z ?_
                refine OJ.st Z Z Z (SR.fieldAddr oU oI Z Z Z Z Z Z) ?_
                obtain ⟨t16, ht16, H⟩ := pbind H
                refine OJ.st Z Z Z (SR.idxA oU oI Z Z Z Z Z (Arr.lt ht16)) ?_
                refine OJ.st Z Z Z (SR.load Z Z (fun w' hx => ld1 oU Z Z (CA.ext (CA.idx (CA.fld (hS.ca (i := 0) Z) (mid_part (fe_Pasture_4 _) (fl_Pasture_4 _) ((carr 10 (ci .u16)).len _))) ht16) hx) Z)) ?_
                refine OJ.pures oU 3 Z (OJ.nil (EJ.next ?_))
                refine CJ.cond Z (fun hb => ?_) (fun hb => ?_)
                · replace H := pif_t (of_decide_eq_true hb) H
                  refine CJ.seq (CJ.region ?_)
                  refine OJ.pures oU 1 Z (OJ.nil (EJ.next ?_))
                  refine CJ.ret (EJ.bkR (EJ.skR (EJ.skR (EJ.bkR (EJ.skR (EJ.skR (?_)))))))
                  first | (obtain rfl := Option.some.inj H; have H := K162) | (obtain ⟨q162, H2, e162⟩ := pbind H; obtain rfl := Option.some.inj e162; obtain rfl := Option.some.inj K162; have H := H2)
                  first | (obtain rfl := Option.some.inj H; have H := K155) | (obtain ⟨q155, H2, e155⟩ := pbind H; obtain rfl := Option.some.inj e155; obtain rfl := Option.some.inj K155; have H := H2)
                  obtain rfl := Option.some.inj H
                  exact EJ.fin Z (.tmp Z .nil) ⟨Z, hS.ext⟩
                · replace H := pif_f (of_decide_eq_false hb) H
                  refine CJ.skip (EJ.blk (?_))
                  exact EJ.meet (F' := [(0, .pointer (some pa0)), (3, .int .i8 y4)]) ⟨Z, Z, trivial⟩ ⟨H, Z, hS.pick [] [0] Z⟩
      · rintro F w1 ⟨he, rfl, hS⟩
        obtain rfl := Option.some.inj he
        have H := K162
        refine CJ.region ?_
        refine OJ.pures oU 3 Z ?_
        refine OJ.nil ?_
        exact EJ.round k (F' := [(0, .pointer (some pa0)), (3, .int .i8 (IntKind.i8.wrap (y4 + 1)))]) ⟨Z, Z, trivial⟩ (Nat.lt_succ_self _) ⟨(IntKind.i8.wrap (y4 + 1)), Z, hS.pick [] [0] Z, H⟩
    · replace H := pif_f (of_decide_eq_false hb) H
      refine CJ.exit (EJ.skE (EJ.skE (EJ.hit (?_))))
      exact EJ.meet (F' := []) trivial ⟨H, Z, hS.pick [] [0] Z⟩
 rintro F w1 ⟨he, rfl, hS⟩
 obtain rfl := Option.some.inj he
 have H := K155
 refine EJ.next ?_
 refine CJ.seq (CJ.region ?_)
 refine OJ.pures oU 1 Z (OJ.nil (EJ.next ?_))
 refine CJ.ret (?_)
 obtain rfl := Option.some.inj H
 exact EJ.fin Z (.tmp Z .nil) ⟨Z, hS.ext⟩

def spec_l02Plain.f (a0 : Goat) : Option Bool := ((spec_l00In.f (IntKind.i64.wrap a0.Rope) (-1) 200).bind fun t2 => if (!t2) = true then (some true) else ((spec_l00In.f (IntKind.i64.wrap a0.Eats) 0 100).bind fun t3 => if (!t3) = true then (some true) else ((spec_l00In.f (IntKind.i64.wrap a0.Likes) 0 1).bind fun t4 => some (!t4)))).bind fun y1 => if y1 = true then (some false) else (if 0 ≤ a0.Rope then (some true) else (some (decide (a0.Stake = (⟨0, 0⟩ : Spot)))))
theorem spec_l02Plain.c (w : World) (pa0 : Addr) (a0 : Goat) (hp0 : CA w pa0 (cGoat.enc a0)) (r : Bool) (H : spec_l02Plain.f a0 = some r) :
 CV Tryz.prog 122 [.pointer (some pa0)].toArray w fun v w' => v = .bool r ∧ Ext w w' := by
 have hS := ((St.init w no).paramP pa0 (cGoat.enc a0) hp0)
 unfold spec_l02Plain.f at H
 refine CV.body Tryz.func122 Z Tryz.ntmps122 Z ?_
 refine CJ.seq (CJ.region ?_)
 refine OJ.pures oU 1 Z (OJ.nil (EJ.next ?_))
 refine CJ.seq ?_
 obtain ⟨j166, H, K166⟩ := pbind H
 refine CJ.cut (fun F w1 => ∃ (y1 : Bool) , (some y1 : Option Bool) = some j166 ∧ F = [(0, .pointer (some pa0)), (27, .bool y1)] ∧ St w no w1 [] [roP pa0 (cGoat.enc a0)]) ?_ ?_
 ·skip
  refine CJ.region ?_
  refine OJ.pures oU 2 Z ?_
  refine OJ.st Z Z Z (SR.fieldAddr oU oI Z Z Z Z Z Z) ?_
  refine OJ.st Z Z Z (SR.load Z Z (fun w' hx => ld1 oU Z Z (CA.ext (CA.sub (hS.ca (i := 0) Z) 4) hx) Z)) ?_
  refine OJ.pures oU 1 Z ?_
  obtain ⟨t2, ht2, H⟩ := pbind H
  refine OJ.callF Z Z Z Z Z hb105 Z (spec_l00In.c _ (IntKind.i64.wrap a0.Rope) (-1) 200 _ ht2) ?_
  rintro _ w1 ⟨rfl, hs⟩
  replace hS := hS.grow hs
  refine OJ.pures oU 2 Z ?_
  refine OJ.split (t := 10) Z (fun hb => ?_) (fun hb => ?_)
  ·replace H := pif_t hb H
   refine OJ.pures oU 17 Z ?_
   refine OJ.nil ?_
   exact EJ.meet (F' := [(0, .pointer (some pa0)), (27, .bool true)]) ⟨Z, Z, trivial⟩ ⟨true, H, Z, hS.pick [] [0] Z⟩
  replace H := pifb_f hb H
  refine OJ.pures oU 2 Z ?_
  refine OJ.st Z Z Z (SR.fieldAddr oU oI Z Z Z Z Z Z) ?_
  refine OJ.st Z Z Z (SR.load Z Z (fun w' hx => ld1 oU Z Z (CA.ext (CA.sub (hS.ca (i := 0) Z) 5) hx) Z)) ?_
  refine OJ.pures oU 1 Z ?_
  obtain ⟨t3, ht3, H⟩ := pbind H
  refine OJ.callF Z Z Z Z Z hb105 Z (spec_l00In.c _ (IntKind.i64.wrap a0.Eats) 0 100 _ ht3) ?_
  rintro _ w1 ⟨rfl, hs⟩
  replace hS := hS.grow hs
  refine OJ.pures oU 3 Z ?_
  refine OJ.split (t := 19) Z (fun hb => ?_) (fun hb => ?_)
  ·replace H := pif_t hb H
   refine OJ.pures oU 8 Z ?_
   refine OJ.nil ?_
   exact EJ.meet (F' := [(0, .pointer (some pa0)), (27, .bool true)]) ⟨Z, Z, trivial⟩ ⟨true, H, Z, hS.pick [] [0] Z⟩
  replace H := pifb_f hb H
  refine OJ.pures oU 2 Z ?_
  refine OJ.st Z Z Z (SR.fieldAddr oU oI Z Z Z Z Z Z) ?_
  refine OJ.st Z Z Z (SR.load Z Z (fun w' hx => ld1 oU Z Z (CA.ext (CA.sub (hS.ca (i := 0) Z) 6) hx) Z)) ?_
  refine OJ.pures oU 1 Z ?_
  obtain ⟨t4, ht4, H⟩ := pbind H
  refine OJ.callF Z Z Z Z Z hb105 Z (spec_l00In.c _ (IntKind.i64.wrap a0.Likes) 0 1 _ ht4) ?_
  rintro _ w1 ⟨rfl, hs⟩
  replace hS := hS.grow hs
  refine OJ.pures oU 2 Z ?_
  refine OJ.nil ?_
  exact EJ.meet (F' := [(0, .pointer (some pa0)), (27, .bool (!t4))]) ⟨Z, Z, trivial⟩ ⟨(!t4), H, Z, hS.pick [] [0] Z⟩
 rintro F w1 ⟨y1, he, rfl, hS⟩
 obtain rfl := Option.some.inj he
 have H := K166
 refine CJ.cond Z (fun hb => ?_) (fun hb => ?_)
 ·replace H := pif_t hb H
  refine CJ.seq (CJ.region ?_)
  refine OJ.pures oU 1 Z (OJ.nil (EJ.next ?_))
  refine CJ.ret (EJ.skR (?_))
  obtain rfl := Option.some.inj H
  exact EJ.fin Z (.tmp Z .nil) ⟨Z, hS.ext⟩
 replace H := pifb_f hb H
 refine CJ.skip (EJ.next ?_)
 refine CJ.seq (CJ.region ?_)
 refine OJ.pures oU 2 Z ?_
 refine OJ.st Z Z Z (SR.fieldAddr oU oI Z Z Z Z Z Z) ?_
 refine OJ.st Z Z Z (SR.load Z Z (fun w' hx => ld1 oU Z Z (CA.ext (CA.sub (hS.ca (i := 0) Z) 4) hx) Z)) ?_
 refine OJ.pures oU 2 Z ?_
 refine OJ.split (t := 33) Z (fun hb => ?_) (fun hb => ?_)
 ·replace H := pif_t (of_decide_eq_true hb) H
  refine OJ.pures oU 8 Z (OJ.nil (EJ.next ?_))
  refine CJ.ret (?_)
  obtain rfl := Option.some.inj H
  exact EJ.fin Z (.tmp Z .nil) ⟨Z, hS.ext⟩
 replace H := pif_f (of_decide_eq_false hb) H
 refine OJ.pures oU 2 Z ?_
 refine OJ.st Z Z Z (SR.fieldAddr oU oI Z Z Z Z Z Z) ?_
 refine OJ.st Z Z Z (SR.load Z Z (fun w' hx => ldN oU oI Z Z Z (CA.ext (CA.sub (hS.ca (i := 0) Z) 2) hx) (cSpot.len _) Z)) ?_
 refine OJ.st Z Z Z (SR.build (C := cSpot) oU oI Z Z Z (zs := [.int .i8 0, .int .i8 0]) Z Z Z (⟨0, 0⟩ : Spot) Z) ?_
 refine OJ.st Z Z Z (SR.eqS eqT48 eqG48 Z Z Z (Z : _ = (cSpot.enc a0.Stake).toArray) (Z : _ = (cSpot.enc (⟨0, 0⟩ : Spot)).toArray)) ?_
 refine OJ.pures oU 2 Z (OJ.nil (EJ.next ?_))
 refine CJ.ret (?_)
 obtain rfl := Option.some.inj H
 exact EJ.fin Z (.tmp Z .nil) ⟨Z, hS.ext⟩

def spec_l02Goat.f (a0 : Pasture) (a1 : Goat) : Option Bool := (spec_l02Plain.f a1).bind fun t1 => if t1 = true then ((spec_l01Is.f a0 a1.At).bind fun t2 => if t2 = true then ((spec_l01Is.f a0 a1.Stake).bind fun t3 => if t3 = true then (if a1.Rope < 0 then (some true) else ((spec_l02Square.f a1.At a1.Stake).bind fun t4 => some (decide (t4 ≤ (IntKind.i64.wrap a1.Rope))))) else (some false)) else (some false)) else (some false)
theorem spec_l02Goat.c (w : World) (pa0 : Addr) (a0 : Pasture) (hp0 : CA w pa0 (cPasture.enc a0)) (pa1 : Addr) (a1 : Goat) (hp1 : CA w pa1 (cGoat.enc a1)) (r : Bool) (H : spec_l02Goat.f a0 a1 = some r) :
 CV Tryz.prog 97 [.pointer (some pa0), .pointer (some pa1)].toArray w fun v w' => v = .bool r ∧ Ext w w' := by
 have hS := (((St.init w no).paramP pa0 (cPasture.enc a0) hp0).paramP pa1 (cGoat.enc a1) hp1)
 unfold spec_l02Goat.f at H
 refine CV.body Tryz.func97 Z Tryz.ntmps97 Z ?_
 refine CJ.seq (CJ.region ?_)
 refine OJ.pures oU 1 Z (OJ.nil (EJ.next ?_))
 refine CJ.seq ?_
 refine CJ.draw [] [0, 1, 2, 3, 4, 5, 6, 7, 8, 9, 10, 11, 12, 13, 14, 15, 16, 17, 18, 19, 20, 21, 22, 23, 24, 25, 26, 27, 28, 29, 30, 31, 32, 34, 35, 36, 37, 38, 33, 39, 40, 41, 42] mixed (by kernel_rfl) hS fun w1 hS => ?_
 refine DJ.pures oU 1 Z ?_
 obtain ⟨t1, ht1, H⟩ := pbind H
 refine DJ.callF rfl rfl rfl rfl rfl rfl rfl hb122 rfl (spec_l02Plain.c _ _ a1 (hS.ca (i := 1) rfl) _ ht1) (by rintro v w' ⟨rfl, hs⟩; exact hs) ?_
 rintro _ w1 ⟨rfl, hs⟩
 replace hS := hS.grow hs
 refine DJ.pures oU 1 Z ?_
 refine DJ.split (t := 7) Z (fun hb => ?_) (fun hb => ?_)
 ·replace H := pif_t hb H
  refine DJ.pures oU 3 Z ?_
  refine DJ.st Z Z Z Z Z (SR.fieldAddr oU oI Z Z Z Z Z Z) ?_
  refine DJ.st Z Z Z Z Z (SR.load Z Z (fun w' hx => ldN oU oI Z Z Z (CA.ext (CA.sub (hS.ca (i := 1) Z) 0) hx) (cSpot.len _) Z)) ?_
  obtain ⟨t2, ht2, H⟩ := pbind H
  refine DJ.callF rfl rfl rfl rfl rfl rfl rfl hb71 rfl (spec_l01Is.c _ _ a0 (hS.ca (i := 0) rfl) a1.At _ ht2) (by rintro v w' ⟨rfl, hs⟩; exact hs) ?_
  rintro _ w1 ⟨rfl, hs⟩
  replace hS := hS.grow hs
  refine DJ.pures oU 2 Z ?_
  refine DJ.split (t := 15) Z (fun hb => ?_) (fun hb => ?_)
  ·replace H := pif_t hb H
   refine DJ.pures oU 3 Z ?_
   refine DJ.st Z Z Z Z Z (SR.fieldAddr oU oI Z Z Z Z Z Z) ?_
   refine DJ.st Z Z Z Z Z (SR.load Z Z (fun w' hx => ldN oU oI Z Z Z (CA.ext (CA.sub (hS.ca (i := 1) Z) 2) hx) (cSpot.len _) Z)) ?_
   obtain ⟨t3, ht3, H⟩ := pbind H
   refine DJ.callF rfl rfl rfl rfl rfl rfl rfl hb71 rfl (spec_l01Is.c _ _ a0 (hS.ca (i := 0) rfl) a1.Stake _ ht3) (by rintro v w' ⟨rfl, hs⟩; exact hs) ?_
   rintro _ w1 ⟨rfl, hs⟩
   replace hS := hS.grow hs
   refine DJ.pures oU 2 Z ?_
   refine DJ.split (t := 23) Z (fun hb => ?_) (fun hb => ?_)
   ·replace H := pif_t hb H
    refine DJ.pures oU 2 Z ?_
    refine DJ.st Z Z Z Z Z (SR.fieldAddr oU oI Z Z Z Z Z Z) ?_
    refine DJ.st Z Z Z Z Z (SR.load Z Z (fun w' hx => ld1 oU Z Z (CA.ext (CA.sub (hS.ca (i := 1) Z) 4) hx) Z)) ?_
    refine DJ.pures oU 2 Z ?_
    refine DJ.split (t := 29) Z (fun hb => ?_) (fun hb => ?_)
    ·replace H := pif_t (of_decide_eq_true hb) H
     refine DJ.pures oU 18 Z ?_
     refine DJ.nil (EJ.next ?_)
     refine CJ.ret (?_)
     obtain rfl := Option.some.inj H
     exact EJ.fin Z (.tmp Z .nil) ⟨Z, hS.ext⟩
    replace H := pif_f (of_decide_eq_false hb) H
    refine DJ.pures oU 2 Z ?_
    refine DJ.st Z Z Z Z Z (SR.fieldAddr oU oI Z Z Z Z Z Z) ?_
    refine DJ.st Z Z Z Z Z (SR.load Z Z (fun w' hx => ldN oU oI Z Z Z (CA.ext (CA.sub (hS.ca (i := 1) Z) 0) hx) (cSpot.len _) Z)) ?_
    refine DJ.pures oU 2 Z ?_
    refine DJ.st Z Z Z Z Z (SR.fieldAddr oU oI Z Z Z Z Z Z) ?_
    refine DJ.st Z Z Z Z Z (SR.load Z Z (fun w' hx => ldN oU oI Z Z Z (CA.ext (CA.sub (hS.ca (i := 1) Z) 2) hx) (cSpot.len _) Z)) ?_
    refine DJ.pures oU 2 Z ?_
    refine DJ.st Z Z Z Z Z (SR.fieldAddr oU oI Z Z Z Z Z Z) ?_
    refine DJ.st Z Z Z Z Z (SR.load Z Z (fun w' hx => ld1 oU Z Z (CA.ext (CA.sub (hS.ca (i := 1) Z) 4) hx) Z)) ?_
    refine DJ.pures oU 1 Z ?_
    obtain ⟨t4, ht4, H⟩ := pbind H
    refine DJ.callF rfl rfl rfl rfl rfl rfl rfl hb80 rfl (spec_l02Square.c _ a1.At a1.Stake _ ht4) (by rintro v w' ⟨rfl, hs⟩; exact hs) ?_
    rintro _ w1 ⟨rfl, hs⟩
    replace hS := hS.grow hs
    refine DJ.pures oU 4 Z ?_
    refine DJ.nil (EJ.next ?_)
    refine CJ.ret (?_)
    obtain rfl := Option.some.inj H
    exact EJ.fin Z (.tmp Z .nil) ⟨Z, hS.ext⟩
   replace H := pifb_f hb H
   refine DJ.pures oU 24 Z ?_
   refine DJ.nil (EJ.next ?_)
   refine CJ.ret (?_)
   obtain rfl := Option.some.inj H
   exact EJ.fin Z (.tmp Z .nil) ⟨Z, hS.ext⟩
  replace H := pifb_f hb H
  refine DJ.pures oU 32 Z ?_
  refine DJ.nil (EJ.next ?_)
  refine CJ.ret (?_)
  obtain rfl := Option.some.inj H
  exact EJ.fin Z (.tmp Z .nil) ⟨Z, hS.ext⟩
 replace H := pifb_f hb H
 refine DJ.pures oU 40 Z ?_
 refine DJ.nil (EJ.next ?_)
 refine CJ.ret (?_)
 obtain rfl := Option.some.inj H
 exact EJ.fin Z (.tmp Z .nil) ⟨Z, hS.ext⟩

def spec_l02Ok.l1 (a0 : Pasture) (a1 : List Goat) : Nat → Int → Option (Bool ⊕ Unit)
  | 0, _ => none
  | k + 1, y2 => if y2 < (a1.length : Int) then ((getI a1 y2).bind fun t3 => (spec_l02Goat.f a0 t3).bind fun t4 => if (!t4) = true then (some (Sum.inl false)) else (spec_l02Ok.l1 a0 a1 k (IntKind.i64.wrap (y2 + 1)))) else (some (Sum.inr ()))
def spec_l02Ok.f (k : Nat) (a0 : Pasture) (a1 : List Goat) : Option Bool := (spec_l01Ok.f k a0).bind fun t1 => if (!t1) = true then (some false) else ((spec_l02Ok.l1 a0 a1 k 0).bind fun s165 => match s165 with | .inl r => some r | .inr _ => some (decide ((a1.length : Int) ≤ 20)))
theorem spec_l02Ok.c (k : Nat) (w : World) (pa0 : Addr) (a0 : Pasture) (hp0 : CA w pa0 (cPasture.enc a0)) (Aa1 : Option Addr) (ca1 : Nat) (a1 : List Goat) (hr1 : Rd cGoat w Aa1 a1) (hc1 : a1.length ≤ ca1) (r : Bool) (H : spec_l02Ok.f k a0 a1 = some r) :
 CV Tryz.prog 47 [.pointer (some pa0), .slice Aa1 a1.length ca1].toArray w fun v w' => v = .bool r ∧ Ext w w' := by
 have hS := (((St.init w no).paramP pa0 (cPasture.enc a0) hp0).param cGoat Aa1 ca1 a1 hr1 hc1)
 unfold spec_l02Ok.f at H
 refine CV.body Tryz.func47 Z Tryz.ntmps47 Z ?_
 refine CJ.seq (CJ.region ?_)
 refine OJ.pures oU 1 Z (OJ.nil (EJ.next ?_))
 refine CJ.seq ?_
 refine CJ.seq (CJ.region ?_)
 refine OJ.pures oU 1 Z ?_
 obtain ⟨t1, ht1, H⟩ := pbind H
 refine OJ.callF Z Z Z Z Z hb96 Z (spec_l01Ok.c k _ _ a0 (hS.ca (i := 0) Z) _ ht1) ?_
 rintro _ w1 ⟨rfl, hs⟩
 replace hS := hS.grow hs
 refine OJ.pures oU 1 Z (OJ.nil (EJ.next ?_))
 refine CJ.cond Z (fun hb => ?_) (fun hb => ?_)
 ·replace H := pif_t hb H
  refine CJ.seq (CJ.region ?_)
  refine OJ.pures oU 1 Z (OJ.nil (EJ.next ?_))
  refine CJ.ret (EJ.skR (?_))
  obtain rfl := Option.some.inj H
  exact EJ.fin Z (.tmp Z .nil) ⟨Z, hS.ext⟩
 replace H := pifb_f hb H
 refine CJ.skip (EJ.next ?_)
 refine CJ.seq ?_
 refine CJ.seq (CJ.region ?_)
 refine OJ.pures oU 1 Z (OJ.nil (EJ.next ?_))
 obtain ⟨j165, H, K165⟩ := pbind H
 refine CJ.cut1 (fun F w1 => (some (Sum.inr ()) : Option (Bool ⊕ Unit)) = some j165 ∧ F = [(1, .slice Aa1 a1.length ca1)] ∧ St w no w1 [] [roP pa0 (cPasture.enc a0), roC cGoat Aa1 ca1 a1]) ?_ ?_
 ·skip
  refine CJ.block ?_
  refine CJ.loop (fun k F w1 => ∃ (y2 : Int), F = [(0, .pointer (some pa0)), (1, .slice Aa1 a1.length ca1), (5, .int .i64 y2)] ∧ St w no w1 [] [roP pa0 (cPasture.enc a0), roC cGoat Aa1 ca1 a1] ∧ spec_l02Ok.l1 a0 a1 k y2 = some j165) k (F' := [(0, .pointer (some pa0)), (1, .slice Aa1 a1.length ca1), (5, .int .i64 0)]) ⟨Z, Z, Z, trivial⟩ ⟨0, Z, hS.pick [] [0, 1] Z, H⟩ ?_
  rintro k F w1 ⟨y2, rfl, hS, H⟩
  cases k with
  | zero => rw [spec_l02Ok.l1] at H; cases H
  | succ k =>
    rw [spec_l02Ok.l1] at H
    refine CJ.seq ?_
    refine CJ.seq (CJ.region ?_)
    refine OJ.pures oU 4 Z (OJ.nil (EJ.next ?_))
    refine CJ.cond Z (fun hb => ?_) (fun hb => ?_)
    · replace H := pif_t (of_decide_eq_true hb) H
      refine CJ.skip (EJ.next ?_)
      refine CJ.seq ?_
      refine CJ.block ?_
      refine CJ.seq (CJ.region ?_)
      refine OJ.pures oU 3 Z ?_
      obtain ⟨t3, ht3, H⟩ := pbind H
      obtain ⟨ad3, e3⟩ := (hS.rd' (i := 1) rfl).some' ht3
      refine OJ.st Z Z Z (SR.idxS oU oI Z Z Z Z e3 Z (getI_some ht3).1) ?_
      obtain ⟨t4, ht4, H⟩ := pbind H
      refine OJ.callF Z Z Z Z Z hb97 Z (spec_l02Goat.c _ _ a0 (hS.ca (i := 0) Z) _ t3 ((hS.rd' (i := 1) Z).at_ e3 ht3) _ ht4) ?_
      rintro _ w1 ⟨rfl, hs⟩
      replace hS := hS.grow hs
      refine OJ.pures oU 1 Z (OJ.nil (EJ.next ?_))
      refine CJ.cond Z (fun hb => ?_) (fun hb => ?_)
      · replace H := pif_t hb H
        refine CJ.seq (CJ.region ?_)
        refine OJ.pures oU 1 Z (OJ.nil (EJ.next ?_))
        refine CJ.ret (EJ.bkR (EJ.skR (EJ.skR (EJ.bkR (EJ.skR (EJ.skR (?_)))))))
        first | (obtain rfl := Option.some.inj H; have H := K165) | (obtain ⟨q165, H2, e165⟩ := pbind H; obtain rfl := Option.some.inj e165; obtain rfl := Option.some.inj K165; have H := H2)
        obtain rfl := Option.some.inj H
        exact EJ.fin Z (.tmp Z .nil) ⟨Z, hS.ext⟩
      · replace H := pifb_f hb H
        refine CJ.skip (EJ.blk (EJ.next ?_))
        refine CJ.region ?_
        refine OJ.pures oU 3 Z ?_
        refine OJ.nil ?_
        exact EJ.round k (F' := [(0, .pointer (some pa0)), (1, .slice Aa1 a1.length ca1), (5, .int .i64 (IntKind.i64.wrap (y2 + 1)))]) ⟨Z, Z, Z, trivial⟩ (Nat.lt_succ_self _) ⟨(IntKind.i64.wrap (y2 + 1)), Z, hS.pick [] [0, 1] Z, H⟩
    · replace H := pif_f (of_decide_eq_false hb) H
      refine CJ.exit (EJ.skE (EJ.skE (EJ.hit (?_))))
      exact EJ.meet (F' := [(1, .slice Aa1 a1.length ca1)]) ⟨Z, trivial⟩ ⟨H, Z, hS.pick [] [0, 1] Z⟩
 rintro F w1 ⟨he, rfl, hS⟩
 obtain rfl := Option.some.inj he
 have H := K165
 refine EJ.next ?_
 refine CJ.seq (CJ.region ?_)
 refine OJ.pures oU 4 Z (OJ.nil (EJ.next ?_))
 refine CJ.ret (?_)
 obtain rfl := Option.some.inj H
 exact EJ.fin Z (.tmp Z .nil) ⟨Z, hS.ext⟩

def spec_l01Closed.f (a0 : Pasture) (a1 : Spot) (a2 : Int) : Option Bool := (spec_l01Next.f a1 a2).bind fun t2 => (spec_l01Is.f a0 t2).bind fun t4 => if (!t4) = true then (some true) else (if a2 = 0 then ((getI a0.South.l t2.Y).bind fun t5 => (chk (0 ≤ (IntKind.u64.wrap a1.X))).bind fun u6 => some (decide ((andI .u16 (shrI .u16 t5 (IntKind.u64.wrap a1.X)) 1) = 1))) else (if a2 = 1 then ((getI a0.East.l a1.Y).bind fun t7 => (chk (0 ≤ (IntKind.u64.wrap a1.X))).bind fun u8 => some (decide ((andI .u16 (shrI .u16 t7 (IntKind.u64.wrap a1.X)) 1) = 1))) else (if a2 = 2 then ((getI a0.South.l a1.Y).bind fun t9 => (chk (0 ≤ (IntKind.u64.wrap a1.X))).bind fun u10 => some (decide ((andI .u16 (shrI .u16 t9 (IntKind.u64.wrap a1.X)) 1) = 1))) else ((getI a0.East.l a1.Y).bind fun t11 => (chk (0 ≤ (IntKind.u64.wrap t2.X))).bind fun u12 => some (decide ((andI .u16 (shrI .u16 t11 (IntKind.u64.wrap t2.X)) 1) = 1))))))
theorem spec_l01Closed.c (w : World) (pa0 : Addr) (a0 : Pasture) (hp0 : CA w pa0 (cPasture.enc a0)) (a1 : Spot) (a2 : Int) (r : Bool) (H : spec_l01Closed.f a0 a1 a2 = some r) :
 CV Tryz.prog 125 [.pointer (some pa0), .agg (cSpot.enc a1).toArray, .int .i64 a2].toArray w fun v w' => v = .bool r ∧ Ext w w' := by
 have hS := ((St.init w no).paramP pa0 (cPasture.enc a0) hp0)
 unfold spec_l01Closed.f at H
 refine CV.body Tryz.func125 Z Tryz.ntmps125 Z ?_
 refine CJ.seq (CJ.region ?_)
 refine OJ.ef Z Z Z (Ef.box hS Z Z (cSpot.enc a1) Z) ?_
 rintro _ w1 ⟨b1, rfl, hS⟩
 refine OJ.pures oU 1 Z (OJ.nil (EJ.next ?_))
 refine CJ.seq (CJ.region ?_)
 refine OJ.st Z Z Z (SR.load Z Z (fun w' hx => ldE oU oI Z Z Z (CA.ext (hS.cells (i := 0) Z) hx) Z)) ?_
 refine OJ.pures oU 1 Z ?_
 obtain ⟨t2, ht2, H⟩ := pbind H
 refine OJ.callF Z Z Z Z Z hb75 Z (spec_l01Next.c _ a1 a2 _ ht2) ?_
 rintro _ w1 ⟨rfl, hs⟩
 replace hS := hS.grow hs
 refine OJ.ef Z Z Z (Ef.alloc hS oI Z Z (cSpot.enc (⟨0, 0⟩ : Spot)) Z) ?_
 rintro _ w1 ⟨b3, rfl, hS⟩
 refine OJ.es Z Z (Es.store oI hS (i := 1) Z Z Z Z Z Z (vs := cSpot.enc t2) Z (cSpot.len _) (cSpot.one _) (Nat.le_of_ble_eq_true Z) (cSpot.enc t2) Z) ?_
 intro w1 hS
 refine OJ.nil (EJ.next ?_)
 refine CJ.seq ?_
 refine CJ.seq (CJ.region ?_)
 refine OJ.pures oU 1 Z ?_
 refine OJ.st Z Z Z (SR.load Z Z (fun w' hx => ldE oU oI Z Z Z (CA.ext (hS.cells (i := 1) Z) hx) Z)) ?_
 obtain ⟨t4, ht4, H⟩ := pbind H
 refine OJ.callF Z Z Z Z Z hb71 Z (spec_l01Is.c _ _ a0 (hS.ca (i := 0) Z) t2 _ ht4) ?_
 rintro _ w1 ⟨rfl, hs⟩
 replace hS := hS.grow hs
 refine OJ.pures oU 1 Z (OJ.nil (EJ.next ?_))
 refine CJ.cond Z (fun hb => ?_) (fun hb => ?_)
 ·replace H := pif_t hb H
  refine CJ.seq (CJ.region ?_)
  refine OJ.pures oU 1 Z (OJ.nil (EJ.next ?_))
  refine CJ.ret (EJ.skR (?_))
  obtain rfl := Option.some.inj H
  exact EJ.fin Z (.tmp Z .nil) ⟨Z, hS.ext⟩
 replace H := pifb_f hb H
 refine CJ.skip (EJ.next ?_)
 refine CJ.seq ?_
 refine CJ.seq (CJ.region ?_)
 refine OJ.pures oU 1 Z (OJ.nil (EJ.next ?_))
 refine CJ.block ?_
 refine CJ.seq (CJ.region ?_)
 refine OJ.pures oU 2 Z (OJ.nil (EJ.next ?_))
 refine CJ.cond Z (fun hb => ?_) (fun hb => ?_)
 ·replace H := pif_t (of_decide_eq_true hb) H
  refine CJ.seq ?_
  refine CJ.draw [] [0, 1, 2, 3, 4, 5, 6, 7, 8, 9, 10, 11, 12, 13] mixed (by kernel_rfl) hS fun w1 hS => ?_
  refine DJ.pures oU 1 Z ?_
  refine DJ.st Z Z Z Z Z (SR.fieldAddr oU oI Z Z Z Z Z Z) ?_
  refine DJ.st Z Z Z Z Z (SR.load Z Z (fun w' hx => ld1 oU Z Z (CA.ext (CA.sub (hS.cells (i := 1) Z) 1) hx) Z)) ?_
  refine DJ.pures oU 1 Z ?_
  refine DJ.st Z Z Z Z Z (SR.fieldAddr oU oI Z Z Z Z Z Z) ?_
  obtain ⟨t5, ht5, H⟩ := pbind H
  refine DJ.st Z Z Z Z Z (SR.idxA oU oI Z Z Z Z Z (Arr.lt ht5)) ?_
  refine DJ.st Z Z Z Z Z (SR.load Z Z (fun w' hx => ld1 oU Z Z (CA.ext (CA.idx (CA.fld (hS.ca (i := 0) Z) (mid_part (fe_Pasture_4 _) (fl_Pasture_4 _) ((carr 10 (ci .u16)).len _))) ht5) hx) Z)) ?_
  refine DJ.st Z Z Z Z Z (SR.fieldAddr oU oI Z Z Z Z Z Z) ?_
  refine DJ.st Z Z Z Z Z (SR.load Z Z (fun w' hx => ld1 oU Z Z (CA.ext (CA.sub (hS.cells (i := 0) Z) 0) hx) Z)) ?_
  refine DJ.pures oU 1 Z ?_
  obtain ⟨u6, hu6, H⟩ := pbind H
  refine DJ.st Z Z Z Z Z (SR.shr Z Z Z (chk_some hu6)) ?_
  refine DJ.pures oU 3 Z ?_
  refine DJ.nil (EJ.next ?_)
  refine CJ.ret (EJ.bkR (EJ.skR (?_)))
  obtain rfl := Option.some.inj H
  exact EJ.fin Z (.tmp Z .nil) ⟨Z, hS.ext⟩
 replace H := pif_f (of_decide_eq_false hb) H
 refine CJ.seq (CJ.region ?_)
 refine OJ.pures oU 2 Z (OJ.nil (EJ.next ?_))
 refine CJ.cond Z (fun hb => ?_) (fun hb => ?_)
 ·replace H := pif_t (of_decide_eq_true hb) H
  refine CJ.seq ?_
  refine CJ.draw [] [0, 1, 2, 3, 4, 5, 6, 7, 8, 9, 10, 11, 12, 13] mixed (by kernel_rfl) hS fun w1 hS => ?_
  refine DJ.pures oU 1 Z ?_
  refine DJ.st Z Z Z Z Z (SR.fieldAddr oU oI Z Z Z Z Z Z) ?_
  refine DJ.st Z Z Z Z Z (SR.load Z Z (fun w' hx => ld1 oU Z Z (CA.ext (CA.sub (hS.cells (i := 0) Z) 1) hx) Z)) ?_
  refine DJ.pures oU 1 Z ?_
  refine DJ.st Z Z Z Z Z (SR.fieldAddr oU oI Z Z Z Z Z Z) ?_
  obtain ⟨t7, ht7, H⟩ := pbind H
  refine DJ.st Z Z Z Z Z (SR.idxA oU oI Z Z Z Z Z (Arr.lt ht7)) ?_
  refine DJ.st Z Z Z Z Z (SR.load Z Z (fun w' hx => ld1 oU Z Z (CA.ext (CA.idx (CA.fld (hS.ca (i := 0) Z) (mid_part (fe_Pasture_3 _) (fl_Pasture_3 _) ((carr 10 (ci .u16)).len _))) ht7) hx) Z)) ?_
  refine DJ.st Z Z Z Z Z (SR.fieldAddr oU oI Z Z Z Z Z Z) ?_
  refine DJ.st Z Z Z Z Z (SR.load Z Z (fun w' hx => ld1 oU Z Z (CA.ext (CA.sub (hS.cells (i := 0) Z) 0) hx) Z)) ?_
  refine DJ.pures oU 1 Z ?_
  obtain ⟨u8, hu8, H⟩ := pbind H
  refine DJ.st Z Z Z Z Z (SR.shr Z Z Z (chk_some hu8)) ?_
  refine DJ.pures oU 3 Z ?_
  refine DJ.nil (EJ.next ?_)
  refine CJ.ret (EJ.bkR (EJ.skR (?_)))
  obtain rfl := Option.some.inj H
  exact EJ.fin Z (.tmp Z .nil) ⟨Z, hS.ext⟩
 replace H := pif_f (of_decide_eq_false hb) H
 refine CJ.seq (CJ.region ?_)
 refine OJ.pures oU 2 Z (OJ.nil (EJ.next ?_))
 refine CJ.cond Z (fun hb => ?_) (fun hb => ?_)
 ·replace H := pif_t (of_decide_eq_true hb) H
  refine CJ.seq ?_
  refine CJ.draw [] [0, 1, 2, 3, 4, 5, 6, 7, 8, 9, 10, 11, 12, 13] mixed (by kernel_rfl) hS fun w1 hS => ?_
  refine DJ.pures oU 1 Z ?_
  refine DJ.st Z Z Z Z Z (SR.fieldAddr oU oI Z Z Z Z Z Z) ?_
  refine DJ.st Z Z Z Z Z (SR.load Z Z (fun w' hx => ld1 oU Z Z (CA.ext (CA.sub (hS.cells (i := 0) Z) 1) hx) Z)) ?_
  refine DJ.pures oU 1 Z ?_
  refine DJ.st Z Z Z Z Z (SR.fieldAddr oU oI Z Z Z Z Z Z) ?_
  obtain ⟨t9, ht9, H⟩ := pbind H
  refine DJ.st Z Z Z Z Z (SR.idxA oU oI Z Z Z Z Z (Arr.lt ht9)) ?_
  refine DJ.st Z Z Z Z Z (SR.load Z Z (fun w' hx => ld1 oU Z Z (CA.ext (CA.idx (CA.fld (hS.ca (i := 0) Z) (mid_part (fe_Pasture_4 _) (fl_Pasture_4 _) ((carr 10 (ci .u16)).len _))) ht9) hx) Z)) ?_
  refine DJ.st Z Z Z Z Z (SR.fieldAddr oU oI Z Z Z Z Z Z) ?_
  refine DJ.st Z Z Z Z Z (SR.load Z Z (fun w' hx => ld1 oU Z Z (CA.ext (CA.sub (hS.cells (i := 0) Z) 0) hx) Z)) ?_
  refine DJ.pures oU 1 Z ?_
  obtain ⟨u10, hu10, H⟩ := pbind H
  refine DJ.st Z Z Z Z Z (SR.shr Z Z Z (chk_some hu10)) ?_
  refine DJ.pures oU 3 Z ?_
  refine DJ.nil (EJ.next ?_)
  refine CJ.ret (EJ.bkR (EJ.skR (?_)))
  obtain rfl := Option.some.inj H
  exact EJ.fin Z (.tmp Z .nil) ⟨Z, hS.ext⟩
 replace H := pif_f (of_decide_eq_false hb) H
 refine CJ.skip (EJ.blk (EJ.next ?_))
 refine CJ.seq ?_
 refine CJ.draw [] [0, 1, 2, 3, 4, 5, 6, 7, 8, 9, 10, 11, 12, 13] mixed (by kernel_rfl) hS fun w1 hS => ?_
 refine DJ.pures oU 1 Z ?_
 refine DJ.st Z Z Z Z Z (SR.fieldAddr oU oI Z Z Z Z Z Z) ?_
 refine DJ.st Z Z Z Z Z (SR.load Z Z (fun w' hx => ld1 oU Z Z (CA.ext (CA.sub (hS.cells (i := 0) Z) 1) hx) Z)) ?_
 refine DJ.pures oU 1 Z ?_
 refine DJ.st Z Z Z Z Z (SR.fieldAddr oU oI Z Z Z Z Z Z) ?_
 obtain ⟨t11, ht11, H⟩ := pbind H
 refine DJ.st Z Z Z Z Z (SR.idxA oU oI Z Z Z Z Z (Arr.lt ht11)) ?_
 refine DJ.st Z Z Z Z Z (SR.load Z Z (fun w' hx => ld1 oU Z Z (CA.ext (CA.idx (CA.fld (hS.ca (i := 0) Z) (mid_part (fe_Pasture_3 _) (fl_Pasture_3 _) ((carr 10 (ci .u16)).len _))) ht11) hx) Z)) ?_
 refine DJ.st Z Z Z Z Z (SR.fieldAddr oU oI Z Z Z Z Z Z) ?_
 refine DJ.st Z Z Z Z Z (SR.load Z Z (fun w' hx => ld1 oU Z Z (CA.ext (CA.sub (hS.cells (i := 1) Z) 0) hx) Z)) ?_
 refine DJ.pures oU 1 Z ?_
 obtain ⟨u12, hu12, H⟩ := pbind H
 refine DJ.st Z Z Z Z Z (SR.shr Z Z Z (chk_some hu12)) ?_
 refine DJ.pures oU 3 Z ?_
 refine DJ.nil (EJ.next ?_)
 refine CJ.ret (?_)
 obtain rfl := Option.some.inj H
 exact EJ.fin Z (.tmp Z .nil) ⟨Z, hS.ext⟩

def spec_l01Beside.l1 (a0 : Pasture) (a1 : Spot) : Nat → (List Spot) → Int → Option (List Spot)
  | 0, _, _ => none
  | k + 1, y6, y9 => if y9 < 4 then ((spec_l01Closed.f a0 a1 y9).bind fun t10 => if (!t10) = true then ((spec_l01Next.f a1 y9).bind fun t11 => (chk (y6.length + ([t11] : List Spot).length ≤ 4294967296)).bind fun u13 => spec_l01Beside.l1 a0 a1 k (y6 ++ ([t11] : List Spot)) (IntKind.i64.wrap (y9 + 1))) else (spec_l01Beside.l1 a0 a1 k y6 (IntKind.i64.wrap (y9 + 1)))) else (some y6)
def spec_l01Beside.f (k : Nat) (a0 : Pasture) (a1 : Spot) : Option (List Spot) := (spec_l01Beside.l1 a0 a1 k ([] : List Spot) 0).bind fun y3 => some y3
theorem spec_l01Beside.c (k : Nat) (w : World) (pa0 : Addr) (a0 : Pasture) (hp0 : CA w pa0 (cPasture.enc a0)) (a1 : Spot) (r : List Spot) (H : spec_l01Beside.f k a0 a1 = some r) :
 CV Tryz.prog 109 [.pointer (some pa0), .agg (cSpot.enc a1).toArray].toArray w fun v w' => ∃ (A0 : Option Addr) (c0 : Nat), v = .slice A0 r.length c0 ∧ St w no w' [rowC cSpot A0 c0 48 r] [] := by
 have hS := ((St.init w no).paramP pa0 (cPasture.enc a0) hp0)
 unfold spec_l01Beside.f at H
 refine CV.body Tryz.func109 Z Tryz.ntmps109 Z ?_
 refine CJ.seq (CJ.region ?_)
 refine OJ.ef Z Z Z (Ef.box hS Z Z (cSpot.enc a1) Z) ?_
 rintro _ w1 ⟨b1, rfl, hS⟩
 refine OJ.pures oU 1 Z (OJ.nil (EJ.next ?_))
 refine CJ.seq (CJ.region ?_)
 refine OJ.ef Z Z Z (Ef.lit oU oI hS (C := cSpot) Z Z Z Z Z Z ([] : List Spot) Z Z Z Z) ?_
 rintro _ w1 ⟨A2, rfl, hS⟩
 refine OJ.pures oU 1 Z (OJ.nil (EJ.next ?_))
 refine CJ.seq ?_
 refine CJ.seq (CJ.region ?_)
 refine OJ.pures oU 1 Z (OJ.nil (EJ.next ?_))
 obtain ⟨j171, H, K171⟩ := pbind H
 refine CJ.cut1 (fun F w1 => ∃ (y3 : List Spot) (A4 : Option Addr) (c5 : Nat), (some y3 : Option (List Spot)) = some j171 ∧ F = [(5, .slice A4 y3.length c5)] ∧ St w no w1 [rowC cSpot A4 c5 48 y3] [roP pa0 (cPasture.enc a0)]) ?_ ?_
 ·skip
  refine CJ.block ?_
  refine CJ.loop (fun k F w1 => ∃ (y6 : List Spot) (y9 : Int) (A7 : Option Addr) (c8 : Nat), F = [(0, .pointer (some pa0)), (3, .pointer (some ⟨b1, 0, none⟩)), (5, .slice A7 y6.length c8), (6, .int .i64 y9)] ∧ St w no w1 [box b1 (cSpot.enc a1) 48, rowC cSpot A7 c8 48 y6] [roP pa0 (cPasture.enc a0)] ∧ spec_l01Beside.l1 a0 a1 k y6 y9 = some j171) k (F' := [(0, .pointer (some pa0)), (3, .pointer (some ⟨b1, 0, none⟩)), (5, .slice A2 ([] : List Spot).length (([] : List Spot).length)), (6, .int .i64 0)]) ⟨Z, Z, Z, Z, trivial⟩ ⟨([] : List Spot), 0, A2, (([] : List Spot).length), Z, hS.pick [0, 1] [0] Z, H⟩ ?_
  rintro k F w1 ⟨y6, y9, A7, c8, rfl, hS, H⟩
  cases k with
  | zero => rw [spec_l01Beside.l1] at H; cases H
  | succ k =>
    rw [spec_l01Beside.l1] at H
    refine CJ.seq ?_
    refine CJ.seq (CJ.region ?_)
    refine OJ.pures oU 2 Z (OJ.nil (EJ.next ?_))
    refine CJ.cond Z (fun hb => ?_) (fun hb => ?_)
    · replace H := pif_t (of_decide_eq_true hb) H
      refine CJ.skip (EJ.next ?_)
      refine CJ.seq ?_
      refine CJ.block ?_
      refine CJ.seq (CJ.region ?_)
      refine OJ.pures oU 1 Z ?_
      refine OJ.st Z Z Z (SR.load Z Z (fun w' hx => ldE oU oI Z Z Z (CA.ext (hS.cells (i := 0) Z) hx) Z)) ?_
      refine OJ.pures oU 1 Z ?_
      obtain ⟨t10, ht10, H⟩ := pbind H
      refine OJ.callF Z Z Z Z Z hb125 Z (spec_l01Closed.c _ _ a0 (hS.ca (i := 0) Z) a1 y9 _ ht10) ?_
      rintro _ w1 ⟨rfl, hs⟩
      replace hS := hS.grow hs
      refine OJ.pures oU 1 Z (OJ.nil (EJ.next ?_))
      refine CJ.cond Z (fun hb => ?_) (fun hb => ?_)
      · replace H := pif_t hb H
        refine CJ.region ?_
        refine OJ.pures oU 1 Z ?_
        refine OJ.st Z Z Z (SR.load Z Z (fun w' hx => ldE oU oI Z Z Z (CA.ext (hS.cells (i := 0) Z) hx) Z)) ?_
        refine OJ.pures oU 1 Z ?_
        obtain ⟨t11, ht11, H⟩ := pbind H
        refine OJ.callF Z Z Z Z Z hb75 Z (spec_l01Next.c _ a1 y9 _ ht11) ?_
        rintro _ w1 ⟨rfl, hs⟩
        replace hS := hS.grow hs
        refine OJ.ef Z Z Z (Ef.lit oU oI hS (C := cSpot) Z Z Z Z Z Z ([t11] : List Spot) Z Z Z Z) ?_
        rintro _ w1 ⟨A12, rfl, hS⟩
        obtain ⟨u13, hu13, H⟩ := pbind H
        refine OJ.ew Z Z Z (Ew.append oU oI (C := cSpot) (xs := y6) (ys := ([t11] : List Spot)) hS (i := 1) Z Z Z Z Z Z Z Z Z Z Z Z Z (hS.rd (i := 2) Z) (chk_some hu13)) ?_
        rintro _ w1 ⟨A14, c15, rfl, hS⟩
        refine OJ.pures oU 1 Z ?_
        refine OJ.nil (EJ.blk (EJ.next ?_))
        refine CJ.region ?_
        refine OJ.pures oU 3 Z ?_
        refine OJ.nil ?_
        exact EJ.round k (F' := [(0, .pointer (some pa0)), (3, .pointer (some ⟨b1, 0, none⟩)), (5, .slice A14 (y6 ++ ([t11] : List Spot)).length c15), (6, .int .i64 (IntKind.i64.wrap (y9 + 1)))]) ⟨Z, Z, Z, Z, trivial⟩ (Nat.lt_succ_self _) ⟨(y6 ++ ([t11] : List Spot)), (IntKind.i64.wrap (y9 + 1)), A14, c15, Z, hS.pick [0, 1] [0] Z, H⟩
      · replace H := pifb_f hb H
        refine CJ.skip (EJ.blk (EJ.next ?_))
        refine CJ.region ?_
        refine OJ.pures oU 3 Z ?_
        refine OJ.nil ?_
        exact EJ.round k (F' := [(0, .pointer (some pa0)), (3, .pointer (some ⟨b1, 0, none⟩)), (5, .slice A7 y6.length c8), (6, .int .i64 (IntKind.i64.wrap (y9 + 1)))]) ⟨Z, Z, Z, Z, trivial⟩ (Nat.lt_succ_self _) ⟨y6, (IntKind.i64.wrap (y9 + 1)), A7, c8, Z, hS.pick [0, 1] [0] Z, H⟩
    · replace H := pif_f (of_decide_eq_false hb) H
      refine CJ.exit (EJ.skE (EJ.skE (EJ.hit (?_))))
      exact EJ.meet (F' := [(5, .slice A7 y6.length c8)]) ⟨Z, trivial⟩ ⟨y6, A7, c8, H, Z, hS.pick [1] [0] Z⟩
 rintro F w1 ⟨y3, A4, c5, he, rfl, hS⟩
 obtain rfl := Option.some.inj he
 have H := K171
 refine EJ.next ?_
 refine CJ.seq (CJ.region ?_)
 refine OJ.pures oU 2 Z (OJ.nil (EJ.next ?_))
 refine CJ.ret (?_)
 obtain rfl := Option.some.inj H
 exact EJ.fin Z (.tmp Z .nil) ⟨A4, c5, Z, hS.pick [0] [] Z⟩

def spec_l01Steps.l2 (t17 : Spot) (t19 : List Spot) : Nat → (Arr 10 (Arr 10 Int)) → (List Spot) → Int → Option ((Arr 10 (Arr 10 Int)) × (List Spot))
  | 0, _, _, _ => none
  | k + 1, y26, y27, y30 => if y30 < (t19.length : Int) then ((getI t19 y30).bind fun t31 => (getI t19 y30).bind fun t32 => (getI y26.l t31.Y).bind fun t33 => (getI t33.l t32.X).bind fun t34 => if t34 = 0 then ((getI t19 y30).bind fun t35 => (getI t19 y30).bind fun t36 => (getI y26.l t17.Y).bind fun t37 => (getI t37.l t17.X).bind fun t38 => (getI y26.l t35.Y).bind fun t39 => (getI t39.l t36.X).bind fun t40 => (getI t19 y30).bind fun t41 => (chk (y27.length + ([t41] : List Spot).length ≤ 4294967296)).bind fun u43 => spec_l01Steps.l2 t17 t19 k (aset y26 t35.Y.toNat (aset t39 t36.X.toNat (IntKind.i64.wrap (t38 + 1)))) (y27 ++ ([t41] : List Spot)) (IntKind.i64.wrap (y30 + 1))) else (spec_l01Steps.l2 t17 t19 k y26 y27 (IntKind.i64.wrap (y30 + 1)))) else (some (y26, y27))
def spec_l01Steps.l1 (a0 : Pasture) : Nat → (Arr 10 (Arr 10 Int)) → (List Spot) → Int → Option (Arr 10 (Arr 10 Int))
  | 0, _, _, _ => none
  | k + 1, y8, y9, y12 => if y12 < (y9.length : Int) then (((getI y9 y12).bind fun t17 => (spec_l01Beside.f k a0 t17).bind fun t19 => (spec_l01Steps.l2 t17 t19 k y8 y9 0).bind fun (y22, y23) => some (y22, y23)).bind fun (y13, y14) => spec_l01Steps.l1 a0 k y13 y14 (IntKind.i64.wrap (y12 + 1))) else (some y8)
def spec_l01Steps.f (k : Nat) (a0 : Pasture) (a1 : Spot) : Option (Arr 10 (Arr 10 Int)) := (getI (Arr.mk' (Arr.mk' 0 : Arr 10 Int) : Arr 10 (Arr 10 Int)).l a1.Y).bind fun t4 => (getI t4.l a1.X).bind fun t5 => (spec_l01Steps.l1 a0 k (aset (Arr.mk' (Arr.mk' 0 : Arr 10 Int) : Arr 10 (Arr 10 Int)) a1.Y.toNat (aset t4 a1.X.toNat 1)) ([a1] : List Spot) 0).bind fun y7 => some y7
theorem spec_l01Steps.c (k : Nat) (w : World) (pa0 : Addr) (a0 : Pasture) (hp0 : CA w pa0 (cPasture.enc a0)) (a1 : Spot) (r : Arr 10 (Arr 10 Int)) (H : spec_l01Steps.f k a0 a1 = some r) :
 CV Tryz.prog 72 [.pointer (some pa0), .agg (cSpot.enc a1).toArray].toArray w fun v w' => v = .agg ((carr 10 (carr 10 (ci .i64))).enc r).toArray ∧ Ext w w' := by
 have hS := ((St.init w no).paramP pa0 (cPasture.enc a0) hp0)
 unfold spec_l01Steps.f at H
 refine CV.body Tryz.func72 Z Tryz.ntmps72 Z ?_
 refine CJ.seq (CJ.region ?_)
 refine OJ.ef Z Z Z (Ef.box hS Z Z (cSpot.enc a1) Z) ?_
 rintro _ w1 ⟨b1, rfl, hS⟩
 refine OJ.ef rfl rfl rfl (Ef.alloc hS oI rfl rfl ((carr 10 (carr 10 (ci .i64))).enc (Arr.mk' (Arr.mk' 0 : Arr 10 Int) : Arr 10 (Arr 10 Int))) (by kernel_rfl)) ?_
 rintro _ w1 ⟨b2, rfl, hS⟩
 refine OJ.nil (EJ.next ?_)
 refine CJ.seq (CJ.region ?_)
 refine OJ.st rfl rfl rfl (SR.buildA oU oI rfl rfl rfl rfl (zs := [.int .i64 0, .int .i64 0, .int .i64 0, .int .i64 0, .int .i64 0, .int .i64 0, .int .i64 0, .int .i64 0, .int .i64 0, .int .i64 0, .int .i64 0, .int .i64 0, .int .i64 0, .int .i64 0, .int .i64 0, .int .i64 0, .int .i64 0, .int .i64 0, .int .i64 0, .int .i64 0, .int .i64 0, .int .i64 0, .int .i64 0, .int .i64 0, .int .i64 0, .int .i64 0, .int .i64 0, .int .i64 0, .int .i64 0, .int .i64 0, .int .i64 0, .int .i64 0, .int .i64 0, .int .i64 0, .int .i64 0, .int .i64 0, .int .i64 0, .int .i64 0, .int .i64 0, .int .i64 0, .int .i64 0, .int .i64 0, .int .i64 0, .int .i64 0, .int .i64 0, .int .i64 0, .int .i64 0, .int .i64 0, .int .i64 0, .int .i64 0, .int .i64 0, .int .i64 0, .int .i64 0, .int .i64 0, .int .i64 0, .int .i64 0, .int .i64 0, .int .i64 0, .int .i64 0, .int .i64 0, .int .i64 0, .int .i64 0, .int .i64 0, .int .i64 0, .int .i64 0, .int .i64 0, .int .i64 0, .int .i64 0, .int .i64 0, .int .i64 0, .int .i64 0, .int .i64 0, .int .i64 0, .int .i64 0, .int .i64 0, .int .i64 0, .int .i64 0, .int .i64 0, .int .i64 0, .int .i64 0, .int .i64 0, .int .i64 0, .int .i64 0, .int .i64 0, .int .i64 0, .int .i64 0, .int .i64 0, .int .i64 0, .int .i64 0, .int .i64 0, .int .i64 0, .int .i64 0, .int .i64 0, .int .i64 0, .int .i64 0, .int .i64 0, .int .i64 0, .int .i64 0, .int .i64 0, .int .i64 0]) rfl rfl ((carr 10 (carr 10 (ci .i64))).enc (Arr.mk' (Arr.mk' 0 : Arr 10 Int) : Arr 10 (Arr 10 Int))) (by kernel_rfl)) ?_
 refine OJ.ef rfl rfl rfl (Ef.alloc hS oI rfl rfl ((carr 10 (carr 10 (ci .i64))).enc (Arr.mk' (Arr.mk' 0 : Arr 10 Int) : Arr 10 (Arr 10 Int))) (by kernel_rfl)) ?_
 rintro _ w1 ⟨b3, rfl, hS⟩
 refine OJ.es rfl rfl (Es.put oI hS (i := 2) rfl rfl rfl rfl rfl (vs := (carr 10 (carr 10 (ci .i64))).enc (Arr.mk' (Arr.mk' 0 : Arr 10 Int) : Arr 10 (Arr 10 Int))) rfl ((carr 10 (carr 10 (ci .i64))).len _) ((carr 10 (carr 10 (ci .i64))).one _) (Put.all (carr 10 (carr 10 (ci .i64))) (Arr.mk' (Arr.mk' 0 : Arr 10 Int) : Arr 10 (Arr 10 Int)) (Arr.mk' (Arr.mk' 0 : Arr 10 Int) : Arr 10 (Arr 10 Int))) (by (try simp only [add_lit, Nat.add_assoc, Nat.zero_add, Nat.add_zero]) <;> rfl)) ?_
 intro w1 hS
 refine OJ.nil (EJ.next ?_)
 refine CJ.seq ?_
 refine CJ.draw [] [0, 1, 2, 3, 4, 5, 6] mixed (by kernel_rfl) hS fun w1 hS => ?_
 refine DJ.st Z Z Z Z Z (SR.fieldAddr oU oI Z Z Z Z Z Z) ?_
 refine DJ.st Z Z Z Z Z (SR.load Z Z (fun w' hx => ld1 oU Z Z (CA.ext (CA.sub (hS.cells (i := 0) Z) 1) hx) Z)) ?_
 refine DJ.st Z Z Z Z Z (SR.fieldAddr oU oI Z Z Z Z Z Z) ?_
 refine DJ.st Z Z Z Z Z (SR.load Z Z (fun w' hx => ld1 oU Z Z (CA.ext (CA.sub (hS.cells (i := 0) Z) 0) hx) Z)) ?_
 obtain ⟨t4, ht4, H⟩ := pbind H
 refine DJ.st Z Z Z Z Z (SR.idxA oU oI Z Z Z Z Z (Arr.lt ht4)) ?_
 obtain ⟨t5, ht5, H⟩ := pbind H
 refine DJ.st Z Z Z Z Z (SR.idxA oU oI Z Z Z Z Z (Arr.lt ht5)) ?_
 refine DJ.es rfl rfl rfl rfl (Es.put oI hS (i := 2) rfl rfl rfl rfl rfl (vs := (ci .i64).enc 1) rfl rfl (one1 rfl) (Put.idx (Put.idx (Put.all (ci .i64) t5 1) ht5) ht4) (by (try simp only [add_lit, Nat.add_assoc, Nat.zero_add, Nat.add_zero]) <;> rfl)) ?_
 intro w1 hS
 refine DJ.nil (EJ.next ?_)
 refine CJ.seq (CJ.region ?_)
 refine OJ.st Z Z Z (SR.load Z Z (fun w' hx => ldE oU oI Z Z Z (CA.ext (hS.cells (i := 0) Z) hx) Z)) ?_
 refine OJ.ef Z Z Z (Ef.lit oU oI hS (C := cSpot) Z Z Z Z Z Z ([a1] : List Spot) Z Z Z Z) ?_
 rintro _ w1 ⟨A6, rfl, hS⟩
 refine OJ.pures oU 1 Z (OJ.nil (EJ.next ?_))
 refine CJ.seq ?_
 refine CJ.seq (CJ.region ?_)
 refine OJ.pures oU 1 Z (OJ.nil (EJ.next ?_))
 obtain ⟨j169, H, K169⟩ := pbind H
 refine CJ.cut1 (fun F w1 => ∃ (y7 : Arr 10 (Arr 10 Int)) , (some y7 : Option (Arr 10 (Arr 10 Int))) = some j169 ∧ F = [(4, .pointer (some ⟨b2, 0, none⟩)), (5, .pointer (some ⟨b3, 0, none⟩))] ∧ St w no w1 [box b2 ((carr 10 (carr 10 (ci .i64))).enc (Arr.mk' (Arr.mk' 0 : Arr 10 Int) : Arr 10 (Arr 10 Int))) 119, box b3 ((carr 10 (carr 10 (ci .i64))).enc y7) 119] [roP pa0 (cPasture.enc a0)]) ?_ ?_
 ·skip
  refine CJ.block ?_
  refine CJ.loop (fun k F w1 => ∃ (y8 : Arr 10 (Arr 10 Int)) (y9 : List Spot) (y12 : Int) (A10 : Option Addr) (c11 : Nat), F = [(0, .pointer (some pa0)), (4, .pointer (some ⟨b2, 0, none⟩)), (5, .pointer (some ⟨b3, 0, none⟩)), (6, .slice A10 y9.length c11), (7, .int .i64 y12)] ∧ St w no w1 [box b2 ((carr 10 (carr 10 (ci .i64))).enc (Arr.mk' (Arr.mk' 0 : Arr 10 Int) : Arr 10 (Arr 10 Int))) 119, box b3 ((carr 10 (carr 10 (ci .i64))).enc y8) 119, rowC cSpot A10 c11 48 y9] [roP pa0 (cPasture.enc a0)] ∧ spec_l01Steps.l1 a0 k y8 y9 y12 = some j169) k (F' := [(0, .pointer (some pa0)), (4, .pointer (some ⟨b2, 0, none⟩)), (5, .pointer (some ⟨b3, 0, none⟩)), (6, .slice A6 ([a1] : List Spot).length (([a1] : List Spot).length)), (7, .int .i64 0)]) ⟨Z, Z, Z, Z, Z, trivial⟩ ⟨(aset (Arr.mk' (Arr.mk' 0 : Arr 10 Int) : Arr 10 (Arr 10 Int)) a1.Y.toNat (aset t4 a1.X.toNat 1)), ([a1] : List Spot), 0, A6, (([a1] : List Spot).length), Z, hS.pick [1, 2, 3] [0] Z, H⟩ ?_
  rintro k F w1 ⟨y8, y9, y12, A10, c11, rfl, hS, H⟩
  cases k with
  | zero => rw [spec_l01Steps.l1] at H; cases H
  | succ k =>
    rw [spec_l01Steps.l1] at H
    refine CJ.seq ?_
    refine CJ.seq (CJ.region ?_)
    refine OJ.pures oU 4 Z (OJ.nil (EJ.next ?_))
    refine CJ.cond Z (fun hb => ?_) (fun hb => ?_)
    · replace H := pif_t (of_decide_eq_true hb) H
      refine CJ.skip (EJ.next ?_)
      obtain ⟨j177, H, K177⟩ := pbind H
      refine CJ.cut (fun F w1 => ∃ (y13 : Arr 10 (Arr 10 Int)) (y14 : List Spot) (A15 : Option Addr) (c16 : Nat), (some (y13, y14) : Option ((Arr 10 (Arr 10 Int)) × (List Spot))) = some j177 ∧ F = [(0, .pointer (some pa0)), (4, .pointer (some ⟨b2, 0, none⟩)), (5, .pointer (some ⟨b3, 0, none⟩)), (6, .slice A15 y14.length c16), (7, .int .i64 y12)] ∧ St w no w1 [box b2 ((carr 10 (carr 10 (ci .i64))).enc (Arr.mk' (Arr.mk' 0 : Arr 10 Int) : Arr 10 (Arr 10 Int))) 119, box b3 ((carr 10 (carr 10 (ci .i64))).enc y13) 119, rowC cSpot A15 c16 48 y14] [roP pa0 (cPasture.enc a0)]) ?_ ?_
      · skip
        refine CJ.block ?_
        refine CJ.seq (CJ.region ?_)
        refine OJ.pures oU 2 Z ?_
        obtain ⟨t17, ht17, H⟩ := pbind H
        obtain ⟨ad17, e17⟩ := (hS.rd (i := 2) rfl).some' ht17
        refine OJ.st Z Z Z (SR.idxS oU oI Z Z Z Z e17 Z (getI_some ht17).1) ?_
        refine OJ.st Z Z Z (SR.load Z Z (fun w' hx => ldE oU oI Z Z Z (CA.ext ((hS.rd (i := 2) Z).at_ e17 ht17) hx) Z)) ?_
        refine OJ.ef Z Z Z (Ef.alloc hS oI Z Z (cSpot.enc (⟨0, 0⟩ : Spot)) Z) ?_
        rintro _ w1 ⟨b18, rfl, hS⟩
        refine OJ.es Z Z (Es.store oI hS (i := 3) Z Z Z Z Z Z (vs := cSpot.enc t17) Z (cSpot.len _) (cSpot.one _) (Nat.le_of_ble_eq_true Z) (cSpot.enc t17) Z) ?_
        intro w1 hS
        refine OJ.nil (EJ.next ?_)
        refine CJ.seq (CJ.region ?_)
        refine OJ.pures oU 1 Z ?_
        refine OJ.st Z Z Z (SR.load Z Z (fun w' hx => ldE oU oI Z Z Z (CA.ext (hS.cells (i := 3) Z) hx) Z)) ?_
        obtain ⟨t19, ht19, H⟩ := pbind H
        refine OJ.callF Z Z Z Z Z hb109 Z (spec_l01Beside.c k _ _ a0 (hS.ca (i := 0) Z) t17 _ ht19) ?_
        rintro _ w1 ⟨A20, c21, rfl, hs⟩
        replace hS := hS.addN hs
        refine OJ.pures oU 1 Z (OJ.nil (EJ.next ?_))
        refine CJ.seq (CJ.region ?_)
        refine OJ.pures oU 1 Z (OJ.nil (EJ.next ?_))
        obtain ⟨j179, H, K179⟩ := pbind H
        refine CJ.cut1 (fun F w1 => ∃ (y22 : Arr 10 (Arr 10 Int)) (y23 : List Spot) (A24 : Option Addr) (c25 : Nat), (some (y22, y23) : Option ((Arr 10 (Arr 10 Int)) × (List Spot))) = some j179 ∧ F = [(0, .pointer (some pa0)), (4, .pointer (some ⟨b2, 0, none⟩)), (5, .pointer (some ⟨b3, 0, none⟩)), (6, .slice A24 y23.length c25), (7, .int .i64 y12)] ∧ St w no w1 [box b2 ((carr 10 (carr 10 (ci .i64))).enc (Arr.mk' (Arr.mk' 0 : Arr 10 Int) : Arr 10 (Arr 10 Int))) 119, box b3 ((carr 10 (carr 10 (ci .i64))).enc y22) 119, rowC cSpot A24 c25 48 y23] [roP pa0 (cPasture.enc a0)]) ?_ ?_
        · skip
          refine CJ.block ?_
          refine CJ.loop (fun k F w1 => ∃ (y26 : Arr 10 (Arr 10 Int)) (y27 : List Spot) (y30 : Int) (A28 : Option Addr) (c29 : Nat), F = [(0, .pointer (some pa0)), (4, .pointer (some ⟨b2, 0, none⟩)), (5, .pointer (some ⟨b3, 0, none⟩)), (6, .slice A28 y27.length c29), (7, .int .i64 y12), (8, .pointer (some ⟨b18, 0, none⟩)), (9, .slice A20 t19.length c21), (10, .int .i64 y30)] ∧ St w no w1 [box b2 ((carr 10 (carr 10 (ci .i64))).enc (Arr.mk' (Arr.mk' 0 : Arr 10 Int) : Arr 10 (Arr 10 Int))) 119, box b3 ((carr 10 (carr 10 (ci .i64))).enc y26) 119, rowC cSpot A28 c29 48 y27, box b18 (cSpot.enc t17) 48, rowC cSpot A20 c21 48 t19] [roP pa0 (cPasture.enc a0)] ∧ spec_l01Steps.l2 t17 t19 k y26 y27 y30 = some j179) k (F' := [(0, .pointer (some pa0)), (4, .pointer (some ⟨b2, 0, none⟩)), (5, .pointer (some ⟨b3, 0, none⟩)), (6, .slice A10 y9.length c11), (7, .int .i64 y12), (8, .pointer (some ⟨b18, 0, none⟩)), (9, .slice A20 t19.length c21), (10, .int .i64 0)]) ⟨Z, Z, Z, Z, Z, Z, Z, Z, trivial⟩ ⟨y8, y9, 0, A10, c11, Z, hS.pick [0, 1, 2, 3, 4] [0] Z, H⟩ ?_
          rintro k F w1 ⟨y26, y27, y30, A28, c29, rfl, hS, H⟩
          cases k with
          | zero => rw [spec_l01Steps.l2] at H; cases H
          | succ k =>
            rw [spec_l01Steps.l2] at H
            refine CJ.seq ?_
            refine CJ.seq (CJ.region ?_)
            refine OJ.pures oU 4 Z (OJ.nil (EJ.next ?_))
            refine CJ.cond Z (fun hb => ?_) (fun hb => ?_)
            · replace H := pif_t (of_decide_eq_true hb) H
              refine CJ.skip (EJ.next ?_)
              refine CJ.seq ?_
              refine CJ.block ?_
              refine CJ.seq ?_
              refine CJ.draw [] [0, 1, 2, 3, 4, 5, 6, 7, 8, 9, 10, 11, 12, 13] mixed (by kernel_rfl) hS fun w1 hS => ?_
              refine DJ.pures oU 2 Z ?_
              obtain ⟨t31, ht31, H⟩ := pbind H
              obtain ⟨ad31, e31⟩ := (hS.rd (i := 4) rfl).some' ht31
              refine DJ.st Z Z Z Z Z (SR.idxS oU oI Z Z Z Z e31 Z (getI_some ht31).1) ?_
              refine DJ.st Z Z Z Z Z (SR.fieldAddr oU oI Z Z Z Z Z Z) ?_
              refine DJ.st Z Z Z Z Z (SR.load Z Z (fun w' hx => ld1 oU Z Z (CA.ext (CA.sub ((hS.rd (i := 4) Z).at_ e31 ht31) 1) hx) Z)) ?_
              refine DJ.pures oU 2 Z ?_
              obtain ⟨t32, ht32, H⟩ := pbind H
              obtain ⟨ad32, e32⟩ := (hS.rd (i := 4) rfl).some' ht32
              refine DJ.st Z Z Z Z Z (SR.idxS oU oI Z Z Z Z e32 Z (getI_some ht32).1) ?_
              refine DJ.st Z Z Z Z Z (SR.fieldAddr oU oI Z Z Z Z Z Z) ?_
              refine DJ.st Z Z Z Z Z (SR.load Z Z (fun w' hx => ld1 oU Z Z (CA.ext (CA.sub ((hS.rd (i := 4) Z).at_ e32 ht32) 0) hx) Z)) ?_
              obtain ⟨t33, ht33, H⟩ := pbind H
              refine DJ.st Z Z Z Z Z (SR.idxA oU oI Z Z Z Z Z (Arr.lt ht33)) ?_
              obtain ⟨t34, ht34, H⟩ := pbind H
              refine DJ.st Z Z Z Z Z (SR.idxA oU oI Z Z Z Z Z (Arr.lt ht34)) ?_
              refine DJ.st Z Z Z Z Z (SR.load Z Z (fun w' hx => ld1 oU Z Z (CA.ext (CA.idx (CA.idx (hS.cells (i := 1) Z) ht33) ht34) hx) Z)) ?_
              refine DJ.pures oU 1 Z ?_
              refine DJ.nil (EJ.next ?_)
              refine CJ.cond Z (fun hb => ?_) (fun hb => ?_)
              · replace H := pif_t (of_decide_eq_true hb) H
                refine CJ.seq ?_
                refine CJ.draw [] [0, 1, 2, 3, 4, 5, 6, 7, 8, 9, 10, 11, 12, 13, 14, 15, 16, 17, 18, 19, 20] mixed (by kernel_rfl) hS fun w1 hS => ?_
                refine DJ.pures oU 2 Z ?_
                obtain ⟨t35, ht35, H⟩ := pbind H
                obtain ⟨ad35, e35⟩ := (hS.rd (i := 4) rfl).some' ht35
                refine DJ.st Z Z Z Z Z (SR.idxS oU oI Z Z Z Z e35 Z (getI_some ht35).1) ?_
                refine DJ.st Z Z Z Z Z (SR.fieldAddr oU oI Z Z Z Z Z Z) ?_
                refine DJ.st Z Z Z Z Z (SR.load Z Z (fun w' hx => ld1 oU Z Z (CA.ext (CA.sub ((hS.rd (i := 4) Z).at_ e35 ht35) 1) hx) Z)) ?_
                refine DJ.pures oU 2 Z ?_
                obtain ⟨t36, ht36, H⟩ := pbind H
                obtain ⟨ad36, e36⟩ := (hS.rd (i := 4) rfl).some' ht36
                refine DJ.st Z Z Z Z Z (SR.idxS oU oI Z Z Z Z e36 Z (getI_some ht36).1) ?_
                refine DJ.st Z Z Z Z Z (SR.fieldAddr oU oI Z Z Z Z Z Z) ?_
                refine DJ.st Z Z Z Z Z (SR.load Z Z (fun w' hx => ld1 oU Z Z (CA.ext (CA.sub ((hS.rd (i := 4) Z).at_ e36 ht36) 0) hx) Z)) ?_
                refine DJ.st Z Z Z Z Z (SR.fieldAddr oU oI Z Z Z Z Z Z) ?_
                refine DJ.st Z Z Z Z Z (SR.load Z Z (fun w' hx => ld1 oU Z Z (CA.ext (CA.sub (hS.cells (i := 3) Z) 1) hx) Z)) ?_
                refine DJ.st Z Z Z Z Z (SR.fieldAddr oU oI Z Z Z Z Z Z) ?_
                refine DJ.st Z Z Z Z Z (SR.load Z Z (fun w' hx => ld1 oU Z Z (CA.ext (CA.sub (hS.cells (i := 3) Z) 0) hx) Z)) ?_
                obtain ⟨t37, ht37, H⟩ := pbind H
                refine DJ.st Z Z Z Z Z (SR.idxA oU oI Z Z Z Z Z (Arr.lt ht37)) ?_
                obtain ⟨t38, ht38, H⟩ := pbind H
                refine DJ.st Z Z Z Z Z (SR.idxA oU oI Z Z Z Z Z (Arr.lt ht38)) ?_
                refine DJ.st Z Z Z Z Z (SR.load Z Z (fun w' hx => ld1 oU Z Z (CA.ext (CA.idx (CA.idx (hS.cells (i := 1) Z) ht37) ht38) hx) Z)) ?_
                refine DJ.pures oU 1 Z ?_
                obtain ⟨t39, ht39, H⟩ := pbind H
                refine DJ.st Z Z Z Z Z (SR.idxA oU oI Z Z Z Z Z (Arr.lt ht39)) ?_
                obtain ⟨t40, ht40, H⟩ := pbind H
                refine DJ.st Z Z Z Z Z (SR.idxA oU oI Z Z Z Z Z (Arr.lt ht40)) ?_
                refine DJ.es rfl rfl rfl rfl (Es.put oI hS (i := 1) rfl rfl rfl rfl rfl (vs := (ci .i64).enc (IntKind.i64.wrap (t38 + 1))) rfl rfl (one1 rfl) (Put.idx (Put.idx (Put.all (ci .i64) t40 (IntKind.i64.wrap (t38 + 1))) ht40) ht39) (by (try simp only [add_lit, Nat.add_assoc, Nat.zero_add, Nat.add_zero]) <;> rfl)) ?_
                intro w1 hS
                refine DJ.nil (EJ.next ?_)
                refine CJ.region ?_
                refine OJ.pures oU 3 Z ?_
                obtain ⟨t41, ht41, H⟩ := pbind H
                obtain ⟨ad41, e41⟩ := (hS.rd (i := 4) rfl).some' ht41
                refine OJ.st Z Z Z (SR.idxS oU oI Z Z Z Z e41 Z (getI_some ht41).1) ?_
                refine OJ.st Z Z Z (SR.load Z Z (fun w' hx => ldE oU oI Z Z Z (CA.ext ((hS.rd (i := 4) Z).at_ e41 ht41) hx) Z)) ?_
                refine OJ.ef Z Z Z (Ef.lit oU oI hS (C := cSpot) Z Z Z Z Z Z ([t41] : List Spot) Z Z Z Z) ?_
                rintro _ w1 ⟨A42, rfl, hS⟩
                obtain ⟨u43, hu43, H⟩ := pbind H
                refine OJ.ew Z Z Z (Ew.append oU oI (C := cSpot) (xs := y27) (ys := ([t41] : List Spot)) hS (i := 2) Z Z Z Z Z Z Z Z Z Z Z Z Z (hS.rd (i := 5) Z) (chk_some hu43)) ?_
                rintro _ w1 ⟨A44, c45, rfl, hS⟩
                refine OJ.pures oU 1 Z ?_
                refine OJ.nil (EJ.blk (EJ.next ?_))
                refine CJ.region ?_
                refine OJ.pures oU 3 Z ?_
                refine OJ.nil ?_
                exact EJ.round k (F' := [(0, .pointer (some pa0)), (4, .pointer (some ⟨b2, 0, none⟩)), (5, .pointer (some ⟨b3, 0, none⟩)), (6, .slice A44 (y27 ++ ([t41] : List Spot)).length c45), (7, .int .i64 y12), (8, .pointer (some ⟨b18, 0, none⟩)), (9, .slice A20 t19.length c21), (10, .int .i64 (IntKind.i64.wrap (y30 + 1)))]) ⟨Z, Z, Z, Z, Z, Z, Z, Z, trivial⟩ (Nat.lt_succ_self _) ⟨(aset y26 t35.Y.toNat (aset t39 t36.X.toNat (IntKind.i64.wrap (t38 + 1)))), (y27 ++ ([t41] : List Spot)), (IntKind.i64.wrap (y30 + 1)), A44, c45, Z, hS.pick [0, 1, 2, 3, 4] [0] Z, H⟩
              · replace H := pif_f (of_decide_eq_false hb) H
                refine CJ.skip (EJ.blk (EJ.next ?_))
                refine CJ.region ?_
                refine OJ.pures oU 3 Z ?_
                refine OJ.nil ?_
                exact EJ.round k (F' := [(0, .pointer (some pa0)), (4, .pointer (some ⟨b2, 0, none⟩)), (5, .pointer (some ⟨b3, 0, none⟩)), (6, .slice A28 y27.length c29), (7, .int .i64 y12), (8, .pointer (some ⟨b18, 0, none⟩)), (9, .slice A20 t19.length c21), (10, .int .i64 (IntKind.i64.wrap (y30 + 1)))]) ⟨Z, Z, Z, Z, Z, Z, Z, Z, trivial⟩ (Nat.lt_succ_self _) ⟨y26, y27, (IntKind.i64.wrap (y30 + 1)), A28, c29, Z, hS.pick [0, 1, 2, 3, 4] [0] Z, H⟩
            · replace H := pif_f (of_decide_eq_false hb) H
              refine CJ.exit (EJ.skE (EJ.skE (EJ.hit (?_))))
              exact EJ.meet (F' := [(0, .pointer (some pa0)), (4, .pointer (some ⟨b2, 0, none⟩)), (5, .pointer (some ⟨b3, 0, none⟩)), (6, .slice A28 y27.length c29), (7, .int .i64 y12)]) ⟨Z, Z, Z, Z, Z, trivial⟩ ⟨y26, y27, A28, c29, H, Z, hS.pick [0, 1, 2] [0] Z⟩
        · rintro F w1 ⟨y22, y23, A24, c25, he, rfl, hS⟩
          obtain rfl := Option.some.inj he
          have H := K179
          refine EJ.blk (?_)
          exact EJ.meet (F' := [(0, .pointer (some pa0)), (4, .pointer (some ⟨b2, 0, none⟩)), (5, .pointer (some ⟨b3, 0, none⟩)), (6, .slice A24 y23.length c25), (7, .int .i64 y12)]) ⟨Z, Z, Z, Z, Z, trivial⟩ ⟨y22, y23, A24, c25, H, Z, hS.pick [0, 1, 2] [0] Z⟩
      · rintro F w1 ⟨y13, y14, A15, c16, he, rfl, hS⟩
        obtain rfl := Option.some.inj he
        have H := K177
        refine CJ.region ?_
        refine OJ.pures oU 3 Z ?_
        refine OJ.nil ?_
        exact EJ.round k (F' := [(0, .pointer (some pa0)), (4, .pointer (some ⟨b2, 0, none⟩)), (5, .pointer (some ⟨b3, 0, none⟩)), (6, .slice A15 y14.length c16), (7, .int .i64 (IntKind.i64.wrap (y12 + 1)))]) ⟨Z, Z, Z, Z, Z, trivial⟩ (Nat.lt_succ_self _) ⟨y13, y14, (IntKind.i64.wrap (y12 + 1)), A15, c16, Z, hS.pick [0, 1, 2] [0] Z, H⟩
    · replace H := pif_f (of_decide_eq_false hb) H
      refine CJ.exit (EJ.skE (EJ.skE (EJ.hit (?_))))
      exact EJ.meet (F' := [(4, .pointer (some ⟨b2, 0, none⟩)), (5, .pointer (some ⟨b3, 0, none⟩))]) ⟨Z, Z, trivial⟩ ⟨y8, H, Z, hS.pick [0, 1] [0] Z⟩
 rintro F w1 ⟨y7, he, rfl, hS⟩
 obtain rfl := Option.some.inj he
 have H := K169
 refine EJ.next ?_
 refine CJ.seq (CJ.region ?_)
 refine OJ.st Z Z Z (SR.load Z Z (fun w' hx => ldE oU oI Z Z Z (CA.ext (hS.cells (i := 1) Z) hx) Z)) ?_
 refine OJ.es rfl rfl (Es.put oI hS (i := 0) rfl rfl rfl rfl rfl (vs := (carr 10 (carr 10 (ci .i64))).enc y7) rfl ((carr 10 (carr 10 (ci .i64))).len _) ((carr 10 (carr 10 (ci .i64))).one _) (Put.all (carr 10 (carr 10 (ci .i64))) (Arr.mk' (Arr.mk' 0 : Arr 10 Int) : Arr 10 (Arr 10 Int)) y7) (by (try simp only [add_lit, Nat.add_assoc, Nat.zero_add, Nat.add_zero]) <;> rfl)) ?_
 intro w1 hS
 refine OJ.nil (EJ.next ?_)
 refine CJ.ret (?_)
 obtain rfl := Option.some.inj H
 exact EJ.fin Z (.cell Z (ldE oU oI Z Z Z (hS.cells (i := 0) Z) Z) .nil) ⟨Z, hS.ext⟩

def spec_l01Yard.l2 (a0 : Pasture) (t2 : Arr 10 (Arr 10 Int)) (y11 : Int) : Nat → (List Spot) → Int → Option (List Spot)
  | 0, _, _ => none
  | k + 1, y18, y21 => if y21 < a0.Wide then ((getI t2.l y11).bind fun t22 => (getI t22.l y21).bind fun t23 => if 0 < t23 then ((chk (y18.length + ([(⟨y21, y11⟩ : Spot)] : List Spot).length ≤ 4294967296)).bind fun u25 => spec_l01Yard.l2 a0 t2 y11 k (y18 ++ ([(⟨y21, y11⟩ : Spot)] : List Spot)) (IntKind.i8.wrap (y21 + 1))) else (spec_l01Yard.l2 a0 t2 y11 k y18 (IntKind.i8.wrap (y21 + 1)))) else (some y18)
def spec_l01Yard.l1 (a0 : Pasture) (t2 : Arr 10 (Arr 10 Int)) : Nat → (List Spot) → Int → Option (List Spot)
  | 0, _, _ => none
  | k + 1, y8, y11 => if y11 < a0.High then (((spec_l01Yard.l2 a0 t2 y11 k y8 0).bind fun y15 => some y15).bind fun y12 => spec_l01Yard.l1 a0 t2 k y12 (IntKind.i8.wrap (y11 + 1))) else (some y8)
def spec_l01Yard.f (k : Nat) (a0 : Pasture) (a1 : Spot) : Option (List Spot) := (spec_l01Steps.f k a0 a1).bind fun t2 => (spec_l01Yard.l1 a0 t2 k ([] : List Spot) 0).bind fun y5 => some y5
theorem spec_l01Yard.c (k : Nat) (w : World) (pa0 : Addr) (a0 : Pasture) (hp0 : CA w pa0 (cPasture.enc a0)) (a1 : Spot) (r : List Spot) (H : spec_l01Yard.f k a0 a1 = some r) :
 CV Tryz.prog 98 [.pointer (some pa0), .agg (cSpot.enc a1).toArray].toArray w fun v w' => ∃ (A0 : Option Addr) (c0 : Nat), v = .slice A0 r.length c0 ∧ St w no w' [rowC cSpot A0 c0 48 r] [] := by
 have hS := ((St.init w no).paramP pa0 (cPasture.enc a0) hp0)
 unfold spec_l01Yard.f at H
 refine CV.body Tryz.func98 Z Tryz.ntmps98 Z ?_
 refine CJ.seq (CJ.region ?_)
 refine OJ.ef Z Z Z (Ef.box hS Z Z (cSpot.enc a1) Z) ?_
 rintro _ w1 ⟨b1, rfl, hS⟩
 refine OJ.pures oU 1 Z (OJ.nil (EJ.next ?_))
 refine CJ.seq (CJ.region ?_)
 refine OJ.pures oU 1 Z ?_
 refine OJ.st Z Z Z (SR.load Z Z (fun w' hx => ldE oU oI Z Z Z (CA.ext (hS.cells (i := 0) Z) hx) Z)) ?_
 obtain ⟨t2, ht2, H⟩ := pbind H
 refine OJ.callF Z Z Z Z Z hb72 Z (spec_l01Steps.c k _ _ a0 (hS.ca (i := 0) Z) a1 _ ht2) ?_
 rintro _ w1 ⟨rfl, hs⟩
 replace hS := hS.grow hs
 refine OJ.ef rfl rfl rfl (Ef.alloc hS oI rfl rfl ((carr 10 (carr 10 (ci .i64))).enc (Arr.mk' (Arr.mk' 0 : Arr 10 Int) : Arr 10 (Arr 10 Int))) (by kernel_rfl)) ?_
 rintro _ w1 ⟨b3, rfl, hS⟩
 refine OJ.es rfl rfl (Es.put oI hS (i := 1) rfl rfl rfl rfl rfl (vs := (carr 10 (carr 10 (ci .i64))).enc t2) rfl ((carr 10 (carr 10 (ci .i64))).len _) ((carr 10 (carr 10 (ci .i64))).one _) (Put.all (carr 10 (carr 10 (ci .i64))) (Arr.mk' (Arr.mk' 0 : Arr 10 Int) : Arr 10 (Arr 10 Int)) t2) (by (try simp only [add_lit, Nat.add_assoc, Nat.zero_add, Nat.add_zero]) <;> rfl)) ?_
 intro w1 hS
 refine OJ.nil (EJ.next ?_)
 refine CJ.seq (CJ.region ?_)
 refine OJ.ef Z Z Z (Ef.lit oU oI hS (C := cSpot) Z Z Z Z Z Z ([] : List Spot) Z Z Z Z) ?_
 rintro _ w1 ⟨A4, rfl, hS⟩
 refine OJ.pures oU 1 Z (OJ.nil (EJ.next ?_))
 refine CJ.seq ?_
 refine CJ.seq (CJ.region ?_)
 refine OJ.pures oU 1 Z (OJ.nil (EJ.next ?_))
 obtain ⟨j180, H, K180⟩ := pbind H
 refine CJ.cut1 (fun F w1 => ∃ (y5 : List Spot) (A6 : Option Addr) (c7 : Nat), (some y5 : Option (List Spot)) = some j180 ∧ F = [(6, .slice A6 y5.length c7)] ∧ St w no w1 [rowC cSpot A6 c7 48 y5] [roP pa0 (cPasture.enc a0)]) ?_ ?_
 ·skip
  refine CJ.block ?_
  refine CJ.loop (fun k F w1 => ∃ (y8 : List Spot) (y11 : Int) (A9 : Option Addr) (c10 : Nat), F = [(0, .pointer (some pa0)), (5, .pointer (some ⟨b3, 0, none⟩)), (6, .slice A9 y8.length c10), (7, .int .i8 y11)] ∧ St w no w1 [box b3 ((carr 10 (carr 10 (ci .i64))).enc t2) 119, rowC cSpot A9 c10 48 y8] [roP pa0 (cPasture.enc a0)] ∧ spec_l01Yard.l1 a0 t2 k y8 y11 = some j180) k (F' := [(0, .pointer (some pa0)), (5, .pointer (some ⟨b3, 0, none⟩)), (6, .slice A4 ([] : List Spot).length (([] : List Spot).length)), (7, .int .i8 0)]) ⟨Z, Z, Z, Z, trivial⟩ ⟨([] : List Spot), 0, A4, (([] : List Spot).length), Z, hS.pick [1, 2] [0] Z, H⟩ ?_
  rintro k F w1 ⟨y8, y11, A9, c10, rfl, hS, H⟩
  cases k with
  | zero => rw [spec_l01Yard.l1] at H; cases H
  | succ k =>
    rw [spec_l01Yard.l1] at H
    refine CJ.seq ?_
    refine CJ.seq (CJ.region ?_)
    refine OJ.pures oU 3 Z ?_
    refine OJ.st Z Z Z (SR.fieldAddr oU oI Z Z Z Z Z Z) ?_
    refine OJ.st Z Z Z (SR.load Z Z (fun w' hx => ld1 oU Z Z (CA.ext (CA.fld (hS.ca (i := 0) Z) (mid_part (fe_Pasture_1 _) (fl_Pasture_1 _) ((ci .i8).len _))) hx) Z)) ?_
    refine OJ.pures oU 1 Z (OJ.nil (EJ.next ?_))
    refine CJ.cond Z (fun hb => ?_) (fun hb => ?_)
    · replace H := pif_t (of_decide_eq_true hb) H
      refine CJ.skip (EJ.next ?_)
      obtain ⟨j187, H, K187⟩ := pbind H
      refine CJ.cut (fun F w1 => ∃ (y12 : List Spot) (A13 : Option Addr) (c14 : Nat), (some y12 : Option (List Spot)) = some j187 ∧ F = [(0, .pointer (some pa0)), (5, .pointer (some ⟨b3, 0, none⟩)), (6, .slice A13 y12.length c14), (7, .int .i8 y11)] ∧ St w no w1 [box b3 ((carr 10 (carr 10 (ci .i64))).enc t2) 119, rowC cSpot A13 c14 48 y12] [roP pa0 (cPasture.enc a0)]) ?_ ?_
      · skip
        refine CJ.block ?_
        refine CJ.seq (CJ.region ?_)
        refine OJ.pures oU 1 Z (OJ.nil (EJ.next ?_))
        obtain ⟨j189, H, K189⟩ := pbind H
        refine CJ.cut1 (fun F w1 => ∃ (y15 : List Spot) (A16 : Option Addr) (c17 : Nat), (some y15 : Option (List Spot)) = some j189 ∧ F = [(0, .pointer (some pa0)), (5, .pointer (some ⟨b3, 0, none⟩)), (6, .slice A16 y15.length c17), (7, .int .i8 y11)] ∧ St w no w1 [box b3 ((carr 10 (carr 10 (ci .i64))).enc t2) 119, rowC cSpot A16 c17 48 y15] [roP pa0 (cPasture.enc a0)]) ?_ ?_
        · skip
          refine CJ.block ?_
          refine CJ.loop (fun k F w1 => ∃ (y18 : List Spot) (y21 : Int) (A19 : Option Addr) (c20 : Nat), F = [(0, .pointer (some pa0)), (5, .pointer (some ⟨b3, 0, none⟩)), (6, .slice A19 y18.length c20), (7, .int .i8 y11), (8, .int .i8 y21)] ∧ St w no w1 [box b3 ((carr 10 (carr 10 (ci .i64))).enc t2) 119, rowC cSpot A19 c20 48 y18] [roP pa0 (cPasture.enc a0)] ∧ spec_l01Yard.l2 a0 t2 y11 k y18 y21 = some j189) k (F' := [(0, .pointer (some pa0)), (5, .pointer (some ⟨b3, 0, none⟩)), (6, .slice A9 y8.length c10), (7, .int .i8 y11), (8, .int .i8 0)]) ⟨Z, Z, Z, Z, Z, trivial⟩ ⟨y8, 0, A9, c10, Z, hS.pick [0, 1] [0] Z, H⟩ ?_
          rintro k F w1 ⟨y18, y21, A19, c20, rfl, hS, H⟩
          cases k with
          | zero => rw [spec_l01Yard.l2] at H; cases H
          | succ k =>
            rw [spec_l01Yard.l2] at H
            refine CJ.seq ?_
            refine CJ.seq (CJ.region ?_)
            refine OJ.pures oU 3 Z ?_
            refine OJ.st Z Z Z (SR.fieldAddr oU oI Z Z Z Z Z Z) ?_
            refine OJ.st Z Z Z (SR.load Z Z (fun w' hx => ld1 oU Z Z (CA.ext (CA.fld (hS.ca (i := 0) Z) (mid_part (fe_Pasture_0 _) (fl_Pasture_0 _) ((ci .i8).len _))) hx) Z)) ?_
            refine OJ.pures oU 1 Z (OJ.nil (EJ.next ?_))
            refine CJ.cond Z (fun hb => ?_) (fun hb => ?_)
            · replace H := pif_t (of_decide_eq_true hb) H
              refine CJ.skip (EJ.next ?_)
              refine CJ.seq ?_
              refine CJ.block ?_
              refine CJ.seq (CJ.region ?_)
              refine OJ.pures oU 2 Z ?_
              obtain ⟨t22, ht22, H⟩ := pbind H
              refine OJ.st Z Z Z (SR.idxA oU oI Z Z Z Z Z (Arr.lt ht22)) ?_
              obtain ⟨t23, ht23, H⟩ := pbind H
              refine OJ.st Z Z Z (SR.idxA oU oI Z Z Z Z Z (Arr.lt ht23)) ?_
              refine OJ.st Z Z Z (SR.load Z Z (fun w' hx => ld1 oU Z Z (CA.ext (CA.idx (CA.idx (hS.cells (i := 0) Z) ht22) ht23) hx) Z)) ?_
              refine OJ.pures oU 1 Z (OJ.nil (EJ.next ?_))
              refine CJ.cond Z (fun hb => ?_) (fun hb => ?_)
              · replace H := pif_t (of_decide_eq_true hb) H
                refine CJ.region ?_
                refine OJ.pures oU 3 Z ?_
                refine OJ.st Z Z Z (SR.build (C := cSpot) oU oI Z Z Z (zs := [.int .i8 0, .int .i8 0]) Z Z Z (⟨y21, y11⟩ : Spot) Z) ?_
                refine OJ.ef Z Z Z (Ef.lit oU oI hS (C := cSpot) Z Z Z Z Z Z ([(⟨y21, y11⟩ : Spot)] : List Spot) Z Z Z Z) ?_
                rintro _ w1 ⟨A24, rfl, hS⟩
                obtain ⟨u25, hu25, H⟩ := pbind H
                refine OJ.ew Z Z Z (Ew.append oU oI (C := cSpot) (xs := y18) (ys := ([(⟨y21, y11⟩ : Spot)] : List Spot)) hS (i := 1) Z Z Z Z Z Z Z Z Z Z Z Z Z (hS.rd (i := 2) Z) (chk_some hu25)) ?_
                rintro _ w1 ⟨A26, c27, rfl, hS⟩
                refine OJ.pures oU 1 Z ?_
                refine OJ.nil (EJ.blk (EJ.next ?_))
                refine CJ.region ?_
                refine OJ.pures oU 3 Z ?_
                refine OJ.nil ?_
                exact EJ.round k (F' := [(0, .pointer (some pa0)), (5, .pointer (some ⟨b3, 0, none⟩)), (6, .slice A26 (y18 ++ ([(⟨y21, y11⟩ : Spot)] : List Spot)).length c27), (7, .int .i8 y11), (8, .int .i8 (IntKind.i8.wrap (y21 + 1)))]) ⟨Z, Z, Z, Z, Z, trivial⟩ (Nat.lt_succ_self _) ⟨(y18 ++ ([(⟨y21, y11⟩ : Spot)] : List Spot)), (IntKind.i8.wrap (y21 + 1)), A26, c27, Z, hS.pick [0, 1] [0] Z, H⟩
              · replace H := pif_f (of_decide_eq_false hb) H
                refine CJ.skip (EJ.blk (EJ.next ?_))
                refine CJ.region ?_
                refine OJ.pures oU 3 Z ?_
                refine OJ.nil ?_
                exact EJ.round k (F' := [(0, .pointer (some pa0)), (5, .pointer (some ⟨b3, 0, none⟩)), (6, .slice A19 y18.length c20), (7, .int .i8 y11), (8, .int .i8 (IntKind.i8.wrap (y21 + 1)))]) ⟨Z, Z, Z, Z, Z, trivial⟩ (Nat.lt_succ_self _) ⟨y18, (IntKind.i8.wrap (y21 + 1)), A19, c20, Z, hS.pick [0, 1] [0] Z, H⟩
            · replace H := pif_f (of_decide_eq_false hb) H
              refine CJ.exit (EJ.skE (EJ.skE (EJ.hit (?_))))
              exact EJ.meet (F' := [(0, .pointer (some pa0)), (5, .pointer (some ⟨b3, 0, none⟩)), (6, .slice A19 y18.length c20), (7, .int .i8 y11)]) ⟨Z, Z, Z, Z, trivial⟩ ⟨y18, A19, c20, H, Z, hS.pick [0, 1] [0] Z⟩
        · rintro F w1 ⟨y15, A16, c17, he, rfl, hS⟩
          obtain rfl := Option.some.inj he
          have H := K189
          refine EJ.blk (?_)
          exact EJ.meet (F' := [(0, .pointer (some pa0)), (5, .pointer (some ⟨b3, 0, none⟩)), (6, .slice A16 y15.length c17), (7, .int .i8 y11)]) ⟨Z, Z, Z, Z, trivial⟩ ⟨y15, A16, c17, H, Z, hS.pick [0, 1] [0] Z⟩
      · rintro F w1 ⟨y12, A13, c14, he, rfl, hS⟩
        obtain rfl := Option.some.inj he
        have H := K187
        refine CJ.region ?_
        refine OJ.pures oU 3 Z ?_
        refine OJ.nil ?_
        exact EJ.round k (F' := [(0, .pointer (some pa0)), (5, .pointer (some ⟨b3, 0, none⟩)), (6, .slice A13 y12.length c14), (7, .int .i8 (IntKind.i8.wrap (y11 + 1)))]) ⟨Z, Z, Z, Z, trivial⟩ (Nat.lt_succ_self _) ⟨y12, (IntKind.i8.wrap (y11 + 1)), A13, c14, Z, hS.pick [0, 1] [0] Z, H⟩
    · replace H := pif_f (of_decide_eq_false hb) H
      refine CJ.exit (EJ.skE (EJ.skE (EJ.hit (?_))))
      exact EJ.meet (F' := [(6, .slice A9 y8.length c10)]) ⟨Z, trivial⟩ ⟨y8, A9, c10, H, Z, hS.pick [1] [0] Z⟩
 rintro F w1 ⟨y5, A6, c7, he, rfl, hS⟩
 obtain rfl := Option.some.inj he
 have H := K180
 refine EJ.next ?_
 refine CJ.seq (CJ.region ?_)
 refine OJ.pures oU 2 Z (OJ.nil (EJ.next ?_))
 refine CJ.ret (?_)
 obtain rfl := Option.some.inj H
 exact EJ.fin Z (.tmp Z .nil) ⟨A6, c7, Z, hS.pick [0] [] Z⟩
end Go.Proofs.YtokanemjghfadaaGreatDoor
