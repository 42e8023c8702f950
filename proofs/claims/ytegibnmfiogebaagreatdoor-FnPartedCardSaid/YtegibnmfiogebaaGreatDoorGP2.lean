/-
  What the functions come to.
-/
import Derived.Test.YtegibnmfiogebaaGreatDoorGP1
namespace Go.Proofs.YtegibnmfiogebaaGreatDoor
open G
set_option linter.unusedVariables false
set_option linter.unusedSimpArgs false
set_option maxRecDepth 100000
set_option maxHeartbeats 4000000
def q1z.l1 (a0 : Pasture) (a1 : Arr 10 (Arr 10 Bool)) (t1 : List Hurdle) : Nat → (List Hurdle) → Int → Option (List Hurdle)
  | 0, _, _ => none
  | k + 1, y8, y11 => if y11 < (t1.length : Int) then ((getI t1 y11).bind fun t12 => (getI t1 y11).bind fun t13 => (q25.f t13).bind fun t14 => (q0y.f t12.At t14).bind fun t15 => ((getI t1 y11).bind fun t21 => (getI t1 y11).bind fun t22 => (getI a1.l t21.At.Y).bind fun t23 => (getI t23.l t22.At.X).bind fun t24 => (getI a1.l t15.Y).bind fun t25 => (getI t25.l t15.X).bind fun t26 => if t24 ≠ t26 then ((getI t1 y11).bind fun t27 => (q2s.f a0 t27).bind fun t28 => some (!t28)) else (some false)).bind fun y20 => if y20 = true then ((getI t1 y11).bind fun t29 => (chk (y8.length + ([t29] : List Hurdle).length ≤ 4294967296)).bind fun u31 => q1z.l1 a0 a1 t1 k (y8 ++ ([t29] : List Hurdle)) (IntKind.i64.wrap (y11 + 1))) else (q1z.l1 a0 a1 t1 k y8 (IntKind.i64.wrap (y11 + 1)))) else (some y8)
def q1z.f (k : Nat) (a0 : Pasture) (a1 : Arr 10 (Arr 10 Bool)) : Option (List Hurdle) := (q11.f k a0).bind fun t1 => (q1z.l1 a0 a1 t1 k ([] : List Hurdle) 0).bind fun y5 => some y5
theorem q1z.c {k w} (pa0 : Addr) (a0 : Pasture) (hp0 : CA w pa0 (cPasture.enc a0)) (pa1 : Addr) (a1 : Arr 10 (Arr 10 Bool)) (hp1 : CA w pa1 ((carr 10 (carr 10 cb)).enc a1)) (r : List Hurdle) (H : q1z.f k a0 a1 = some r) :
 CV Tryz.prog 34 [.pointer (some pa0), .pointer (some pa1)].toArray w fun v w' => ∃ (A0 : Option Addr) (c0 : Nat), v = .slice A0 r.length c0 ∧ St w no w' [rowC cHurdle A0 c0 58 r] [] := by
 have hS := (((St.init w no).paramP pa0 (cPasture.enc a0) hp0).paramP pa1 ((carr 10 (carr 10 cb)).enc a1) hp1)
 unfold q1z.f at H
 refine CV.body Tryz.func34 Z Tryz.ntmps34 Z ?_
 refine GO ?_
 obtain ⟨t1, ht1, H⟩ := pbind H
 refine OC hb82 (q11.c _ a0 (hS.ca (i := 0) Z) _ ht1) ?_
 rintro _ w1 ⟨A2, c3, rfl, hs⟩
 replace hS := hS.addN hs
 refine GO ?_
 refine OF (EL hS cHurdle ([] : List Hurdle)) ?_
 rintro _ w1 ⟨A4, rfl, hS⟩
 refine GO ?_
 obtain ⟨j236, H, K236⟩ := pbind H
 refine CJ.cut1 (fun F w1 => ∃ y5 A6 c7, some y5 = some j236 ∧ F = [(6, sl A6 y5 c7)] ∧ St w no w1 [rowC cHurdle A6 c7 58 y5] [roP pa0 (cPasture.enc a0), roP pa1 ((carr 10 (carr 10 cb)).enc a1)]) ?_ ?_
 refine CJ.block ?_
 refine LQ (fun k F w1 => ∃ (y8 : List Hurdle) (y11 : Int) (A9 c10 : _), F = [(0, .pointer (some pa0)), (1, .pointer (some pa1)), (5, sl A2 t1 c3), (6, sl A9 y8 c10), (7, i6 y11)] ∧ St w no w1 [rowC cHurdle A2 c3 58 t1, rowC cHurdle A9 c10 58 y8] [roP pa0 (cPasture.enc a0), roP pa1 ((carr 10 (carr 10 cb)).enc a1)] ∧ q1z.l1 a0 a1 t1 k y8 y11 = some j236) k H hS ?_
 rintro k F w1 ⟨y8, y11, A9, c10, rfl, hS, H⟩
 rw [q1z.l1] at H
 refine GO ?_
 refine CP H (fun H => GO ?_) (fun H => ?_)
 refine CJ.block ?_
 refine GO ?_
 obtain ⟨t12, ht12, H⟩ := pbind H
 obtain ⟨t13, ht13, H⟩ := pbind H
 obtain ⟨t14, ht14, H⟩ := pbind H
 obtain ⟨t15, ht15, H⟩ := pbind H
 refine CJ.cut1 (fun F w1 => ∃ (b16 : Nat), F = [(0, .pointer (some pa0)), (1, .pointer (some pa1)), (5, sl A2 t1 c3), (6, sl A9 y8 c10), (7, i6 y11), (8, pt b16)] ∧ St w no w1 [rowC cHurdle A2 c3 58 t1, rowC cHurdle A9 c10 58 y8, box b16 (cSpot.enc t15) 55] [roP pa0 (cPasture.enc a0), roP pa1 ((carr 10 (carr 10 cb)).enc a1)]) ?_ ?_
 refine CJ.drawT [] [9, 10, 11, 12] (.one 0 (.one 1 (.one 2 (.one 3 (.one 4 (.one 5 (.one 6 (.one 7 (.one 8 (.br (.alt 9 (.br (.alt 10 (.one 11 (.one 12 (.fin))) (.alt 11 (.one 10 (.one 12 (.fin))) (.stop)))) (.alt 11 (.one 9 (.one 10 (.one 12 (.fin)))) (.stop))))))))))))) mixed (by kernel_rfl) hS [0] fun w1 hS hY hV => ?_
 refine GO ?_
 obtain ⟨ad12, e12⟩ := (rC hS 0 Z).some' ht12
 refine TP (fun _ => SI e12 (getI_some ht12).1) ?_
 refine TP (fun _ => SF) ?_
 refine TJ.st hY Z Z Z Z Z (fun w2 hY => SR.load Z Z (fun w' hx => ldN oU oI Z Z Z (CA.ext (CA.sub (((hV w2 hY).rdR (i := 2) Z).at_ e12 ht12) 0) hx) (cSpot.len _) Z)) ?_
 refine GO ?_
 obtain ⟨ad13, e13⟩ := (rC hS 0 Z).some' ht13
 refine TP (fun _ => SI e13 (getI_some ht13).1) ?_
 refine TJ.st hY Z Z Z Z Z (fun w2 hY => SR.load Z Z (fun w' hx => ldE oU oI Z Z Z (CA.ext (((hV w2 hY).rdR (i := 2) Z).at_ e13 ht13) hx) Z)) ?_
 refine TJ.br ?_
 refine TJ.alt ?_ ?_
 refine TJ.callF hY rfl rfl rfl rfl rfl rfl rfl hb44 rfl (q25.c t13 _ ht14) (by rintro v w' ⟨rfl, hs⟩; exact hs) ?_
 rintro _ w1 hY ⟨rfl, hs⟩
 replace hS := hS.grow hs
 refine TJ.br ?_
 refine TJ.alt ?_ ?_
 refine TJ.callF hY rfl rfl rfl rfl rfl rfl rfl hb67 rfl (q0y.c t12.At _ ht15) (by rintro v w' ⟨rfl, hs⟩; exact hs) ?_
 rintro _ w1 hY ⟨rfl, hs⟩
 replace hS := hS.grow hs
 refine TF hY (EA hS (cSpot.enc (⟨0, 0⟩ : Spot))) ?_
 rintro _ w1 hY ⟨b17, rfl, hS⟩
 have hO := hS
 refine TJ.es rfl rfl rfl rfl (Es.store oI (hS.inn [0]) (i := 2) rfl rfl rfl rfl rfl rfl (vs := cSpot.enc t15) rfl (cSpot.len _) (cSpot.one _) (Nat.le_of_ble_eq_true rfl) (cSpot.enc t15) rfl) (by intro w1 hS; exact hY.wr (hO.inY [0] 2 rfl rfl) hS.chg) ?_
 intro w1 hY hS
 have hS : St _ _ _ [_, _, _] _ := hO.out [0] hS
 exact MD H hS
 refine TJ.alt ?_ ?_
 refine TF hY (EA hS (cSpot.enc (⟨0, 0⟩ : Spot))) ?_
 rintro _ w1 hY ⟨b18, rfl, hS⟩
 refine TJ.callF hY rfl rfl rfl rfl rfl rfl rfl hb67 rfl (q0y.c t12.At _ ht15) (by rintro v w' ⟨rfl, hs⟩; exact hs) ?_
 rintro _ w1 hY ⟨rfl, hs⟩
 replace hS := hS.grow hs
 have hO := hS
 refine TJ.es rfl rfl rfl rfl (Es.store oI (hS.inn [0]) (i := 2) rfl rfl rfl rfl rfl rfl (vs := cSpot.enc t15) rfl (cSpot.len _) (cSpot.one _) (Nat.le_of_ble_eq_true rfl) (cSpot.enc t15) rfl) (by intro w1 hS; exact hY.wr (hO.inY [0] 2 rfl rfl) hS.chg) ?_
 intro w1 hY hS
 have hS : St _ _ _ [_, _, _] _ := hO.out [0] hS
 exact MD H hS
 exact TJ.stop
 refine TJ.alt ?_ ?_
 refine TF hY (EA hS (cSpot.enc (⟨0, 0⟩ : Spot))) ?_
 rintro _ w1 hY ⟨b19, rfl, hS⟩
 refine TJ.callF hY rfl rfl rfl rfl rfl rfl rfl hb44 rfl (q25.c t13 _ ht14) (by rintro v w' ⟨rfl, hs⟩; exact hs) ?_
 rintro _ w1 hY ⟨rfl, hs⟩
 replace hS := hS.grow hs
 refine TJ.callF hY rfl rfl rfl rfl rfl rfl rfl hb67 rfl (q0y.c t12.At _ ht15) (by rintro v w' ⟨rfl, hs⟩; exact hs) ?_
 rintro _ w1 hY ⟨rfl, hs⟩
 replace hS := hS.grow hs
 have hO := hS
 refine TJ.es rfl rfl rfl rfl (Es.store oI (hS.inn [0]) (i := 2) rfl rfl rfl rfl rfl rfl (vs := cSpot.enc t15) rfl (cSpot.len _) (cSpot.one _) (Nat.le_of_ble_eq_true rfl) (cSpot.enc t15) rfl) (by intro w1 hS; exact hY.wr (hO.inY [0] 2 rfl rfl) hS.chg) ?_
 intro w1 hY hS
 have hS : St _ _ _ [_, _, _] _ := hO.out [0] hS
 exact MD H hS
 exact TJ.stop
 rintro F w1 ⟨b16, rfl, hS⟩
 refine EJ.next ?_
 obtain ⟨j239, H, K239⟩ := pbind H
 refine CJ.cut (fun F w1 => ∃ y20, some y20 = some j239 ∧ F = [(0, .pointer (some pa0)), (1, .pointer (some pa1)), (5, sl A2 t1 c3), (6, sl A9 y8 c10), (7, i6 y11), (64, .bool y20)] ∧ St w no w1 [rowC cHurdle A2 c3 58 t1, rowC cHurdle A9 c10 58 y8] [roP pa0 (cPasture.enc a0), roP pa1 ((carr 10 (carr 10 cb)).enc a1)]) ?_ ?_
 refine CJ.draw [] [0, 1, 2, 3, 4, 5, 6, 7, 8, 9, 10, 11, 12, 13, 14, 15, 16, 17, 18, 19, 20, 21, 22, 23, 24, 25, 26, 27, 28, 29, 30, 31, 32, 33, 34, 35] mixed (by kernel_rfl) hS fun w1 hS => ?_
 refine GO ?_
 obtain ⟨t21, ht21, H⟩ := pbind H
 obtain ⟨ad21, e21⟩ := (rC hS 0 Z).some' ht21
 refine dS (SI e21 (getI_some ht21).1) ?_
 refine dS (SL (CA.sub (CA.sub ((rC hS 0 Z).at_ e21 ht21) 0) 1)) ?_
 obtain ⟨t22, ht22, H⟩ := pbind H
 obtain ⟨ad22, e22⟩ := (rC hS 0 Z).some' ht22
 refine dS (SI e22 (getI_some ht22).1) ?_
 refine dS (SL (CA.sub (CA.sub ((rC hS 0 Z).at_ e22 ht22) 0) 0)) ?_
 obtain ⟨t23, ht23, H⟩ := pbind H
 refine DJ.st Z Z Z Z Z (SR.idxA oU oI Z Z Z Z Z (Arr.lt ht23)) ?_
 obtain ⟨t24, ht24, H⟩ := pbind H
 refine DJ.st Z Z Z Z Z (SR.idxA oU oI Z Z Z Z Z (Arr.lt ht24)) ?_
 refine dS (SL (CA.idx (CA.idx (hS.ca (i := 1) Z) ht23) ht24)) ?_
 refine dS (SL (cf hS 2 1)) ?_
 refine dS (SL (cf hS 2 0)) ?_
 obtain ⟨t25, ht25, H⟩ := pbind H
 refine DJ.st Z Z Z Z Z (SR.idxA oU oI Z Z Z Z Z (Arr.lt ht25)) ?_
 obtain ⟨t26, ht26, H⟩ := pbind H
 refine DJ.st Z Z Z Z Z (SR.idxA oU oI Z Z Z Z Z (Arr.lt ht26)) ?_
 refine DS (SL (CA.idx (CA.idx (hS.ca (i := 1) Z) ht25) ht26)) ?_
 refine DJ.st Z Z Z Z Z (SR.neB oU Z Z Z Z) ?_
 refine GO ?_
 refine DJ.split (t := 56) Z (fun hb => ?_) (fun hb => ?_)
 replace H := pif_t (of_decide_eq_true hb) H
 refine GO ?_
 obtain ⟨t27, ht27, H⟩ := pbind H
 obtain ⟨ad27, e27⟩ := (rC hS 0 Z).some' ht27
 refine DS (SI e27 (getI_some ht27).1) ?_
 refine DS (SE ((rC hS 0 Z).at_ e27 ht27)) ?_
 obtain ⟨t28, ht28, H⟩ := pbind H
 refine DJ.callF rfl rfl rfl rfl rfl rfl rfl hb83 rfl (q2s.c _ a0 (hS.ca (i := 0) rfl) t27 _ ht28) (by rintro v w' ⟨rfl, hs⟩; exact hs) ?_
 rintro _ w1 ⟨rfl, hs⟩
 replace hS := hS.grow hs
 exact MD H hS
 replace H := pif_f (of_decide_eq_false hb) H
 exact MD H hS
 rintro F w1 ⟨y20, he, rfl, hS⟩
 obtain rfl := Option.some.inj he
 have H := K239
 refine CB H (fun H => GO ?_) (fun H => ?_)
 obtain ⟨t29, ht29, H⟩ := pbind H
 obtain ⟨ad29, e29⟩ := (rC hS 0 Z).some' ht29
 refine OS (SI e29 (getI_some ht29).1) ?_
 refine OS (SE ((rC hS 0 Z).at_ e29 ht29)) ?_
 refine OF (EL hS cHurdle ([t29] : List Hurdle)) ?_
 rintro _ w1 ⟨A30, rfl, hS⟩
 obtain ⟨u31, hu31, H⟩ := pbind H
 refine OW (AP hS 1 (rC hS 2 Z) (chk_some hu31)) ?_
 rintro _ w1 ⟨A32, c33, rfl, hS⟩
 exact MD H hS
 exact MD H hS
 exact MD H hS
 rintro F w1 ⟨y5, A6, c7, he, rfl, hS⟩
 obtain rfl := Option.some.inj he
 have H := K236
 refine EJ.next ?_
 refine GO ?_
 obtain rfl := Option.some.inj H
 exact FT ⟨A6, c7, Z, hS.pick [0] [] Z⟩

def q3b.f (k : Nat) (a0 : Pasture) (a1 : List Spot) (a2 : List Spot) : Option (List Hurdle × Int) := (q19.f k a0 a1 a2).bind fun t2 => if t2 ≠ 0 then (some (([] : List Hurdle), t2)) else ((q1c.f k a0 a1 a2).bind fun t4 => (q1z.f k a0 t4).bind fun t6 => some (t6, 0))
theorem q3b.c {k w} (a0 : Pasture) {Aa1 ca1} {a1 : List Spot} (hr1 : Rd cSpot w Aa1 a1) (hc1 : a1.length ≤ ca1) {Aa2 ca2} {a2 : List Spot} (hr2 : Rd cSpot w Aa2 a2) (hc2 : a2.length ≤ ca2) (r : List Hurdle × Int) (H : q3b.f k a0 a1 a2 = some r) :
 CV Tryz.prog 9 [.agg (cPasture.enc a0).toArray, sl Aa1 a1 ca1, sl Aa2 a2 ca2].toArray w fun v w' => ∃ (A0 : Option Addr) (c0 : Nat), v = .tuple #[sl A0 r.1 c0, i6 r.2] ∧ St w no w' [rowC cHurdle A0 c0 58 r.1] [] := by
 have hS := (((St.init w no).param cSpot Aa1 ca1 a1 hr1 hc1).param cSpot Aa2 ca2 a2 hr2 hc2)
 unfold q3b.f at H
 refine CV.body Tryz.func9 Z Tryz.ntmps9 Z ?_
 refine GO ?_
 refine oX hS (cPasture.enc a0) fun b1 w1 hS => ?_
 refine oB H hS hb32 (q19.c _ a0 (hS.cells (i := 0) Z) (rA hS 0 Z) (rB hS 0 Z) (rA hS 1 Z) (rB hS 1 Z)) fun t2 w1 H hS => ?_
 refine CP H (fun H => GO ?_) (fun H => ?_)
 refine OF (EL hS cHurdle ([] : List Hurdle)) ?_
 rintro _ w1 ⟨A3, rfl, hS⟩
 refine GO ?_
 obtain rfl := Option.some.inj H
 exact EJ.fin Z (.tmp Z (.tmp Z .nil)) ⟨A3, (([] : List Hurdle).length), Z, hS.pick [1] [] Z⟩
 refine GO ?_
 refine OB H hS hb33 (q1c.c _ a0 (hS.cells (i := 0) Z) (rA hS 0 Z) (rB hS 0 Z) (rA hS 1 Z) (rB hS 1 Z)) fun t4 w1 H hS => ?_
 refine OJ.ef rfl rfl rfl (Ef.alloc hS oI rfl rfl ((carr 10 (carr 10 cb)).enc (Arr.mk' (Arr.mk' false : Arr 10 Bool) : Arr 10 (Arr 10 Bool))) (by kernel_rfl)) ?_
 rintro _ w1 ⟨b5, rfl, hS⟩
 refine OJ.es rfl rfl (Es.put oI hS (i := 1) rfl rfl rfl rfl rfl (vs := (carr 10 (carr 10 cb)).enc t4) rfl ((carr 10 (carr 10 cb)).len _) ((carr 10 (carr 10 cb)).one _) (Put.all (carr 10 (carr 10 cb)) (Arr.mk' (Arr.mk' false : Arr 10 Bool) : Arr 10 (Arr 10 Bool)) t4) (by (try simp only [add_lit, Nat.add_assoc, Nat.zero_add, Nat.add_zero]) <;> first | rfl | (congr 1; exact Nat.zero_add _))) ?_
 intro w1 hS
 refine GO ?_
 obtain ⟨t6, ht6, H⟩ := pbind H
 refine OC hb34 (q1z.c _ a0 (hS.cells (i := 0) Z) _ t4 (hS.cells (i := 1) Z) _ ht6) ?_
 rintro _ w1 ⟨A7, c8, rfl, hs⟩
 replace hS := hS.addN hs
 refine GO ?_
 obtain rfl := Option.some.inj H
 exact EJ.fin Z (.tmp Z (.tmp Z .nil)) ⟨A7, c8, Z, hS.pick [2] [] Z⟩

def q3f.f (k : Nat) (a0 : Pasture) (a1 : List Spot) (a2 : List Spot) : Option (List Spot × Int) := (q2j.f k a0 a1 a2).bind fun t2 => if t2 ≠ 0 then (some ([], t2)) else ((q08.f k a0 a1 a2).bind fun t3 => some (t3, 0))
theorem q3f.c {k w} (a0 : Pasture) {Aa1 ca1} {a1 : List Spot} (hr1 : Rd cSpot w Aa1 a1) (hc1 : a1.length ≤ ca1) {Aa2 ca2} {a2 : List Spot} (hr2 : Rd cSpot w Aa2 a2) (hc2 : a2.length ≤ ca2) (r : List Spot × Int) (H : q3f.f k a0 a1 a2 = some r) :
 CV Tryz.prog 10 [.agg (cPasture.enc a0).toArray, sl Aa1 a1 ca1, sl Aa2 a2 ca2].toArray w fun v w' => ∃ (A0 : Option Addr) (c0 : Nat), v = .tuple #[sl A0 r.1 c0, i6 r.2] ∧ St w no w' [rowC cSpot A0 c0 55 r.1] [] := by
 have hS := (((St.init w no).param cSpot Aa1 ca1 a1 hr1 hc1).param cSpot Aa2 ca2 a2 hr2 hc2)
 unfold q3f.f at H
 refine CV.body Tryz.func10 Z Tryz.ntmps10 Z ?_
 refine GO ?_
 refine oX hS (cPasture.enc a0) fun b1 w1 hS => ?_
 refine oS (SE (ce hS 0)) ?_
 refine oB H hS hb29 (q2j.c a0 (rA hS 0 Z) (rB hS 0 Z) (rA hS 1 Z) (rB hS 1 Z)) fun t2 w1 H hS => ?_
 refine CP H (fun H => GO ?_) (fun H => ?_)
 replace hS := hS.addNil cSpot 55 none
 obtain rfl := Option.some.inj H
 exact EJ.fin Z (.tmp Z (.tmp Z .nil)) ⟨none, 0, Z, hS.pick [1] [] Z⟩
 refine GO ?_
 refine oS (SE (ce hS 0)) ?_
 obtain ⟨t3, ht3, H⟩ := pbind H
 refine OC hb31 (q08.c a0 (rA hS 0 Z) (rB hS 0 Z) (rA hS 1 Z) (rB hS 1 Z) _ ht3) ?_
 rintro _ w1 ⟨A4, c5, rfl, hs⟩
 replace hS := hS.addN hs
 refine GO ?_
 obtain rfl := Option.some.inj H
 exact EJ.fin Z (.tmp Z (.tmp Z .nil)) ⟨A4, c5, Z, hS.pick [1] [] Z⟩

def q10.l2 (a0 : Pasture) (t4 : Arr 10 (Arr 10 Bool)) (y13 : Int) : Nat → (List Spot) → Int → Option (List Spot)
  | 0, _, _ => none
  | k + 1, y20, y23 => if y23 < a0.Wide then ((getI t4.l y13).bind fun t24 => (getI t24.l y23).bind fun t25 => if t25 = true then ((chk (y20.length + ([(⟨y23, y13⟩ : Spot)] : List Spot).length ≤ 4294967296)).bind fun u27 => q10.l2 a0 t4 y13 k (y20 ++ ([(⟨y23, y13⟩ : Spot)] : List Spot)) (IntKind.i8.wrap (y23 + 1))) else (q10.l2 a0 t4 y13 k y20 (IntKind.i8.wrap (y23 + 1)))) else (some y20)
def q10.l1 (a0 : Pasture) (t4 : Arr 10 (Arr 10 Bool)) : Nat → (List Spot) → Int → Option (List Spot)
  | 0, _, _ => none
  | k + 1, y10, y13 => if y13 < a0.High then (((q10.l2 a0 t4 y13 k y10 0).bind fun y17 => some y17).bind fun y14 => q10.l1 a0 t4 k y14 (IntKind.i8.wrap (y13 + 1))) else (some y10)
def q10.f (k : Nat) (a0 : Pasture) (a1 : List Spot) (a2 : List Spot) : Option (List Spot × Int) := (q19.f k a0 a1 a2).bind fun t2 => if t2 ≠ 0 then (some (([] : List Spot), t2)) else ((q1c.f k a0 a1 a2).bind fun t4 => (q10.l1 a0 t4 k ([] : List Spot) 0).bind fun y7 => some (y7, 0))
theorem q10.c {k w} (a0 : Pasture) {Aa1 ca1} {a1 : List Spot} (hr1 : Rd cSpot w Aa1 a1) (hc1 : a1.length ≤ ca1) {Aa2 ca2} {a2 : List Spot} (hr2 : Rd cSpot w Aa2 a2) (hc2 : a2.length ≤ ca2) (r : List Spot × Int) (H : q10.f k a0 a1 a2 = some r) :
 CV Tryz.prog 11 [.agg (cPasture.enc a0).toArray, sl Aa1 a1 ca1, sl Aa2 a2 ca2].toArray w fun v w' => ∃ (A0 : Option Addr) (c0 : Nat), v = .tuple #[sl A0 r.1 c0, i6 r.2] ∧ St w no w' [rowC cSpot A0 c0 55 r.1] [] := by
 have hS := (((St.init w no).param cSpot Aa1 ca1 a1 hr1 hc1).param cSpot Aa2 ca2 a2 hr2 hc2)
 unfold q10.f at H
 refine CV.body Tryz.func11 Z Tryz.ntmps11 Z ?_
 refine GO ?_
 refine oX hS (cPasture.enc a0) fun b1 w1 hS => ?_
 refine oB H hS hb32 (q19.c _ a0 (hS.cells (i := 0) Z) (rA hS 0 Z) (rB hS 0 Z) (rA hS 1 Z) (rB hS 1 Z)) fun t2 w1 H hS => ?_
 refine CP H (fun H => GO ?_) (fun H => ?_)
 refine OF (EL hS cSpot ([] : List Spot)) ?_
 rintro _ w1 ⟨A3, rfl, hS⟩
 refine GO ?_
 obtain rfl := Option.some.inj H
 exact EJ.fin Z (.tmp Z (.tmp Z .nil)) ⟨A3, (([] : List Spot).length), Z, hS.pick [1] [] Z⟩
 refine GO ?_
 refine OB H hS hb33 (q1c.c _ a0 (hS.cells (i := 0) Z) (rA hS 0 Z) (rB hS 0 Z) (rA hS 1 Z) (rB hS 1 Z)) fun t4 w1 H hS => ?_
 refine OJ.ef rfl rfl rfl (Ef.alloc hS oI rfl rfl ((carr 10 (carr 10 cb)).enc (Arr.mk' (Arr.mk' false : Arr 10 Bool) : Arr 10 (Arr 10 Bool))) (by kernel_rfl)) ?_
 rintro _ w1 ⟨b5, rfl, hS⟩
 refine OJ.es rfl rfl (Es.put oI hS (i := 1) rfl rfl rfl rfl rfl (vs := (carr 10 (carr 10 cb)).enc t4) rfl ((carr 10 (carr 10 cb)).len _) ((carr 10 (carr 10 cb)).one _) (Put.all (carr 10 (carr 10 cb)) (Arr.mk' (Arr.mk' false : Arr 10 Bool) : Arr 10 (Arr 10 Bool)) t4) (by (try simp only [add_lit, Nat.add_assoc, Nat.zero_add, Nat.add_zero]) <;> first | rfl | (congr 1; exact Nat.zero_add _))) ?_
 intro w1 hS
 refine GO ?_
 refine OF (EL hS cSpot ([] : List Spot)) ?_
 rintro _ w1 ⟨A6, rfl, hS⟩
 refine GO ?_
 obtain ⟨j240, H, K240⟩ := pbind H
 refine CJ.cut1 (fun F w1 => ∃ y7 A8 c9, some y7 = some j240 ∧ F = [(10, sl A8 y7 c9)] ∧ St w no w1 [rowC cSpot A8 c9 55 y7] [roC cSpot Aa1 ca1 a1, roC cSpot Aa2 ca2 a2]) ?_ ?_
 refine CJ.block ?_
 refine LQ (fun k F w1 => ∃ (y10 : List Spot) (y13 : Int) (A11 c12 : _), F = [(3, pt b1), (9, pt b5), (10, sl A11 y10 c12), (11, .int .i8 y13)] ∧ St w no w1 [box b1 (cPasture.enc a0) 31, box b5 ((carr 10 (carr 10 cb)).enc t4) 72, rowC cSpot A11 c12 55 y10] [roC cSpot Aa1 ca1 a1, roC cSpot Aa2 ca2 a2] ∧ q10.l1 a0 t4 k y10 y13 = some j240) k H hS ?_
 rintro k F w1 ⟨y10, y13, A11, c12, rfl, hS, H⟩
 rw [q10.l1] at H
 refine GO ?_
 refine oS (SL (CA.fld (ce hS 0) (mid_part (fe_Pasture_1 _) (fl_Pasture_1 _) ((ci .i8).len _)))) ?_
 refine CP H (fun H => ?_) (fun H => ?_)
 refine CJ.skip (EJ.next ?_)
 obtain ⟨j247, H, K247⟩ := pbind H
 refine CJ.cut (fun F w1 => ∃ y14 A15 c16, some y14 = some j247 ∧ F = [(3, pt b1), (9, pt b5), (10, sl A15 y14 c16), (11, .int .i8 y13)] ∧ St w no w1 [box b1 (cPasture.enc a0) 31, box b5 ((carr 10 (carr 10 cb)).enc t4) 72, rowC cSpot A15 c16 55 y14] [roC cSpot Aa1 ca1 a1, roC cSpot Aa2 ca2 a2]) ?_ ?_
 refine CJ.block ?_
 refine GO ?_
 obtain ⟨j249, H, K249⟩ := pbind H
 refine CJ.cut1 (fun F w1 => ∃ y17 A18 c19, some y17 = some j249 ∧ F = [(3, pt b1), (9, pt b5), (10, sl A18 y17 c19), (11, .int .i8 y13)] ∧ St w no w1 [box b1 (cPasture.enc a0) 31, box b5 ((carr 10 (carr 10 cb)).enc t4) 72, rowC cSpot A18 c19 55 y17] [roC cSpot Aa1 ca1 a1, roC cSpot Aa2 ca2 a2]) ?_ ?_
 refine CJ.block ?_
 refine LQ (fun k F w1 => ∃ (y20 : List Spot) (y23 : Int) (A21 c22 : _), F = [(3, pt b1), (9, pt b5), (10, sl A21 y20 c22), (11, .int .i8 y13), (12, .int .i8 y23)] ∧ St w no w1 [box b1 (cPasture.enc a0) 31, box b5 ((carr 10 (carr 10 cb)).enc t4) 72, rowC cSpot A21 c22 55 y20] [roC cSpot Aa1 ca1 a1, roC cSpot Aa2 ca2 a2] ∧ q10.l2 a0 t4 y13 k y20 y23 = some j249) k H hS ?_
 rintro k F w1 ⟨y20, y23, A21, c22, rfl, hS, H⟩
 rw [q10.l2] at H
 refine GO ?_
 refine oS (SL (CA.fld (ce hS 0) (mid_part (fe_Pasture_0 _) (fl_Pasture_0 _) ((ci .i8).len _)))) ?_
 refine CP H (fun H => GO ?_) (fun H => ?_)
 refine CJ.block ?_
 refine GO ?_
 obtain ⟨t24, ht24, H⟩ := pbind H
 refine OJ.st Z Z Z (SR.idxA oU oI Z Z Z Z Z (Arr.lt ht24)) ?_
 obtain ⟨t25, ht25, H⟩ := pbind H
 refine OJ.st Z Z Z (SR.idxA oU oI Z Z Z Z Z (Arr.lt ht25)) ?_
 refine oS (SL (CA.idx (CA.idx (ce hS 1) ht24) ht25)) ?_
 refine CB H (fun H => GO ?_) (fun H => ?_)
 refine OJ.st Z Z Z (SR.build (C := cSpot) oU oI Z Z Z (zs := [.int .i8 0, .int .i8 0]) Z Z Z (⟨y23, y13⟩ : Spot) Z) ?_
 refine OF (EL hS cSpot ([(⟨y23, y13⟩ : Spot)] : List Spot)) ?_
 rintro _ w1 ⟨A26, rfl, hS⟩
 obtain ⟨u27, hu27, H⟩ := pbind H
 refine OW (AP hS 2 (rC hS 3 Z) (chk_some hu27)) ?_
 rintro _ w1 ⟨A28, c29, rfl, hS⟩
 exact MD H hS
 exact MD H hS
 exact MD H hS
 rintro F w1 ⟨y17, A18, c19, he, rfl, hS⟩
 obtain rfl := Option.some.inj he
 have H := K249
 refine EJ.blk (?_)
 exact MD H hS
 rintro F w1 ⟨y14, A15, c16, he, rfl, hS⟩
 obtain rfl := Option.some.inj he
 have H := K247
 exact MD H hS
 exact MD H hS
 rintro F w1 ⟨y7, A8, c9, he, rfl, hS⟩
 obtain rfl := Option.some.inj he
 have H := K240
 refine EJ.next ?_
 refine GO ?_
 obtain rfl := Option.some.inj H
 exact EJ.fin Z (.tmp Z (.tmp Z .nil)) ⟨A8, c9, Z, hS.pick [0] [] Z⟩

def q00.l2 (y6 : Int) : Nat → (Arr 10 (Arr 10 Int)) → Int → Option (Arr 10 (Arr 10 Int))
  | 0, _, _ => none
  | k + 1, y9, y10 => if y10 < 10 then ((getI y9.l y6).bind fun t11 => (getI t11.l y10).bind fun t12 => q00.l2 y6 k (aset y9 y6.toNat (aset t11 y10.toNat (-1))) (IntKind.i64.wrap (y10 + 1))) else (some y9)
def q00.l1 : Nat → (Arr 10 (Arr 10 Int)) → Int → Option (Arr 10 (Arr 10 Int))
  | 0, _, _ => none
  | k + 1, y5, y6 => if y6 < 10 then (((q00.l2 y6 k y5 0).bind fun y8 => some y8).bind fun y7 => q00.l1 k y7 (IntKind.i64.wrap (y6 + 1))) else (some y5)
def q00.l3 (a1 : List Spot) : Nat → (Arr 10 (Arr 10 Int)) → Int → Option (Arr 10 (Arr 10 Int))
  | 0, _, _ => none
  | k + 1, y14, y15 => if y15 < (a1.length : Int) then ((getI a1 y15).bind fun t16 => (getI y14.l t16.Y).bind fun t18 => (getI t18.l t16.X).bind fun t19 => q00.l3 a1 k (aset y14 t16.Y.toNat (aset t18 t16.X.toNat 0)) (IntKind.i64.wrap (y15 + 1))) else (some y14)
def q00.l5 (a0 : Pasture) (t33 : Spot) : Nat → (Arr 10 (Arr 10 Int)) → (List Spot) → Int → Option ((Arr 10 (Arr 10 Int)) × (List Spot))
  | 0, _, _, _ => none
  | k + 1, y39, y40, y43 => if y43 < 4 then ((q0u.f t33 y43).bind fun t44 => ((q1k.f a0 t33 y43).bind fun t47 => if t47 = true then ((getI y39.l t44.Y).bind fun t48 => (getI t48.l t44.X).bind fun t49 => some (decide (t49 < 0))) else (some false)).bind fun y46 => if y46 = true then ((getI y39.l t33.Y).bind fun t50 => (getI t50.l t33.X).bind fun t51 => (getI y39.l t44.Y).bind fun t52 => (getI t52.l t44.X).bind fun t53 => (chk (y40.length + ([t44] : List Spot).length ≤ 4294967296)).bind fun u55 => q00.l5 a0 t33 k (aset y39 t44.Y.toNat (aset t52 t44.X.toNat (IntKind.i16.wrap (t51 + 1)))) (y40 ++ ([t44] : List Spot)) (IntKind.i64.wrap (y43 + 1))) else (q00.l5 a0 t33 k y39 y40 (IntKind.i64.wrap (y43 + 1)))) else (some (y39, y40))
def q00.l4 (a0 : Pasture) : Nat → (Arr 10 (Arr 10 Int)) → (List Spot) → Int → Option (Arr 10 (Arr 10 Int))
  | 0, _, _, _ => none
  | k + 1, y24, y25, y28 => if y28 < (y25.length : Int) then (((getI y25 y28).bind fun t33 => (q00.l5 a0 t33 k y24 y25 0).bind fun (y35, y36) => some (y35, y36)).bind fun (y29, y30) => q00.l4 a0 k y29 y30 (IntKind.i64.wrap (y28 + 1))) else (some y24)
def q00.f (k : Nat) (a0 : Pasture) (a1 : List Spot) : Option (Arr 10 (Arr 10 Int)) := (q00.l1 k (Arr.mk' (Arr.mk' 0 : Arr 10 Int) : Arr 10 (Arr 10 Int)) 0).bind fun y4 => (q00.l3 a1 k y4 0).bind fun y13 => (q0e.f a1).bind fun t20 => (q00.l4 a0 k y13 t20 0).bind fun y23 => some y23
theorem q00.c {k w} (a0 : Pasture) {Aa1 ca1} {a1 : List Spot} (hr1 : Rd cSpot w Aa1 a1) (hc1 : a1.length ≤ ca1) (r : Arr 10 (Arr 10 Int)) (H : q00.f k a0 a1 = some r) :
 CV Tryz.prog 35 [.agg (cPasture.enc a0).toArray, sl Aa1 a1 ca1].toArray w fun v w' => v = .agg ((carr 10 (carr 10 (ci .i16))).enc r).toArray ∧ Ext w w' := by
 have hS := ((St.init w no).param cSpot Aa1 ca1 a1 hr1 hc1)
 unfold q00.f at H
 refine CV.body Tryz.func35 Z Tryz.ntmps35 Z ?_
 refine GO ?_
 refine OF (EB hS (cPasture.enc a0)) ?_
 rintro _ w1 ⟨b1, rfl, hS⟩
 refine OJ.ef rfl rfl rfl (Ef.alloc hS oI rfl rfl ((carr 10 (carr 10 (ci .i16))).enc (Arr.mk' (Arr.mk' 0 : Arr 10 Int) : Arr 10 (Arr 10 Int))) (by kernel_rfl)) ?_
 rintro _ w1 ⟨b2, rfl, hS⟩
 refine GO ?_
 refine OJ.st rfl rfl rfl (SR.buildA oU oI rfl rfl rfl rfl (zs := [.int .i16 0, .int .i16 0, .int .i16 0, .int .i16 0, .int .i16 0, .int .i16 0, .int .i16 0, .int .i16 0, .int .i16 0, .int .i16 0, .int .i16 0, .int .i16 0, .int .i16 0, .int .i16 0, .int .i16 0, .int .i16 0, .int .i16 0, .int .i16 0, .int .i16 0, .int .i16 0, .int .i16 0, .int .i16 0, .int .i16 0, .int .i16 0, .int .i16 0, .int .i16 0, .int .i16 0, .int .i16 0, .int .i16 0, .int .i16 0, .int .i16 0, .int .i16 0, .int .i16 0, .int .i16 0, .int .i16 0, .int .i16 0, .int .i16 0, .int .i16 0, .int .i16 0, .int .i16 0, .int .i16 0, .int .i16 0, .int .i16 0, .int .i16 0, .int .i16 0, .int .i16 0, .int .i16 0, .int .i16 0, .int .i16 0, .int .i16 0, .int .i16 0, .int .i16 0, .int .i16 0, .int .i16 0, .int .i16 0, .int .i16 0, .int .i16 0, .int .i16 0, .int .i16 0, .int .i16 0, .int .i16 0, .int .i16 0, .int .i16 0, .int .i16 0, .int .i16 0, .int .i16 0, .int .i16 0, .int .i16 0, .int .i16 0, .int .i16 0, .int .i16 0, .int .i16 0, .int .i16 0, .int .i16 0, .int .i16 0, .int .i16 0, .int .i16 0, .int .i16 0, .int .i16 0, .int .i16 0, .int .i16 0, .int .i16 0, .int .i16 0, .int .i16 0, .int .i16 0, .int .i16 0, .int .i16 0, .int .i16 0, .int .i16 0, .int .i16 0, .int .i16 0, .int .i16 0, .int .i16 0, .int .i16 0, .int .i16 0, .int .i16 0, .int .i16 0, .int .i16 0, .int .i16 0, .int .i16 0]) rfl rfl ((carr 10 (carr 10 (ci .i16))).enc (Arr.mk' (Arr.mk' 0 : Arr 10 Int) : Arr 10 (Arr 10 Int))) (by kernel_rfl)) ?_
 refine OJ.ef rfl rfl rfl (Ef.alloc hS oI rfl rfl ((carr 10 (carr 10 (ci .i16))).enc (Arr.mk' (Arr.mk' 0 : Arr 10 Int) : Arr 10 (Arr 10 Int))) (by kernel_rfl)) ?_
 rintro _ w1 ⟨b3, rfl, hS⟩
 refine OJ.es rfl rfl (Es.put oI hS (i := 2) rfl rfl rfl rfl rfl (vs := (carr 10 (carr 10 (ci .i16))).enc (Arr.mk' (Arr.mk' 0 : Arr 10 Int) : Arr 10 (Arr 10 Int))) rfl ((carr 10 (carr 10 (ci .i16))).len _) ((carr 10 (carr 10 (ci .i16))).one _) (Put.all (carr 10 (carr 10 (ci .i16))) (Arr.mk' (Arr.mk' 0 : Arr 10 Int) : Arr 10 (Arr 10 Int)) (Arr.mk' (Arr.mk' 0 : Arr 10 Int) : Arr 10 (Arr 10 Int))) (by (try simp only [add_lit, Nat.add_assoc, Nat.zero_add, Nat.add_zero]) <;> first | rfl | (congr 1; exact Nat.zero_add _))) ?_
 intro w1 hS
 refine GO ?_
 obtain ⟨j251, H, K251⟩ := pbind H
 refine CJ.cut1 (fun F w1 => ∃ y4, some y4 = some j251 ∧ F = [(1, sl Aa1 a1 ca1), (2, pt b1), (4, pt b2), (5, pt b3)] ∧ St w no w1 [box b1 (cPasture.enc a0) 31, box b2 ((carr 10 (carr 10 (ci .i16))).enc (Arr.mk' (Arr.mk' 0 : Arr 10 Int) : Arr 10 (Arr 10 Int))) 76, box b3 ((carr 10 (carr 10 (ci .i16))).enc y4) 76] [roC cSpot Aa1 ca1 a1]) ?_ ?_
 refine CJ.block ?_
 refine LQ (fun k F w1 => ∃ (y5 : Arr 10 (Arr 10 Int)) (y6 : Int), F = [(1, sl Aa1 a1 ca1), (2, pt b1), (4, pt b2), (5, pt b3), (15, i6 y6)] ∧ St w no w1 [box b1 (cPasture.enc a0) 31, box b2 ((carr 10 (carr 10 (ci .i16))).enc (Arr.mk' (Arr.mk' 0 : Arr 10 Int) : Arr 10 (Arr 10 Int))) 76, box b3 ((carr 10 (carr 10 (ci .i16))).enc y5) 76] [roC cSpot Aa1 ca1 a1] ∧ q00.l1 k y5 y6 = some j251) k H hS ?_
 rintro k F w1 ⟨y5, y6, rfl, hS, H⟩
 rw [q00.l1] at H
 refine GO ?_
 refine CP H (fun H => ?_) (fun H => ?_)
 refine CJ.skip (EJ.next ?_)
 obtain ⟨j258, H, K258⟩ := pbind H
 refine CJ.cut (fun F w1 => ∃ y7, some y7 = some j258 ∧ F = [(1, sl Aa1 a1 ca1), (2, pt b1), (4, pt b2), (5, pt b3), (15, i6 y6)] ∧ St w no w1 [box b1 (cPasture.enc a0) 31, box b2 ((carr 10 (carr 10 (ci .i16))).enc (Arr.mk' (Arr.mk' 0 : Arr 10 Int) : Arr 10 (Arr 10 Int))) 76, box b3 ((carr 10 (carr 10 (ci .i16))).enc y7) 76] [roC cSpot Aa1 ca1 a1]) ?_ ?_
 refine CJ.block ?_
 refine GO ?_
 obtain ⟨j260, H, K260⟩ := pbind H
 refine CJ.cut1 (fun F w1 => ∃ y8, some y8 = some j260 ∧ F = [(1, sl Aa1 a1 ca1), (2, pt b1), (4, pt b2), (5, pt b3), (15, i6 y6)] ∧ St w no w1 [box b1 (cPasture.enc a0) 31, box b2 ((carr 10 (carr 10 (ci .i16))).enc (Arr.mk' (Arr.mk' 0 : Arr 10 Int) : Arr 10 (Arr 10 Int))) 76, box b3 ((carr 10 (carr 10 (ci .i16))).enc y8) 76] [roC cSpot Aa1 ca1 a1]) ?_ ?_
 refine CJ.block ?_
 refine LQ (fun k F w1 => ∃ (y9 : Arr 10 (Arr 10 Int)) (y10 : Int), F = [(1, sl Aa1 a1 ca1), (2, pt b1), (4, pt b2), (5, pt b3), (6, i6 y6), (15, i6 y6), (18, i6 y10)] ∧ St w no w1 [box b1 (cPasture.enc a0) 31, box b2 ((carr 10 (carr 10 (ci .i16))).enc (Arr.mk' (Arr.mk' 0 : Arr 10 Int) : Arr 10 (Arr 10 Int))) 76, box b3 ((carr 10 (carr 10 (ci .i16))).enc y9) 76] [roC cSpot Aa1 ca1 a1] ∧ q00.l2 y6 k y9 y10 = some j260) k H hS ?_
 rintro k F w1 ⟨y9, y10, rfl, hS, H⟩
 rw [q00.l2] at H
 refine GO ?_
 refine CP H (fun H => GO ?_) (fun H => ?_)
 refine CJ.block ?_
 refine GO ?_
 obtain ⟨t11, ht11, H⟩ := pbind H
 refine OJ.st Z Z Z (SR.idxA oU oI Z Z Z Z Z (Arr.lt ht11)) ?_
 obtain ⟨t12, ht12, H⟩ := pbind H
 refine OJ.st Z Z Z (SR.idxA oU oI Z Z Z Z Z (Arr.lt ht12)) ?_
 refine OJ.es rfl rfl (Es.put oI hS (i := 2) rfl rfl rfl rfl rfl (vs := (ci .i16).enc (-1)) rfl rfl (one1 rfl) (Put.idx (Put.idx (Put.all (ci .i16) t12 (-1)) ht12) ht11) (by (try simp only [add_lit, Nat.add_assoc, Nat.zero_add, Nat.add_zero]) <;> first | rfl | (congr 1; exact Nat.zero_add _))) ?_
 intro w1 hS
 exact MD H hS
 exact MD H hS
 rintro F w1 ⟨y8, he, rfl, hS⟩
 obtain rfl := Option.some.inj he
 have H := K260
 refine EJ.blk (?_)
 exact MD H hS
 rintro F w1 ⟨y7, he, rfl, hS⟩
 obtain rfl := Option.some.inj he
 have H := K258
 exact MD H hS
 exact MD H hS
 rintro F w1 ⟨y4, he, rfl, hS⟩
 obtain rfl := Option.some.inj he
 have H := K251
 refine EJ.next ?_
 refine GO ?_
 obtain ⟨j261, H, K261⟩ := pbind H
 refine CJ.cut1 (fun F w1 => ∃ y13, some y13 = some j261 ∧ F = [(1, sl Aa1 a1 ca1), (2, pt b1), (4, pt b2), (5, pt b3)] ∧ St w no w1 [box b1 (cPasture.enc a0) 31, box b2 ((carr 10 (carr 10 (ci .i16))).enc (Arr.mk' (Arr.mk' 0 : Arr 10 Int) : Arr 10 (Arr 10 Int))) 76, box b3 ((carr 10 (carr 10 (ci .i16))).enc y13) 76] [roC cSpot Aa1 ca1 a1]) ?_ ?_
 refine CJ.block ?_
 refine LQ (fun k F w1 => ∃ (y14 : Arr 10 (Arr 10 Int)) (y15 : Int), F = [(1, sl Aa1 a1 ca1), (2, pt b1), (4, pt b2), (5, pt b3), (27, sl Aa1 a1 ca1), (28, i6 (a1.length : Int)), (29, i6 y15)] ∧ St w no w1 [box b1 (cPasture.enc a0) 31, box b2 ((carr 10 (carr 10 (ci .i16))).enc (Arr.mk' (Arr.mk' 0 : Arr 10 Int) : Arr 10 (Arr 10 Int))) 76, box b3 ((carr 10 (carr 10 (ci .i16))).enc y14) 76] [roC cSpot Aa1 ca1 a1] ∧ q00.l3 a1 k y14 y15 = some j261) k H hS ?_
 rintro k F w1 ⟨y14, y15, rfl, hS, H⟩
 rw [q00.l3] at H
 refine GO ?_
 refine CP H (fun H => GO ?_) (fun H => ?_)
 refine CJ.block ?_
 refine GO ?_
 obtain ⟨t16, ht16, H⟩ := pbind H
 obtain ⟨ad16, e16⟩ := (rA hS 0 Z).some' ht16
 refine OS (SI e16 (getI_some ht16).1) ?_
 refine OS (SE ((rA hS 0 Z).at_ e16 ht16)) ?_
 refine OF (EA hS (cSpot.enc (⟨0, 0⟩ : Spot))) ?_
 rintro _ w1 ⟨b17, rfl, hS⟩
 refine OJ.es Z Z (eS cSpot t16 hS (i := 3) Z Z Z Z Z Z Z Z Z Z) ?_
 intro w1 hS
 refine GO ?_
 refine CJ.draw [] [0, 1, 2, 3, 4, 5, 6] mixed (by kernel_rfl) hS fun w1 hS => ?_
 refine GO ?_
 refine dS (SL (cf hS 3 1)) ?_
 refine DS (SL (cf hS 3 0)) ?_
 obtain ⟨t18, ht18, H⟩ := pbind H
 refine DJ.st Z Z Z Z Z (SR.idxA oU oI Z Z Z Z Z (Arr.lt ht18)) ?_
 obtain ⟨t19, ht19, H⟩ := pbind H
 refine DJ.st Z Z Z Z Z (SR.idxA oU oI Z Z Z Z Z (Arr.lt ht19)) ?_
 refine DJ.es rfl rfl rfl rfl (Es.put oI hS (i := 2) rfl rfl rfl rfl rfl (vs := (ci .i16).enc 0) rfl rfl (one1 rfl) (Put.idx (Put.idx (Put.all (ci .i16) t19 0) ht19) ht18) (by (try simp only [add_lit, Nat.add_assoc, Nat.zero_add, Nat.add_zero]) <;> first | rfl | (congr 1; exact Nat.zero_add _))) ?_
 intro w1 hS
 exact MD H hS
 exact MD H hS
 rintro F w1 ⟨y13, he, rfl, hS⟩
 obtain rfl := Option.some.inj he
 have H := K261
 refine EJ.next ?_
 refine GO ?_
 obtain ⟨t20, ht20, H⟩ := pbind H
 refine OC hb84 (q0e.c Aa1 ca1 (rA hS 0 Z) (rB hS 0 Z) _ ht20) ?_
 rintro _ w1 ⟨A21, c22, rfl, hs⟩
 replace hS := hS.addN hs
 refine GO ?_
 obtain ⟨j262, H, K262⟩ := pbind H
 refine CJ.cut1 (fun F w1 => ∃ y23, some y23 = some j262 ∧ F = [(4, pt b2), (5, pt b3)] ∧ St w no w1 [box b2 ((carr 10 (carr 10 (ci .i16))).enc (Arr.mk' (Arr.mk' 0 : Arr 10 Int) : Arr 10 (Arr 10 Int))) 76, box b3 ((carr 10 (carr 10 (ci .i16))).enc y23) 76] [roC cSpot Aa1 ca1 a1]) ?_ ?_
 refine CJ.block ?_
 refine LQ (fun k F w1 => ∃ (y24 : Arr 10 (Arr 10 Int)) (y25 : List Spot) (y28 : Int) (A26 c27 : _), F = [(1, sl A26 y25 c27), (2, pt b1), (4, pt b2), (5, pt b3), (10, i6 y28)] ∧ St w no w1 [box b1 (cPasture.enc a0) 31, box b2 ((carr 10 (carr 10 (ci .i16))).enc (Arr.mk' (Arr.mk' 0 : Arr 10 Int) : Arr 10 (Arr 10 Int))) 76, box b3 ((carr 10 (carr 10 (ci .i16))).enc y24) 76, rowC cSpot A26 c27 55 y25] [roC cSpot Aa1 ca1 a1] ∧ q00.l4 a0 k y24 y25 y28 = some j262) k H hS ?_
 rintro k F w1 ⟨y24, y25, y28, A26, c27, rfl, hS, H⟩
 rw [q00.l4] at H
 refine GO ?_
 refine CP H (fun H => ?_) (fun H => ?_)
 refine CJ.skip (EJ.next ?_)
 obtain ⟨j281, H, K281⟩ := pbind H
 refine CJ.cut (fun F w1 => ∃ y29 y30 A31 c32, some j281 = some (y29, y30) ∧ F = [(1, sl A31 y30 c32), (2, pt b1), (4, pt b2), (5, pt b3), (10, i6 y28)] ∧ St w no w1 [box b1 (cPasture.enc a0) 31, box b2 ((carr 10 (carr 10 (ci .i16))).enc (Arr.mk' (Arr.mk' 0 : Arr 10 Int) : Arr 10 (Arr 10 Int))) 76, box b3 ((carr 10 (carr 10 (ci .i16))).enc y29) 76, rowC cSpot A31 c32 55 y30] [roC cSpot Aa1 ca1 a1]) ?_ ?_
 refine CJ.block ?_
 refine GO ?_
 obtain ⟨t33, ht33, H⟩ := pbind H
 obtain ⟨ad33, e33⟩ := (rC hS 3 Z).some' ht33
 refine OS (SI e33 (getI_some ht33).1) ?_
 refine OS (SE ((rC hS 3 Z).at_ e33 ht33)) ?_
 refine OF (EA hS (cSpot.enc (⟨0, 0⟩ : Spot))) ?_
 rintro _ w1 ⟨b34, rfl, hS⟩
 refine OJ.es Z Z (eS cSpot t33 hS (i := 4) Z Z Z Z Z Z Z Z Z Z) ?_
 intro w1 hS
 refine GO ?_
 obtain ⟨j286, H, K286⟩ := pbind H
 refine CJ.cut1 (fun F w1 => ∃ y35 y36 A37 c38, some j286 = some (y35, y36) ∧ F = [(1, sl A37 y36 c38), (2, pt b1), (4, pt b2), (5, pt b3), (10, i6 y28)] ∧ St w no w1 [box b1 (cPasture.enc a0) 31, box b2 ((carr 10 (carr 10 (ci .i16))).enc (Arr.mk' (Arr.mk' 0 : Arr 10 Int) : Arr 10 (Arr 10 Int))) 76, box b3 ((carr 10 (carr 10 (ci .i16))).enc y35) 76, rowC cSpot A37 c38 55 y36] [roC cSpot Aa1 ca1 a1]) ?_ ?_
 refine CJ.block ?_
 refine LQ (fun k F w1 => ∃ (y39 : Arr 10 (Arr 10 Int)) (y40 : List Spot) (y43 : Int) (A41 c42 : _), F = [(1, sl A41 y40 c42), (2, pt b1), (4, pt b2), (5, pt b3), (10, i6 y28), (11, pt b34), (52, i6 y43)] ∧ St w no w1 [box b1 (cPasture.enc a0) 31, box b2 ((carr 10 (carr 10 (ci .i16))).enc (Arr.mk' (Arr.mk' 0 : Arr 10 Int) : Arr 10 (Arr 10 Int))) 76, box b3 ((carr 10 (carr 10 (ci .i16))).enc y39) 76, rowC cSpot A41 c42 55 y40, box b34 (cSpot.enc t33) 55] [roC cSpot Aa1 ca1 a1] ∧ q00.l5 a0 t33 k y39 y40 y43 = some j286) k H hS ?_
 rintro k F w1 ⟨y39, y40, y43, A41, c42, rfl, hS, H⟩
 rw [q00.l5] at H
 refine GO ?_
 refine CP H (fun H => GO ?_) (fun H => ?_)
 refine CJ.block ?_
 refine GO ?_
 refine oS (SE (ce hS 4)) ?_
 refine OB H hS hb85 (q0u.c t33) fun t44 w1 H hS => ?_
 refine OF (EA hS (cSpot.enc (⟨0, 0⟩ : Spot))) ?_
 rintro _ w1 ⟨b45, rfl, hS⟩
 refine OJ.es Z Z (eS cSpot t44 hS (i := 5) Z Z Z Z Z Z Z Z Z Z) ?_
 intro w1 hS
 refine NX ?_
 obtain ⟨j289, H, K289⟩ := pbind H
 refine CJ.cut (fun F w1 => ∃ y46, some y46 = some j289 ∧ F = [(1, sl A41 y40 c42), (2, pt b1), (4, pt b2), (5, pt b3), (10, i6 y28), (11, pt b34), (13, pt b45), (52, i6 y43), (71, .bool y46)] ∧ St w no w1 [box b1 (cPasture.enc a0) 31, box b2 ((carr 10 (carr 10 (ci .i16))).enc (Arr.mk' (Arr.mk' 0 : Arr 10 Int) : Arr 10 (Arr 10 Int))) 76, box b3 ((carr 10 (carr 10 (ci .i16))).enc y39) 76, rowC cSpot A41 c42 55 y40, box b34 (cSpot.enc t33) 55, box b45 (cSpot.enc t44) 55] [roC cSpot Aa1 ca1 a1]) ?_ ?_
 refine CJ.draw [] [0, 1, 2, 3, 4, 5, 6, 7, 8, 9, 10, 11, 12, 13] mixed (by kernel_rfl) hS fun w1 hS => ?_
 refine DS (SE (ce hS 0)) ?_
 refine dS (SE (ce hS 4)) ?_
 obtain ⟨t47, ht47, H⟩ := pbind H
 refine DJ.callF rfl rfl rfl rfl rfl rfl rfl hb86 rfl (q1k.c a0 t33 _ ht47) (by rintro v w' ⟨rfl, hs⟩; exact hs) ?_
 rintro _ w1 ⟨rfl, hs⟩
 replace hS := hS.grow hs
 refine GO ?_
 refine DJ.split (t := 62) Z (fun hb => ?_) (fun hb => ?_)
 replace H := pif_t hb H
 refine GO ?_
 refine dS (SL (cf hS 5 1)) ?_
 refine DS (SL (cf hS 5 0)) ?_
 obtain ⟨t48, ht48, H⟩ := pbind H
 refine DJ.st Z Z Z Z Z (SR.idxA oU oI Z Z Z Z Z (Arr.lt ht48)) ?_
 obtain ⟨t49, ht49, H⟩ := pbind H
 refine DJ.st Z Z Z Z Z (SR.idxA oU oI Z Z Z Z Z (Arr.lt ht49)) ?_
 refine DS (SL (CA.idx (CA.idx (ce hS 2) ht48) ht49)) ?_
 exact MD H hS
 replace H := pifb_f hb H
 exact MD H hS
 rintro F w1 ⟨y46, he, rfl, hS⟩
 obtain rfl := Option.some.inj he
 have H := K289
 refine CB H (fun H => GO ?_) (fun H => ?_)
 refine CJ.draw [] [0, 1, 2, 3, 4, 5, 6, 7, 8, 9, 10, 11, 12, 13, 14] mixed (by kernel_rfl) hS fun w1 hS => ?_
 refine GO ?_
 refine dS (SL (cf hS 5 1)) ?_
 refine dS (SL (cf hS 5 0)) ?_
 refine dS (SL (cf hS 4 1)) ?_
 refine DS (SL (cf hS 4 0)) ?_
 obtain ⟨t50, ht50, H⟩ := pbind H
 refine DJ.st Z Z Z Z Z (SR.idxA oU oI Z Z Z Z Z (Arr.lt ht50)) ?_
 obtain ⟨t51, ht51, H⟩ := pbind H
 refine DJ.st Z Z Z Z Z (SR.idxA oU oI Z Z Z Z Z (Arr.lt ht51)) ?_
 refine dS (SL (CA.idx (CA.idx (ce hS 2) ht50) ht51)) ?_
 obtain ⟨t52, ht52, H⟩ := pbind H
 refine DJ.st Z Z Z Z Z (SR.idxA oU oI Z Z Z Z Z (Arr.lt ht52)) ?_
 obtain ⟨t53, ht53, H⟩ := pbind H
 refine DJ.st Z Z Z Z Z (SR.idxA oU oI Z Z Z Z Z (Arr.lt ht53)) ?_
 refine DJ.es rfl rfl rfl rfl (Es.put oI hS (i := 2) rfl rfl rfl rfl rfl (vs := (ci .i16).enc (IntKind.i16.wrap (t51 + 1))) rfl rfl (one1 rfl) (Put.idx (Put.idx (Put.all (ci .i16) t53 (IntKind.i16.wrap (t51 + 1))) ht53) ht52) (by (try simp only [add_lit, Nat.add_assoc, Nat.zero_add, Nat.add_zero]) <;> first | rfl | (congr 1; exact Nat.zero_add _))) ?_
 intro w1 hS
 refine GO ?_
 refine OS (SE (ce hS 5)) ?_
 refine OF (EL hS cSpot ([t44] : List Spot)) ?_
 rintro _ w1 ⟨A54, rfl, hS⟩
 obtain ⟨u55, hu55, H⟩ := pbind H
 refine OW (AP hS 3 (rC hS 6 Z) (chk_some hu55)) ?_
 rintro _ w1 ⟨A56, c57, rfl, hS⟩
 exact MD H hS
 exact MD H hS
 exact MD H hS
 rintro F w1 ⟨y35, y36, A37, c38, ⟨⟩, rfl, hS⟩
 have H := K286
 refine EJ.blk (?_)
 exact MD H hS
 rintro F w1 ⟨y29, y30, A31, c32, ⟨⟩, rfl, hS⟩
 have H := K281
 exact MD H hS
 exact MD H hS
 rintro F w1 ⟨y23, he, rfl, hS⟩
 obtain rfl := Option.some.inj he
 have H := K262
 refine EJ.next ?_
 refine GO ?_
 refine OS (SE (ce hS 1)) ?_
 refine OJ.es rfl rfl (Es.put oI hS (i := 0) rfl rfl rfl rfl rfl (vs := (carr 10 (carr 10 (ci .i16))).enc y23) rfl ((carr 10 (carr 10 (ci .i16))).len _) ((carr 10 (carr 10 (ci .i16))).one _) (Put.all (carr 10 (carr 10 (ci .i16))) (Arr.mk' (Arr.mk' 0 : Arr 10 Int) : Arr 10 (Arr 10 Int)) y23) (by (try simp only [add_lit, Nat.add_assoc, Nat.zero_add, Nat.add_zero]) <;> first | rfl | (congr 1; exact Nat.zero_add _))) ?_
 intro w1 hS
 refine GO ?_
 obtain rfl := Option.some.inj H
 exact EJ.fin Z (.cell Z (ldE oU oI Z Z Z (hS.cells (i := 0) Z) Z) .nil) ⟨Z, hS.ext⟩

def q1e.f (a0 : Arr 10 (Arr 10 Int)) (a1 : Spot) : Option Int := (getI a0.l a1.Y).bind fun t2 => (getI t2.l a1.X).bind fun t3 => some (IntKind.i64.wrap t3)
theorem q1e.c {w} (pa0 : Addr) (a0 : Arr 10 (Arr 10 Int)) (hp0 : CA w pa0 ((carr 10 (carr 10 (ci .i16))).enc a0)) (a1 : Spot) (r : Int) (H : q1e.f a0 a1 = some r) :
 CV Tryz.prog 37 [.pointer (some pa0), .agg (cSpot.enc a1).toArray].toArray w fun v w' => v = .int .i64 r ∧ Ext w w' := by
 have hS := ((St.init w no).paramP pa0 ((carr 10 (carr 10 (ci .i16))).enc a0) hp0)
 unfold q1e.f at H
 refine CV.body Tryz.func37 Z Tryz.ntmps37 Z ?_
 refine GO ?_
 refine oX hS (cSpot.enc a1) fun b1 w1 hS => ?_
 refine CJ.draw [] [0, 1, 2, 3, 4, 5, 6, 7, 8, 9, 10] mixed (by kernel_rfl) hS fun w1 hS => ?_
 refine GO ?_
 refine dS (SL (cf hS 0 1)) ?_
 refine dS (SL (cf hS 0 0)) ?_
 obtain ⟨t2, ht2, H⟩ := pbind H
 refine DJ.st Z Z Z Z Z (SR.idxA oU oI Z Z Z Z Z (Arr.lt ht2)) ?_
 obtain ⟨t3, ht3, H⟩ := pbind H
 refine DJ.st Z Z Z Z Z (SR.idxA oU oI Z Z Z Z Z (Arr.lt ht3)) ?_
 refine DS (SL (CA.idx (CA.idx (hS.ca (i := 0) Z) ht2) ht3)) ?_
 exact FE H hS

def q1l.f (a1 : Arr 10 (Arr 10 Int)) (a2 : Spot) (a0 : Spot) : Option Bool := (q1e.f a1 a0).bind fun t2 => (q1e.f a1 a2).bind fun t3 => some (decide (t2 ≠ (IntKind.i64.wrap (t3 - 1))))
theorem q1l.c {w} (qa1 : Addr) (a1 : Arr 10 (Arr 10 Int)) (hq1 : CA w qa1 ((carr 10 (carr 10 (ci .i16))).enc a1)) (pa1 : Addr) (hp1 : CA w pa1 [.pointer (some qa1)]) (pa2 : Addr) (a2 : Spot) (hp2 : CA w pa2 (cSpot.enc a2)) (a0 : Spot) (r : Bool) (H : q1l.f a1 a2 a0 = some r) :
 CV Tryz.prog 92 [.agg (cSpot.enc a0).toArray, .pointer (some pa1), .pointer (some pa2)].toArray w fun v w' => v = .bool r ∧ Ext w w' := by
 have hS := ((((St.init w no).paramP qa1 ((carr 10 (carr 10 (ci .i16))).enc a1) hq1).paramP pa1 [.pointer (some qa1)] hp1).paramP pa2 (cSpot.enc a2) hp2)
 unfold q1l.f at H
 refine CV.body Tryz.func92 Z Tryz.ntmps92 Z ?_
 refine GO ?_
 refine oX hS (cSpot.enc a0) fun b1 w1 hS => ?_
 refine CJ.draw [] [0, 1, 3, 4, 2, 5, 6, 7, 8] mixed (by kernel_rfl) hS fun w1 hS => ?_
 refine DS (SL (hS.ca (i := 1) Z)) ?_
 refine DS (SE (ce hS 0)) ?_
 refine DS (SL (hS.ca (i := 1) Z)) ?_
 refine DS (SE (hS.ca (i := 2) Z)) ?_
 obtain ⟨t2, ht2, H⟩ := pbind H
 refine DJ.callF rfl rfl rfl rfl rfl rfl rfl hb37 rfl (q1e.c _ a1 (hS.ca (i := 0) rfl) a0 _ ht2) (by rintro v w' ⟨rfl, hs⟩; exact hs) ?_
 rintro _ w1 ⟨rfl, hs⟩
 replace hS := hS.grow hs
 obtain ⟨t3, ht3, H⟩ := pbind H
 refine DJ.callF rfl rfl rfl rfl rfl rfl rfl hb37 rfl (q1e.c _ a1 (hS.ca (i := 0) rfl) a2 _ ht3) (by rintro v w' ⟨rfl, hs⟩; exact hs) ?_
 rintro _ w1 ⟨rfl, hs⟩
 replace hS := hS.grow hs
 exact FE H hS

def q0c.l1 (a0 : List Spot) (a1 : Spot → Spot → Option Int) : Nat → Spot → Int → Option Spot
  | 0, _, _ => none
  | k + 1, y5, y6 => if y6 < (a0.length : Int) then ((getI a0 y6).bind fun t7 => (a1 t7 y5).bind fun t8 => if t8 < 0 then ((getI a0 y6).bind fun t9 => q0c.l1 a0 a1 k t9 (IntKind.i64.wrap (y6 + 1))) else (q0c.l1 a0 a1 k y5 (IntKind.i64.wrap (y6 + 1)))) else (some y5)
def q0c.f (k : Nat) (a0 : List Spot) (a1 : Spot → Spot → Option Int) : Option Spot := if (a0.length : Int) < 1 then none else ((getI a0 0).bind fun t2 => (q0c.l1 a0 a1 k t2 1).bind fun y4 => some y4)
theorem q0c.c {k w Aa0 ca0} {a0 : List Spot} (hr0 : Rd cSpot w Aa0 a0) (hc0 : a0.length ≤ ca0) (na1 : Nat) (fsa1 : Array Value) (capa1 : Array Value) (hb1 : hasBody Tryz.prog na1) (a1 : Spot → Spot → Option Int) (hf1 : ∀ (z0 : Spot) (z1 : Spot) (r : Int), a1 z0 z1 = some r → ∀ w', Chg no w w' → CV Tryz.prog na1 (fsa1 ++ [.agg (cSpot.enc z0).toArray, .agg (cSpot.enc z1).toArray].toArray ++ capa1) w' fun v w'' => v = .int .i64 r ∧ Ext w' w'') (r : Spot) (H : q0c.f k a0 a1 = some r) :
 CV Tryz.prog 90 [sl Aa0 a0 ca0, .func (.func na1) fsa1 capa1].toArray w fun v w' => v = .agg (cSpot.enc r).toArray ∧ Ext w w' := by
 have hS := ((St.init w no).param cSpot Aa0 ca0 a0 hr0 hc0)
 unfold q0c.f at H
 refine CV.body Tryz.func90 Z Tryz.ntmps90 Z ?_
 refine GO ?_
 refine oA hS (cSpot.enc (⟨0, 0⟩ : Spot)) fun b1 w1 hS => ?_
 refine CP H (fun H => ?_) (fun H => ?_)
 cases H
 refine GO ?_
 obtain ⟨t2, ht2, H⟩ := pbind H
 obtain ⟨ad2, e2⟩ := (rA hS 0 Z).some' ht2
 refine OS (SI e2 (getI_some ht2).1) ?_
 refine OS (SE ((rA hS 0 Z).at_ e2 ht2)) ?_
 refine OF (EA hS (cSpot.enc (⟨0, 0⟩ : Spot))) ?_
 rintro _ w1 ⟨b3, rfl, hS⟩
 refine OJ.es Z Z (eS cSpot t2 hS (i := 1) Z Z Z Z Z Z Z Z Z Z) ?_
 intro w1 hS
 refine GO ?_
 obtain ⟨j292, H, K292⟩ := pbind H
 refine CJ.cut1 (fun F w1 => ∃ y4, some y4 = some j292 ∧ F = [(4, pt b1), (5, pt b3)] ∧ St w no w1 [box b1 (cSpot.enc (⟨0, 0⟩ : Spot)) 55, box b3 (cSpot.enc y4) 55] [roC cSpot Aa0 ca0 a0]) ?_ ?_
 refine CJ.block ?_
 refine LQ (fun k F w1 => ∃ (y5 : Spot) (y6 : Int), F = [(0, sl Aa0 a0 ca0), (1, .func (.func na1) fsa1 capa1), (4, pt b1), (5, pt b3), (6, i6 y6)] ∧ St w no w1 [box b1 (cSpot.enc (⟨0, 0⟩ : Spot)) 55, box b3 (cSpot.enc y5) 55] [roC cSpot Aa0 ca0 a0] ∧ q0c.l1 a0 a1 k y5 y6 = some j292) k H hS ?_
 rintro k F w1 ⟨y5, y6, rfl, hS, H⟩
 rw [q0c.l1] at H
 refine GO ?_
 refine CP H (fun H => GO ?_) (fun H => ?_)
 refine CJ.block ?_
 refine GO ?_
 refine CJ.draw [] [0, 1, 2, 3, 4, 5, 6, 7] mixed (by kernel_rfl) hS fun w1 hS => ?_
 refine GO ?_
 obtain ⟨t7, ht7, H⟩ := pbind H
 obtain ⟨ad7, e7⟩ := (rA hS 0 Z).some' ht7
 refine DS (SI e7 (getI_some ht7).1) ?_
 refine DS (SE ((rA hS 0 Z).at_ e7 ht7)) ?_
 refine DS (SE (ce hS 1)) ?_
 obtain ⟨t8, ht8, H⟩ := pbind H
 refine DJ.call rfl rfl rfl rfl rfl rfl rfl rfl hb1 rfl (hf1 t7 y5 _ ht8 _ hS.chg) (by rintro v w' ⟨rfl, hs⟩; exact hs) ?_
 rintro _ w1 ⟨rfl, hs⟩
 replace hS := hS.grow hs
 refine GO ?_
 refine CP H (fun H => GO ?_) (fun H => ?_)
 obtain ⟨t9, ht9, H⟩ := pbind H
 obtain ⟨ad9, e9⟩ := (rA hS 0 Z).some' ht9
 refine OS (SI e9 (getI_some ht9).1) ?_
 refine OS (SE ((rA hS 0 Z).at_ e9 ht9)) ?_
 refine OJ.es Z Z (eS cSpot t9 hS (i := 1) Z Z Z Z Z Z Z Z Z Z) ?_
 intro w1 hS
 exact MD H hS
 exact MD H hS
 exact MD H hS
 rintro F w1 ⟨y4, he, rfl, hS⟩
 obtain rfl := Option.some.inj he
 have H := K292
 refine EJ.next ?_
 refine GO ?_
 refine OS (SE (ce hS 1)) ?_
 refine OJ.es Z Z (eS cSpot y4 hS (i := 0) Z Z Z Z Z Z Z Z Z Z) ?_
 intro w1 hS
 refine GO ?_
 obtain rfl := Option.some.inj H
 exact EJ.fin Z (.cell Z (ldE oU oI Z Z Z (hS.cells (i := 0) Z) Z) .nil) ⟨Z, hS.ext⟩

def q14.l1 (a0 : Pasture) (a2 : Arr 10 (Arr 10 Int)) : Nat → Spot → (List Spot) → Option (List Spot)
  | 0, _, _ => none
  | k + 1, y8, y9 => (q1e.f a2 y8).bind fun t12 => if 0 < t12 then ((q0q.f k a0 y8).bind fun t13 => (q04.f k t13 (q1l.f a2 y8)).bind fun t16 => (q0c.f k t16 q0z.f).bind fun t19 => (chk (y9.length + ([t19] : List Spot).length ≤ 4294967296)).bind fun u21 => q14.l1 a0 a2 k t19 (y9 ++ ([t19] : List Spot))) else (some y9)
def q14.f (k : Nat) (a0 : Pasture) (a1 : Spot) (a2 : Arr 10 (Arr 10 Int)) : Option (List Spot) := (q14.l1 a0 a2 k a1 ([a1] : List Spot)).bind fun y5 => some y5
theorem q14.c {k w} (a0 : Pasture) (a1 : Spot) (pa2 : Addr) (a2 : Arr 10 (Arr 10 Int)) (hp2 : CA w pa2 ((carr 10 (carr 10 (ci .i16))).enc a2)) (r : List Spot) (H : q14.f k a0 a1 a2 = some r) :
 CV Tryz.prog 38 [.agg (cPasture.enc a0).toArray, .agg (cSpot.enc a1).toArray, .pointer (some pa2)].toArray w fun v w' => ∃ (A0 : Option Addr) (c0 : Nat), v = .slice A0 r.length c0 ∧ St w no w' [rowC cSpot A0 c0 55 r] [] := by
 have hS := ((St.init w no).paramP pa2 ((carr 10 (carr 10 (ci .i16))).enc a2) hp2)
 unfold q14.f at H
 refine CV.body Tryz.func38 Z Tryz.ntmps38 Z ?_
 refine GO ?_
 refine OF (EB hS (cPasture.enc a0)) ?_
 rintro _ w1 ⟨b1, rfl, hS⟩
 refine OF (EB hS (cSpot.enc a1)) ?_
 rintro _ w1 ⟨b2, rfl, hS⟩
 refine oX hS ([.pointer (some pa2)]) fun b3 w1 hS => ?_
 refine OS (SE (ce hS 1)) ?_
 refine OF (EL hS cSpot ([a1] : List Spot)) ?_
 rintro _ w1 ⟨A4, rfl, hS⟩
 refine PX 1 ?_
 obtain ⟨j291, H, K291⟩ := pbind H
 refine CJ.cut (fun F w1 => ∃ y5 A6 c7, some y5 = some j291 ∧ F = [(7, sl A6 y5 c7)] ∧ St w no w1 [rowC cSpot A6 c7 55 y5] [roP pa2 ((carr 10 (carr 10 (ci .i16))).enc a2)]) ?_ ?_
 refine CJ.block ?_
 refine LQ (fun k F w1 => ∃ (y8 : Spot) (y9 : List Spot) (A10 c11 : _), F = [(3, pt b1), (4, pt b2), (5, pt b3), (7, sl A10 y9 c11)] ∧ St w no w1 [box b1 (cPasture.enc a0) 31, box b2 (cSpot.enc y8) 55, box b3 ([.pointer (some pa2)]) 81, rowC cSpot A10 c11 55 y9] [roP pa2 ((carr 10 (carr 10 (ci .i16))).enc a2)] ∧ q14.l1 a0 a2 k y8 y9 = some j291) k H hS ?_
 rintro k F w1 ⟨y8, y9, A10, c11, rfl, hS, H⟩
 rw [q14.l1] at H
 refine GO ?_
 refine OS (SL (ce hS 2)) ?_
 refine OS (SE (ce hS 1)) ?_
 refine oB H hS hb37 (q1e.c _ a2 (hS.ca (i := 0) Z) y8) fun t12 w1 H hS => ?_
 refine CP H (fun H => GO ?_) (fun H => ?_)
 refine CJ.block ?_
 refine GO ?_
 refine OS (SE (ce hS 0)) ?_
 refine OS (SE (ce hS 1)) ?_
 obtain ⟨t13, ht13, H⟩ := pbind H
 refine OC hb55 (q0q.c a0 y8 _ ht13) ?_
 rintro _ w1 ⟨A14, c15, rfl, hs⟩
 replace hS := hS.addN hs
 refine GO ?_
 obtain ⟨t16, ht16, H⟩ := pbind H
 refine OC hb91 (q04.c 92 #[] #[.pointer (some ⟨b3, 0, none⟩), .pointer (some ⟨b2, 0, none⟩)] hb92 (q1l.f a2 y8) (fun z0 r h w' hx => CV.cast (q1l.c pa2 a2 (roP.ca (hS.stayR [4] hx (j := 0) rfl)) ⟨b3, 0, none⟩ (box.ca (hS.stayL [4] hx (j := 2) rfl rfl)) ⟨b2, 0, none⟩ y8 (box.ca (hS.stayL [4] hx (j := 1) rfl rfl)) z0 r h) (by simp)) ((hS.subs [4] [] [] rfl).pick [0] [] rfl) _ ht16) ?_
 rintro _ w1 ⟨A17, c18, rfl, hs⟩
 replace hS := hS.back' [] [4] rfl rfl [] [rowC cSpot A17 c18 55 t16] [] hs trivial (fun _ h => by cases h) (.inr rfl)
 have hS : St _ _ _ [_, _, _, _, _, _] _ := hS
 have hS : St _ _ _ [_, _, _, _, _, _] _ := hS
 refine OB H hS hb90 (q0c.c (rC hS 5 Z) (rD hS 5 Z) 88 #[] #[] hb88 q0z.f (fun z0 z1 r h w' hx => CV.cast (q0z.c z0 z1 r h) (by simp))) fun t19 w1 H hS => ?_
 refine OJ.es Z Z (eS cSpot t19 hS (i := 1) Z Z Z Z Z Z Z Z Z Z) ?_
 intro w1 hS
 refine GO ?_
 refine OS (SE (ce hS 1)) ?_
 refine OF (EL hS cSpot ([t19] : List Spot)) ?_
 rintro _ w1 ⟨A20, rfl, hS⟩
 obtain ⟨u21, hu21, H⟩ := pbind H
 refine OW (AP hS 3 (rC hS 6 Z) (chk_some hu21)) ?_
 rintro _ w1 ⟨A22, c23, rfl, hS⟩
 exact MD H hS
 exact MD H hS
 rintro F w1 ⟨y5, A6, c7, he, rfl, hS⟩
 obtain rfl := Option.some.inj he
 have H := K291
 refine GO ?_
 obtain rfl := Option.some.inj H
 exact FT ⟨A6, c7, Z, hS.pick [0] [] Z⟩

def q0p.l2 (a0 : List Spot) (y8 : Int) : Nat → (List Hurdle) → Int → Option (List Hurdle)
  | 0, _, _ => none
  | k + 1, y15, y18 => if y18 < 4 then ((getI a0 (IntKind.i64.wrap (y8 - 1))).bind fun t19 => (getI a0 y8).bind fun t20 => (q0u.f t19 y18).bind fun t21 => if t21 = t20 then ((getI a0 (IntKind.i64.wrap (y8 - 1))).bind fun t22 => (q1j.f t22 y18).bind fun t23 => (chk (y15.length + ([t23] : List Hurdle).length ≤ 4294967296)).bind fun u25 => q0p.l2 a0 y8 k (y15 ++ ([t23] : List Hurdle)) (IntKind.i64.wrap (y18 + 1))) else (q0p.l2 a0 y8 k y15 (IntKind.i64.wrap (y18 + 1)))) else (some y15)
def q0p.l1 (a0 : List Spot) : Nat → (List Hurdle) → Int → Option (List Hurdle)
  | 0, _, _ => none
  | k + 1, y5, y8 => if y8 < (a0.length : Int) then (((q0p.l2 a0 y8 k y5 0).bind fun y12 => some y12).bind fun y9 => q0p.l1 a0 k y9 (IntKind.i64.wrap (y8 + 1))) else (some y5)
def q0p.f (k : Nat) (a0 : List Spot) : Option (List Hurdle) := (q0p.l1 a0 k ([] : List Hurdle) 1).bind fun y2 => some y2
theorem q0p.c {k w Aa0 ca0} {a0 : List Spot} (hr0 : Rd cSpot w Aa0 a0) (hc0 : a0.length ≤ ca0) (r : List Hurdle) (H : q0p.f k a0 = some r) :
 CV Tryz.prog 40 [sl Aa0 a0 ca0].toArray w fun v w' => ∃ (A0 : Option Addr) (c0 : Nat), v = .slice A0 r.length c0 ∧ St w no w' [rowC cHurdle A0 c0 58 r] [] := by
 have hS := ((St.init w no).param cSpot Aa0 ca0 a0 hr0 hc0)
 unfold q0p.f at H
 refine CV.body Tryz.func40 Z Tryz.ntmps40 Z ?_
 refine GO ?_
 refine OF (EL hS cHurdle ([] : List Hurdle)) ?_
 rintro _ w1 ⟨A1, rfl, hS⟩
 refine GO ?_
 obtain ⟨j293, H, K293⟩ := pbind H
 refine CJ.cut1 (fun F w1 => ∃ y2 A3 c4, some y2 = some j293 ∧ F = [(3, sl A3 y2 c4)] ∧ St w no w1 [rowC cHurdle A3 c4 58 y2] [roC cSpot Aa0 ca0 a0]) ?_ ?_
 refine CJ.block ?_
 refine LQ (fun k F w1 => ∃ (y5 : List Hurdle) (y8 : Int) (A6 c7 : _), F = [(0, sl Aa0 a0 ca0), (3, sl A6 y5 c7), (4, i6 y8)] ∧ St w no w1 [rowC cHurdle A6 c7 58 y5] [roC cSpot Aa0 ca0 a0] ∧ q0p.l1 a0 k y5 y8 = some j293) k H hS ?_
 rintro k F w1 ⟨y5, y8, A6, c7, rfl, hS, H⟩
 rw [q0p.l1] at H
 refine GO ?_
 refine CP H (fun H => ?_) (fun H => ?_)
 refine CJ.skip (EJ.next ?_)
 obtain ⟨j300, H, K300⟩ := pbind H
 refine CJ.cut (fun F w1 => ∃ y9 A10 c11, some y9 = some j300 ∧ F = [(0, sl Aa0 a0 ca0), (3, sl A10 y9 c11), (4, i6 y8)] ∧ St w no w1 [rowC cHurdle A10 c11 58 y9] [roC cSpot Aa0 ca0 a0]) ?_ ?_
 refine CJ.block ?_
 refine GO ?_
 obtain ⟨j302, H, K302⟩ := pbind H
 refine CJ.cut1 (fun F w1 => ∃ y12 A13 c14, some y12 = some j302 ∧ F = [(0, sl Aa0 a0 ca0), (3, sl A13 y12 c14), (4, i6 y8)] ∧ St w no w1 [rowC cHurdle A13 c14 58 y12] [roC cSpot Aa0 ca0 a0]) ?_ ?_
 refine CJ.block ?_
 refine LQ (fun k F w1 => ∃ (y15 : List Hurdle) (y18 : Int) (A16 c17 : _), F = [(0, sl Aa0 a0 ca0), (3, sl A16 y15 c17), (4, i6 y8), (13, i6 y18)] ∧ St w no w1 [rowC cHurdle A16 c17 58 y15] [roC cSpot Aa0 ca0 a0] ∧ q0p.l2 a0 y8 k y15 y18 = some j302) k H hS ?_
 rintro k F w1 ⟨y15, y18, A16, c17, rfl, hS, H⟩
 rw [q0p.l2] at H
 refine GO ?_
 refine CP H (fun H => GO ?_) (fun H => ?_)
 refine CJ.block ?_
 refine GO ?_
 refine CJ.draw [] [0, 1, 2, 3, 4, 5, 7, 8, 9, 10, 6, 11] mixed (by kernel_rfl) hS fun w1 hS => ?_
 refine GO ?_
 obtain ⟨t19, ht19, H⟩ := pbind H
 obtain ⟨ad19, e19⟩ := (rA hS 0 Z).some' ht19
 refine DS (SI e19 (getI_some ht19).1) ?_
 refine dS (SE ((rA hS 0 Z).at_ e19 ht19)) ?_
 obtain ⟨t20, ht20, H⟩ := pbind H
 obtain ⟨ad20, e20⟩ := (rA hS 0 Z).some' ht20
 refine DS (SI e20 (getI_some ht20).1) ?_
 refine DS (SE ((rA hS 0 Z).at_ e20 ht20)) ?_
 obtain ⟨t21, ht21, H⟩ := pbind H
 refine DJ.callF rfl rfl rfl rfl rfl rfl rfl hb85 rfl (q0u.c t19 _ ht21) (by rintro v w' ⟨rfl, hs⟩; exact hs) ?_
 rintro _ w1 ⟨rfl, hs⟩
 replace hS := hS.grow hs
 refine DJ.st Z Z Z Z Z (SR.eqS eqT55 eqG55 Z Z Z (Z : _ = (cSpot.enc t21).toArray) (Z : _ = (cSpot.enc t20).toArray)) ?_
 refine GO ?_
 refine CP H (fun H => GO ?_) (fun H => ?_)
 obtain ⟨t22, ht22, H⟩ := pbind H
 obtain ⟨ad22, e22⟩ := (rA hS 0 Z).some' ht22
 refine OS (SI e22 (getI_some ht22).1) ?_
 refine oS (SE ((rA hS 0 Z).at_ e22 ht22)) ?_
 refine OB H hS hb94 (q1j.c t22) fun t23 w1 H hS => ?_
 refine OF (EL hS cHurdle ([t23] : List Hurdle)) ?_
 rintro _ w1 ⟨A24, rfl, hS⟩
 obtain ⟨u25, hu25, H⟩ := pbind H
 refine OW (AP hS 0 (rC hS 1 Z) (chk_some hu25)) ?_
 rintro _ w1 ⟨A26, c27, rfl, hS⟩
 exact MD H hS
 exact MD H hS
 exact MD H hS
 rintro F w1 ⟨y12, A13, c14, he, rfl, hS⟩
 obtain rfl := Option.some.inj he
 have H := K302
 refine EJ.blk (?_)
 exact MD H hS
 rintro F w1 ⟨y9, A10, c11, he, rfl, hS⟩
 obtain rfl := Option.some.inj he
 have H := K300
 exact MD H hS
 exact MD H hS
 rintro F w1 ⟨y2, A3, c4, he, rfl, hS⟩
 obtain rfl := Option.some.inj he
 have H := K293
 refine EJ.next ?_
 refine GO ?_
 obtain rfl := Option.some.inj H
 exact FT ⟨A3, c4, Z, hS.pick [0] [] Z⟩

def q20.f (a0 : Pasture) (a1 : Hurdle) (a2 : Bool) : Option Pasture := if a1.South = true then ((getI a0.South.l a1.At.Y).bind fun t2 => (chk (0 ≤ a1.At.X)).bind fun u3 => (getI a0.South.l a1.At.Y).bind fun t4 => if a2 = true then ((getI (aset a0.South a1.At.Y.toNat (andNotI .u16 t2 (shlI .u16 1 a1.At.X))).l a1.At.Y).bind fun t5 => (chk (0 ≤ a1.At.X)).bind fun u6 => (getI (aset a0.South a1.At.Y.toNat (andNotI .u16 t2 (shlI .u16 1 a1.At.X))).l a1.At.Y).bind fun t7 => some (⟨a0.Wide, a0.High, a0.Grass, a0.East, (aset (aset a0.South a1.At.Y.toNat (andNotI .u16 t2 (shlI .u16 1 a1.At.X))) a1.At.Y.toNat (orI .u16 t5 (shlI .u16 1 a1.At.X)))⟩ : Pasture)) else (some (⟨a0.Wide, a0.High, a0.Grass, a0.East, (aset a0.South a1.At.Y.toNat (andNotI .u16 t2 (shlI .u16 1 a1.At.X)))⟩ : Pasture))) else ((getI a0.East.l a1.At.Y).bind fun t8 => (chk (0 ≤ a1.At.X)).bind fun u9 => (getI a0.East.l a1.At.Y).bind fun t10 => if a2 = true then ((getI (aset a0.East a1.At.Y.toNat (andNotI .u16 t8 (shlI .u16 1 a1.At.X))).l a1.At.Y).bind fun t11 => (chk (0 ≤ a1.At.X)).bind fun u12 => (getI (aset a0.East a1.At.Y.toNat (andNotI .u16 t8 (shlI .u16 1 a1.At.X))).l a1.At.Y).bind fun t13 => some (⟨a0.Wide, a0.High, a0.Grass, (aset (aset a0.East a1.At.Y.toNat (andNotI .u16 t8 (shlI .u16 1 a1.At.X))) a1.At.Y.toNat (orI .u16 t11 (shlI .u16 1 a1.At.X))), a0.South⟩ : Pasture)) else (some (⟨a0.Wide, a0.High, a0.Grass, (aset a0.East a1.At.Y.toNat (andNotI .u16 t8 (shlI .u16 1 a1.At.X))), a0.South⟩ : Pasture)))
theorem q20.c {w} (ba0 : Nat) (a0 : Pasture) (a1 : Hurdle) {a2 : Bool} (hin : St w (fpU [box ba0 (cPasture.enc a0) 31]) w [box ba0 (cPasture.enc a0) 31] []) (r : Pasture) (H : q20.f a0 a1 a2 = some r) :
 CV Tryz.prog 93 [pt ba0, .agg (cHurdle.enc a1).toArray, .bool a2].toArray w fun v w' => v = .tuple #[] ∧ St w (fpU [box ba0 (cPasture.enc a0) 31]) w' [box ba0 (cPasture.enc r) 31] [] := by
 have hS := hin
 unfold q20.f at H
 refine CV.body Tryz.func93 Z Tryz.ntmps93 Z ?_
 refine GO ?_
 refine oX hS (cHurdle.enc a1) fun b1 w1 hS => ?_
 refine oS (SL (cf hS 1 2)) ?_
 refine CB H (fun H => GO ?_) (fun H => ?_)
 refine CJ.draw [] [0, 1, 2, 3, 4, 5, 6, 7, 8, 9, 10, 11, 12, 13, 14] mixed (by kernel_rfl) hS fun w1 hS => ?_
 refine GO ?_
 refine dS (SL (CA.sub (cf hS 1 0) 1)) ?_
 obtain ⟨t2, ht2, H⟩ := pbind H
 refine DJ.st Z Z Z Z Z (SR.idxA oU oI Z Z Z Z Z (Arr.lt ht2)) ?_
 refine dS (SL (CA.idx (CA.fld (ce hS 0) (mid_part (fe_Pasture_4 _) (fl_Pasture_4 _) ((carr 10 (ci .u16)).len _))) ht2)) ?_
 refine DS (SL (CA.sub (cf hS 1 0) 0)) ?_
 obtain ⟨u3, hu3, H⟩ := pbind H
 refine DJ.st Z Z Z Z Z (SR.shl Z Z Z (chk_some hu3)) ?_
 refine GO ?_
 obtain ⟨t4, ht4, H⟩ := pbind H
 refine DJ.st Z Z Z Z Z (SR.idxA oU oI Z Z Z Z Z (Arr.lt ht4)) ?_
 refine DJ.es rfl rfl rfl rfl (Es.put oI hS (i := 0) rfl rfl rfl rfl rfl (vs := (ci .u16).enc (andNotI .u16 t2 (shlI .u16 1 a1.At.X))) rfl rfl (one1 rfl) (put_Pasture_4 (Put.idx (Put.all (ci .u16) t4 (andNotI .u16 t2 (shlI .u16 1 a1.At.X))) ht4)) (by (try simp only [add_lit, Nat.add_assoc, Nat.zero_add, Nat.add_zero]) <;> first | rfl | (congr 1; exact Nat.zero_add _))) ?_
 intro w1 hS
 refine GO ?_
 refine CB H (fun H => ?_) (fun H => ?_)
 refine CJ.draw [] [0, 1, 2, 3, 4, 5, 6, 7, 8, 9, 10, 11, 12, 13, 14] mixed (by kernel_rfl) hS fun w1 hS => ?_
 refine GO ?_
 refine dS (SL (CA.sub (cf hS 1 0) 1)) ?_
 obtain ⟨t5, ht5, H⟩ := pbind H
 refine DJ.st Z Z Z Z Z (SR.idxA oU oI Z Z Z Z Z (Arr.lt ht5)) ?_
 refine dS (SL (CA.idx (CA.fld (ce hS 0) (mid_part (fe_Pasture_4 _) (fl_Pasture_4 _) ((carr 10 (ci .u16)).len _))) ht5)) ?_
 refine DS (SL (CA.sub (cf hS 1 0) 0)) ?_
 obtain ⟨u6, hu6, H⟩ := pbind H
 refine DJ.st Z Z Z Z Z (SR.shl Z Z Z (chk_some hu6)) ?_
 refine GO ?_
 obtain ⟨t7, ht7, H⟩ := pbind H
 refine DJ.st Z Z Z Z Z (SR.idxA oU oI Z Z Z Z Z (Arr.lt ht7)) ?_
 refine DJ.es rfl rfl rfl rfl (Es.put oI hS (i := 0) rfl rfl rfl rfl rfl (vs := (ci .u16).enc (orI .u16 t5 (shlI .u16 1 a1.At.X))) rfl rfl (one1 rfl) (put_Pasture_4 (Put.idx (Put.all (ci .u16) t7 (orI .u16 t5 (shlI .u16 1 a1.At.X))) ht7)) (by (try simp only [add_lit, Nat.add_assoc, Nat.zero_add, Nat.add_zero]) <;> first | rfl | (congr 1; exact Nat.zero_add _))) ?_
 intro w1 hS
 refine GO ?_
 obtain rfl := Option.some.inj H
 exact EJ.fin' Z .nil ⟨Z, hS.pick [0] [] Z⟩
 refine GO ?_
 obtain rfl := Option.some.inj H
 exact EJ.fin' Z .nil ⟨Z, hS.pick [0] [] Z⟩
 refine GO ?_
 refine CJ.draw [] [0, 1, 2, 3, 4, 5, 6, 7, 8, 9, 10, 11, 12, 13, 14] mixed (by kernel_rfl) hS fun w1 hS => ?_
 refine GO ?_
 refine dS (SL (CA.sub (cf hS 1 0) 1)) ?_
 obtain ⟨t8, ht8, H⟩ := pbind H
 refine DJ.st Z Z Z Z Z (SR.idxA oU oI Z Z Z Z Z (Arr.lt ht8)) ?_
 refine dS (SL (CA.idx (CA.fld (ce hS 0) (mid_part (fe_Pasture_3 _) (fl_Pasture_3 _) ((carr 10 (ci .u16)).len _))) ht8)) ?_
 refine DS (SL (CA.sub (cf hS 1 0) 0)) ?_
 obtain ⟨u9, hu9, H⟩ := pbind H
 refine DJ.st Z Z Z Z Z (SR.shl Z Z Z (chk_some hu9)) ?_
 refine GO ?_
 obtain ⟨t10, ht10, H⟩ := pbind H
 refine DJ.st Z Z Z Z Z (SR.idxA oU oI Z Z Z Z Z (Arr.lt ht10)) ?_
 refine DJ.es rfl rfl rfl rfl (Es.put oI hS (i := 0) rfl rfl rfl rfl rfl (vs := (ci .u16).enc (andNotI .u16 t8 (shlI .u16 1 a1.At.X))) rfl rfl (one1 rfl) (put_Pasture_3 (Put.idx (Put.all (ci .u16) t10 (andNotI .u16 t8 (shlI .u16 1 a1.At.X))) ht10)) (by (try simp only [add_lit, Nat.add_assoc, Nat.zero_add, Nat.add_zero]) <;> first | rfl | (congr 1; exact Nat.zero_add _))) ?_
 intro w1 hS
 refine GO ?_
 refine CB H (fun H => ?_) (fun H => ?_)
 refine CJ.draw [] [0, 1, 2, 3, 4, 5, 6, 7, 8, 9, 10, 11, 12, 13, 14] mixed (by kernel_rfl) hS fun w1 hS => ?_
 refine GO ?_
 refine dS (SL (CA.sub (cf hS 1 0) 1)) ?_
 obtain ⟨t11, ht11, H⟩ := pbind H
 refine DJ.st Z Z Z Z Z (SR.idxA oU oI Z Z Z Z Z (Arr.lt ht11)) ?_
 refine dS (SL (CA.idx (CA.fld (ce hS 0) (mid_part (fe_Pasture_3 _) (fl_Pasture_3 _) ((carr 10 (ci .u16)).len _))) ht11)) ?_
 refine DS (SL (CA.sub (cf hS 1 0) 0)) ?_
 obtain ⟨u12, hu12, H⟩ := pbind H
 refine DJ.st Z Z Z Z Z (SR.shl Z Z Z (chk_some hu12)) ?_
 refine GO ?_
 obtain ⟨t13, ht13, H⟩ := pbind H
 refine DJ.st Z Z Z Z Z (SR.idxA oU oI Z Z Z Z Z (Arr.lt ht13)) ?_
 refine DJ.es rfl rfl rfl rfl (Es.put oI hS (i := 0) rfl rfl rfl rfl rfl (vs := (ci .u16).enc (orI .u16 t11 (shlI .u16 1 a1.At.X))) rfl rfl (one1 rfl) (put_Pasture_3 (Put.idx (Put.all (ci .u16) t13 (orI .u16 t11 (shlI .u16 1 a1.At.X))) ht13)) (by (try simp only [add_lit, Nat.add_assoc, Nat.zero_add, Nat.add_zero]) <;> first | rfl | (congr 1; exact Nat.zero_add _))) ?_
 intro w1 hS
 refine GO ?_
 obtain rfl := Option.some.inj H
 exact EJ.fin' Z .nil ⟨Z, hS.pick [0] [] Z⟩
 refine GO ?_
 obtain rfl := Option.some.inj H
 exact EJ.fin' Z .nil ⟨Z, hS.pick [0] [] Z⟩

def q0r.l1 (a1 : List Hurdle) (a2 : Bool) : Nat → Pasture → Int → Option Pasture
  | 0, _, _ => none
  | k + 1, y4, y5 => if y5 < (a1.length : Int) then ((getI a1 y5).bind fun t6 => (q20.f y4 t6 a2).bind fun t8 => q0r.l1 a1 a2 k t8 (IntKind.i64.wrap (y5 + 1))) else (some y4)
def q0r.f (k : Nat) (a0 : Pasture) (a1 : List Hurdle) (a2 : Bool) : Option Pasture := (q0r.l1 a1 a2 k a0 0).bind fun y3 => some y3
theorem q0r.c {k w} (a0 : Pasture) {Aa1 ca1} {a1 : List Hurdle} (hr1 : Rd cHurdle w Aa1 a1) (hc1 : a1.length ≤ ca1) {a2 : Bool} (r : Pasture) (H : q0r.f k a0 a1 a2 = some r) :
 CV Tryz.prog 39 [.agg (cPasture.enc a0).toArray, sl Aa1 a1 ca1, .bool a2].toArray w fun v w' => v = .agg (cPasture.enc r).toArray ∧ Ext w w' := by
 have hS := ((St.init w no).param cHurdle Aa1 ca1 a1 hr1 hc1)
 unfold q0r.f at H
 refine CV.body Tryz.func39 Z Tryz.ntmps39 Z ?_
 refine GO ?_
 refine OF (EB hS (cPasture.enc a0)) ?_
 rintro _ w1 ⟨b1, rfl, hS⟩
 refine OJ.ef rfl rfl rfl (Ef.alloc hS oI rfl rfl (cPasture.enc (⟨0, 0, (Arr.mk' (Arr.mk' 0 : Arr 10 Int) : Arr 10 (Arr 10 Int)), (Arr.mk' 0 : Arr 10 Int), (Arr.mk' 0 : Arr 10 Int)⟩ : Pasture)) (by kernel_rfl)) ?_
 rintro _ w1 ⟨b2, rfl, hS⟩
 refine GO ?_
 obtain ⟨j303, H, K303⟩ := pbind H
 refine CJ.cut1 (fun F w1 => ∃ y3, some y3 = some j303 ∧ F = [(3, pt b1), (6, pt b2)] ∧ St w no w1 [box b1 (cPasture.enc y3) 31, box b2 (cPasture.enc (⟨0, 0, (Arr.mk' (Arr.mk' 0 : Arr 10 Int) : Arr 10 (Arr 10 Int)), (Arr.mk' 0 : Arr 10 Int), (Arr.mk' 0 : Arr 10 Int)⟩ : Pasture)) 31] [roC cHurdle Aa1 ca1 a1]) ?_ ?_
 refine CJ.block ?_
 refine LQ (fun k F w1 => ∃ (y4 : Pasture) (y5 : Int), F = [(2, .bool a2), (3, pt b1), (6, pt b2), (9, sl Aa1 a1 ca1), (10, i6 (a1.length : Int)), (11, i6 y5)] ∧ St w no w1 [box b1 (cPasture.enc y4) 31, box b2 (cPasture.enc (⟨0, 0, (Arr.mk' (Arr.mk' 0 : Arr 10 Int) : Arr 10 (Arr 10 Int)), (Arr.mk' 0 : Arr 10 Int), (Arr.mk' 0 : Arr 10 Int)⟩ : Pasture)) 31] [roC cHurdle Aa1 ca1 a1] ∧ q0r.l1 a1 a2 k y4 y5 = some j303) k H hS ?_
 rintro k F w1 ⟨y4, y5, rfl, hS, H⟩
 rw [q0r.l1] at H
 refine GO ?_
 refine CP H (fun H => GO ?_) (fun H => ?_)
 refine CJ.block ?_
 refine GO ?_
 obtain ⟨t6, ht6, H⟩ := pbind H
 obtain ⟨ad6, e6⟩ := (rA hS 0 Z).some' ht6
 refine OS (SI e6 (getI_some ht6).1) ?_
 refine OS (SE ((rA hS 0 Z).at_ e6 ht6)) ?_
 refine OF (EA hS (cHurdle.enc (⟨(⟨0, 0⟩ : Spot), false⟩ : Hurdle))) ?_
 rintro _ w1 ⟨b7, rfl, hS⟩
 refine OJ.es Z Z (eS cHurdle t6 hS (i := 2) Z Z Z Z Z Z Z Z Z Z) ?_
 intro w1 hS
 refine GO ?_
 refine oS (SE (ce hS 2)) ?_
 obtain ⟨t8, ht8, H⟩ := pbind H
 refine OC hb93 (q20.c b1 y4 t6 ((hS.subs [0] [] [] Z).pick [0] [] Z) _ ht8) ?_
 rintro _ w1 ⟨rfl, hs⟩
 replace hS := hS.back [0] Z Z [box b1 (cPasture.enc t8) 31] [] hs ⟨fun _ => Iff.rfl, trivial⟩
 exact MD H hS
 exact MD H hS
 rintro F w1 ⟨y3, he, rfl, hS⟩
 obtain rfl := Option.some.inj he
 have H := K303
 refine EJ.next ?_
 refine GO ?_
 refine OS (SE (ce hS 0)) ?_
 refine OJ.es rfl rfl (Es.put oI hS (i := 1) rfl rfl rfl rfl rfl (vs := cPasture.enc y3) rfl (cPasture.len _) (cPasture.one _) (Put.all cPasture (⟨0, 0, (Arr.mk' (Arr.mk' 0 : Arr 10 Int) : Arr 10 (Arr 10 Int)), (Arr.mk' 0 : Arr 10 Int), (Arr.mk' 0 : Arr 10 Int)⟩ : Pasture) y3) (by (try simp only [add_lit, Nat.add_assoc, Nat.zero_add, Nat.add_zero]) <;> first | rfl | (congr 1; exact Nat.zero_add _))) ?_
 intro w1 hS
 refine GO ?_
 obtain rfl := Option.some.inj H
 exact EJ.fin Z (.cell Z (ldE oU oI Z Z Z (hS.cells (i := 1) Z) Z) .nil) ⟨Z, hS.ext⟩

def q0l.l2 (t9 : Arr 10 (Arr 10 Int)) (t12 : List Spot) : Nat → Spot → Int → Int → Option (Spot × Int)
  | 0, _, _, _ => none
  | k + 1, y17, y18, y19 => if y19 < (t12.length : Int) then ((getI t12 y19).bind fun t20 => (q1e.f t9 t20).bind fun t22 => if 0 ≤ t22 then (if y18 < 0 then (q0l.l2 t9 t12 k t20 t22 (IntKind.i64.wrap (y19 + 1))) else (if t22 < y18 then (q0l.l2 t9 t12 k t20 t22 (IntKind.i64.wrap (y19 + 1))) else (q0l.l2 t9 t12 k y17 y18 (IntKind.i64.wrap (y19 + 1))))) else (q0l.l2 t9 t12 k y17 y18 (IntKind.i64.wrap (y19 + 1)))) else (some (y17, y18))
def q0l.l1 (a1 : List Spot) (a2 : List Spot) : Nat → Pasture → (List (List Spot)) → Option ((List (List Spot) × Int) ⊕ Unit)
  | 0, _, _ => none
  | k + 1, y4, y5 => (q00.f k y4 a2).bind fun t9 => (q2g.f k a1).bind fun t12 => (q0l.l2 t9 t12 k (⟨0, 0⟩ : Spot) (-1) 0).bind fun (y15, y16) => if y16 < 0 then (some (Sum.inl (y5, 0))) else ((q14.f k y4 y15 t9).bind fun t23 => (chk (y5.length + [t23].length ≤ 4294967296)).bind fun u27 => (q0p.f k t23).bind fun t31 => (q0r.f k y4 t31 true).bind fun t34 => q0l.l1 a1 a2 k t34 (y5 ++ [t23]))
def q0l.f (k : Nat) (a0 : Pasture) (a1 : List Spot) (a2 : List Spot) : Option (List (List Spot) × Int) := (q2j.f k a0 a1 a2).bind fun t2 => if t2 ≠ 0 then (some ([], t2)) else ((q0l.l1 a1 a2 k a0 ([] : List (List Spot))).bind fun s250 => match s250 with | .inl r => some r | .inr _ => none)
theorem q0l.c {k w} (a0 : Pasture) {Aa1 ca1} {a1 : List Spot} (hr1 : Rd cSpot w Aa1 a1) (hc1 : a1.length ≤ ca1) {Aa2 ca2} {a2 : List Spot} (hr2 : Rd cSpot w Aa2 a2) (hc2 : a2.length ≤ ca2) (r : List (List Spot) × Int) (H : q0l.f k a0 a1 a2 = some r) :
 CV Tryz.prog 12 [.agg (cPasture.enc a0).toArray, sl Aa1 a1 ca1, sl Aa2 a2 ca2].toArray w fun v w' => ∃ (A0 : Option Addr) (c0 : Nat) (D0 : List SH), v = .tuple #[sl A0 r.1 c0, i6 r.2] ∧ St w no w' [rowsC cSpot A0 c0 33 55 D0 r.1] [] := by
 have hS := (((St.init w no).param cSpot Aa1 ca1 a1 hr1 hc1).param cSpot Aa2 ca2 a2 hr2 hc2)
 unfold q0l.f at H
 refine CV.body Tryz.func12 Z Tryz.ntmps12 Z ?_
 refine GO ?_
 refine oX hS (cPasture.enc a0) fun b1 w1 hS => ?_
 refine oS (SE (ce hS 0)) ?_
 refine oB H hS hb29 (q2j.c a0 (rA hS 0 Z) (rB hS 0 Z) (rA hS 1 Z) (rB hS 1 Z)) fun t2 w1 H hS => ?_
 refine CP H (fun H => GO ?_) (fun H => ?_)
 replace hS := hS.addNilS cSpot 33 55
 obtain rfl := Option.some.inj H
 exact EJ.fin Z (.tmp Z (.tmp Z .nil)) ⟨none, 0, [], Z, hS.pick [1] [] Z⟩
 refine GO ?_
 refine OJ.ef Z Z Z (Ef.litS0 (e := 55) oU oI hS Z Z Z Z cSpot) ?_
 rintro _ w1 ⟨A3, rfl, hS⟩
 refine GO ?_
 obtain ⟨j250, H, K250⟩ := pbind H
 refine CJ.cut1 (fun _ _ => False) ?_ ?_
 refine CJ.block ?_
 refine LQ (fun k F w1 => ∃ (y4 : Pasture) (y5 : List (List Spot)) (A6 c7 D8 : _), F = [(1, sl Aa1 a1 ca1), (2, sl Aa2 a2 ca2), (3, pt b1), (6, .slice none 0 0), (7, i6 0), (9, sl A6 y5 c7)] ∧ St w no w1 [box b1 (cPasture.enc y4) 31, rowsC cSpot A6 c7 33 55 D8 y5] [roC cSpot Aa1 ca1 a1, roC cSpot Aa2 ca2 a2] ∧ q0l.l1 a1 a2 k y4 y5 = some j250) k H hS ?_
 rintro k F w1 ⟨y4, y5, A6, c7, D8, rfl, hS, H⟩
 rw [q0l.l1] at H
 refine CJ.block ?_
 refine GO ?_
 refine oS (SE (ce hS 0)) ?_
 refine OB H hS hb35 (q00.c y4 (rA hS 1 Z) (rB hS 1 Z)) fun t9 w1 H hS => ?_
 refine OJ.st Z Z Z (SR.build (C := cSpot) oU oI Z Z Z (zs := [.int .i8 0, .int .i8 0]) Z Z Z (⟨0, 0⟩ : Spot) Z) ?_
 refine OJ.ef rfl rfl rfl (Ef.alloc hS oI rfl rfl ((carr 10 (carr 10 (ci .i16))).enc (Arr.mk' (Arr.mk' 0 : Arr 10 Int) : Arr 10 (Arr 10 Int))) (by kernel_rfl)) ?_
 rintro _ w1 ⟨b10, rfl, hS⟩
 refine OF (EA hS (cSpot.enc (⟨0, 0⟩ : Spot))) ?_
 rintro _ w1 ⟨b11, rfl, hS⟩
 refine OJ.es rfl rfl (Es.put oI hS (i := 2) rfl rfl rfl rfl rfl (vs := (carr 10 (carr 10 (ci .i16))).enc t9) rfl ((carr 10 (carr 10 (ci .i16))).len _) ((carr 10 (carr 10 (ci .i16))).one _) (Put.all (carr 10 (carr 10 (ci .i16))) (Arr.mk' (Arr.mk' 0 : Arr 10 Int) : Arr 10 (Arr 10 Int)) t9) (by (try simp only [add_lit, Nat.add_assoc, Nat.zero_add, Nat.add_zero]) <;> first | rfl | (congr 1; exact Nat.zero_add _))) ?_
 intro w1 hS
 refine OJ.es Z Z (eS cSpot (⟨0, 0⟩ : Spot) hS (i := 3) Z Z Z Z Z Z Z Z Z Z) ?_
 intro w1 hS
 refine GO ?_
 obtain ⟨t12, ht12, H⟩ := pbind H
 refine OC hb36 (q2g.c (rA hS 0 Z) (rB hS 0 Z) _ ht12) ?_
 rintro _ w1 ⟨A13, c14, rfl, hs⟩
 replace hS := hS.addN hs
 refine GO ?_
 obtain ⟨j305, H, K305⟩ := pbind H
 refine CJ.cut1 (fun F w1 => ∃ y15 y16, some j305 = some (y15, y16) ∧ F = [(1, sl Aa1 a1 ca1), (2, sl Aa2 a2 ca2), (3, pt b1), (6, .slice none 0 0), (7, i6 0), (9, sl A6 y5 c7), (10, pt b10), (11, pt b11), (12, i6 y16)] ∧ St w no w1 [box b1 (cPasture.enc y4) 31, rowsC cSpot A6 c7 33 55 D8 y5, box b10 ((carr 10 (carr 10 (ci .i16))).enc t9) 76, box b11 (cSpot.enc y15) 55] [roC cSpot Aa1 ca1 a1, roC cSpot Aa2 ca2 a2]) ?_ ?_
 refine CJ.block ?_
 refine LQ (fun k F w1 => ∃ (y17 : Spot) (y18 : Int) (y19 : Int), F = [(1, sl Aa1 a1 ca1), (2, sl Aa2 a2 ca2), (3, pt b1), (6, .slice none 0 0), (7, i6 0), (9, sl A6 y5 c7), (10, pt b10), (11, pt b11), (12, i6 y18), (30, sl A13 t12 c14), (31, i6 (t12.length : Int)), (32, i6 y19)] ∧ St w no w1 [box b1 (cPasture.enc y4) 31, rowsC cSpot A6 c7 33 55 D8 y5, box b10 ((carr 10 (carr 10 (ci .i16))).enc t9) 76, box b11 (cSpot.enc y17) 55, rowC cSpot A13 c14 55 t12] [roC cSpot Aa1 ca1 a1, roC cSpot Aa2 ca2 a2] ∧ q0l.l2 t9 t12 k y17 y18 y19 = some j305) k H hS ?_
 rintro k F w1 ⟨y17, y18, y19, rfl, hS, H⟩
 rw [q0l.l2] at H
 refine GO ?_
 refine CP H (fun H => GO ?_) (fun H => ?_)
 refine CJ.block ?_
 refine GO ?_
 obtain ⟨t20, ht20, H⟩ := pbind H
 obtain ⟨ad20, e20⟩ := (rC hS 4 Z).some' ht20
 refine OS (SI e20 (getI_some ht20).1) ?_
 refine OS (SE ((rC hS 4 Z).at_ e20 ht20)) ?_
 refine OF (EA hS (cSpot.enc (⟨0, 0⟩ : Spot))) ?_
 rintro _ w1 ⟨b21, rfl, hS⟩
 refine OJ.es Z Z (eS cSpot t20 hS (i := 5) Z Z Z Z Z Z Z Z Z Z) ?_
 intro w1 hS
 refine GO ?_
 refine OS (SE (ce hS 5)) ?_
 refine oB H hS hb37 (q1e.c _ t9 (hS.cells (i := 2) Z) t20) fun t22 w1 H hS => ?_
 refine OJ.split (t := 40) Z (fun hb => ?_) (fun hb => ?_)
 replace H := pif_t (of_decide_eq_true hb) H
 refine GO ?_
 refine OJ.split (t := 43) Z (fun hb => ?_) (fun hb => ?_)
 replace H := pif_t (of_decide_eq_true hb) H
 refine GO ?_
 refine CJ.condT Z ?_
 refine GO ?_
 refine oS (SE (ce hS 5)) ?_
 refine OJ.es Z Z (eS cSpot t20 hS (i := 3) Z Z Z Z Z Z Z Z Z Z) ?_
 intro w1 hS
 exact MD H hS
 replace H := pif_f (of_decide_eq_false hb) H
 refine GO ?_
 refine CP H (fun H => GO ?_) (fun H => ?_)
 refine oS (SE (ce hS 5)) ?_
 refine OJ.es Z Z (eS cSpot t20 hS (i := 3) Z Z Z Z Z Z Z Z Z Z) ?_
 intro w1 hS
 exact MD H hS
 exact MD H hS
 replace H := pif_f (of_decide_eq_false hb) H
 refine GO ?_
 refine CJ.condF Z ?_
 exact MD H hS
 exact MD H hS
 rintro F w1 ⟨y15, y16, ⟨⟩, rfl, hS⟩
 have H := K305
 refine EJ.next ?_
 refine GO ?_
 refine CP H (fun H => GO ?_) (fun H => ?_)
 obtain rfl := Option.some.inj H; have H := K250
 obtain rfl := Option.some.inj H
 exact EJ.fin Z (.tmp Z (.tmp Z .nil)) ⟨A6, c7, D8, Z, hS.pick [1] [] Z⟩
 refine GO ?_
 refine OS (SE (ce hS 0)) ?_
 refine OS (SE (ce hS 3)) ?_
 obtain ⟨t23, ht23, H⟩ := pbind H
 refine OC hb38 (q14.c y4 y15 _ t9 (hS.cells (i := 2) Z) _ ht23) ?_
 rintro _ w1 ⟨A24, c25, rfl, hs⟩
 replace hS := hS.addN hs
 refine GO ?_
 refine OJ.ef Z Z Z (Ef.litS1 (C := cSpot) oU oI hS (k := 4) Z Z Z Z Z Z) ?_
 rintro _ w1 ⟨A26, rfl, hS⟩
 obtain ⟨u27, hu27, H⟩ := pbind H
 have hdl := (hS.rowsRo (i := 1) rfl).1
 have dd30 := subD (D := D8) hdl (show ([(A24, c25)] : List SH)[0]? = _ from rfl)
 have xd30 := subD (D := y5) rfl (show ([t23] : List (List Spot))[0]? = _ from rfl)
 refine OJ.ew Z Z Z (Ew.appendS oU oI hS (i := 1) (j := 5) Z Z Z Z Z Z Z Z Z Z Z Z Z Z (chk_some hu27)) ?_
 rintro _ w1 ⟨A28, c29, rfl, hS⟩
 refine GO ?_
 refine CJ.draw [] [0, 1, 2, 3, 4] mixed (by kernel_rfl) hS fun w1 hS => ?_
 refine dS (SE (ce hS 0)) ?_
 obtain ⟨t31, ht31, H⟩ := pbind H
 refine DJ.callF rfl rfl rfl rfl rfl rfl rfl hb40 rfl (q0p.c (ros_sub (hS.rowsRo (i := 1) rfl) dd30 xd30) (ros_subLe (hS.rowsRo (i := 1) rfl) dd30 xd30) _ ht31) (by rintro v w' ⟨A32, c33, rfl, hs⟩; exact hs.ext) ?_
 rintro _ w1 ⟨A32, c33, rfl, hs⟩
 replace hS := hS.addN hs
 have hS : St _ _ _ [_, _, _, _, _, _, _] _ := hS
 obtain ⟨t34, ht34, H⟩ := pbind H
 refine DJ.callF rfl rfl rfl rfl rfl rfl rfl hb39 rfl (q0r.c y4 (rC hS 6 Z) (rD hS 6 Z) _ ht34) (by rintro v w' ⟨rfl, hs⟩; exact hs) ?_
 rintro _ w1 ⟨rfl, hs⟩
 replace hS := hS.grow hs
 refine DJ.es rfl rfl rfl rfl (Es.put oI hS (i := 0) rfl rfl rfl rfl rfl (vs := cPasture.enc t34) rfl (cPasture.len _) (cPasture.one _) (Put.all cPasture y4 t34) (by (try simp only [add_lit, Nat.add_assoc, Nat.zero_add, Nat.add_zero]) <;> first | rfl | (congr 1; exact Nat.zero_add _))) ?_
 intro w1 hS
 exact MD H hS
 rintro F w1 h
 exact h.elim

def q3g.f (k : Nat) (a0 : Pasture) (a1 : Spot) (a2 : Bool) : Option Int := (q13.f k a0).bind fun t2 => if (!t2) = true then (some 1) else ((q1g.f a0 a1).bind fun t3 => if (!t3) = true then (some 2) else (if (!a2) = true then (some 2) else (some 0)))
theorem q3g.c {k w} (pa0 : Addr) (a0 : Pasture) (hp0 : CA w pa0 (cPasture.enc a0)) (a1 : Spot) {a2 : Bool} (r : Int) (H : q3g.f k a0 a1 a2 = some r) :
 CV Tryz.prog 129 [.pointer (some pa0), .agg (cSpot.enc a1).toArray, .bool a2].toArray w fun v w' => v = .int .i64 r ∧ Ext w w' := by
 have hS := ((St.init w no).paramP pa0 (cPasture.enc a0) hp0)
 unfold q3g.f at H
 refine CV.body Tryz.func129 Z Tryz.ntmps129 Z ?_
 refine GO ?_
 refine oX hS (cSpot.enc a1) fun b1 w1 hS => ?_
 refine oB H hS hb152 (q13.c _ a0 (hS.ca (i := 0) Z)) fun t2 w1 H hS => ?_
 refine CB H (fun H => ?_) (fun H => ?_)
 exact FE H hS
 refine GO ?_
 refine OS (SE (ce hS 0)) ?_
 refine oB H hS hb66 (q1g.c _ a0 (hS.ca (i := 0) Z) a1) fun t3 w1 H hS => ?_
 refine OJ.split (t := 14) Z (fun hb => ?_) (fun hb => ?_)
 replace H := pif_t hb H
 refine GO ?_
 refine CJ.condT Z ?_
 exact FE H hS
 replace H := pifb_f hb H
 refine GO ?_
 refine CB H (fun H => ?_) (fun H => ?_)
 exact FE H hS
 exact FE H hS

def q1a.l1 (a0 : Pasture) (a1 : Spot) : Nat → (List Spot) → Int → Option (List Spot)
  | 0, _, _ => none
  | k + 1, y6, y9 => if y9 < 4 then ((q23.f a0 a1 y9).bind fun t10 => if (!t10) = true then ((q0y.f a1 y9).bind fun t11 => (chk (y6.length + ([t11] : List Spot).length ≤ 4294967296)).bind fun u13 => q1a.l1 a0 a1 k (y6 ++ ([t11] : List Spot)) (IntKind.i64.wrap (y9 + 1))) else (q1a.l1 a0 a1 k y6 (IntKind.i64.wrap (y9 + 1)))) else (some y6)
def q1a.f (k : Nat) (a0 : Pasture) (a1 : Spot) : Option (List Spot) := (q1a.l1 a0 a1 k ([] : List Spot) 0).bind fun y3 => some y3
theorem q1a.c {k w} (pa0 : Addr) (a0 : Pasture) (hp0 : CA w pa0 (cPasture.enc a0)) (a1 : Spot) (r : List Spot) (H : q1a.f k a0 a1 = some r) :
 CV Tryz.prog 131 [.pointer (some pa0), .agg (cSpot.enc a1).toArray].toArray w fun v w' => ∃ (A0 : Option Addr) (c0 : Nat), v = .slice A0 r.length c0 ∧ St w no w' [rowC cSpot A0 c0 55 r] [] := by
 have hS := ((St.init w no).paramP pa0 (cPasture.enc a0) hp0)
 unfold q1a.f at H
 refine CV.body Tryz.func131 Z Tryz.ntmps131 Z ?_
 refine GO ?_
 refine oX hS (cSpot.enc a1) fun b1 w1 hS => ?_
 refine OF (EL hS cSpot ([] : List Spot)) ?_
 rintro _ w1 ⟨A2, rfl, hS⟩
 refine GO ?_
 obtain ⟨j311, H, K311⟩ := pbind H
 refine CJ.cut1 (fun F w1 => ∃ y3 A4 c5, some y3 = some j311 ∧ F = [(5, sl A4 y3 c5)] ∧ St w no w1 [rowC cSpot A4 c5 55 y3] [roP pa0 (cPasture.enc a0)]) ?_ ?_
 refine CJ.block ?_
 refine LQ (fun k F w1 => ∃ (y6 : List Spot) (y9 : Int) (A7 c8 : _), F = [(0, .pointer (some pa0)), (3, pt b1), (5, sl A7 y6 c8), (6, i6 y9)] ∧ St w no w1 [box b1 (cSpot.enc a1) 55, rowC cSpot A7 c8 55 y6] [roP pa0 (cPasture.enc a0)] ∧ q1a.l1 a0 a1 k y6 y9 = some j311) k H hS ?_
 rintro k F w1 ⟨y6, y9, A7, c8, rfl, hS, H⟩
 rw [q1a.l1] at H
 refine GO ?_
 refine CP H (fun H => GO ?_) (fun H => ?_)
 refine CJ.block ?_
 refine GO ?_
 refine oS (SE (ce hS 0)) ?_
 refine oB H hS hb125 (q23.c _ a0 (hS.ca (i := 0) Z) a1) fun t10 w1 H hS => ?_
 refine CB H (fun H => GO ?_) (fun H => ?_)
 refine oS (SE (ce hS 0)) ?_
 refine OB H hS hb67 (q0y.c a1) fun t11 w1 H hS => ?_
 refine OF (EL hS cSpot ([t11] : List Spot)) ?_
 rintro _ w1 ⟨A12, rfl, hS⟩
 obtain ⟨u13, hu13, H⟩ := pbind H
 refine OW (AP hS 1 (rC hS 2 Z) (chk_some hu13)) ?_
 rintro _ w1 ⟨A14, c15, rfl, hS⟩
 exact MD H hS
 exact MD H hS
 exact MD H hS
 rintro F w1 ⟨y3, A4, c5, he, rfl, hS⟩
 obtain rfl := Option.some.inj he
 have H := K311
 refine EJ.next ?_
 refine GO ?_
 obtain rfl := Option.some.inj H
 exact FT ⟨A4, c5, Z, hS.pick [0] [] Z⟩

def q0w.l2 (t17 : Spot) (t19 : List Spot) : Nat → (Arr 10 (Arr 10 Int)) → (List Spot) → Int → Option ((Arr 10 (Arr 10 Int)) × (List Spot))
  | 0, _, _, _ => none
  | k + 1, y26, y27, y30 => if y30 < (t19.length : Int) then ((getI t19 y30).bind fun t31 => (getI t19 y30).bind fun t32 => (getI y26.l t31.Y).bind fun t33 => (getI t33.l t32.X).bind fun t34 => if t34 = 0 then ((getI t19 y30).bind fun t35 => (getI t19 y30).bind fun t36 => (getI y26.l t17.Y).bind fun t37 => (getI t37.l t17.X).bind fun t38 => (getI y26.l t35.Y).bind fun t39 => (getI t39.l t36.X).bind fun t40 => (getI t19 y30).bind fun t41 => (chk (y27.length + ([t41] : List Spot).length ≤ 4294967296)).bind fun u43 => q0w.l2 t17 t19 k (aset y26 t35.Y.toNat (aset t39 t36.X.toNat (IntKind.i64.wrap (t38 + 1)))) (y27 ++ ([t41] : List Spot)) (IntKind.i64.wrap (y30 + 1))) else (q0w.l2 t17 t19 k y26 y27 (IntKind.i64.wrap (y30 + 1)))) else (some (y26, y27))
def q0w.l1 (a0 : Pasture) : Nat → (Arr 10 (Arr 10 Int)) → (List Spot) → Int → Option (Arr 10 (Arr 10 Int))
  | 0, _, _, _ => none
  | k + 1, y8, y9, y12 => if y12 < (y9.length : Int) then (((getI y9 y12).bind fun t17 => (q1a.f k a0 t17).bind fun t19 => (q0w.l2 t17 t19 k y8 y9 0).bind fun (y22, y23) => some (y22, y23)).bind fun (y13, y14) => q0w.l1 a0 k y13 y14 (IntKind.i64.wrap (y12 + 1))) else (some y8)
def q0w.f (k : Nat) (a0 : Pasture) (a1 : Spot) : Option (Arr 10 (Arr 10 Int)) := (getI (Arr.mk' (Arr.mk' 0 : Arr 10 Int) : Arr 10 (Arr 10 Int)).l a1.Y).bind fun t4 => (getI t4.l a1.X).bind fun t5 => (q0w.l1 a0 k (aset (Arr.mk' (Arr.mk' 0 : Arr 10 Int) : Arr 10 (Arr 10 Int)) a1.Y.toNat (aset t4 a1.X.toNat 1)) ([a1] : List Spot) 0).bind fun y7 => some y7
theorem q0w.c {k w} (pa0 : Addr) (a0 : Pasture) (hp0 : CA w pa0 (cPasture.enc a0)) (a1 : Spot) (r : Arr 10 (Arr 10 Int)) (H : q0w.f k a0 a1 = some r) :
 CV Tryz.prog 130 [.pointer (some pa0), .agg (cSpot.enc a1).toArray].toArray w fun v w' => v = .agg ((carr 10 (carr 10 (ci .i64))).enc r).toArray ∧ Ext w w' := by
 have hS := ((St.init w no).paramP pa0 (cPasture.enc a0) hp0)
 unfold q0w.f at H
 refine CV.body Tryz.func130 Z Tryz.ntmps130 Z ?_
 refine GO ?_
 refine OF (EB hS (cSpot.enc a1)) ?_
 rintro _ w1 ⟨b1, rfl, hS⟩
 refine OJ.ef rfl rfl rfl (Ef.alloc hS oI rfl rfl ((carr 10 (carr 10 (ci .i64))).enc (Arr.mk' (Arr.mk' 0 : Arr 10 Int) : Arr 10 (Arr 10 Int))) (by kernel_rfl)) ?_
 rintro _ w1 ⟨b2, rfl, hS⟩
 refine GO ?_
 refine OJ.st rfl rfl rfl (SR.buildA oU oI rfl rfl rfl rfl (zs := [.int .i64 0, i6 0, i6 0, i6 0, i6 0, i6 0, i6 0, i6 0, i6 0, i6 0, i6 0, i6 0, i6 0, i6 0, i6 0, i6 0, i6 0, i6 0, i6 0, i6 0, i6 0, i6 0, i6 0, i6 0, i6 0, i6 0, i6 0, i6 0, i6 0, i6 0, i6 0, i6 0, i6 0, i6 0, i6 0, i6 0, i6 0, i6 0, i6 0, i6 0, i6 0, i6 0, i6 0, i6 0, i6 0, i6 0, i6 0, i6 0, i6 0, i6 0, i6 0, i6 0, i6 0, i6 0, i6 0, i6 0, i6 0, i6 0, i6 0, i6 0, i6 0, i6 0, i6 0, i6 0, i6 0, i6 0, i6 0, i6 0, i6 0, i6 0, i6 0, i6 0, i6 0, i6 0, i6 0, i6 0, i6 0, i6 0, i6 0, i6 0, i6 0, i6 0, i6 0, i6 0, i6 0, i6 0, i6 0, i6 0, i6 0, i6 0, i6 0, i6 0, i6 0, i6 0, i6 0, i6 0, i6 0, i6 0, i6 0, i6 0]) rfl rfl ((carr 10 (carr 10 (ci .i64))).enc (Arr.mk' (Arr.mk' 0 : Arr 10 Int) : Arr 10 (Arr 10 Int))) (by kernel_rfl)) ?_
 refine OJ.ef rfl rfl rfl (Ef.alloc hS oI rfl rfl ((carr 10 (carr 10 (ci .i64))).enc (Arr.mk' (Arr.mk' 0 : Arr 10 Int) : Arr 10 (Arr 10 Int))) (by kernel_rfl)) ?_
 rintro _ w1 ⟨b3, rfl, hS⟩
 refine OJ.es rfl rfl (Es.put oI hS (i := 2) rfl rfl rfl rfl rfl (vs := (carr 10 (carr 10 (ci .i64))).enc (Arr.mk' (Arr.mk' 0 : Arr 10 Int) : Arr 10 (Arr 10 Int))) rfl ((carr 10 (carr 10 (ci .i64))).len _) ((carr 10 (carr 10 (ci .i64))).one _) (Put.all (carr 10 (carr 10 (ci .i64))) (Arr.mk' (Arr.mk' 0 : Arr 10 Int) : Arr 10 (Arr 10 Int)) (Arr.mk' (Arr.mk' 0 : Arr 10 Int) : Arr 10 (Arr 10 Int))) (by (try simp only [add_lit, Nat.add_assoc, Nat.zero_add, Nat.add_zero]) <;> first | rfl | (congr 1; exact Nat.zero_add _))) ?_
 intro w1 hS
 refine GO ?_
 refine CJ.draw [] [0, 1, 2, 3, 4, 5, 6] mixed (by kernel_rfl) hS fun w1 hS => ?_
 refine GO ?_
 refine dS (SL (cf hS 0 1)) ?_
 refine DS (SL (cf hS 0 0)) ?_
 obtain ⟨t4, ht4, H⟩ := pbind H
 refine DJ.st Z Z Z Z Z (SR.idxA oU oI Z Z Z Z Z (Arr.lt ht4)) ?_
 obtain ⟨t5, ht5, H⟩ := pbind H
 refine DJ.st Z Z Z Z Z (SR.idxA oU oI Z Z Z Z Z (Arr.lt ht5)) ?_
 refine DJ.es rfl rfl rfl rfl (Es.put oI hS (i := 2) rfl rfl rfl rfl rfl (vs := (ci .i64).enc 1) rfl rfl (one1 rfl) (Put.idx (Put.idx (Put.all (ci .i64) t5 1) ht5) ht4) (by (try simp only [add_lit, Nat.add_assoc, Nat.zero_add, Nat.add_zero]) <;> first | rfl | (congr 1; exact Nat.zero_add _))) ?_
 intro w1 hS
 refine GO ?_
 refine OS (SE (ce hS 0)) ?_
 refine OF (EL hS cSpot ([a1] : List Spot)) ?_
 rintro _ w1 ⟨A6, rfl, hS⟩
 refine GO ?_
 obtain ⟨j309, H, K309⟩ := pbind H
 refine CJ.cut1 (fun F w1 => ∃ y7, some y7 = some j309 ∧ F = [(4, pt b2), (5, pt b3)] ∧ St w no w1 [box b2 ((carr 10 (carr 10 (ci .i64))).enc (Arr.mk' (Arr.mk' 0 : Arr 10 Int) : Arr 10 (Arr 10 Int))) 174, box b3 ((carr 10 (carr 10 (ci .i64))).enc y7) 174] [roP pa0 (cPasture.enc a0)]) ?_ ?_
 refine CJ.block ?_
 refine LQ (fun k F w1 => ∃ (y8 : Arr 10 (Arr 10 Int)) (y9 : List Spot) (y12 : Int) (A10 c11 : _), F = [(0, .pointer (some pa0)), (4, pt b2), (5, pt b3), (6, sl A10 y9 c11), (7, i6 y12)] ∧ St w no w1 [box b2 ((carr 10 (carr 10 (ci .i64))).enc (Arr.mk' (Arr.mk' 0 : Arr 10 Int) : Arr 10 (Arr 10 Int))) 174, box b3 ((carr 10 (carr 10 (ci .i64))).enc y8) 174, rowC cSpot A10 c11 55 y9] [roP pa0 (cPasture.enc a0)] ∧ q0w.l1 a0 k y8 y9 y12 = some j309) k H hS ?_
 rintro k F w1 ⟨y8, y9, y12, A10, c11, rfl, hS, H⟩
 rw [q0w.l1] at H
 refine GO ?_
 refine CP H (fun H => ?_) (fun H => ?_)
 refine CJ.skip (EJ.next ?_)
 obtain ⟨j317, H, K317⟩ := pbind H
 refine CJ.cut (fun F w1 => ∃ y13 y14 A15 c16, some j317 = some (y13, y14) ∧ F = [(0, .pointer (some pa0)), (4, pt b2), (5, pt b3), (6, sl A15 y14 c16), (7, i6 y12)] ∧ St w no w1 [box b2 ((carr 10 (carr 10 (ci .i64))).enc (Arr.mk' (Arr.mk' 0 : Arr 10 Int) : Arr 10 (Arr 10 Int))) 174, box b3 ((carr 10 (carr 10 (ci .i64))).enc y13) 174, rowC cSpot A15 c16 55 y14] [roP pa0 (cPasture.enc a0)]) ?_ ?_
 refine CJ.block ?_
 refine GO ?_
 obtain ⟨t17, ht17, H⟩ := pbind H
 obtain ⟨ad17, e17⟩ := (rC hS 2 Z).some' ht17
 refine OS (SI e17 (getI_some ht17).1) ?_
 refine OS (SE ((rC hS 2 Z).at_ e17 ht17)) ?_
 refine OF (EA hS (cSpot.enc (⟨0, 0⟩ : Spot))) ?_
 rintro _ w1 ⟨b18, rfl, hS⟩
 refine OJ.es Z Z (eS cSpot t17 hS (i := 3) Z Z Z Z Z Z Z Z Z Z) ?_
 intro w1 hS
 refine GO ?_
 refine OS (SE (ce hS 3)) ?_
 obtain ⟨t19, ht19, H⟩ := pbind H
 refine OC hb131 (q1a.c _ a0 (hS.ca (i := 0) Z) t17 _ ht19) ?_
 rintro _ w1 ⟨A20, c21, rfl, hs⟩
 replace hS := hS.addN hs
 refine GO ?_
 obtain ⟨j319, H, K319⟩ := pbind H
 refine CJ.cut1 (fun F w1 => ∃ y22 y23 A24 c25, some j319 = some (y22, y23) ∧ F = [(0, .pointer (some pa0)), (4, pt b2), (5, pt b3), (6, sl A24 y23 c25), (7, i6 y12)] ∧ St w no w1 [box b2 ((carr 10 (carr 10 (ci .i64))).enc (Arr.mk' (Arr.mk' 0 : Arr 10 Int) : Arr 10 (Arr 10 Int))) 174, box b3 ((carr 10 (carr 10 (ci .i64))).enc y22) 174, rowC cSpot A24 c25 55 y23] [roP pa0 (cPasture.enc a0)]) ?_ ?_
 refine CJ.block ?_
 refine LQ (fun k F w1 => ∃ (y26 : Arr 10 (Arr 10 Int)) (y27 : List Spot) (y30 : Int) (A28 c29 : _), F = [(0, .pointer (some pa0)), (4, pt b2), (5, pt b3), (6, sl A28 y27 c29), (7, i6 y12), (8, pt b18), (9, sl A20 t19 c21), (10, i6 y30)] ∧ St w no w1 [box b2 ((carr 10 (carr 10 (ci .i64))).enc (Arr.mk' (Arr.mk' 0 : Arr 10 Int) : Arr 10 (Arr 10 Int))) 174, box b3 ((carr 10 (carr 10 (ci .i64))).enc y26) 174, rowC cSpot A28 c29 55 y27, box b18 (cSpot.enc t17) 55, rowC cSpot A20 c21 55 t19] [roP pa0 (cPasture.enc a0)] ∧ q0w.l2 t17 t19 k y26 y27 y30 = some j319) k H hS ?_
 rintro k F w1 ⟨y26, y27, y30, A28, c29, rfl, hS, H⟩
 rw [q0w.l2] at H
 refine GO ?_
 refine CP H (fun H => GO ?_) (fun H => ?_)
 refine CJ.block ?_
 refine GO ?_
 refine CJ.draw [] [0, 1, 2, 3, 4, 5, 6, 7, 8, 9, 10, 11, 12, 13] mixed (by kernel_rfl) hS fun w1 hS => ?_
 refine GO ?_
 obtain ⟨t31, ht31, H⟩ := pbind H
 obtain ⟨ad31, e31⟩ := (rC hS 4 Z).some' ht31
 refine dS (SI e31 (getI_some ht31).1) ?_
 refine dS (SL (CA.sub ((rC hS 4 Z).at_ e31 ht31) 1)) ?_
 obtain ⟨t32, ht32, H⟩ := pbind H
 obtain ⟨ad32, e32⟩ := (rC hS 4 Z).some' ht32
 refine dS (SI e32 (getI_some ht32).1) ?_
 refine DS (SL (CA.sub ((rC hS 4 Z).at_ e32 ht32) 0)) ?_
 obtain ⟨t33, ht33, H⟩ := pbind H
 refine DJ.st Z Z Z Z Z (SR.idxA oU oI Z Z Z Z Z (Arr.lt ht33)) ?_
 obtain ⟨t34, ht34, H⟩ := pbind H
 refine DJ.st Z Z Z Z Z (SR.idxA oU oI Z Z Z Z Z (Arr.lt ht34)) ?_
 refine dS (SL (CA.idx (CA.idx (ce hS 1) ht33) ht34)) ?_
 refine CP H (fun H => GO ?_) (fun H => ?_)
 refine CJ.draw [] [0, 1, 2, 3, 4, 5, 6, 7, 8, 9, 10, 11, 12, 13, 14, 15, 16, 17, 18, 19, 20] mixed (by kernel_rfl) hS fun w1 hS => ?_
 refine GO ?_
 obtain ⟨t35, ht35, H⟩ := pbind H
 obtain ⟨ad35, e35⟩ := (rC hS 4 Z).some' ht35
 refine dS (SI e35 (getI_some ht35).1) ?_
 refine dS (SL (CA.sub ((rC hS 4 Z).at_ e35 ht35) 1)) ?_
 obtain ⟨t36, ht36, H⟩ := pbind H
 obtain ⟨ad36, e36⟩ := (rC hS 4 Z).some' ht36
 refine dS (SI e36 (getI_some ht36).1) ?_
 refine dS (SL (CA.sub ((rC hS 4 Z).at_ e36 ht36) 0)) ?_
 refine dS (SL (cf hS 3 1)) ?_
 refine DS (SL (cf hS 3 0)) ?_
 obtain ⟨t37, ht37, H⟩ := pbind H
 refine DJ.st Z Z Z Z Z (SR.idxA oU oI Z Z Z Z Z (Arr.lt ht37)) ?_
 obtain ⟨t38, ht38, H⟩ := pbind H
 refine DJ.st Z Z Z Z Z (SR.idxA oU oI Z Z Z Z Z (Arr.lt ht38)) ?_
 refine dS (SL (CA.idx (CA.idx (ce hS 1) ht37) ht38)) ?_
 obtain ⟨t39, ht39, H⟩ := pbind H
 refine DJ.st Z Z Z Z Z (SR.idxA oU oI Z Z Z Z Z (Arr.lt ht39)) ?_
 obtain ⟨t40, ht40, H⟩ := pbind H
 refine DJ.st Z Z Z Z Z (SR.idxA oU oI Z Z Z Z Z (Arr.lt ht40)) ?_
 refine DJ.es rfl rfl rfl rfl (Es.put oI hS (i := 1) rfl rfl rfl rfl rfl (vs := (ci .i64).enc (IntKind.i64.wrap (t38 + 1))) rfl rfl (one1 rfl) (Put.idx (Put.idx (Put.all (ci .i64) t40 (IntKind.i64.wrap (t38 + 1))) ht40) ht39) (by (try simp only [add_lit, Nat.add_assoc, Nat.zero_add, Nat.add_zero]) <;> first | rfl | (congr 1; exact Nat.zero_add _))) ?_
 intro w1 hS
 refine GO ?_
 obtain ⟨t41, ht41, H⟩ := pbind H
 obtain ⟨ad41, e41⟩ := (rC hS 4 Z).some' ht41
 refine OS (SI e41 (getI_some ht41).1) ?_
 refine OS (SE ((rC hS 4 Z).at_ e41 ht41)) ?_
 refine OF (EL hS cSpot ([t41] : List Spot)) ?_
 rintro _ w1 ⟨A42, rfl, hS⟩
 obtain ⟨u43, hu43, H⟩ := pbind H
 refine OW (AP hS 2 (rC hS 5 Z) (chk_some hu43)) ?_
 rintro _ w1 ⟨A44, c45, rfl, hS⟩
 exact MD H hS
 exact MD H hS
 exact MD H hS
 rintro F w1 ⟨y22, y23, A24, c25, ⟨⟩, rfl, hS⟩
 have H := K319
 refine EJ.blk (?_)
 exact MD H hS
 rintro F w1 ⟨y13, y14, A15, c16, ⟨⟩, rfl, hS⟩
 have H := K317
 exact MD H hS
 exact MD H hS
 rintro F w1 ⟨y7, he, rfl, hS⟩
 obtain rfl := Option.some.inj he
 have H := K309
 refine EJ.next ?_
 refine GO ?_
 refine OS (SE (ce hS 1)) ?_
 refine OJ.es rfl rfl (Es.put oI hS (i := 0) rfl rfl rfl rfl rfl (vs := (carr 10 (carr 10 (ci .i64))).enc y7) rfl ((carr 10 (carr 10 (ci .i64))).len _) ((carr 10 (carr 10 (ci .i64))).one _) (Put.all (carr 10 (carr 10 (ci .i64))) (Arr.mk' (Arr.mk' 0 : Arr 10 Int) : Arr 10 (Arr 10 Int)) y7) (by (try simp only [add_lit, Nat.add_assoc, Nat.zero_add, Nat.add_zero]) <;> first | rfl | (congr 1; exact Nat.zero_add _))) ?_
 intro w1 hS
 refine GO ?_
 obtain rfl := Option.some.inj H
 exact EJ.fin Z (.cell Z (ldE oU oI Z Z Z (hS.cells (i := 0) Z) Z) .nil) ⟨Z, hS.ext⟩

def q24.f (a0 : Spot) (a1 : Spot) : Option Bool := if a0.Y < a1.Y then (some true) else (if a0.Y = a1.Y then (some (decide (a0.X < a1.X))) else (some false))
theorem q24.c {w} (a0 : Spot) (a1 : Spot) (r : Bool) (H : q24.f a0 a1 = some r) :
 CV Tryz.prog 97 [.agg (cSpot.enc a0).toArray, .agg (cSpot.enc a1).toArray].toArray w fun v w' => v = .bool r ∧ Ext w w' := by
 have hS := (St.init w no)
 unfold q24.f at H
 refine CV.body Tryz.func97 Z Tryz.ntmps97 Z ?_
 refine GO ?_
 refine OF (EB hS (cSpot.enc a0)) ?_
 rintro _ w1 ⟨b1, rfl, hS⟩
 refine oX hS (cSpot.enc a1) fun b2 w1 hS => ?_
 refine oS (SL (cf hS 0 1)) ?_
 refine oS (SL (cf hS 1 1)) ?_
 refine OJ.split (t := 10) Z (fun hb => ?_) (fun hb => ?_)
 replace H := pif_t (of_decide_eq_true hb) H
 exact FE H hS
 replace H := pif_f (of_decide_eq_false hb) H
 refine GO ?_
 refine oS (SL (cf hS 0 1)) ?_
 refine oS (SL (cf hS 1 1)) ?_
 refine OJ.split (t := 16) Z (fun hb => ?_) (fun hb => ?_)
 replace H := pif_t (of_decide_eq_true hb) H
 refine GO ?_
 refine oS (SL (cf hS 0 0)) ?_
 refine OS (SL (cf hS 1 0)) ?_
 exact FE H hS
 replace H := pif_f (of_decide_eq_false hb) H
 exact FE H hS

def q0g.l2 (t7 : Arr 10 (Arr 10 Int)) (y20 : Spot) (t26 : List Spot) : Nat → Int → Int → Option Int
  | 0, _, _ => none
  | k + 1, y30, y31 => if y31 < (t26.length : Int) then ((getI t26 y31).bind fun t32 => (getI t26 y31).bind fun t33 => (getI t7.l t32.Y).bind fun t34 => (getI t34.l t33.X).bind fun t35 => (getI t7.l y20.Y).bind fun t36 => (getI t36.l y20.X).bind fun t37 => if t35 = (IntKind.i64.wrap (t37 - 1)) then (if y30 < 0 then (q0g.l2 t7 y20 t26 k y31 (IntKind.i64.wrap (y31 + 1))) else ((getI t26 y31).bind fun t38 => (getI t26 y30).bind fun t39 => (q24.f t38 t39).bind fun t40 => if t40 = true then (q0g.l2 t7 y20 t26 k y31 (IntKind.i64.wrap (y31 + 1))) else (q0g.l2 t7 y20 t26 k y30 (IntKind.i64.wrap (y31 + 1))))) else (q0g.l2 t7 y20 t26 k y30 (IntKind.i64.wrap (y31 + 1)))) else (some y30)
def q0g.l1 (a0 : Pasture) (a2 : Spot) (t7 : Arr 10 (Arr 10 Int)) : Nat → (List Spot) → Spot → Option (List Spot)
  | 0, _, _ => none
  | k + 1, y17, y20 => if y20 ≠ a2 then (((q1a.f k a0 y20).bind fun t26 => (q0g.l2 t7 y20 t26 k (-1) 0).bind fun y29 => (getI t26 y29).bind fun t41 => (chk (y17.length + ([t41] : List Spot).length ≤ 4294967296)).bind fun u43 => some (y17 ++ ([t41] : List Spot), t41)).bind fun (y22, y25) => q0g.l1 a0 a2 t7 k y22 y25) else (some y17)
def q0g.f (k : Nat) (a0 : Pasture) (a1 : Spot) (a2 : Spot) : Option (List Spot × Int) := (q1g.f a0 a2).bind fun t4 => (q3g.f k a0 a1 t4).bind fun t5 => if t5 ≠ 0 then (some (([] : List Spot), t5)) else ((q0w.f k a0 a2).bind fun t7 => (getI t7.l a1.Y).bind fun t9 => (getI t9.l a1.X).bind fun t10 => if t10 = 0 then (some (([] : List Spot), 6)) else ((q0g.l1 a0 a2 t7 k ([a1] : List Spot) a1).bind fun y14 => some (y14, 0)))
theorem q0g.c {k w} (a0 : Pasture) (a1 : Spot) (a2 : Spot) (r : List Spot × Int) (H : q0g.f k a0 a1 a2 = some r) :
 CV Tryz.prog 95 [.agg (cPasture.enc a0).toArray, .agg (cSpot.enc a1).toArray, .agg (cSpot.enc a2).toArray].toArray w fun v w' => ∃ (A0 : Option Addr) (c0 : Nat), v = .tuple #[sl A0 r.1 c0, i6 r.2] ∧ St w no w' [rowC cSpot A0 c0 55 r.1] [] := by
 have hS := (St.init w no)
 unfold q0g.f at H
 refine CV.body Tryz.func95 Z Tryz.ntmps95 Z ?_
 refine GO ?_
 refine OF (EB hS (cPasture.enc a0)) ?_
 rintro _ w1 ⟨b1, rfl, hS⟩
 refine OF (EB hS (cSpot.enc a1)) ?_
 rintro _ w1 ⟨b2, rfl, hS⟩
 refine oX hS (cSpot.enc a2) fun b3 w1 hS => ?_
 refine CJ.draw [] [0, 1, 2, 3, 4] mixed (by kernel_rfl) hS fun w1 hS => ?_
 refine DS (SE (ce hS 1)) ?_
 refine DS (SE (ce hS 2)) ?_
 obtain ⟨t4, ht4, H⟩ := pbind H
 refine DJ.callF rfl rfl rfl rfl rfl rfl rfl hb66 rfl (q1g.c _ a0 (hS.cells (i := 0) rfl) a2 _ ht4) (by rintro v w' ⟨rfl, hs⟩; exact hs) ?_
 rintro _ w1 ⟨rfl, hs⟩
 replace hS := hS.grow hs
 obtain ⟨t5, ht5, H⟩ := pbind H
 refine DJ.callF rfl rfl rfl rfl rfl rfl rfl hb129 rfl (q3g.c _ a0 (hS.cells (i := 0) rfl) a1 _ ht5) (by rintro v w' ⟨rfl, hs⟩; exact hs) ?_
 rintro _ w1 ⟨rfl, hs⟩
 replace hS := hS.grow hs
 refine GO ?_
 refine CP H (fun H => GO ?_) (fun H => ?_)
 refine OF (EL hS cSpot ([] : List Spot)) ?_
 rintro _ w1 ⟨A6, rfl, hS⟩
 refine GO ?_
 obtain rfl := Option.some.inj H
 exact EJ.fin Z (.tmp Z (.tmp Z .nil)) ⟨A6, (([] : List Spot).length), Z, hS.pick [3] [] Z⟩
 refine GO ?_
 refine OS (SE (ce hS 2)) ?_
 refine OB H hS hb130 (q0w.c _ a0 (hS.cells (i := 0) Z) a2) fun t7 w1 H hS => ?_
 refine OJ.ef rfl rfl rfl (Ef.alloc hS oI rfl rfl ((carr 10 (carr 10 (ci .i64))).enc (Arr.mk' (Arr.mk' 0 : Arr 10 Int) : Arr 10 (Arr 10 Int))) (by kernel_rfl)) ?_
 rintro _ w1 ⟨b8, rfl, hS⟩
 refine OJ.es rfl rfl (Es.put oI hS (i := 3) rfl rfl rfl rfl rfl (vs := (carr 10 (carr 10 (ci .i64))).enc t7) rfl ((carr 10 (carr 10 (ci .i64))).len _) ((carr 10 (carr 10 (ci .i64))).one _) (Put.all (carr 10 (carr 10 (ci .i64))) (Arr.mk' (Arr.mk' 0 : Arr 10 Int) : Arr 10 (Arr 10 Int)) t7) (by (try simp only [add_lit, Nat.add_assoc, Nat.zero_add, Nat.add_zero]) <;> first | rfl | (congr 1; exact Nat.zero_add _))) ?_
 intro w1 hS
 refine GO ?_
 refine CJ.draw [] [0, 1, 2, 3, 4, 5, 6, 7] mixed (by kernel_rfl) hS fun w1 hS => ?_
 refine GO ?_
 refine dS (SL (cf hS 1 1)) ?_
 refine DS (SL (cf hS 1 0)) ?_
 obtain ⟨t9, ht9, H⟩ := pbind H
 refine DJ.st Z Z Z Z Z (SR.idxA oU oI Z Z Z Z Z (Arr.lt ht9)) ?_
 obtain ⟨t10, ht10, H⟩ := pbind H
 refine DJ.st Z Z Z Z Z (SR.idxA oU oI Z Z Z Z Z (Arr.lt ht10)) ?_
 refine dS (SL (CA.idx (CA.idx (ce hS 3) ht9) ht10)) ?_
 refine CP H (fun H => GO ?_) (fun H => ?_)
 refine OF (EL hS cSpot ([] : List Spot)) ?_
 rintro _ w1 ⟨A11, rfl, hS⟩
 refine GO ?_
 obtain rfl := Option.some.inj H
 exact EJ.fin Z (.tmp Z (.tmp Z .nil)) ⟨A11, (([] : List Spot).length), Z, hS.pick [4] [] Z⟩
 refine GO ?_
 refine OS (SE (ce hS 1)) ?_
 refine OF (EL hS cSpot ([a1] : List Spot)) ?_
 rintro _ w1 ⟨A12, rfl, hS⟩
 refine GO ?_
 refine OS (SE (ce hS 1)) ?_
 refine OF (EA hS (cSpot.enc (⟨0, 0⟩ : Spot))) ?_
 rintro _ w1 ⟨b13, rfl, hS⟩
 refine OJ.es Z Z (eS cSpot a1 hS (i := 5) Z Z Z Z Z Z Z Z Z Z) ?_
 intro w1 hS
 refine GO ?_
 obtain ⟨j320, H, K320⟩ := pbind H
 refine CJ.cut1 (fun F w1 => ∃ y14 A15 c16, some y14 = some j320 ∧ F = [(10, sl A15 y14 c16)] ∧ St w no w1 [rowC cSpot A15 c16 55 y14] []) ?_ ?_
 refine CJ.block ?_
 refine LQ (fun k F w1 => ∃ (y17 : List Spot) (y20 : Spot) (A18 c19 b21 : _), F = [(3, pt b1), (5, pt b3), (9, pt b8), (10, sl A18 y17 c19), (11, pt b21)] ∧ St w no w1 [box b1 (cPasture.enc a0) 31, box b3 (cSpot.enc a2) 55, box b8 ((carr 10 (carr 10 (ci .i64))).enc t7) 174, rowC cSpot A18 c19 55 y17, box b21 (cSpot.enc y20) 55] [] ∧ q0g.l1 a0 a2 t7 k y17 y20 = some j320) k H hS ?_
 rintro k F w1 ⟨y17, y20, A18, c19, b21, rfl, hS, H⟩
 rw [q0g.l1] at H
 refine GO ?_
 refine OS (SE (ce hS 4)) ?_
 refine OS (SE (ce hS 1)) ?_
 refine OJ.st Z Z Z (SR.neS eqT55 eqG55 Z Z Z (Z : _ = (cSpot.enc y20).toArray) (Z : _ = (cSpot.enc a2).toArray)) ?_
 refine GO ?_
 refine CP H (fun H => ?_) (fun H => ?_)
 refine CJ.skip (EJ.next ?_)
 obtain ⟨j327, H, K327⟩ := pbind H
 refine CJ.cut (fun F w1 => ∃ y22 y25 A23 c24, some j327 = some (y22, y25) ∧ F = [(3, pt b1), (5, pt b3), (9, pt b8), (10, sl A23 y22 c24), (11, pt b21)] ∧ St w no w1 [box b1 (cPasture.enc a0) 31, box b3 (cSpot.enc a2) 55, box b8 ((carr 10 (carr 10 (ci .i64))).enc t7) 174, rowC cSpot A23 c24 55 y22, box b21 (cSpot.enc y25) 55] []) ?_ ?_
 refine CJ.block ?_
 refine GO ?_
 refine OS (SE (ce hS 4)) ?_
 obtain ⟨t26, ht26, H⟩ := pbind H
 refine OC hb131 (q1a.c _ a0 (hS.cells (i := 0) Z) y20 _ ht26) ?_
 rintro _ w1 ⟨A27, c28, rfl, hs⟩
 replace hS := hS.addN hs
 have hS : St _ _ _ [_, _, _, _, _, _] _ := hS
 refine GO ?_
 obtain ⟨j329, H, K329⟩ := pbind H
 refine CJ.cut1 (fun F w1 => ∃ y29, some y29 = some j329 ∧ F = [(3, pt b1), (5, pt b3), (9, pt b8), (10, sl A18 y17 c19), (11, pt b21), (12, sl A27 t26 c28), (13, i6 y29)] ∧ St w no w1 [box b1 (cPasture.enc a0) 31, box b3 (cSpot.enc a2) 55, box b8 ((carr 10 (carr 10 (ci .i64))).enc t7) 174, rowC cSpot A18 c19 55 y17, box b21 (cSpot.enc y20) 55, rowC cSpot A27 c28 55 t26] []) ?_ ?_
 refine CJ.block ?_
 refine LQ (fun k F w1 => ∃ (y30 : Int) (y31 : Int), F = [(3, pt b1), (5, pt b3), (9, pt b8), (10, sl A18 y17 c19), (11, pt b21), (12, sl A27 t26 c28), (13, i6 y30), (14, i6 y31)] ∧ St w no w1 [box b1 (cPasture.enc a0) 31, box b3 (cSpot.enc a2) 55, box b8 ((carr 10 (carr 10 (ci .i64))).enc t7) 174, rowC cSpot A18 c19 55 y17, box b21 (cSpot.enc y20) 55, rowC cSpot A27 c28 55 t26] [] ∧ q0g.l2 t7 y20 t26 k y30 y31 = some j329) k H hS ?_
 rintro k F w1 ⟨y30, y31, rfl, hS, H⟩
 rw [q0g.l2] at H
 refine GO ?_
 refine CP H (fun H => GO ?_) (fun H => ?_)
 refine CJ.block ?_
 refine GO ?_
 refine CJ.draw [] [0, 1, 2, 3, 4, 5, 6, 7, 8, 9, 10, 11, 12, 13, 14, 15, 16, 17, 18, 19, 20, 21, 22] mixed (by kernel_rfl) hS fun w1 hS => ?_
 refine GO ?_
 obtain ⟨t32, ht32, H⟩ := pbind H
 obtain ⟨ad32, e32⟩ := (rC hS 5 Z).some' ht32
 refine dS (SI e32 (getI_some ht32).1) ?_
 refine dS (SL (CA.sub ((rC hS 5 Z).at_ e32 ht32) 1)) ?_
 obtain ⟨t33, ht33, H⟩ := pbind H
 obtain ⟨ad33, e33⟩ := (rC hS 5 Z).some' ht33
 refine dS (SI e33 (getI_some ht33).1) ?_
 refine DS (SL (CA.sub ((rC hS 5 Z).at_ e33 ht33) 0)) ?_
 obtain ⟨t34, ht34, H⟩ := pbind H
 refine DJ.st Z Z Z Z Z (SR.idxA oU oI Z Z Z Z Z (Arr.lt ht34)) ?_
 obtain ⟨t35, ht35, H⟩ := pbind H
 refine DJ.st Z Z Z Z Z (SR.idxA oU oI Z Z Z Z Z (Arr.lt ht35)) ?_
 refine dS (SL (CA.idx (CA.idx (ce hS 2) ht34) ht35)) ?_
 refine dS (SL (cf hS 4 1)) ?_
 refine DS (SL (cf hS 4 0)) ?_
 obtain ⟨t36, ht36, H⟩ := pbind H
 refine DJ.st Z Z Z Z Z (SR.idxA oU oI Z Z Z Z Z (Arr.lt ht36)) ?_
 obtain ⟨t37, ht37, H⟩ := pbind H
 refine DJ.st Z Z Z Z Z (SR.idxA oU oI Z Z Z Z Z (Arr.lt ht37)) ?_
 refine dS (SL (CA.idx (CA.idx (ce hS 2) ht36) ht37)) ?_
 refine CJ.draw [] [0, 1, 2, 3, 4, 5, 6, 7, 8, 9, 10, 11, 12, 13, 14, 15] mixed (by kernel_rfl) hS fun w1 hS => ?_
 refine GO ?_
 refine DJ.split (t := 72) Z (fun hb => ?_) (fun hb => ?_)
 replace H := pif_t (of_decide_eq_true hb) H
 refine GO ?_
 refine DJ.split (t := 75) Z (fun hb => ?_) (fun hb => ?_)
 replace H := pif_t (of_decide_eq_true hb) H
 refine GO ?_
 refine CJ.condT Z ?_
 exact MD H hS
 replace H := pif_f (of_decide_eq_false hb) H
 refine GO ?_
 obtain ⟨t38, ht38, H⟩ := pbind H
 obtain ⟨ad38, e38⟩ := (rC hS 5 Z).some' ht38
 refine DS (SI e38 (getI_some ht38).1) ?_
 refine dS (SE ((rC hS 5 Z).at_ e38 ht38)) ?_
 obtain ⟨t39, ht39, H⟩ := pbind H
 obtain ⟨ad39, e39⟩ := (rC hS 5 Z).some' ht39
 refine DS (SI e39 (getI_some ht39).1) ?_
 refine DS (SE ((rC hS 5 Z).at_ e39 ht39)) ?_
 obtain ⟨t40, ht40, H⟩ := pbind H
 refine DJ.callF rfl rfl rfl rfl rfl rfl rfl hb97 rfl (q24.c t38 t39 _ ht40) (by rintro v w' ⟨rfl, hs⟩; exact hs) ?_
 rintro _ w1 ⟨rfl, hs⟩
 replace hS := hS.grow hs
 refine GO ?_
 refine CB H (fun H => ?_) (fun H => ?_)
 exact MD H hS
 exact MD H hS
 replace H := pif_f (of_decide_eq_false hb) H
 refine GO ?_
 refine CJ.condF Z ?_
 exact MD H hS
 exact MD H hS
 rintro F w1 ⟨y29, he, rfl, hS⟩
 obtain rfl := Option.some.inj he
 have H := K329
 refine EJ.next ?_
 refine GO ?_
 obtain ⟨t41, ht41, H⟩ := pbind H
 obtain ⟨ad41, e41⟩ := (rC hS 5 Z).some' ht41
 refine OS (SI e41 (getI_some ht41).1) ?_
 refine OS (SE ((rC hS 5 Z).at_ e41 ht41)) ?_
 refine OJ.es Z Z (eS cSpot t41 hS (i := 4) Z Z Z Z Z Z Z Z Z Z) ?_
 intro w1 hS
 refine GO ?_
 refine OS (SE (ce hS 4)) ?_
 refine OF (EL hS cSpot ([t41] : List Spot)) ?_
 rintro _ w1 ⟨A42, rfl, hS⟩
 obtain ⟨u43, hu43, H⟩ := pbind H
 refine OW (AP hS 3 (rC hS 6 Z) (chk_some hu43)) ?_
 rintro _ w1 ⟨A44, c45, rfl, hS⟩
 exact MD H hS
 rintro F w1 ⟨y22, y25, A23, c24, ⟨⟩, rfl, hS⟩
 have H := K327
 refine GO ?_
 refine oS (SE (ce hS 4)) ?_
 refine OF (EA hS (cSpot.enc (⟨0, 0⟩ : Spot))) ?_
 rintro _ w1 ⟨b46, rfl, hS⟩
 refine OJ.es Z Z (eS cSpot y25 hS (i := 5) Z Z Z Z Z Z Z Z Z Z) ?_
 intro w1 hS
 refine GO ?_
 exact RD ⟨y22, y25, A23, c24, b46, rfl, hS.pick [0, 1, 2, 3, 5] [] rfl, H⟩
 exact MD H hS
 rintro F w1 ⟨y14, A15, c16, he, rfl, hS⟩
 obtain rfl := Option.some.inj he
 have H := K320
 refine EJ.next ?_
 refine GO ?_
 obtain rfl := Option.some.inj H
 exact EJ.fin Z (.tmp Z (.tmp Z .nil)) ⟨A15, c16, Z, hS.pick [0] [] Z⟩

def q1v.l1 (a0 : List Spot) (a1 : List Spot) : Nat → Int → Option (Bool ⊕ Unit)
  | 0, _ => none
  | k + 1, y1 => if y1 < (a0.length : Int) then ((getI a0 y1).bind fun t2 => (getI a1 y1).bind fun t3 => if t2 ≠ t3 then ((getI a0 y1).bind fun t4 => (getI a1 y1).bind fun t5 => (q24.f t4 t5).bind fun t6 => some (Sum.inl t6)) else (q1v.l1 a0 a1 k (IntKind.i64.wrap (y1 + 1)))) else (some (Sum.inr ()))
def q1v.f (k : Nat) (a0 : List Spot) (a1 : List Spot) : Option Bool := (q1v.l1 a0 a1 k 0).bind fun s331 => match s331 with | .inl r => some r | .inr _ => some false
theorem q1v.c {k w Aa0 ca0} {a0 : List Spot} (hr0 : Rd cSpot w Aa0 a0) (hc0 : a0.length ≤ ca0) {Aa1 ca1} {a1 : List Spot} (hr1 : Rd cSpot w Aa1 a1) (hc1 : a1.length ≤ ca1) (r : Bool) (H : q1v.f k a0 a1 = some r) :
 CV Tryz.prog 96 [sl Aa0 a0 ca0, sl Aa1 a1 ca1].toArray w fun v w' => v = .bool r ∧ Ext w w' := by
 have hS := (((St.init w no).param cSpot Aa0 ca0 a0 hr0 hc0).param cSpot Aa1 ca1 a1 hr1 hc1)
 unfold q1v.f at H
 refine CV.body Tryz.func96 Z Tryz.ntmps96 Z ?_
 refine GO ?_
 obtain ⟨j331, H, K331⟩ := pbind H
 refine CJ.cut1 (fun F w1 => some j331 = some (Sum.inr ()) ∧ F = [] ∧ St w no w1 [] [roC cSpot Aa0 ca0 a0, roC cSpot Aa1 ca1 a1]) ?_ ?_
 refine CJ.block ?_
 refine LQ (fun k F w1 => ∃ (y1 : Int), F = [(0, sl Aa0 a0 ca0), (1, sl Aa1 a1 ca1), (5, i6 y1)] ∧ St w no w1 [] [roC cSpot Aa0 ca0 a0, roC cSpot Aa1 ca1 a1] ∧ q1v.l1 a0 a1 k y1 = some j331) k H hS ?_
 rintro k F w1 ⟨y1, rfl, hS, H⟩
 rw [q1v.l1] at H
 refine GO ?_
 refine CP H (fun H => GO ?_) (fun H => ?_)
 refine CJ.block ?_
 refine GO ?_
 refine CJ.draw [] [0, 1, 2, 3, 4, 5, 6, 7, 8] mixed (by kernel_rfl) hS fun w1 hS => ?_
 refine GO ?_
 obtain ⟨t2, ht2, H⟩ := pbind H
 obtain ⟨ad2, e2⟩ := (rA hS 0 Z).some' ht2
 refine DS (SI e2 (getI_some ht2).1) ?_
 refine dS (SE ((rA hS 0 Z).at_ e2 ht2)) ?_
 obtain ⟨t3, ht3, H⟩ := pbind H
 obtain ⟨ad3, e3⟩ := (rA hS 1 Z).some' ht3
 refine DS (SI e3 (getI_some ht3).1) ?_
 refine DS (SE ((rA hS 1 Z).at_ e3 ht3)) ?_
 refine DJ.st Z Z Z Z Z (SR.neS eqT55 eqG55 Z Z Z (Z : _ = (cSpot.enc t2).toArray) (Z : _ = (cSpot.enc t3).toArray)) ?_
 refine GO ?_
 refine CP H (fun H => GO ?_) (fun H => ?_)
 refine CJ.draw [] [0, 1, 2, 3, 4, 5, 6, 7, 8, 9] mixed (by kernel_rfl) hS fun w1 hS => ?_
 refine GO ?_
 obtain ⟨t4, ht4, H⟩ := pbind H
 obtain ⟨ad4, e4⟩ := (rA hS 0 Z).some' ht4
 refine DS (SI e4 (getI_some ht4).1) ?_
 refine dS (SE ((rA hS 0 Z).at_ e4 ht4)) ?_
 obtain ⟨t5, ht5, H⟩ := pbind H
 obtain ⟨ad5, e5⟩ := (rA hS 1 Z).some' ht5
 refine DS (SI e5 (getI_some ht5).1) ?_
 refine DS (SE ((rA hS 1 Z).at_ e5 ht5)) ?_
 obtain ⟨t6, ht6, H⟩ := pbind H
 refine DJ.callF rfl rfl rfl rfl rfl rfl rfl hb97 rfl (q24.c t4 t5 _ ht6) (by rintro v w' ⟨rfl, hs⟩; exact hs) ?_
 rintro _ w1 ⟨rfl, hs⟩
 replace hS := hS.grow hs
 refine GO ?_
 obtain rfl := Option.some.inj H; have H := K331
 exact FE H hS
 exact MD H hS
 exact MD H hS
 rintro F w1 ⟨⟨⟩, rfl, hS⟩
 have H := K331
 refine EJ.next ?_
 exact FE H hS

def q0j.l2 (a0 : Pasture) (a1 : List Spot) (a2 : List Spot) (y8 : Int) : Nat → (List Spot) → Int → Option (List Spot)
  | 0, _, _ => none
  | k + 1, y15, y18 => if y18 < (a2.length : Int) then ((getI a1 y8).bind fun t19 => (getI a2 y18).bind fun t20 => (q0g.f k a0 t19 t20).bind fun t21 => (if t21.2 ≠ 0 then (some true) else (if 0 < (y15.length : Int) then (some (decide ((y15.length : Int) < (t21.1.length : Int)))) else (some false))).bind fun y24 => if y24 = true then (q0j.l2 a0 a1 a2 y8 k y15 (IntKind.i64.wrap (y18 + 1))) else (if (y15.length : Int) = 0 then (q0j.l2 a0 a1 a2 y8 k t21.1 (IntKind.i64.wrap (y18 + 1))) else (if (t21.1.length : Int) < (y15.length : Int) then (q0j.l2 a0 a1 a2 y8 k t21.1 (IntKind.i64.wrap (y18 + 1))) else ((q1v.f k t21.1 y15).bind fun t25 => if t25 = true then (q0j.l2 a0 a1 a2 y8 k t21.1 (IntKind.i64.wrap (y18 + 1))) else (q0j.l2 a0 a1 a2 y8 k y15 (IntKind.i64.wrap (y18 + 1))))))) else (some y15)
def q0j.l1 (a0 : Pasture) (a1 : List Spot) (a2 : List Spot) : Nat → (List Spot) → Int → Option (List Spot)
  | 0, _, _ => none
  | k + 1, y5, y8 => if y8 < (a1.length : Int) then (((q0j.l2 a0 a1 a2 y8 k y5 0).bind fun y12 => some y12).bind fun y9 => q0j.l1 a0 a1 a2 k y9 (IntKind.i64.wrap (y8 + 1))) else (some y5)
def q0j.f (k : Nat) (a0 : Pasture) (a1 : List Spot) (a2 : List Spot) : Option (List Spot) := (q0j.l1 a0 a1 a2 k ([] : List Spot) 0).bind fun y2 => some y2
theorem q0j.c {k w} (pa0 : Addr) (a0 : Pasture) (hp0 : CA w pa0 (cPasture.enc a0)) {Aa1 ca1} {a1 : List Spot} (hr1 : Rd cSpot w Aa1 a1) (hc1 : a1.length ≤ ca1) {Aa2 ca2} {a2 : List Spot} (hr2 : Rd cSpot w Aa2 a2) (hc2 : a2.length ≤ ca2) (r : List Spot) (H : q0j.f k a0 a1 a2 = some r) :
 CV Tryz.prog 41 [.pointer (some pa0), sl Aa1 a1 ca1, sl Aa2 a2 ca2].toArray w fun v w' => ∃ (A0 : Option Addr) (c0 : Nat), v = .slice A0 r.length c0 ∧ St w no w' [rowC cSpot A0 c0 55 r] [] := by
 have hS := ((((St.init w no).paramP pa0 (cPasture.enc a0) hp0).param cSpot Aa1 ca1 a1 hr1 hc1).param cSpot Aa2 ca2 a2 hr2 hc2)
 unfold q0j.f at H
 refine CV.body Tryz.func41 Z Tryz.ntmps41 Z ?_
 refine GO ?_
 refine OF (EL hS cSpot ([] : List Spot)) ?_
 rintro _ w1 ⟨A1, rfl, hS⟩
 refine GO ?_
 obtain ⟨j306, H, K306⟩ := pbind H
 refine CJ.cut1 (fun F w1 => ∃ y2 A3 c4, some y2 = some j306 ∧ F = [(7, sl A3 y2 c4)] ∧ St w no w1 [rowC cSpot A3 c4 55 y2] [roP pa0 (cPasture.enc a0), roC cSpot Aa1 ca1 a1, roC cSpot Aa2 ca2 a2]) ?_ ?_
 refine CJ.block ?_
 refine LQ (fun k F w1 => ∃ (y5 : List Spot) (y8 : Int) (A6 c7 : _), F = [(0, .pointer (some pa0)), (1, sl Aa1 a1 ca1), (2, sl Aa2 a2 ca2), (7, sl A6 y5 c7), (8, i6 y8)] ∧ St w no w1 [rowC cSpot A6 c7 55 y5] [roP pa0 (cPasture.enc a0), roC cSpot Aa1 ca1 a1, roC cSpot Aa2 ca2 a2] ∧ q0j.l1 a0 a1 a2 k y5 y8 = some j306) k H hS ?_
 rintro k F w1 ⟨y5, y8, A6, c7, rfl, hS, H⟩
 rw [q0j.l1] at H
 refine GO ?_
 refine CP H (fun H => ?_) (fun H => ?_)
 refine CJ.skip (EJ.next ?_)
 obtain ⟨j347, H, K347⟩ := pbind H
 refine CJ.cut (fun F w1 => ∃ y9 A10 c11, some y9 = some j347 ∧ F = [(0, .pointer (some pa0)), (1, sl Aa1 a1 ca1), (2, sl Aa2 a2 ca2), (7, sl A10 y9 c11), (8, i6 y8)] ∧ St w no w1 [rowC cSpot A10 c11 55 y9] [roP pa0 (cPasture.enc a0), roC cSpot Aa1 ca1 a1, roC cSpot Aa2 ca2 a2]) ?_ ?_
 refine CJ.block ?_
 refine GO ?_
 obtain ⟨j352, H, K352⟩ := pbind H
 refine CJ.cut1 (fun F w1 => ∃ y12 A13 c14, some y12 = some j352 ∧ F = [(0, .pointer (some pa0)), (1, sl Aa1 a1 ca1), (2, sl Aa2 a2 ca2), (7, sl A13 y12 c14), (8, i6 y8)] ∧ St w no w1 [rowC cSpot A13 c14 55 y12] [roP pa0 (cPasture.enc a0), roC cSpot Aa1 ca1 a1, roC cSpot Aa2 ca2 a2]) ?_ ?_
 refine CJ.block ?_
 refine LQ (fun k F w1 => ∃ (y15 : List Spot) (y18 : Int) (A16 c17 : _), F = [(0, .pointer (some pa0)), (1, sl Aa1 a1 ca1), (2, sl Aa2 a2 ca2), (7, sl A16 y15 c17), (8, i6 y8), (9, i6 y18)] ∧ St w no w1 [rowC cSpot A16 c17 55 y15] [roP pa0 (cPasture.enc a0), roC cSpot Aa1 ca1 a1, roC cSpot Aa2 ca2 a2] ∧ q0j.l2 a0 a1 a2 y8 k y15 y18 = some j352) k H hS ?_
 rintro k F w1 ⟨y15, y18, A16, c17, rfl, hS, H⟩
 rw [q0j.l2] at H
 refine GO ?_
 refine CP H (fun H => GO ?_) (fun H => ?_)
 refine CJ.block ?_
 refine GO ?_
 refine CJ.draw [] [0, 1, 2, 3, 4, 5, 6, 7, 8, 9, 10, 11, 12, 13, 14, 15, 16] mixed (by kernel_rfl) hS fun w1 hS => ?_
 refine GO ?_
 refine dS (SE (hS.ca (i := 0) Z)) ?_
 obtain ⟨t19, ht19, H⟩ := pbind H
 obtain ⟨ad19, e19⟩ := (rA hS 1 Z).some' ht19
 refine DS (SI e19 (getI_some ht19).1) ?_
 refine dS (SE ((rA hS 1 Z).at_ e19 ht19)) ?_
 obtain ⟨t20, ht20, H⟩ := pbind H
 obtain ⟨ad20, e20⟩ := (rA hS 2 Z).some' ht20
 refine DS (SI e20 (getI_some ht20).1) ?_
 refine DS (SE ((rA hS 2 Z).at_ e20 ht20)) ?_
 obtain ⟨t21, ht21, H⟩ := pbind H
 refine DJ.callF rfl rfl rfl rfl rfl rfl rfl hb95 rfl (q0g.c a0 t19 t20 _ ht21) (by rintro v w' ⟨A22, c23, rfl, hs⟩; exact hs.ext) ?_
 rintro _ w1 ⟨A22, c23, rfl, hs⟩
 replace hS := hS.addN hs
 refine DPU 5 ?_
 refine DJ.nil (EJ.next ?_)
 refine CJ.seq ?_
 obtain ⟨j355, H, K355⟩ := pbind H
 refine CJ.cut (fun F w1 => ∃ y24, some y24 = some j355 ∧ F = [(0, .pointer (some pa0)), (1, sl Aa1 a1 ca1), (2, sl Aa2 a2 ca2), (7, sl A16 y15 c17), (8, i6 y8), (9, i6 y18), (10, sl A22 t21.1 c23), (53, .bool y24)] ∧ St w no w1 [rowC cSpot A16 c17 55 y15, rowC cSpot A22 c23 55 t21.1] [roP pa0 (cPasture.enc a0), roC cSpot Aa1 ca1 a1, roC cSpot Aa2 ca2 a2]) ?_ ?_
 refine GO ?_
 refine OJ.split (t := 42) Z (fun hb => ?_) (fun hb => ?_)
 replace H := pif_t (of_decide_eq_true hb) H
 exact MD H hS
 replace H := pif_f (of_decide_eq_false hb) H
 refine GO ?_
 refine OJ.split (t := 46) Z (fun hb => ?_) (fun hb => ?_)
 replace H := pif_t (of_decide_eq_true hb) H
 exact MD H hS
 replace H := pif_f (of_decide_eq_false hb) H
 exact MD H hS
 rintro F w1 ⟨y24, he, rfl, hS⟩
 obtain rfl := Option.some.inj he
 have H := K355
 refine CB H (fun H => ?_) (fun H => ?_)
 exact MD H hS
 refine GO ?_
 refine OJ.split (t := 57) Z (fun hb => ?_) (fun hb => ?_)
 replace H := pif_t (of_decide_eq_true hb) H
 refine GO ?_
 refine CJ.condT Z ?_
 exact MD H hS
 replace H := pif_f (of_decide_eq_false hb) H
 refine GO ?_
 refine OJ.split (t := 64) Z (fun hb => ?_) (fun hb => ?_)
 replace H := pif_t (of_decide_eq_true hb) H
 refine GO ?_
 refine CJ.condT Z ?_
 exact MD H hS
 replace H := pif_f (of_decide_eq_false hb) H
 refine GO ?_
 refine oB H hS hb96 (q1v.c (rC hS 1 Z) (rD hS 1 Z) (rC hS 0 Z) (rD hS 0 Z)) fun t25 w1 H hS => ?_
 refine CB H (fun H => ?_) (fun H => ?_)
 exact MD H hS
 exact MD H hS
 exact MD H hS
 rintro F w1 ⟨y12, A13, c14, he, rfl, hS⟩
 obtain rfl := Option.some.inj he
 have H := K352
 refine EJ.blk (?_)
 exact MD H hS
 rintro F w1 ⟨y9, A10, c11, he, rfl, hS⟩
 obtain rfl := Option.some.inj he
 have H := K347
 exact MD H hS
 exact MD H hS
 rintro F w1 ⟨y2, A3, c4, he, rfl, hS⟩
 obtain rfl := Option.some.inj he
 have H := K306
 refine EJ.next ?_
 refine GO ?_
 obtain rfl := Option.some.inj H
 exact FT ⟨A3, c4, Z, hS.pick [0] [] Z⟩

def q2o.f (a0 : Spot) (a1 : Spot) : Option Hurdle := (q24.f a1 a0).bind fun t4 => if t4 = true then (some (⟨a1, decide (a1.Y < a0.Y)⟩ : Hurdle)) else (some (⟨a0, decide (a0.Y < a1.Y)⟩ : Hurdle))
theorem q2o.c {w} (a0 : Spot) (a1 : Spot) (r : Hurdle) (H : q2o.f a0 a1 = some r) :
 CV Tryz.prog 42 [.agg (cSpot.enc a0).toArray, .agg (cSpot.enc a1).toArray].toArray w fun v w' => v = .agg (cHurdle.enc r).toArray ∧ Ext w w' := by
 have hS := (St.init w no)
 unfold q2o.f at H
 refine CV.body Tryz.func42 Z Tryz.ntmps42 Z ?_
 refine GO ?_
 refine OF (EB hS (cSpot.enc a0)) ?_
 rintro _ w1 ⟨b1, rfl, hS⟩
 refine OF (EB hS (cSpot.enc a1)) ?_
 rintro _ w1 ⟨b2, rfl, hS⟩
 refine oA hS (cHurdle.enc (⟨(⟨0, 0⟩ : Spot), false⟩ : Hurdle)) fun b3 w1 hS => ?_
 refine OS (SE (ce hS 1)) ?_
 refine OS (SE (ce hS 0)) ?_
 refine oB H hS hb97 (q24.c a1 a0) fun t4 w1 H hS => ?_
 refine CB H (fun H => GO ?_) (fun H => ?_)
 refine oS (SE (ce hS 1)) ?_
 refine oS (SL (cf hS 0 1)) ?_
 refine oS (SL (cf hS 1 1)) ?_
 refine OJ.st Z Z Z (SR.build (C := cHurdle) oU oI Z Z Z (zs := [.int .i8 0, .int .i8 0, .bool false]) Z Z Z (⟨a1, decide (a1.Y < a0.Y)⟩ : Hurdle) Z) ?_
 refine OJ.es Z Z (eS cHurdle (⟨a1, decide (a1.Y < a0.Y)⟩ : Hurdle) hS (i := 2) Z Z Z Z Z Z Z Z Z Z) ?_
 intro w1 hS
 refine GO ?_
 obtain rfl := Option.some.inj H
 exact EJ.fin Z (.cell Z (ldE oU oI Z Z Z (hS.cells (i := 2) Z) Z) .nil) ⟨Z, hS.ext⟩
 refine GO ?_
 refine oS (SE (ce hS 0)) ?_
 refine oS (SL (cf hS 1 1)) ?_
 refine oS (SL (cf hS 0 1)) ?_
 refine OJ.st Z Z Z (SR.build (C := cHurdle) oU oI Z Z Z (zs := [.int .i8 0, .int .i8 0, .bool false]) Z Z Z (⟨a0, decide (a0.Y < a1.Y)⟩ : Hurdle) Z) ?_
 refine OJ.es Z Z (eS cHurdle (⟨a0, decide (a0.Y < a1.Y)⟩ : Hurdle) hS (i := 2) Z Z Z Z Z Z Z Z Z Z) ?_
 intro w1 hS
 refine GO ?_
 obtain rfl := Option.some.inj H
 exact EJ.fin Z (.cell Z (ldE oU oI Z Z Z (hS.cells (i := 2) Z) Z) .nil) ⟨Z, hS.ext⟩

def q0x.l2 (y17 : List Spot) : Nat → Pasture → Int → Option Pasture
  | 0, _, _ => none
  | k + 1, y26, y27 => if y27 < (y17.length : Int) then ((getI y17 (IntKind.i64.wrap (y27 - 1))).bind fun t28 => (getI y17 y27).bind fun t29 => (q2o.f t28 t29).bind fun t30 => (q25.f t30).bind fun t34 => (q26.f y26 t30.At t34 true).bind fun t35 => q0x.l2 y17 k t35 (IntKind.i64.wrap (y27 + 1))) else (some y26)
def q0x.l1 (a1 : List Spot) (a2 : List Spot) : Nat → Pasture → (List (List Spot)) → (List Spot) → Option (List (List Spot))
  | 0, _, _, _ => none
  | k + 1, y12, y13, y17 => if 0 < (y17.length : Int) then ((chk (y13.length + [y17].length ≤ 4294967296)).bind fun u21 => (q0x.l2 y17 k y12 1).bind fun y25 => (q0j.f k y25 a1 a2).bind fun t36 => q0x.l1 a1 a2 k y25 (y13 ++ [y17]) t36) else (some y13)
def q0x.f (k : Nat) (a0 : Pasture) (a1 : List Spot) (a2 : List Spot) : Option (List (List Spot) × Int) := (q19.f k a0 a1 a2).bind fun t2 => if t2 ≠ 0 then (some (([] : List (List Spot)), t2)) else ((q0j.f k a0 a1 a2).bind fun t5 => (q0x.l1 a1 a2 k a0 ([] : List (List Spot)) t5).bind fun y8 => some (y8, 0))
theorem q0x.c {k w} (a0 : Pasture) {Aa1 ca1} {a1 : List Spot} (hr1 : Rd cSpot w Aa1 a1) (hc1 : a1.length ≤ ca1) {Aa2 ca2} {a2 : List Spot} (hr2 : Rd cSpot w Aa2 a2) (hc2 : a2.length ≤ ca2) (r : List (List Spot) × Int) (H : q0x.f k a0 a1 a2 = some r) :
 CV Tryz.prog 13 [.agg (cPasture.enc a0).toArray, sl Aa1 a1 ca1, sl Aa2 a2 ca2].toArray w fun v w' => ∃ (A0 : Option Addr) (c0 : Nat) (D0 : List SH), v = .tuple #[sl A0 r.1 c0, i6 r.2] ∧ St w no w' [rowsC cSpot A0 c0 33 55 D0 r.1] [] := by
 have hS := (((St.init w no).param cSpot Aa1 ca1 a1 hr1 hc1).param cSpot Aa2 ca2 a2 hr2 hc2)
 unfold q0x.f at H
 refine CV.body Tryz.func13 Z Tryz.ntmps13 Z ?_
 refine GO ?_
 refine oX hS (cPasture.enc a0) fun b1 w1 hS => ?_
 refine oB H hS hb32 (q19.c _ a0 (hS.cells (i := 0) Z) (rA hS 0 Z) (rB hS 0 Z) (rA hS 1 Z) (rB hS 1 Z)) fun t2 w1 H hS => ?_
 refine CP H (fun H => GO ?_) (fun H => ?_)
 refine OJ.ef Z Z Z (Ef.litS0 (e := 55) oU oI hS Z Z Z Z cSpot) ?_
 rintro _ w1 ⟨A3, rfl, hS⟩
 refine GO ?_
 obtain rfl := Option.some.inj H
 exact EJ.fin Z (.tmp Z (.tmp Z .nil)) ⟨A3, (([] : List (List Spot)).length), [], Z, hS.pick [1] [] Z⟩
 refine GO ?_
 refine OJ.ef Z Z Z (Ef.litS0 (e := 55) oU oI hS Z Z Z Z cSpot) ?_
 rintro _ w1 ⟨A4, rfl, hS⟩
 refine GO ?_
 obtain ⟨t5, ht5, H⟩ := pbind H
 refine OC hb41 (q0j.c _ a0 (hS.cells (i := 0) Z) (rA hS 0 Z) (rB hS 0 Z) (rA hS 1 Z) (rB hS 1 Z) _ ht5) ?_
 rintro _ w1 ⟨A6, c7, rfl, hs⟩
 replace hS := hS.addN hs
 refine PX 1 ?_
 obtain ⟨j356, H, K356⟩ := pbind H
 refine CJ.cut (fun F w1 => ∃ y8 A9 c10 D11, some y8 = some j356 ∧ F = [(9, sl A9 y8 c10)] ∧ St w no w1 [rowsC cSpot A9 c10 33 55 D11 y8] [roC cSpot Aa1 ca1 a1, roC cSpot Aa2 ca2 a2]) ?_ ?_
 refine CJ.block ?_
 refine LQ (fun k F w1 => ∃ (y12 : Pasture) (y13 : List (List Spot)) (y17 : List Spot) (A14 c15 D16 A18 c19 : _), F = [(1, sl Aa1 a1 ca1), (2, sl Aa2 a2 ca2), (3, pt b1), (9, sl A14 y13 c15), (10, sl A18 y17 c19)] ∧ St w no w1 [box b1 (cPasture.enc y12) 31, rowsC cSpot A14 c15 33 55 D16 y13, rowC cSpot A18 c19 55 y17] [roC cSpot Aa1 ca1 a1, roC cSpot Aa2 ca2 a2] ∧ q0x.l1 a1 a2 k y12 y13 y17 = some j356) k H hS ?_
 rintro k F w1 ⟨y12, y13, y17, A14, c15, D16, A18, c19, rfl, hS, H⟩
 rw [q0x.l1] at H
 refine GO ?_
 refine CP H (fun H => GO ?_) (fun H => ?_)
 refine CJ.block ?_
 refine GO ?_
 refine OJ.ef Z Z Z (Ef.litS1 (C := cSpot) oU oI hS (k := 2) Z Z Z Z Z Z) ?_
 rintro _ w1 ⟨A20, rfl, hS⟩
 obtain ⟨u21, hu21, H⟩ := pbind H
 have hdl := (hS.rowsRo (i := 1) rfl).1
 have dd24 := subD (D := D16) hdl (show ([(A18, c19)] : List SH)[0]? = _ from rfl)
 have xd24 := subD (D := y13) rfl (show ([y17] : List (List Spot))[0]? = _ from rfl)
 refine OJ.ew Z Z Z (Ew.appendS oU oI hS (i := 1) (j := 3) Z Z Z Z Z Z Z Z Z Z Z Z Z Z (chk_some hu21)) ?_
 rintro _ w1 ⟨A22, c23, rfl, hS⟩
 refine GO ?_
 obtain ⟨j359, H, K359⟩ := pbind H
 refine CJ.cut1 (fun F w1 => ∃ y25, some y25 = some j359 ∧ F = [(1, sl Aa1 a1 ca1), (2, sl Aa2 a2 ca2), (3, pt b1), (9, sl A22 (y13 ++ [y17]) c23)] ∧ St w no w1 [box b1 (cPasture.enc y25) 31, rowsC cSpot A22 c23 33 55 (D16 ++ [(A18, c19)]) (y13 ++ [y17])] [roC cSpot Aa1 ca1 a1, roC cSpot Aa2 ca2 a2]) ?_ ?_
 refine CJ.block ?_
 refine LQ (fun k F w1 => ∃ (y26 : Pasture) (y27 : Int), F = [(1, sl Aa1 a1 ca1), (2, sl Aa2 a2 ca2), (3, pt b1), (9, sl A22 (y13 ++ [y17]) c23), (10, sl A18 y17 c19), (11, i6 y27)] ∧ St w no w1 [box b1 (cPasture.enc y26) 31, rowsC cSpot A22 c23 33 55 (D16 ++ [(A18, c19)]) (y13 ++ [y17])] [roC cSpot Aa1 ca1 a1, roC cSpot Aa2 ca2 a2] ∧ q0x.l2 y17 k y26 y27 = some j359) k H hS ?_
 rintro k F w1 ⟨y26, y27, rfl, hS, H⟩
 rw [q0x.l2] at H
 refine GO ?_
 refine CP H (fun H => GO ?_) (fun H => ?_)
 refine CJ.block ?_
 refine GO ?_
 obtain ⟨t28, ht28, H⟩ := pbind H
 obtain ⟨t29, ht29, H⟩ := pbind H
 obtain ⟨t30, ht30, H⟩ := pbind H
 refine CJ.cut1 (fun F w1 => ∃ (b31 : Nat), F = [(1, sl Aa1 a1 ca1), (2, sl Aa2 a2 ca2), (3, pt b1), (9, sl A22 (y13 ++ [y17]) c23), (10, sl A18 y17 c19), (11, i6 y27), (12, pt b31)] ∧ St w no w1 [box b1 (cPasture.enc y26) 31, rowsC cSpot A22 c23 33 55 (D16 ++ [(A18, c19)]) (y13 ++ [y17]), box b31 (cHurdle.enc t30) 58] [roC cSpot Aa1 ca1 a1, roC cSpot Aa2 ca2 a2]) ?_ ?_
 refine CJ.drawT [] [9, 10, 11] (.one 0 (.one 1 (.one 2 (.one 3 (.one 4 (.one 5 (.one 6 (.one 7 (.one 8 (.br (.alt 9 (.one 10 (.one 11 (.fin))) (.alt 10 (.one 9 (.one 11 (.fin))) (.stop))))))))))))) mixed (by kernel_rfl) hS [1] fun w1 hS hY hV => ?_
 refine GO ?_
 obtain ⟨ad28, e28⟩ := ((ros_sub (hS.rowsRo (i := 1) rfl) dd24 xd24)).some' ht28
 refine TP (fun _ => SI e28 (getI_some ht28).1) ?_
 refine TJ.st hY Z Z Z Z Z (fun w2 hY => SR.load Z Z (fun w' hx => ldE oU oI Z Z Z (CA.ext ((ros_sub ((hV w2 hY).rowsRoR (i := 2) Z) dd24 xd24).at_ e28 ht28) hx) Z)) ?_
 refine GO ?_
 obtain ⟨ad29, e29⟩ := ((ros_sub (hS.rowsRo (i := 1) rfl) dd24 xd24)).some' ht29
 refine TP (fun _ => SI e29 (getI_some ht29).1) ?_
 refine TJ.st hY Z Z Z Z Z (fun w2 hY => SR.load Z Z (fun w' hx => ldE oU oI Z Z Z (CA.ext ((ros_sub ((hV w2 hY).rowsRoR (i := 2) Z) dd24 xd24).at_ e29 ht29) hx) Z)) ?_
 refine TJ.br ?_
 refine TJ.alt ?_ ?_
 refine TJ.callF hY rfl rfl rfl rfl rfl rfl rfl hb42 rfl (q2o.c t28 t29 _ ht30) (by rintro v w' ⟨rfl, hs⟩; exact hs) ?_
 rintro _ w1 hY ⟨rfl, hs⟩
 replace hS := hS.grow hs
 refine TF hY (EA hS (cHurdle.enc (⟨(⟨0, 0⟩ : Spot), false⟩ : Hurdle))) ?_
 rintro _ w1 hY ⟨b32, rfl, hS⟩
 have hO := hS
 refine TJ.es rfl rfl rfl rfl (Es.store oI (hS.inn [1]) (i := 2) rfl rfl rfl rfl rfl rfl (vs := cHurdle.enc t30) rfl (cHurdle.len _) (cHurdle.one _) (Nat.le_of_ble_eq_true rfl) (cHurdle.enc t30) rfl) (by intro w1 hS; exact hY.wr (hO.inY [1] 2 rfl rfl) hS.chg) ?_
 intro w1 hY hS
 have hS : St _ _ _ [_, _, _] _ := hO.out [1] hS
 exact MD H hS
 refine TJ.alt ?_ ?_
 refine TF hY (EA hS (cHurdle.enc (⟨(⟨0, 0⟩ : Spot), false⟩ : Hurdle))) ?_
 rintro _ w1 hY ⟨b33, rfl, hS⟩
 refine TJ.callF hY rfl rfl rfl rfl rfl rfl rfl hb42 rfl (q2o.c t28 t29 _ ht30) (by rintro v w' ⟨rfl, hs⟩; exact hs) ?_
 rintro _ w1 hY ⟨rfl, hs⟩
 replace hS := hS.grow hs
 have hO := hS
 refine TJ.es rfl rfl rfl rfl (Es.store oI (hS.inn [1]) (i := 2) rfl rfl rfl rfl rfl rfl (vs := cHurdle.enc t30) rfl (cHurdle.len _) (cHurdle.one _) (Nat.le_of_ble_eq_true rfl) (cHurdle.enc t30) rfl) (by intro w1 hS; exact hY.wr (hO.inY [1] 2 rfl rfl) hS.chg) ?_
 intro w1 hY hS
 have hS : St _ _ _ [_, _, _] _ := hO.out [1] hS
 exact MD H hS
 exact TJ.stop
 rintro F w1 ⟨b31, rfl, hS⟩
 refine EJ.next ?_
 refine CJ.draw [4] [0, 1, 2, 3, 4] mixed (by kernel_rfl) hS fun w1 hS => ?_
 refine GO ?_
 refine DJ.st Z Z Z Z Z (SR.load Z Z (fun w' hx => ldN oU oI Z Z Z (CA.ext (CA.sub (hS.cells (i := 2) Z) 0) hx) (cSpot.len _) Z)) ?_
 refine DS (SE (ce hS 2)) ?_
 obtain ⟨t34, ht34, H⟩ := pbind H
 refine DJ.callF rfl rfl rfl rfl rfl rfl rfl hb44 rfl (q25.c t30 _ ht34) (by rintro v w' ⟨rfl, hs⟩; exact hs) ?_
 rintro _ w1 ⟨rfl, hs⟩
 replace hS := hS.grow hs
 obtain ⟨t35, ht35, H⟩ := pbind H
 refine DJ.callFw Z Z Z Z Z Z Z hb43 Z (q26.c b1 y26 t30.At ((hS.subs [0] [] [] Z).pick [0] [] Z) _ ht35) ?_
 rintro _ w1 ⟨rfl, hs⟩
 replace hS := hS.back [0] Z Z [box b1 (cPasture.enc t35) 31] [] hs ⟨fun _ => Iff.rfl, trivial⟩
 exact MD H hS
 exact MD H hS
 rintro F w1 ⟨y25, he, rfl, hS⟩
 obtain rfl := Option.some.inj he
 have H := K359
 refine EJ.next ?_
 refine GO ?_
 obtain ⟨t36, ht36, H⟩ := pbind H
 refine OC hb41 (q0j.c _ y25 (hS.cells (i := 0) Z) (rA hS 0 Z) (rB hS 0 Z) (rA hS 1 Z) (rB hS 1 Z) _ ht36) ?_
 rintro _ w1 ⟨A37, c38, rfl, hs⟩
 replace hS := hS.addN hs
 exact MD H hS
 exact MD H hS
 rintro F w1 ⟨y8, A9, c10, D11, ⟨⟩, rfl, hS⟩
 have H := K356
 refine GO ?_
 obtain rfl := Option.some.inj H
 exact EJ.fin Z (.tmp Z (.tmp Z .nil)) ⟨A9, c10, D11, Z, hS.pick [0] [] Z⟩

def q0s.f (k : Nat) (a0 : List Hurdle) (a1 : Hurdle → Option Bool) : Option Bool := (q05.f k a0 a1).bind fun t1 => some (decide (0 ≤ t1))
theorem q0s.c {k w Aa0 ca0} {a0 : List Hurdle} (hr0 : Rd cHurdle w Aa0 a0) (hc0 : a0.length ≤ ca0) (na1 : Nat) (fsa1 : Array Value) (capa1 : Array Value) (hb1 : hasBody Tryz.prog na1) (a1 : Hurdle → Option Bool) (hf1 : ∀ (z0 : Hurdle) (r : Bool), a1 z0 = some r → ∀ w', Chg no w w' → CV Tryz.prog na1 (fsa1 ++ [.agg (cHurdle.enc z0).toArray].toArray ++ capa1) w' fun v w'' => v = .bool r ∧ Ext w' w'') (r : Bool) (H : q0s.f k a0 a1 = some r) :
 CV Tryz.prog 59 [sl Aa0 a0 ca0, .func (.func na1) fsa1 capa1].toArray w fun v w' => v = .bool r ∧ Ext w w' := by
 have hS := ((St.init w no).param cHurdle Aa0 ca0 a0 hr0 hc0)
 unfold q0s.f at H
 refine CV.body Tryz.func59 Z Tryz.ntmps59 Z ?_
 refine GO ?_
 refine OB H hS hb109 (q05.c (rA hS 0 Z) (rB hS 0 Z) na1 fsa1 capa1 hb1 a1 (fun z0 r h w' hx => hf1 z0 r h w' (hS.chg.then hx (fun _ _ e => e.elim)))) fun t1 w1 H hS => ?_
 exact FE H hS

def q2l.f (a0 : Hurdle) : Option Spot := if a0.South = true then ((q0u.f a0.At 2).bind fun t3 => some t3) else ((q0u.f a0.At 1).bind fun t4 => some t4)
theorem q2l.c {w} (a0 : Hurdle) (r : Spot) (H : q2l.f a0 = some r) :
 CV Tryz.prog 116 [.agg (cHurdle.enc a0).toArray].toArray w fun v w' => v = .agg (cSpot.enc r).toArray ∧ Ext w w' := by
 have hS := (St.init w no)
 unfold q2l.f at H
 refine CV.body Tryz.func116 Z Tryz.ntmps116 Z ?_
 refine GO ?_
 refine OF (EB hS (cHurdle.enc a0)) ?_
 rintro _ w1 ⟨b1, rfl, hS⟩
 refine oA hS (cSpot.enc (⟨0, 0⟩ : Spot)) fun b2 w1 hS => ?_
 refine oS (SL (cf hS 0 2)) ?_
 refine CB H (fun H => GO ?_) (fun H => ?_)
 refine OJ.st Z Z Z (SR.load Z Z (fun w' hx => ldN oU oI Z Z Z (CA.ext (CA.sub (hS.cells (i := 0) Z) 0) hx) (cSpot.len _) Z)) ?_
 refine OB H hS hb85 (q0u.c a0.At) fun t3 w1 H hS => ?_
 refine OJ.es Z Z (eS cSpot t3 hS (i := 1) Z Z Z Z Z Z Z Z Z Z) ?_
 intro w1 hS
 refine GO ?_
 obtain rfl := Option.some.inj H
 exact EJ.fin Z (.cell Z (ldE oU oI Z Z Z (hS.cells (i := 1) Z) Z) .nil) ⟨Z, hS.ext⟩
 refine GO ?_
 refine OJ.st Z Z Z (SR.load Z Z (fun w' hx => ldN oU oI Z Z Z (CA.ext (CA.sub (hS.cells (i := 0) Z) 0) hx) (cSpot.len _) Z)) ?_
 refine OB H hS hb85 (q0u.c a0.At) fun t4 w1 H hS => ?_
 refine OJ.es Z Z (eS cSpot t4 hS (i := 1) Z Z Z Z Z Z Z Z Z Z) ?_
 intro w1 hS
 refine GO ?_
 obtain rfl := Option.some.inj H
 exact EJ.fin Z (.cell Z (ldE oU oI Z Z Z (hS.cells (i := 1) Z) Z) .nil) ⟨Z, hS.ext⟩

def q1m.f (a0 : Pasture) (a1 : Hurdle) : Option Bool := (q0m.f a0 a1.At).bind fun t3 => if t3 = true then ((q2l.f a1).bind fun t4 => (q0m.f a0 t4).bind fun t5 => some t5) else (some false)
theorem q1m.c {w} (a0 : Pasture) (a1 : Hurdle) (r : Bool) (H : q1m.f a0 a1 = some r) :
 CV Tryz.prog 65 [.agg (cPasture.enc a0).toArray, .agg (cHurdle.enc a1).toArray].toArray w fun v w' => v = .bool r ∧ Ext w w' := by
 have hS := (St.init w no)
 unfold q1m.f at H
 refine CV.body Tryz.func65 Z Tryz.ntmps65 Z ?_
 refine GO ?_
 refine OF (EB hS (cPasture.enc a0)) ?_
 rintro _ w1 ⟨b1, rfl, hS⟩
 refine oX hS (cHurdle.enc a1) fun b2 w1 hS => ?_
 refine CJ.draw [] [0, 1, 2, 3, 4, 5, 6, 7, 8, 9, 10] mixed (by kernel_rfl) hS fun w1 hS => ?_
 refine dS (SE (ce hS 0)) ?_
 refine DJ.st Z Z Z Z Z (SR.load Z Z (fun w' hx => ldN oU oI Z Z Z (CA.ext (CA.sub (hS.cells (i := 1) Z) 0) hx) (cSpot.len _) Z)) ?_
 obtain ⟨t3, ht3, H⟩ := pbind H
 refine DJ.callF rfl rfl rfl rfl rfl rfl rfl hb99 rfl (q0m.c a0 a1.At _ ht3) (by rintro v w' ⟨rfl, hs⟩; exact hs) ?_
 rintro _ w1 ⟨rfl, hs⟩
 replace hS := hS.grow hs
 refine GO ?_
 refine DJ.split (t := 9) Z (fun hb => ?_) (fun hb => ?_)
 replace H := pif_t hb H
 refine DS (SE (ce hS 0)) ?_
 refine DS (SE (ce hS 1)) ?_
 obtain ⟨t4, ht4, H⟩ := pbind H
 refine DJ.callF rfl rfl rfl rfl rfl rfl rfl hb116 rfl (q2l.c a1 _ ht4) (by rintro v w' ⟨rfl, hs⟩; exact hs) ?_
 rintro _ w1 ⟨rfl, hs⟩
 replace hS := hS.grow hs
 obtain ⟨t5, ht5, H⟩ := pbind H
 refine DJ.callF rfl rfl rfl rfl rfl rfl rfl hb99 rfl (q0m.c a0 t4 _ ht5) (by rintro v w' ⟨rfl, hs⟩; exact hs) ?_
 rintro _ w1 ⟨rfl, hs⟩
 replace hS := hS.grow hs
 exact FE H hS
 replace H := pifb_f hb H
 exact FE H hS

def q2e.f (a1 : Pasture) (a0 : Hurdle) : Option Bool := (q1m.f a1 a0).bind fun t2 => some (!t2)
theorem q2e.c {w} (pa1 : Addr) (a1 : Pasture) (hp1 : CA w pa1 (cPasture.enc a1)) (a0 : Hurdle) (r : Bool) (H : q2e.f a1 a0 = some r) :
 CV Tryz.prog 101 [.agg (cHurdle.enc a0).toArray, .pointer (some pa1)].toArray w fun v w' => v = .bool r ∧ Ext w w' := by
 have hS := ((St.init w no).paramP pa1 (cPasture.enc a1) hp1)
 unfold q2e.f at H
 refine CV.body Tryz.func101 Z Tryz.ntmps101 Z ?_
 refine GO ?_
 refine oX hS (cHurdle.enc a0) fun b1 w1 hS => ?_
 refine OS (SE (hS.ca (i := 0) Z)) ?_
 refine OS (SE (ce hS 0)) ?_
 refine OB H hS hb65 (q1m.c a1 a0) fun t2 w1 H hS => ?_
 exact FE H hS

def q2a.f (k : Nat) (a0 : Pasture) (a1 : List Hurdle) : Option Int := (q0i.f k a0).bind fun t2 => if (!t2) = true then (some 1) else ((q0s.f k a1 (q2e.f a0)).bind fun t3 => (q2d.f (!t3) 2).bind fun t4 => some t4)
theorem q2a.c {k w} (a0 : Pasture) {Aa1 ca1} {a1 : List Hurdle} (hr1 : Rd cHurdle w Aa1 a1) (hc1 : a1.length ≤ ca1) (r : Int) (H : q2a.f k a0 a1 = some r) :
 CV Tryz.prog 48 [.agg (cPasture.enc a0).toArray, sl Aa1 a1 ca1].toArray w fun v w' => v = .int .i64 r ∧ Ext w w' := by
 have hS := ((St.init w no).param cHurdle Aa1 ca1 a1 hr1 hc1)
 unfold q2a.f at H
 refine CV.body Tryz.func48 Z Tryz.ntmps48 Z ?_
 refine GO ?_
 refine oX hS (cPasture.enc a0) fun b1 w1 hS => ?_
 refine OS (SE (ce hS 0)) ?_
 refine oB H hS hb64 (q0i.c a0) fun t2 w1 H hS => ?_
 refine CB H (fun H => ?_) (fun H => ?_)
 exact FE H hS
 refine GO ?_
 refine oB H hS hb59 (q0s.c (rA hS 0 Z) (rB hS 0 Z) 101 #[] #[.pointer (some ⟨b1, 0, none⟩)] hb101 (q2e.f a0) (fun z0 r h w' hx => CV.cast (q2e.c ⟨b1, 0, none⟩ a0 (CA.ext (hS.cells (i := 0) rfl) hx) z0 r h) (by simp))) fun t3 w1 H hS => ?_
 refine OB H hS hb53 (q2d.c) fun t4 w1 H hS => ?_
 exact FE H hS

def q2h.f (a1 : Arr 10 (Arr 10 Int)) (a0 : Spot) : Option Bool := (q1e.f a1 a0).bind fun t2 => some (decide (0 ≤ t2))
theorem q2h.c {w} (pa1 : Addr) (a1 : Arr 10 (Arr 10 Int)) (hp1 : CA w pa1 ((carr 10 (carr 10 (ci .i16))).enc a1)) (a0 : Spot) (r : Bool) (H : q2h.f a1 a0 = some r) :
 CV Tryz.prog 50 [.agg (cSpot.enc a0).toArray, .pointer (some pa1)].toArray w fun v w' => v = .bool r ∧ Ext w w' := by
 have hS := ((St.init w no).paramP pa1 ((carr 10 (carr 10 (ci .i16))).enc a1) hp1)
 unfold q2h.f at H
 refine CV.body Tryz.func50 Z Tryz.ntmps50 Z ?_
 refine GO ?_
 refine oX hS (cSpot.enc a0) fun b1 w1 hS => ?_
 refine OS (SE (ce hS 0)) ?_
 refine OB H hS hb37 (q1e.c _ a1 (hS.ca (i := 0) Z) a0) fun t2 w1 H hS => ?_
 exact FE H hS
end Go.Proofs.YtegibnmfiogebaaGreatDoor
