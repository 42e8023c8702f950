/-
  What the functions come to.
-/
import Derived.Test.YtegibnmfiogebaaGreatDoorGP2
namespace Go.Proofs.YtegibnmfiogebaaGreatDoor
open G
set_option linter.unusedVariables false
set_option linter.unusedSimpArgs false
set_option maxRecDepth 100000
set_option maxHeartbeats 4000000
def q28.f (k : Nat) (a0 : Pasture) (a1 : List Spot) (a2 : List Spot) (a3 : List Hurdle) : Option (Bool × Int) := (q01.f k ([a1, a2] : List (List Spot))).bind fun t3 => (q22.f k a0 t3).bind fun t6 => (q2a.f k a0 a3).bind fun t7 => (q1b.f k ([t6, t7] : List Int)).bind fun t9 => if t9 ≠ 0 then (some (false, t9)) else ((q0r.f k a0 a3 true).bind fun t10 => (q00.f k t10 a1).bind fun t11 => (q0v.f k a2 (q2h.f t11)).bind fun t13 => some ((!t13), 0))
theorem q28.c {k w} (a0 : Pasture) {Aa1 ca1} {a1 : List Spot} (hr1 : Rd cSpot w Aa1 a1) (hc1 : a1.length ≤ ca1) {Aa2 ca2} {a2 : List Spot} (hr2 : Rd cSpot w Aa2 a2) (hc2 : a2.length ≤ ca2) {Aa3 ca3} {a3 : List Hurdle} (hr3 : Rd cHurdle w Aa3 a3) (hc3 : a3.length ≤ ca3) (r : Bool × Int) (H : q28.f k a0 a1 a2 a3 = some r) :
 CV Tryz.prog 14 [.agg (cPasture.enc a0).toArray, sl Aa1 a1 ca1, sl Aa2 a2 ca2, sl Aa3 a3 ca3].toArray w fun v w' => v = .tuple #[.bool r.1, i6 r.2] ∧ Ext w w' := by
 have hS := ((((St.init w no).param cSpot Aa1 ca1 a1 hr1 hc1).param cSpot Aa2 ca2 a2 hr2 hc2).param cHurdle Aa3 ca3 a3 hr3 hc3)
 unfold q28.f at H
 refine CV.body Tryz.func14 Z Tryz.ntmps14 Z ?_
 refine GO ?_
 refine oX hS (cPasture.enc a0) fun b1 w1 hS => ?_
 refine CJ.draw [] [0, 1, 2, 6, 7, 3, 4, 5, 8, 9, 10, 11] mixed (by kernel_rfl) hS fun w1 hS => ?_
 refine dS (SE (ce hS 0)) ?_
 refine dS (SE (ce hS 0)) ?_
 refine DF (EL hS csv (hsl (α := Spot) [(Aa1, ca1), (Aa2, ca2)] ([a1, a2] : List (List Spot)))) ?_
 rintro _ w1 ⟨A2, rfl, hS⟩
 obtain ⟨t3, ht3, H⟩ := pbind H
 refine DJ.callF rfl rfl rfl rfl rfl rfl rfl hb47 rfl (q01.c [(Aa1, ca1), (Aa2, ca2)] (ros_lit hS (i := 1) rfl ⟨⟨(rA hS 0 Z), (rB hS 0 Z)⟩, ⟨(rA hS 1 Z), (rB hS 1 Z)⟩, trivial⟩) _ ht3) (by rintro v w' ⟨A4, c5, rfl, hs⟩; exact hs.ext) ?_
 rintro _ w1 ⟨A4, c5, rfl, hs⟩
 replace hS := hS.addN hs
 obtain ⟨t6, ht6, H⟩ := pbind H
 refine DJ.callF rfl rfl rfl rfl rfl rfl rfl hb46 rfl (q22.c a0 (rC hS 2 Z) (rD hS 2 Z) _ ht6) (by rintro v w' ⟨rfl, hs⟩; exact hs) ?_
 rintro _ w1 ⟨rfl, hs⟩
 replace hS := hS.grow hs
 obtain ⟨t7, ht7, H⟩ := pbind H
 refine DJ.callF rfl rfl rfl rfl rfl rfl rfl hb48 rfl (q2a.c a0 (rA hS 2 Z) (rB hS 2 Z) _ ht7) (by rintro v w' ⟨rfl, hs⟩; exact hs) ?_
 rintro _ w1 ⟨rfl, hs⟩
 replace hS := hS.grow hs
 refine DF (EL hS (ci .i64) ([t6, t7] : List Int)) ?_
 rintro _ w1 ⟨A8, rfl, hS⟩
 obtain ⟨t9, ht9, H⟩ := pbind H
 refine DJ.callF rfl rfl rfl rfl rfl rfl rfl hb45 rfl (q1b.c (rC hS 3 Z) (rD hS 3 Z) _ ht9) (by rintro v w' ⟨rfl, hs⟩; exact hs) ?_
 rintro _ w1 ⟨rfl, hs⟩
 replace hS := hS.grow hs
 refine GO ?_
 refine CP H (fun H => ?_) (fun H => ?_)
 exact FE H hS
 refine GO ?_
 refine oS (SE (ce hS 0)) ?_
 refine oB H hS hb39 (q0r.c a0 (rA hS 2 Z) (rB hS 2 Z)) fun t10 w1 H hS => ?_
 refine OB H hS hb35 (q00.c t10 (rA hS 0 Z) (rB hS 0 Z)) fun t11 w1 H hS => ?_
 refine OJ.ef rfl rfl rfl (Ef.alloc hS oI rfl rfl ((carr 10 (carr 10 (ci .i16))).enc (Arr.mk' (Arr.mk' 0 : Arr 10 Int) : Arr 10 (Arr 10 Int))) (by kernel_rfl)) ?_
 rintro _ w1 ⟨b12, rfl, hS⟩
 refine OJ.es rfl rfl (Es.put oI hS (i := 4) rfl rfl rfl rfl rfl (vs := (carr 10 (carr 10 (ci .i16))).enc t11) rfl ((carr 10 (carr 10 (ci .i16))).len _) ((carr 10 (carr 10 (ci .i16))).one _) (Put.all (carr 10 (carr 10 (ci .i16))) (Arr.mk' (Arr.mk' 0 : Arr 10 Int) : Arr 10 (Arr 10 Int)) t11) (by (try simp only [add_lit, Nat.add_assoc, Nat.zero_add, Nat.add_zero]) <;> first | rfl | (congr 1; exact Nat.zero_add _))) ?_
 intro w1 hS
 refine GO ?_
 refine OB H hS hb49 (q0v.c (rA hS 1 Z) (rB hS 1 Z) 50 #[] #[.pointer (some ⟨b12, 0, none⟩)] hb50 (q2h.f t11) (fun z0 r h w' hx => CV.cast (q2h.c ⟨b12, 0, none⟩ t11 (CA.ext (hS.cells (i := 4) rfl) hx) z0 r h) (by simp))) fun t13 w1 H hS => ?_
 exact FE H hS

def q0d.l1 (a0 : List (List Spot)) (a1 : (List Spot) → Option Bool) : Nat → Int → Option (Int ⊕ Unit)
  | 0, _ => none
  | k + 1, y1 => if y1 < (a0.length : Int) then ((getI a0 y1).bind fun t2 => (a1 t2).bind fun t3 => if t3 = true then (some (Sum.inl y1)) else (q0d.l1 a0 a1 k (IntKind.i64.wrap (y1 + 1)))) else (some (Sum.inr ()))
def q0d.f (k : Nat) (a0 : List (List Spot)) (a1 : (List Spot) → Option Bool) : Option Int := (q0d.l1 a0 a1 k 0).bind fun s360 => match s360 with | .inl r => some r | .inr _ => some (-1)
theorem q0d.c {k w Aa0 ca0} (Da0 : List SH) {a0 : List (List Spot)} (hr0 : (rosC cSpot Aa0 ca0 Da0 a0).holds w) (na1 : Nat) (fsa1 : Array Value) (capa1 : Array Value) (hb1 : hasBody Tryz.prog na1) (a1 : (List Spot) → Option Bool) (hf1 : ∀ (Az0 : Option Addr) (cz0 : Nat) (z0 : List Spot) (r : Bool), a1 z0 = some r → ∀ w', Chg no w w' → Rd cSpot w' Az0 z0 → z0.length ≤ cz0 → CV Tryz.prog na1 (fsa1 ++ [sl Az0 z0 cz0].toArray ++ capa1) w' fun v w'' => v = .bool r ∧ Ext w' w'') (r : Int) (H : q0d.f k a0 a1 = some r) :
 CV Tryz.prog 103 [sl Aa0 a0 ca0, .func (.func na1) fsa1 capa1].toArray w fun v w' => v = .int .i64 r ∧ Ext w w' := by
 have hS := ((St.init w no).paramC (rosC cSpot Aa0 ca0 Da0 a0) hr0)
 unfold q0d.f at H
 refine CV.body Tryz.func103 Z Tryz.ntmps103 Z ?_
 refine GO ?_
 obtain ⟨j360, H, K360⟩ := pbind H
 refine CJ.cut1 (fun F w1 => some j360 = some (Sum.inr ()) ∧ F = [] ∧ St w no w1 [] [rosC cSpot Aa0 ca0 Da0 a0]) ?_ ?_
 refine CJ.block ?_
 refine LQ (fun k F w1 => ∃ (y1 : Int), F = [(0, sl Aa0 a0 ca0), (1, .func (.func na1) fsa1 capa1), (7, i6 (a0.length : Int)), (8, i6 y1)] ∧ St w no w1 [] [rosC cSpot Aa0 ca0 Da0 a0] ∧ q0d.l1 a0 a1 k y1 = some j360) k H hS ?_
 rintro k F w1 ⟨y1, rfl, hS, H⟩
 rw [q0d.l1] at H
 refine GO ?_
 refine CP H (fun H => GO ?_) (fun H => ?_)
 refine CJ.block ?_
 refine GO ?_
 obtain ⟨t2, ht2, H⟩ := pbind H
 obtain ⟨Ae2, ce2, g2, d2, hx2⟩ := ros_el (hS.rosH (i := 0) rfl) ht2
 obtain ⟨ad2, e2⟩ := (ros_rd (hS.rosH (i := 0) rfl)).some' g2
 refine OS (SI e2 (getI_some ht2).1) ?_
 refine OS (SL ((ros_rd (hS.rosH (i := 0) Z)).at_ e2 g2)) ?_
 obtain ⟨t3, ht3, H⟩ := pbind H
 refine OJ.call Z Z (Nat.le_of_ble_eq_true Z) Z Z Z hb1 Z (hf1 Ae2 ce2 t2 _ ht3 _ hS.chg (ros_sub (hS.rosH (i := 0) Z) d2 hx2) (ros_subLe (hS.rosH (i := 0) Z) d2 hx2)) ?_
 rintro _ w1 ⟨rfl, hs⟩
 replace hS := hS.grow hs
 refine GO ?_
 refine CB H (fun H => GO ?_) (fun H => ?_)
 obtain rfl := Option.some.inj H; have H := K360
 exact FE H hS
 exact MD H hS
 exact MD H hS
 rintro F w1 ⟨⟨⟩, rfl, hS⟩
 have H := K360
 refine EJ.next ?_
 exact FE H hS

def q12.f (k : Nat) (a0 : List (List Spot)) (a1 : (List Spot) → Option Bool) : Option Bool := (q0d.f k a0 a1).bind fun t1 => some (decide (0 ≤ t1))
theorem q12.c {k w Aa0 ca0} (Da0 : List SH) {a0 : List (List Spot)} (hr0 : (rosC cSpot Aa0 ca0 Da0 a0).holds w) (na1 : Nat) (fsa1 : Array Value) (capa1 : Array Value) (hb1 : hasBody Tryz.prog na1) (a1 : (List Spot) → Option Bool) (hf1 : ∀ (Az0 : Option Addr) (cz0 : Nat) (z0 : List Spot) (r : Bool), a1 z0 = some r → ∀ w', Chg no w w' → Rd cSpot w' Az0 z0 → z0.length ≤ cz0 → CV Tryz.prog na1 (fsa1 ++ [sl Az0 z0 cz0].toArray ++ capa1) w' fun v w'' => v = .bool r ∧ Ext w' w'') (r : Bool) (H : q12.f k a0 a1 = some r) :
 CV Tryz.prog 51 [sl Aa0 a0 ca0, .func (.func na1) fsa1 capa1].toArray w fun v w' => v = .bool r ∧ Ext w w' := by
 have hS := ((St.init w no).paramC (rosC cSpot Aa0 ca0 Da0 a0) hr0)
 unfold q12.f at H
 refine CV.body Tryz.func51 Z Tryz.ntmps51 Z ?_
 refine GO ?_
 refine OB H hS hb103 (q0d.c Da0 (hS.rosH (i := 0) Z) na1 fsa1 capa1 hb1 a1 (fun Az0 cz0 z0 r h w' hx hr0' hc0' => hf1 Az0 cz0 z0 r h w' (hS.chg.then hx (fun _ _ e => e.elim)) hr0' hc0')) fun t1 w1 H hS => ?_
 exact FE H hS

def q27.f (a0 : List Spot) : Option Bool := some (decide ((a0.length : Int) = 0))
theorem q27.c {w Aa0 ca0} {a0 : List Spot} (hr0 : Rd cSpot w Aa0 a0) (hc0 : a0.length ≤ ca0) (r : Bool) (H : q27.f a0 = some r) :
 CV Tryz.prog 52 [sl Aa0 a0 ca0].toArray w fun v w' => v = .bool r ∧ Ext w w' := by
 have hS := ((St.init w no).param cSpot Aa0 ca0 a0 hr0 hc0)
 unfold q27.f at H
 refine CV.body Tryz.func52 Z Tryz.ntmps52 Z ?_
 exact FE H hS

def q0f.l2 (t17 : List Spot) : Nat → Pasture → Int → Option ((((Bool × Int) ⊕ Unit) ⊕ Pasture) ⊕ Pasture)
  | 0, _, _ => none
  | k + 1, y24, y25 => if y25 < (t17.length : Int) then ((getI t17 (IntKind.i64.wrap (y25 - 1))).bind fun t26 => (getI t17 y25).bind fun t27 => (q0q.f k y24 t26).bind fun t28 => (q09.f k t28 t27).bind fun t31 => if (!t31) = true then (some (Sum.inl (Sum.inl (Sum.inl (false, 0))))) else ((chk ((0 : Int) ≤ (IntKind.i64.wrap (y25 - 1)) ∧ (IntKind.i64.wrap (y25 - 1)) ≤ (IntKind.i64.wrap (y25 + 1)) ∧ (IntKind.i64.wrap (y25 + 1)) ≤ (t17.length : Int))).bind fun u32 => (q0p.f k ((t17.drop ((IntKind.i64.wrap (y25 - 1)).toNat)).take (((IntKind.i64.wrap (y25 + 1)).toNat) - ((IntKind.i64.wrap (y25 - 1)).toNat)))).bind fun t33 => (q0r.f k y24 t33 true).bind fun t36 => q0f.l2 t17 k t36 (IntKind.i64.wrap (y25 + 1)))) else (some (Sum.inr y24))
def q0f.l1 (a1 : List Spot) (a2 : List Spot) (a3 : List (List Spot)) : Nat → Pasture → Int → Option ((Bool × Int) ⊕ Unit)
  | 0, _, _ => none
  | k + 1, y14, y15 => if y15 < (a3.length : Int) then (((getI a3 y15).bind fun t17 => ((getI t17 0).bind fun t19 => (q09.f k a1 t19).bind fun t20 => if (!t20) = true then (some true) else ((getI t17 (IntKind.i64.wrap ((t17.length : Int) - 1))).bind fun t21 => (q09.f k a2 t21).bind fun t22 => some (!t22))).bind fun y18 => if y18 = true then (some (Sum.inl (Sum.inl (false, 0)))) else ((q0f.l2 t17 k y14 1).bind fun s376 => match s376 with | .inl r => some r | .inr y23 => some (Sum.inr y23))).bind fun s372 => match s372 with | .inl r => some r | .inr y16 => q0f.l1 a1 a2 a3 k y16 (IntKind.i64.wrap (y15 + 1))) else (some (Sum.inr ()))
def q0f.f (k : Nat) (a0 : Pasture) (a1 : List Spot) (a2 : List Spot) (a3 : List (List Spot)) : Option (Bool × Int) := (q12.f k a3 q27.f).bind fun t2 => (q01.f k a3).bind fun t3 => (q01.f k ([a1, a2, t3] : List (List Spot))).bind fun t7 => (q22.f k a0 t7).bind fun t10 => (q2d.f (!t2) 2).bind fun t11 => (q1b.f k ([t10, t11] : List Int)).bind fun t13 => if t13 ≠ 0 then (some (false, t13)) else ((q0f.l1 a1 a2 a3 k a0 0).bind fun s361 => match s361 with | .inl r => some r | .inr _ => some (true, 0))
theorem q0f.c {k w} (a0 : Pasture) {Aa1 ca1} {a1 : List Spot} (hr1 : Rd cSpot w Aa1 a1) (hc1 : a1.length ≤ ca1) {Aa2 ca2} {a2 : List Spot} (hr2 : Rd cSpot w Aa2 a2) (hc2 : a2.length ≤ ca2) {Aa3 ca3} (Da3 : List SH) {a3 : List (List Spot)} (hr3 : (rosC cSpot Aa3 ca3 Da3 a3).holds w) (r : Bool × Int) (H : q0f.f k a0 a1 a2 a3 = some r) :
 CV Tryz.prog 15 [.agg (cPasture.enc a0).toArray, sl Aa1 a1 ca1, sl Aa2 a2 ca2, sl Aa3 a3 ca3].toArray w fun v w' => v = .tuple #[.bool r.1, i6 r.2] ∧ Ext w w' := by
 have hS := ((((St.init w no).param cSpot Aa1 ca1 a1 hr1 hc1).param cSpot Aa2 ca2 a2 hr2 hc2).paramC (rosC cSpot Aa3 ca3 Da3 a3) hr3)
 unfold q0f.f at H
 refine CV.body Tryz.func15 Z Tryz.ntmps15 Z ?_
 refine GO ?_
 refine oX hS (cPasture.enc a0) fun b1 w1 hS => ?_
 refine oB H hS hb51 (q12.c Da3 (hS.rosH (i := 2) rfl) 52 #[] #[] hb52 q27.f (fun Az0 cz0 z0 r h w' hx hr0' hc0' => CV.cast (q27.c hr0' hc0' r h) (by simp))) fun t2 w1 H hS => ?_
 refine CJ.draw [] [0, 1, 2, 3, 8, 9, 4, 5, 6, 7, 10, 11, 12, 13] mixed (by kernel_rfl) hS fun w1 hS => ?_
 refine dS (SE (ce hS 0)) ?_
 obtain ⟨t3, ht3, H⟩ := pbind H
 refine DJ.callF rfl rfl rfl rfl rfl rfl rfl hb47 rfl (q01.c Da3 (hS.rosH (i := 2) rfl) _ ht3) (by rintro v w' ⟨A4, c5, rfl, hs⟩; exact hs.ext) ?_
 rintro _ w1 ⟨A4, c5, rfl, hs⟩
 replace hS := hS.addN hs
 refine DF (EL hS csv (hsl (α := Spot) [(Aa1, ca1), (Aa2, ca2), (A4, c5)] ([a1, a2, t3] : List (List Spot)))) ?_
 rintro _ w1 ⟨A6, rfl, hS⟩
 obtain ⟨t7, ht7, H⟩ := pbind H
 refine DJ.callF rfl rfl rfl rfl rfl rfl rfl hb47 rfl (q01.c [(Aa1, ca1), (Aa2, ca2), (A4, c5)] (ros_lit hS (i := 2) rfl ⟨⟨(rA hS 0 Z), (rB hS 0 Z)⟩, ⟨(rA hS 1 Z), (rB hS 1 Z)⟩, ⟨(rC hS 1 Z), (rD hS 1 Z)⟩, trivial⟩) _ ht7) (by rintro v w' ⟨A8, c9, rfl, hs⟩; exact hs.ext) ?_
 rintro _ w1 ⟨A8, c9, rfl, hs⟩
 replace hS := hS.addN hs
 obtain ⟨t10, ht10, H⟩ := pbind H
 refine DJ.callF rfl rfl rfl rfl rfl rfl rfl hb46 rfl (q22.c a0 (rC hS 3 Z) (rD hS 3 Z) _ ht10) (by rintro v w' ⟨rfl, hs⟩; exact hs) ?_
 rintro _ w1 ⟨rfl, hs⟩
 replace hS := hS.grow hs
 obtain ⟨t11, ht11, H⟩ := pbind H
 refine DJ.callF rfl rfl rfl rfl rfl rfl rfl hb53 rfl (q2d.c _ ht11) (by rintro v w' ⟨rfl, hs⟩; exact hs) ?_
 rintro _ w1 ⟨rfl, hs⟩
 replace hS := hS.grow hs
 refine DF (EL hS (ci .i64) ([t10, t11] : List Int)) ?_
 rintro _ w1 ⟨A12, rfl, hS⟩
 obtain ⟨t13, ht13, H⟩ := pbind H
 refine DJ.callF rfl rfl rfl rfl rfl rfl rfl hb45 rfl (q1b.c (rC hS 4 Z) (rD hS 4 Z) _ ht13) (by rintro v w' ⟨rfl, hs⟩; exact hs) ?_
 rintro _ w1 ⟨rfl, hs⟩
 replace hS := hS.grow hs
 refine GO ?_
 refine CP H (fun H => ?_) (fun H => ?_)
 exact FE H hS
 refine GO ?_
 obtain ⟨j361, H, K361⟩ := pbind H
 refine CJ.cut1 (fun F w1 => some j361 = some (Sum.inr ()) ∧ F = [] ∧ St w no w1 [] [roC cSpot Aa1 ca1 a1, roC cSpot Aa2 ca2 a2, rosC cSpot Aa3 ca3 Da3 a3]) ?_ ?_
 refine CJ.block ?_
 refine LQ (fun k F w1 => ∃ (y14 : Pasture) (y15 : Int), F = [(1, sl Aa1 a1 ca1), (2, sl Aa2 a2 ca2), (4, pt b1), (33, sl Aa3 a3 ca3), (34, i6 (a3.length : Int)), (35, i6 y15)] ∧ St w no w1 [box b1 (cPasture.enc y14) 31] [roC cSpot Aa1 ca1 a1, roC cSpot Aa2 ca2 a2, rosC cSpot Aa3 ca3 Da3 a3] ∧ q0f.l1 a1 a2 a3 k y14 y15 = some j361) k H hS ?_
 rintro k F w1 ⟨y14, y15, rfl, hS, H⟩
 rw [q0f.l1] at H
 refine GO ?_
 refine CP H (fun H => ?_) (fun H => ?_)
 refine CJ.skip (EJ.next ?_)
 obtain ⟨j372, H, K372⟩ := pbind H
 refine CJ.cut (fun F w1 => ∃ y16, some j372 = some (Sum.inr y16) ∧ F = [(1, sl Aa1 a1 ca1), (2, sl Aa2 a2 ca2), (4, pt b1), (33, sl Aa3 a3 ca3), (34, i6 (a3.length : Int)), (35, i6 y15)] ∧ St w no w1 [box b1 (cPasture.enc y16) 31] [roC cSpot Aa1 ca1 a1, roC cSpot Aa2 ca2 a2, rosC cSpot Aa3 ca3 Da3 a3]) ?_ ?_
 refine CJ.block ?_
 refine GO ?_
 obtain ⟨t17, ht17, H⟩ := pbind H
 obtain ⟨Ae17, ce17, g17, d17, hx17⟩ := ros_el (hS.rosH (i := 2) rfl) ht17
 obtain ⟨ad17, e17⟩ := (ros_rd (hS.rosH (i := 2) rfl)).some' g17
 refine OS (SI e17 (getI_some ht17).1) ?_
 refine OS (SL ((ros_rd (hS.rosH (i := 2) Z)).at_ e17 g17)) ?_
 refine PX 1 ?_
 refine CJ.seq ?_
 obtain ⟨j375, H, K375⟩ := pbind H
 refine CJ.cut (fun F w1 => ∃ y18, some y18 = some j375 ∧ F = [(1, sl Aa1 a1 ca1), (2, sl Aa2 a2 ca2), (4, pt b1), (13, sl Ae17 t17 ce17), (33, sl Aa3 a3 ca3), (34, i6 (a3.length : Int)), (35, i6 y15), (55, .bool y18)] ∧ St w no w1 [box b1 (cPasture.enc y14) 31] [roC cSpot Aa1 ca1 a1, roC cSpot Aa2 ca2 a2, rosC cSpot Aa3 ca3 Da3 a3]) ?_ ?_
 refine GO ?_
 obtain ⟨t19, ht19, H⟩ := pbind H
 obtain ⟨ad19, e19⟩ := ((ros_sub (hS.rosH (i := 2) rfl) d17 hx17)).some' ht19
 refine OS (SI e19 (getI_some ht19).1) ?_
 refine OS (SE ((ros_sub (hS.rosH (i := 2) Z) d17 hx17).at_ e19 ht19)) ?_
 refine oB H hS hb54 (q09.c (rA hS 0 Z) (rB hS 0 Z) t19) fun t20 w1 H hS => ?_
 refine OJ.split (t := 45) Z (fun hb => ?_) (fun hb => ?_)
 replace H := pif_t hb H
 exact MD H hS
 replace H := pifb_f hb H
 refine GO ?_
 obtain ⟨t21, ht21, H⟩ := pbind H
 obtain ⟨ad21, e21⟩ := ((ros_sub (hS.rosH (i := 2) rfl) d17 hx17)).some' ht21
 refine OS (SI e21 (getI_some ht21).1) ?_
 refine OS (SE ((ros_sub (hS.rosH (i := 2) Z) d17 hx17).at_ e21 ht21)) ?_
 refine OB H hS hb54 (q09.c (rA hS 1 Z) (rB hS 1 Z) t21) fun t22 w1 H hS => ?_
 exact MD H hS
 rintro F w1 ⟨y18, he, rfl, hS⟩
 obtain rfl := Option.some.inj he
 have H := K375
 refine CB H (fun H => GO ?_) (fun H => ?_)
 obtain rfl := Option.some.inj H; have H := K372
 obtain rfl := Option.some.inj H; have H := K361
 exact FE H hS
 refine GO ?_
 obtain ⟨j376, H, K376⟩ := pbind H
 refine CJ.cut1 (fun F w1 => ∃ y23, some j376 = some (Sum.inr y23) ∧ F = [(1, sl Aa1 a1 ca1), (2, sl Aa2 a2 ca2), (4, pt b1), (33, sl Aa3 a3 ca3), (34, i6 (a3.length : Int)), (35, i6 y15)] ∧ St w no w1 [box b1 (cPasture.enc y23) 31] [roC cSpot Aa1 ca1 a1, roC cSpot Aa2 ca2 a2, rosC cSpot Aa3 ca3 Da3 a3]) ?_ ?_
 refine CJ.block ?_
 refine LQ (fun k F w1 => ∃ (y24 : Pasture) (y25 : Int), F = [(1, sl Aa1 a1 ca1), (2, sl Aa2 a2 ca2), (4, pt b1), (13, sl Ae17 t17 ce17), (14, i6 y25), (33, sl Aa3 a3 ca3), (34, i6 (a3.length : Int)), (35, i6 y15)] ∧ St w no w1 [box b1 (cPasture.enc y24) 31] [roC cSpot Aa1 ca1 a1, roC cSpot Aa2 ca2 a2, rosC cSpot Aa3 ca3 Da3 a3] ∧ q0f.l2 t17 k y24 y25 = some j376) k H hS ?_
 rintro k F w1 ⟨y24, y25, rfl, hS, H⟩
 rw [q0f.l2] at H
 refine GO ?_
 refine CP H (fun H => GO ?_) (fun H => ?_)
 refine CJ.block ?_
 refine GO ?_
 refine CJ.draw [] [0, 1, 2, 3, 4, 5, 7, 8, 9, 10, 6, 11, 12] mixed (by kernel_rfl) hS fun w1 hS => ?_
 refine dS (SE (ce hS 0)) ?_
 obtain ⟨t26, ht26, H⟩ := pbind H
 obtain ⟨ad26, e26⟩ := ((ros_sub (hS.rosH (i := 2) rfl) d17 hx17)).some' ht26
 refine DS (SI e26 (getI_some ht26).1) ?_
 refine dS (SE ((ros_sub (hS.rosH (i := 2) Z) d17 hx17).at_ e26 ht26)) ?_
 obtain ⟨t27, ht27, H⟩ := pbind H
 obtain ⟨ad27, e27⟩ := ((ros_sub (hS.rosH (i := 2) rfl) d17 hx17)).some' ht27
 refine DS (SI e27 (getI_some ht27).1) ?_
 refine DS (SE ((ros_sub (hS.rosH (i := 2) Z) d17 hx17).at_ e27 ht27)) ?_
 obtain ⟨t28, ht28, H⟩ := pbind H
 refine DJ.callF rfl rfl rfl rfl rfl rfl rfl hb55 rfl (q0q.c y24 t26 _ ht28) (by rintro v w' ⟨A29, c30, rfl, hs⟩; exact hs.ext) ?_
 rintro _ w1 ⟨A29, c30, rfl, hs⟩
 replace hS := hS.addN hs
 obtain ⟨t31, ht31, H⟩ := pbind H
 refine DJ.callF rfl rfl rfl rfl rfl rfl rfl hb54 rfl (q09.c (rC hS 1 Z) (rD hS 1 Z) t27 _ ht31) (by rintro v w' ⟨rfl, hs⟩; exact hs) ?_
 rintro _ w1 ⟨rfl, hs⟩
 replace hS := hS.grow hs
 refine GO ?_
 refine CB H (fun H => GO ?_) (fun H => ?_)
 obtain rfl := Option.some.inj H; have H := K376
 obtain rfl := Option.some.inj H; have H := K372
 obtain rfl := Option.some.inj H; have H := K361
 exact FE H hS
 refine GO ?_
 refine CJ.draw [] [0, 1, 2, 3, 4, 5, 6, 7, 8, 9] mixed (by kernel_rfl) hS fun w1 hS => ?_
 refine dS (SE (ce hS 0)) ?_
 obtain ⟨u32, hu32, H⟩ := pbind H
 replace hS := hS.subR (j := 2) Z d17 hx17
 refine DJ.st rfl rfl rfl rfl rfl (SR.cutS oU oI ((IntKind.i64.wrap (y25 - 1)).toNat) ((IntKind.i64.wrap (y25 + 1)).toNat) rfl rfl rfl rfl rfl rfl (.inr ⟨_, _, rfl, (chk_some hu32).1, rfl⟩) (.inr ⟨_, _, rfl, (by have := (chk_some hu32); omega), rfl⟩) (by have := (chk_some hu32); omega) (by have := (chk_some hu32); have := (hS.le' (i := 3) rfl : t17.length ≤ ce17); omega)) ?_
 replace hS := hS.cutR (i := 3) (lo := (IntKind.i64.wrap (y25 - 1)).toNat) (hi := (IntKind.i64.wrap (y25 + 1)).toNat) rfl (by have := (chk_some hu32); omega) (by have := (chk_some hu32); omega)
 refine DJ.as (t := 81) rfl (show _ = (.slice (cutA Ae17 ce17 ((IntKind.i64.wrap (y25 - 1)).toNat) cSpot.sz) ((t17.drop ((IntKind.i64.wrap (y25 - 1)).toNat)).take (((IntKind.i64.wrap (y25 + 1)).toNat) - ((IntKind.i64.wrap (y25 - 1)).toNat))).length (ce17 - ((IntKind.i64.wrap (y25 - 1)).toNat)) : Value) by rw [cutLen (by have := (chk_some hu32); omega) (by have := (chk_some hu32); omega)]; rfl) ?_
 obtain ⟨t33, ht33, H⟩ := pbind H
 refine DJ.callF rfl rfl rfl rfl rfl rfl rfl hb40 rfl (q0p.c (rA hS 4 Z) (rB hS 4 Z) _ ht33) (by rintro v w' ⟨A34, c35, rfl, hs⟩; exact hs.ext) ?_
 rintro _ w1 ⟨A34, c35, rfl, hs⟩
 replace hS := hS.addN hs
 obtain ⟨t36, ht36, H⟩ := pbind H
 refine DJ.callF rfl rfl rfl rfl rfl rfl rfl hb39 rfl (q0r.c y24 (rC hS 2 Z) (rD hS 2 Z) _ ht36) (by rintro v w' ⟨rfl, hs⟩; exact hs) ?_
 rintro _ w1 ⟨rfl, hs⟩
 replace hS := hS.grow hs
 refine DJ.es rfl rfl rfl rfl (Es.put oI hS (i := 0) rfl rfl rfl rfl rfl (vs := cPasture.enc t36) rfl (cPasture.len _) (cPasture.one _) (Put.all cPasture y24 t36) (by (try simp only [add_lit, Nat.add_assoc, Nat.zero_add, Nat.add_zero]) <;> first | rfl | (congr 1; exact Nat.zero_add _))) ?_
 intro w1 hS
 exact MD H hS
 exact MD H hS
 rintro F w1 ⟨y23, ⟨⟩, rfl, hS⟩
 have H := K376
 refine EJ.blk (?_)
 exact MD H hS
 rintro F w1 ⟨y16, ⟨⟩, rfl, hS⟩
 have H := K372
 exact MD H hS
 exact MD H hS
 rintro F w1 ⟨⟨⟩, rfl, hS⟩
 have H := K361
 refine EJ.next ?_
 exact FE H hS

def q3h.f (a0 : Spot) : Option Bool := (q0m.f (⟨10, 10, (Arr.mk' (Arr.mk' 0 : Arr 10 Int) : Arr 10 (Arr 10 Int)), (Arr.mk' 0 : Arr 10 Int), (Arr.mk' 0 : Arr 10 Int)⟩ : Pasture) a0).bind fun t2 => some t2
theorem q3h.c {w} (a0 : Spot) (r : Bool) (H : q3h.f a0 = some r) :
 CV Tryz.prog 61 [.agg (cSpot.enc a0).toArray].toArray w fun v w' => v = .bool r ∧ Ext w w' := by
 have hS := (St.init w no)
 unfold q3h.f at H
 refine CV.body Tryz.func61 Z Tryz.ntmps61 Z ?_
 refine GO ?_
 refine oX hS (cSpot.enc a0) fun b1 w1 hS => ?_
 refine OJ.st Z Z Z (SR.build (C := cPasture) oU oI Z Z Z (zs := [.int .i8 0, .int .i8 0, .int .i16 0, .int .i16 0, .int .i16 0, .int .i16 0, .int .i16 0, .int .i16 0, .int .i16 0, .int .i16 0, .int .i16 0, .int .i16 0, .int .i16 0, .int .i16 0, .int .i16 0, .int .i16 0, .int .i16 0, .int .i16 0, .int .i16 0, .int .i16 0, .int .i16 0, .int .i16 0, .int .i16 0, .int .i16 0, .int .i16 0, .int .i16 0, .int .i16 0, .int .i16 0, .int .i16 0, .int .i16 0, .int .i16 0, .int .i16 0, .int .i16 0, .int .i16 0, .int .i16 0, .int .i16 0, .int .i16 0, .int .i16 0, .int .i16 0, .int .i16 0, .int .i16 0, .int .i16 0, .int .i16 0, .int .i16 0, .int .i16 0, .int .i16 0, .int .i16 0, .int .i16 0, .int .i16 0, .int .i16 0, .int .i16 0, .int .i16 0, .int .i16 0, .int .i16 0, .int .i16 0, .int .i16 0, .int .i16 0, .int .i16 0, .int .i16 0, .int .i16 0, .int .i16 0, .int .i16 0, .int .i16 0, .int .i16 0, .int .i16 0, .int .i16 0, .int .i16 0, .int .i16 0, .int .i16 0, .int .i16 0, .int .i16 0, .int .i16 0, .int .i16 0, .int .i16 0, .int .i16 0, .int .i16 0, .int .i16 0, .int .i16 0, .int .i16 0, .int .i16 0, .int .i16 0, .int .i16 0, .int .i16 0, .int .i16 0, .int .i16 0, .int .i16 0, .int .i16 0, .int .i16 0, .int .i16 0, .int .i16 0, .int .i16 0, .int .i16 0, .int .i16 0, .int .i16 0, .int .i16 0, .int .i16 0, .int .i16 0, .int .i16 0, .int .i16 0, .int .i16 0, .int .i16 0, .int .i16 0, .int .u16 0, .int .u16 0, .int .u16 0, .int .u16 0, .int .u16 0, .int .u16 0, .int .u16 0, .int .u16 0, .int .u16 0, .int .u16 0, .int .u16 0, .int .u16 0, .int .u16 0, .int .u16 0, .int .u16 0, .int .u16 0, .int .u16 0, .int .u16 0, .int .u16 0, .int .u16 0]) Z Z Z (⟨10, 10, (Arr.mk' (Arr.mk' 0 : Arr 10 Int) : Arr 10 (Arr 10 Int)), (Arr.mk' 0 : Arr 10 Int), (Arr.mk' 0 : Arr 10 Int)⟩ : Pasture) Z) ?_
 refine OS (SE (ce hS 0)) ?_
 refine OB H hS hb99 (q0m.c (⟨10, 10, (Arr.mk' (Arr.mk' 0 : Arr 10 Int) : Arr 10 (Arr 10 Int)), (Arr.mk' 0 : Arr 10 Int), (Arr.mk' 0 : Arr 10 Int)⟩ : Pasture) a0) fun t2 w1 H hS => ?_
 exact FE H hS

def q2i.f (a0 : Hurdle) : Option Bool := (q3h.f a0.At).bind fun t2 => some (!t2)
theorem q2i.c {w} (a0 : Hurdle) (r : Bool) (H : q2i.f a0 = some r) :
 CV Tryz.prog 60 [.agg (cHurdle.enc a0).toArray].toArray w fun v w' => v = .bool r ∧ Ext w w' := by
 have hS := (St.init w no)
 unfold q2i.f at H
 refine CV.body Tryz.func60 Z Tryz.ntmps60 Z ?_
 refine GO ?_
 refine oX hS (cHurdle.enc a0) fun b1 w1 hS => ?_
 refine OJ.st Z Z Z (SR.load Z Z (fun w' hx => ldN oU oI Z Z Z (CA.ext (CA.sub (hS.cells (i := 0) Z) 0) hx) (cSpot.len _) Z)) ?_
 refine OB H hS hb61 (q3h.c a0.At) fun t2 w1 H hS => ?_
 exact FE H hS

def q2m.f (a0 : Int) (a1 : Int) : Option ByteArray := (chk (a1 = 10 ∧ -9223372036854775808 ≤ a0 ∧ a0 ≤ 9223372036854775807)).bind fun _ => some (itoaB a0)
theorem q2m.c {w} {a0 : Int} {a1 : Int} (hT : (envC Tryz.prog 0).holds w) (r : ByteArray) (H : q2m.f a0 a1 = some r) :
 CV Tryz.prog 138 [.int .i64 a0, i6 a1].toArray w fun v w' => v = .string r ∧ Ext w w' := by
 unfold q2m.f at H
 obtain ⟨u, hu, H⟩ := pbind H
 have h := chk_some hu
 obtain rfl := Option.some.inj H
 obtain ⟨rfl, h0, h1⟩ := h
 exact fmt_cv hT.1 h0 h1 (fun n h0 h1 w ht => Any.strconv_FormatInt_10 layFmt n h0 h1 w ht)

def q29.f (a0 : Int) : Option ByteArray := (q2m.f a0 10).bind fun t1 => some t1
theorem q29.c {w} {a0 : Int} (hT : (envC Tryz.prog 0).holds w) (r : ByteArray) (H : q29.f a0 = some r) :
 CV Tryz.prog 110 [.int .i64 a0].toArray w fun v w' => v = .string r ∧ Ext w w' := by
 have hS := ((St.init w no).paramT (envC Tryz.prog 0) hT)
 unfold q29.f at H
 refine CV.body Tryz.func110 Z Tryz.ntmps110 Z ?_
 refine GO ?_
 refine OB H hS hb138 (q2m.c (hS.ro (i := 0) Z)) fun t1 w1 H hS => ?_
 exact FE H hS

def q2k.f (a0 : Spot) : Option ByteArray := (q29.f (IntKind.i64.wrap a0.X)).bind fun t2 => (chk (t2.size + (⟨#[44]⟩ : ByteArray).size ≤ 4294967296)).bind fun u3 => (q29.f (IntKind.i64.wrap a0.Y)).bind fun t4 => (chk ((t2 ++ (⟨#[44]⟩ : ByteArray)).size + t4.size ≤ 4294967296)).bind fun u5 => some ((t2 ++ (⟨#[44]⟩ : ByteArray)) ++ t4)
theorem q2k.c {w} (a0 : Spot) (hT : (envC Tryz.prog 0).holds w) (r : ByteArray) (H : q2k.f a0 = some r) :
 CV Tryz.prog 62 [.agg (cSpot.enc a0).toArray].toArray w fun v w' => v = .string r ∧ Ext w w' := by
 have hS := ((St.init w no).paramT (envC Tryz.prog 0) hT)
 unfold q2k.f at H
 refine CV.body Tryz.func62 Z Tryz.ntmps62 Z ?_
 refine GO ?_
 refine oX hS (cSpot.enc a0) fun b1 w1 hS => ?_
 refine CJ.draw [] [0, 1, 2, 5, 6, 7, 3, 4, 8, 9, 10] mixed (by kernel_rfl) hS fun w1 hS => ?_
 refine GO ?_
 refine dS (SL (cf hS 0 0)) ?_
 refine dS (SL (cf hS 0 1)) ?_
 obtain ⟨t2, ht2, H⟩ := pbind H
 refine DJ.callF rfl rfl rfl rfl rfl rfl rfl hb110 rfl (q29.c (hS.ro (i := 0) rfl) _ ht2) (by rintro v w' ⟨rfl, hs⟩; exact hs) ?_
 rintro _ w1 ⟨rfl, hs⟩
 replace hS := hS.grow hs
 obtain ⟨u3, hu3, H⟩ := pbind H
 refine DJ.st Z Z Z Z Z (SR.concat Z Z Z (chk_some hu3)) ?_
 obtain ⟨t4, ht4, H⟩ := pbind H
 refine DJ.callF rfl rfl rfl rfl rfl rfl rfl hb110 rfl (q29.c (hS.ro (i := 0) rfl) _ ht4) (by rintro v w' ⟨rfl, hs⟩; exact hs) ?_
 rintro _ w1 ⟨rfl, hs⟩
 replace hS := hS.grow hs
 obtain ⟨u5, hu5, H⟩ := pbind H
 refine DJ.st Z Z Z Z Z (SR.concat Z Z Z (chk_some hu5)) ?_
 exact FE H hS

def q3c.f (a0 : List ByteArray) (a1 : ByteArray) : Option (ByteArray × List ByteArray) := (chk (a0.length ≤ 4294967296 ∧ (joinB a0 a1).size ≤ 4294967296)).bind fun _ => some (joinB a0 a1, a0)
theorem q3c.c {w Aa0 ca0} {a0 : List ByteArray} {a1 : ByteArray} (hin : St w (fpU [rowC G.cs Aa0 ca0 9 a0]) w [rowC G.cs Aa0 ca0 9 a0] []) (r : ByteArray × List ByteArray) (H : q3c.f a0 a1 = some r) :
 CV Tryz.prog 63 [sl Aa0 a0 ca0, .string a1].toArray w fun v w' => v = .string r.1 ∧ St w (fpU [rowC G.cs Aa0 ca0 9 a0]) w' [rowC G.cs Aa0 ca0 9 r.2] [] ∧ r.2.length = a0.length := by
 unfold q3c.f at H
 obtain ⟨u, hu, H⟩ := pbind H
 obtain rfl := Option.some.inj H
 exact join_cv hin (fun a c sep w => Any.strings_Join_none layJoin layExtra a c sep w) (fun bk o c xs sep w h1 h2 h3 h4 h5 => Any.strings_Join layJoin layExtra bk o c xs sep w h1 h2 h3 h4 h5) (chk_some hu).1 (chk_some hu).2

def q1i.l1 (a0 : List Hurdle) : Nat → (List ByteArray) → Int → Option (List ByteArray)
  | 0, _, _ => none
  | k + 1, y7, y10 => if y10 < (a0.length : Int) then ((getI a0 y10).bind fun t11 => if t11.South = true then ((q2k.f t11.At).bind fun t13 => (chk (t13.size + (⟨#[95]⟩ : ByteArray).size ≤ 4294967296)).bind fun u14 => (chk (y7.length + ([t13 ++ (⟨#[95]⟩ : ByteArray)] : List ByteArray).length ≤ 4294967296)).bind fun u16 => q1i.l1 a0 k (y7 ++ ([t13 ++ (⟨#[95]⟩ : ByteArray)] : List ByteArray)) (IntKind.i64.wrap (y10 + 1))) else ((q2k.f t11.At).bind fun t19 => (chk (t19.size + (⟨#[124]⟩ : ByteArray).size ≤ 4294967296)).bind fun u20 => (chk (y7.length + ([t19 ++ (⟨#[124]⟩ : ByteArray)] : List ByteArray).length ≤ 4294967296)).bind fun u22 => q1i.l1 a0 k (y7 ++ ([t19 ++ (⟨#[124]⟩ : ByteArray)] : List ByteArray)) (IntKind.i64.wrap (y10 + 1)))) else (some y7)
def q1i.f (k : Nat) (a0 : List Hurdle) : Option ByteArray := (if 180 < (a0.length : Int) then (some true) else ((q0s.f k a0 q2i.f).bind fun t2 => some t2)).bind fun y1 => if y1 = true then (some ByteArray.empty) else ((q1i.l1 a0 k ([] : List ByteArray) 0).bind fun y4 => (q3c.f y4 (⟨#[32]⟩ : ByteArray)).bind fun t25 => some t25.1)
theorem q1i.c {k w Aa0 ca0} {a0 : List Hurdle} (hr0 : Rd cHurdle w Aa0 a0) (hc0 : a0.length ≤ ca0) (hT : (envC Tryz.prog 0).holds w) (r : ByteArray) (H : q1i.f k a0 = some r) :
 CV Tryz.prog 17 [sl Aa0 a0 ca0].toArray w fun v w' => v = .string r ∧ Ext w w' := by
 have hS := (((St.init w no).param cHurdle Aa0 ca0 a0 hr0 hc0).paramT (envC Tryz.prog 0) hT)
 unfold q1i.f at H
 refine CV.body Tryz.func17 Z Tryz.ntmps17 Z ?_
 refine SG ?_
 refine PX 1 ?_
 refine CJ.seq ?_
 obtain ⟨j379, H, K379⟩ := pbind H
 refine CJ.cut (fun F w1 => ∃ y1, some y1 = some j379 ∧ F = [(0, sl Aa0 a0 ca0), (13, .bool y1)] ∧ St w no w1 [] [roC cHurdle Aa0 ca0 a0, envC Tryz.prog 0]) ?_ ?_
 refine GO ?_
 refine OJ.split (t := 10) Z (fun hb => ?_) (fun hb => ?_)
 replace H := pif_t (of_decide_eq_true hb) H
 exact MD H hS
 replace H := pif_f (of_decide_eq_false hb) H
 refine GO ?_
 refine OB H hS hb59 (q0s.c (rA hS 0 Z) (rB hS 0 Z) 60 #[] #[] hb60 q2i.f (fun z0 r h w' hx => CV.cast (q2i.c z0 r h) (by simp))) fun t2 w1 H hS => ?_
 exact MD H hS
 rintro F w1 ⟨y1, he, rfl, hS⟩
 obtain rfl := Option.some.inj he
 have H := K379
 refine CB H (fun H => ?_) (fun H => ?_)
 exact FE H hS
 refine GO ?_
 refine OF (EL hS G.cs ([] : List ByteArray)) ?_
 rintro _ w1 ⟨A3, rfl, hS⟩
 refine GO ?_
 obtain ⟨j380, H, K380⟩ := pbind H
 refine CJ.cut1 (fun F w1 => ∃ y4 A5 c6, some y4 = some j380 ∧ F = [(3, sl A5 y4 c6)] ∧ St w no w1 [rowC G.cs A5 c6 9 y4] [roC cHurdle Aa0 ca0 a0, envC Tryz.prog 0]) ?_ ?_
 refine CJ.block ?_
 refine LQ (fun k F w1 => ∃ (y7 : List ByteArray) (y10 : Int) (A8 c9 : _), F = [(3, sl A8 y7 c9), (15, sl Aa0 a0 ca0), (16, i6 (a0.length : Int)), (17, i6 y10)] ∧ St w no w1 [rowC G.cs A8 c9 9 y7] [roC cHurdle Aa0 ca0 a0, envC Tryz.prog 0] ∧ q1i.l1 a0 k y7 y10 = some j380) k H hS ?_
 rintro k F w1 ⟨y7, y10, A8, c9, rfl, hS, H⟩
 rw [q1i.l1] at H
 refine GO ?_
 refine CP H (fun H => GO ?_) (fun H => ?_)
 refine CJ.block ?_
 refine GO ?_
 obtain ⟨t11, ht11, H⟩ := pbind H
 obtain ⟨ad11, e11⟩ := (rA hS 0 Z).some' ht11
 refine OS (SI e11 (getI_some ht11).1) ?_
 refine OS (SE ((rA hS 0 Z).at_ e11 ht11)) ?_
 refine OF (EA hS (cHurdle.enc (⟨(⟨0, 0⟩ : Spot), false⟩ : Hurdle))) ?_
 rintro _ w1 ⟨b12, rfl, hS⟩
 refine OJ.es Z Z (eS cHurdle t11 hS (i := 1) Z Z Z Z Z Z Z Z Z Z) ?_
 intro w1 hS
 refine GO ?_
 refine oS (SL (cf hS 1 2)) ?_
 refine CB H (fun H => GO ?_) (fun H => ?_)
 refine OJ.st Z Z Z (SR.load Z Z (fun w' hx => ldN oU oI Z Z Z (CA.ext (CA.sub (hS.cells (i := 1) Z) 0) hx) (cSpot.len _) Z)) ?_
 refine oB H hS hb62 (q2k.c t11.At (hS.ro (i := 1) Z)) fun t13 w1 H hS => ?_
 obtain ⟨u14, hu14, H⟩ := pbind H
 refine OJ.st Z Z Z (SR.concat Z Z Z (chk_some hu14)) ?_
 refine OF (EL hS G.cs ([t13 ++ (⟨#[95]⟩ : ByteArray)] : List ByteArray)) ?_
 rintro _ w1 ⟨A15, rfl, hS⟩
 obtain ⟨u16, hu16, H⟩ := pbind H
 refine OW (AP hS 0 (rC hS 2 Z) (chk_some hu16)) ?_
 rintro _ w1 ⟨A17, c18, rfl, hS⟩
 exact MD H hS
 refine GO ?_
 refine OJ.st Z Z Z (SR.load Z Z (fun w' hx => ldN oU oI Z Z Z (CA.ext (CA.sub (hS.cells (i := 1) Z) 0) hx) (cSpot.len _) Z)) ?_
 refine oB H hS hb62 (q2k.c t11.At (hS.ro (i := 1) Z)) fun t19 w1 H hS => ?_
 obtain ⟨u20, hu20, H⟩ := pbind H
 refine OJ.st Z Z Z (SR.concat Z Z Z (chk_some hu20)) ?_
 refine OF (EL hS G.cs ([t19 ++ (⟨#[124]⟩ : ByteArray)] : List ByteArray)) ?_
 rintro _ w1 ⟨A21, rfl, hS⟩
 obtain ⟨u22, hu22, H⟩ := pbind H
 refine OW (AP hS 0 (rC hS 2 Z) (chk_some hu22)) ?_
 rintro _ w1 ⟨A23, c24, rfl, hS⟩
 exact MD H hS
 exact MD H hS
 rintro F w1 ⟨y4, A5, c6, he, rfl, hS⟩
 obtain rfl := Option.some.inj he
 have H := K380
 refine EJ.next ?_
 refine GO ?_
 obtain ⟨t25, ht25, H⟩ := pbind H
 refine OC hb63 (q3c.c ((hS.subs [0] [] [] Z).pick [0] [] Z) _ ht25) ?_
 rintro _ w1 ⟨rfl, hs, hlc0⟩
 replace hS := hS.back [0] Z Z [rowC G.cs A5 c6 9 t25.2] [] hs ⟨fun _ => Iff.rfl, trivial⟩
 refine OJ.as (t := 3) rfl (show _ = (.slice A5 t25.2.length c6 : Value) by simp only [hlc0]) ?_
 refine OJ.as (t := 32) rfl (show _ = (.slice A5 t25.2.length c6 : Value) by simp only [hlc0]) ?_
 exact FE H hS

def q37.f (a0 : ByteArray) (a1 : ByteArray) : Option (List ByteArray) := (chk (a0.size < 4294967281 ∧ 1 ≤ a1.size)).bind fun _ => some (splitS a0 a1)
theorem q37.c {w} {a0 : ByteArray} {a1 : ByteArray} (hT : (envC Tryz.prog 0).holds w) (r : List ByteArray) (H : q37.f a0 a1 = some r) :
 CV Tryz.prog 56 [.string a0, .string a1].toArray w fun v w' => ∃ (A0 : Option Addr) (c0 : Nat), v = .slice A0 r.length c0 ∧ St w no w' [rowC G.cs A0 c0 9 r] [] := by
 unfold q37.f at H
 obtain ⟨u, hu, H⟩ := pbind H
 have h := chk_some hu
 obtain rfl := Option.some.inj H
 exact split_cv hT (fun s sep m w h1 h2 h3 => Any.strings_Split { laySplit with } laySplit.i9 s sep m w h1 h2 h3) h.1 h.2

def q1t.f (a0 : ByteArray) (a1 : ByteArray) : Option Bool := if (a1.size : Int) ≤ (a0.size : Int) then ((chk ((0 : Int) ≤ (IntKind.i64.wrap ((a0.size : Int) - (a1.size : Int))) ∧ (IntKind.i64.wrap ((a0.size : Int) - (a1.size : Int))) ≤ (a0.size : Int) ∧ (a0.size : Int) ≤ (a0.size : Int))).bind fun u1 => some (decide ((a0.extract ((IntKind.i64.wrap ((a0.size : Int) - (a1.size : Int))).toNat) a0.size) = a1))) else (some false)
theorem q1t.c {w} {a0 : ByteArray} {a1 : ByteArray} (r : Bool) (H : q1t.f a0 a1 = some r) :
 CV Tryz.prog 135 [.string a0, .string a1].toArray w fun v w' => v = .bool r ∧ Ext w w' := by
 have hS := (St.init w no)
 unfold q1t.f at H
 refine CV.body Tryz.func135 Z Tryz.ntmps135 Z ?_
 refine GO ?_
 refine OJ.split (t := 10) Z (fun hb => ?_) (fun hb => ?_)
 replace H := pif_t (of_decide_eq_true hb) H
 refine GO ?_
 obtain ⟨u1, hu1, H⟩ := pbind H
 refine OJ.st rfl rfl rfl (SR.cutStr oU ((IntKind.i64.wrap ((a0.size : Int) - (a1.size : Int))).toNat) (a0.size) rfl rfl rfl rfl rfl (.inr ⟨_, _, rfl, (chk_some hu1).1, rfl⟩) (.inl ⟨rfl, rfl⟩) (by have := (chk_some hu1); omega) (by have := (chk_some hu1); omega)) ?_
 exact FE H hS
 replace H := pif_f (of_decide_eq_false hb) H
 exact FE H hS

def q1u.f (a0 : ByteArray) (a1 : ByteArray) : Option (ByteArray × Bool) := (q1t.f a0 a1).bind fun t1 => if (!t1) = true then (some (a0, false)) else ((chk ((0 : Int) ≤ 0 ∧ 0 ≤ (IntKind.i64.wrap ((a0.size : Int) - (a1.size : Int))) ∧ (IntKind.i64.wrap ((a0.size : Int) - (a1.size : Int))) ≤ (a0.size : Int))).bind fun u2 => some (a0.extract 0 ((IntKind.i64.wrap ((a0.size : Int) - (a1.size : Int))).toNat), true))
theorem q1u.c {w} {a0 : ByteArray} {a1 : ByteArray} (r : ByteArray × Bool) (H : q1u.f a0 a1 = some r) :
 CV Tryz.prog 106 [.string a0, .string a1].toArray w fun v w' => v = .tuple #[.string r.1, .bool r.2] ∧ Ext w w' := by
 have hS := (St.init w no)
 unfold q1u.f at H
 refine CV.body Tryz.func106 Z Tryz.ntmps106 Z ?_
 refine GO ?_
 refine oB H hS hb135 (q1t.c) fun t1 w1 H hS => ?_
 refine CB H (fun H => ?_) (fun H => ?_)
 exact FE H hS
 refine GO ?_
 obtain ⟨u2, hu2, H⟩ := pbind H
 refine OJ.st rfl rfl rfl (SR.cutStr oU (0) ((IntKind.i64.wrap ((a0.size : Int) - (a1.size : Int))).toNat) rfl rfl rfl rfl rfl (.inl ⟨rfl, rfl⟩) (.inr ⟨_, _, rfl, (by have := (chk_some hu2); omega), rfl⟩) (by have := (chk_some hu2); omega) (by have := (chk_some hu2); omega)) ?_
 exact FE H hS

def q1x.f (a0 : ByteArray) (a1 : ByteArray) : Option (ByteArray × Bool) := (q1u.f a0 a1).bind fun t1 => some (t1.1, t1.2)
theorem q1x.c {w} {a0 : ByteArray} {a1 : ByteArray} (r : ByteArray × Bool) (H : q1x.f a0 a1 = some r) :
 CV Tryz.prog 57 [.string a0, .string a1].toArray w fun v w' => v = .tuple #[.string r.1, .bool r.2] ∧ Ext w w' := by
 have hS := (St.init w no)
 unfold q1x.f at H
 refine CV.body Tryz.func57 Z Tryz.ntmps57 Z ?_
 refine GO ?_
 refine OB H hS hb106 (q1u.c) fun t1 w1 H hS => ?_
 exact FE H hS

def q3j.f (a0 : ByteArray) (a1 : ByteArray) : Option (ByteArray × ByteArray × Bool) := (chk (a0.size < 4294967281)).bind fun _ => some (cutS a0 a1)
theorem q3j.c {w} {a0 : ByteArray} {a1 : ByteArray} (hT : (envC Tryz.prog 0).holds w) (r : ByteArray × ByteArray × Bool) (H : q3j.f a0 a1 = some r) :
 CV Tryz.prog 107 [.string a0, .string a1].toArray w fun v w' => v = .tuple #[.string r.1, .string r.2.1, .bool r.2.2] ∧ Ext w w' := by
 unfold q3j.f at H
 obtain ⟨u, hu, H⟩ := pbind H
 obtain rfl := Option.some.inj H
 exact cut_cv hT (fun s sep m w h1 h2 => Any.strings_Cut layCut s sep m w h1 h2) (chk_some hu)

def q2z.f (a0 : ByteArray) (a1 : Int) (a2 : Int) : Option (Int × Bool) := (chk (a0.size ≤ 4294967296 ∧ a1 = 10 ∧ a2 = 64)).bind fun _ => some (parseI a0)
theorem q2z.c {w} {a0 : ByteArray} {a1 : Int} {a2 : Int} (hT : (envC Tryz.prog 0).holds w) (r : Int × Bool) (H : q2z.f a0 a1 a2 = some r) :
 CV Tryz.prog 137 [.string a0, i6 a1, i6 a2].toArray w fun v w' => ∃ t q, v = .tuple #[.int .i64 r.1, errV r.2 t q] ∧ Ext w w' := by
 unfold q2z.f at H
 obtain ⟨u, hu, H⟩ := pbind H
 have h := chk_some hu
 obtain rfl := Option.some.inj H
 obtain ⟨h, rfl, rfl⟩ := h
 exact parse_cv hT (fun s h v hp w => (Any.strconv_ParseInt_10_at64_ok layParse s h v hp w).mono fun e w' ⟨he, hw⟩ => ⟨he, bytes_ext hw⟩)
  (fun s h hp tp p w hv => (Any.strconv_ParseInt_10_at64_syntax_var layParse s h hp tp p w hv).mono fun e w' ⟨N, he, _, _, hb⟩ => ⟨⟨_, _, he⟩, below_ext hb⟩)
  (fun s h hp tp p w hv => (Any.strconv_ParseInt_10_at64_range_var layParse s h hp tp p w hv).mono fun e w' ⟨N, he, _, _, hb⟩ => ⟨⟨_, _, he⟩, below_ext hb⟩) h

def q2u.f (a0 : ByteArray) (a1 : Int) : Option (Int × Bool) := (q2z.f a0 10 64).bind fun t1 => if t1.2 = true then (some (0, false)) else ((q29.f t1.1).bind fun t4 => if t4 ≠ a0 then (some (0, false)) else ((q1q.f t1.1 0 a1).bind fun t5 => if (!t5) = true then (some (0, false)) else (some (t1.1, true))))
theorem q2u.c {w} {a0 : ByteArray} {a1 : Int} (hT : (envC Tryz.prog 0).holds w) (r : Int × Bool) (H : q2u.f a0 a1 = some r) :
 CV Tryz.prog 108 [.string a0, i6 a1].toArray w fun v w' => v = .tuple #[.int .i64 r.1, .bool r.2] ∧ Ext w w' := by
 have hS := ((St.init w no).paramT (envC Tryz.prog 0) hT)
 unfold q2u.f at H
 refine CV.body Tryz.func108 Z Tryz.ntmps108 Z ?_
 refine GO ?_
 obtain ⟨t1, ht1, H⟩ := pbind H
 refine OC hb137 (q2z.c (hS.ro (i := 0) Z) _ ht1) ?_
 rintro _ w1 ⟨t2, q3, rfl, hs⟩
 replace hS := hS.grow hs
 refine GO ?_
 refine OJ.st rfl rfl rfl (SR.neErr (by kernel_rfl) rfl rfl) ?_
 refine GO ?_
 refine OJ.split (t := 15) Z (fun hb => ?_) (fun hb => ?_)
 replace H := pif_t hb H
 refine GO ?_
 refine CJ.condT Z ?_
 exact FE H hS
 replace H := pifb_f hb H
 refine GO ?_
 refine oB H hS hb110 (q29.c (hS.ro (i := 0) Z)) fun t4 w1 H hS => ?_
 refine OJ.split (t := 21) Z (fun hb => ?_) (fun hb => ?_)
 replace H := pif_t (of_decide_eq_true hb) H
 refine GO ?_
 refine CJ.condT Z ?_
 exact FE H hS
 replace H := pif_f (of_decide_eq_false hb) H
 refine GO ?_
 refine oB H hS hb114 (q1q.c) fun t5 w1 H hS => ?_
 refine CB H (fun H => ?_) (fun H => ?_)
 exact FE H hS
 exact FE H hS

def q38.f (a0 : ByteArray) : Option (Spot × Bool) := (q3j.f a0 (⟨#[44]⟩ : ByteArray)).bind fun t2 => (q2u.f t2.1 9).bind fun t3 => (q2u.f t2.2.1 9).bind fun t4 => if t2.2.2 = true then (if t3.2 = true then (some ((⟨IntKind.i8.wrap t3.1, IntKind.i8.wrap t4.1⟩ : Spot), t4.2)) else (some ((⟨IntKind.i8.wrap t3.1, IntKind.i8.wrap t4.1⟩ : Spot), false))) else (some ((⟨IntKind.i8.wrap t3.1, IntKind.i8.wrap t4.1⟩ : Spot), false))
theorem q38.c {w} {a0 : ByteArray} (hT : (envC Tryz.prog 0).holds w) (r : Spot × Bool) (H : q38.f a0 = some r) :
 CV Tryz.prog 58 [.string a0].toArray w fun v w' => v = .tuple #[.agg (cSpot.enc r.1).toArray, .bool r.2] ∧ Ext w w' := by
 have hS := ((St.init w no).paramT (envC Tryz.prog 0) hT)
 unfold q38.f at H
 refine CV.body Tryz.func58 Z Tryz.ntmps58 Z ?_
 refine GO ?_
 refine oA hS (cSpot.enc (⟨0, 0⟩ : Spot)) fun b1 w1 hS => ?_
 refine oB H hS hb107 (q3j.c (hS.ro (i := 0) Z)) fun t2 w1 H hS => ?_
 refine oB H hS hb108 (q2u.c (hS.ro (i := 0) Z)) fun t3 w1 H hS => ?_
 refine oB H hS hb108 (q2u.c (hS.ro (i := 0) Z)) fun t4 w1 H hS => ?_
 refine OJ.st Z Z Z (SR.build (C := cSpot) oU oI Z Z Z (zs := [.int .i8 0, .int .i8 0]) Z Z Z (⟨IntKind.i8.wrap t3.1, IntKind.i8.wrap t4.1⟩ : Spot) Z) ?_
 refine GO ?_
 refine OJ.split (t := 33) Z (fun hb => ?_) (fun hb => ?_)
 replace H := pif_t hb H
 refine GO ?_
 refine OJ.split (t := 36) Z (fun hb => ?_) (fun hb => ?_)
 replace H := pif_t hb H
 refine GO ?_
 refine OJ.es Z Z (eS cSpot (⟨IntKind.i8.wrap t3.1, IntKind.i8.wrap t4.1⟩ : Spot) hS (i := 0) Z Z Z Z Z Z Z Z Z Z) ?_
 intro w1 hS
 refine GO ?_
 obtain rfl := Option.some.inj H
 exact EJ.fin Z (.cell Z (ldE oU oI Z Z Z (hS.cells (i := 0) Z) Z) (.tmp Z .nil)) ⟨Z, hS.ext⟩
 replace H := pifb_f hb H
 refine GO ?_
 refine OJ.es Z Z (eS cSpot (⟨IntKind.i8.wrap t3.1, IntKind.i8.wrap t4.1⟩ : Spot) hS (i := 0) Z Z Z Z Z Z Z Z Z Z) ?_
 intro w1 hS
 refine GO ?_
 obtain rfl := Option.some.inj H
 exact EJ.fin Z (.cell Z (ldE oU oI Z Z Z (hS.cells (i := 0) Z) Z) (.tmp Z .nil)) ⟨Z, hS.ext⟩
 replace H := pifb_f hb H
 refine GO ?_
 refine OJ.es Z Z (eS cSpot (⟨IntKind.i8.wrap t3.1, IntKind.i8.wrap t4.1⟩ : Spot) hS (i := 0) Z Z Z Z Z Z Z Z Z Z) ?_
 intro w1 hS
 refine GO ?_
 obtain rfl := Option.some.inj H
 exact EJ.fin Z (.cell Z (ldE oU oI Z Z Z (hS.cells (i := 0) Z) Z) (.tmp Z .nil)) ⟨Z, hS.ext⟩

def q1o.l1 (t2 : List ByteArray) : Nat → (List Hurdle) → Int → Option ((List Hurdle × Int) ⊕ (List Hurdle))
  | 0, _, _ => none
  | k + 1, y8, y11 => if y11 < (t2.length : Int) then ((getI t2 y11).bind fun t12 => (q1x.f t12 (⟨#[124]⟩ : ByteArray)).bind fun t13 => (q1x.f t13.1 (⟨#[95]⟩ : ByteArray)).bind fun t14 => (q38.f t14.1).bind fun t15 => (if (!t15.2) = true then (some true) else (if t13.2 = t14.2 then (some true) else (some (decide ((y8.length : Int) = 180))))).bind fun y17 => if y17 = true then (some (Sum.inl ([], 5))) else ((chk (y8.length + ([(⟨t15.1, t14.2⟩ : Hurdle)] : List Hurdle).length ≤ 4294967296)).bind fun u19 => q1o.l1 t2 k (y8 ++ ([(⟨t15.1, t14.2⟩ : Hurdle)] : List Hurdle)) (IntKind.i64.wrap (y11 + 1)))) else (some (Sum.inr y8))
def q1o.f (k : Nat) (a0 : ByteArray) : Option (List Hurdle × Int) := if a0 = ByteArray.empty then (some (([] : List Hurdle), 0)) else ((q37.f a0 (⟨#[32]⟩ : ByteArray)).bind fun t2 => (q1o.l1 t2 k ([] : List Hurdle) 0).bind fun s382 => match s382 with | .inl r => some r | .inr y5 => some (y5, 0))
theorem q1o.c {k w} {a0 : ByteArray} (hT : (envC Tryz.prog 0).holds w) (r : List Hurdle × Int) (H : q1o.f k a0 = some r) :
 CV Tryz.prog 16 [.string a0].toArray w fun v w' => ∃ (A0 : Option Addr) (c0 : Nat), v = .tuple #[sl A0 r.1 c0, i6 r.2] ∧ St w no w' [rowC cHurdle A0 c0 58 r.1] [] := by
 have hS := ((St.init w no).paramT (envC Tryz.prog 0) hT)
 unfold q1o.f at H
 refine CV.body Tryz.func16 Z Tryz.ntmps16 Z ?_
 refine GO ?_
 refine OF (EL hS cHurdle ([] : List Hurdle)) ?_
 rintro _ w1 ⟨A1, rfl, hS⟩
 refine GO ?_
 refine CP H (fun H => GO ?_) (fun H => ?_)
 obtain rfl := Option.some.inj H
 exact EJ.fin Z (.tmp Z (.tmp Z .nil)) ⟨A1, (([] : List Hurdle).length), Z, hS.pick [0] [] Z⟩
 refine GO ?_
 obtain ⟨t2, ht2, H⟩ := pbind H
 refine OC hb56 (q37.c (hS.ro (i := 0) Z) _ ht2) ?_
 rintro _ w1 ⟨A3, c4, rfl, hs⟩
 replace hS := hS.addN hs
 refine GO ?_
 obtain ⟨j382, H, K382⟩ := pbind H
 refine CJ.cut1 (fun F w1 => ∃ y5 A6 c7, some j382 = some (Sum.inr y5) ∧ F = [(4, sl A6 y5 c7)] ∧ St w no w1 [rowC cHurdle A6 c7 58 y5] [envC Tryz.prog 0]) ?_ ?_
 refine CJ.block ?_
 refine LQ (fun k F w1 => ∃ (y8 : List Hurdle) (y11 : Int) (A9 c10 : _), F = [(4, sl A9 y8 c10), (17, sl A3 t2 c4), (18, i6 (t2.length : Int)), (19, i6 y11)] ∧ St w no w1 [rowC cHurdle A9 c10 58 y8, rowC G.cs A3 c4 9 t2] [envC Tryz.prog 0] ∧ q1o.l1 t2 k y8 y11 = some j382) k H hS ?_
 rintro k F w1 ⟨y8, y11, A9, c10, rfl, hS, H⟩
 rw [q1o.l1] at H
 refine GO ?_
 refine CP H (fun H => GO ?_) (fun H => ?_)
 refine CJ.block ?_
 refine GO ?_
 refine xI H (rC hS 1 Z) fun t12 ad12 ht12 H => ?_
 refine oB H hS hb57 (q1x.c) fun t13 w1 H hS => ?_
 refine oB H hS hb57 (q1x.c) fun t14 w1 H hS => ?_
 refine oB H hS hb58 (q38.c (hS.ro (i := 0) Z)) fun t15 w1 H hS => ?_
 refine OF (EA hS (cSpot.enc (⟨0, 0⟩ : Spot))) ?_
 rintro _ w1 ⟨b16, rfl, hS⟩
 refine OJ.es Z Z (eS cSpot t15.1 hS (i := 2) Z Z Z Z Z Z Z Z Z Z) ?_
 intro w1 hS
 refine PX 1 ?_
 refine CJ.seq ?_
 obtain ⟨j385, H, K385⟩ := pbind H
 refine CJ.cut (fun F w1 => ∃ y17, some y17 = some j385 ∧ F = [(4, sl A9 y8 c10), (9, .bool t14.2), (10, pt b16), (17, sl A3 t2 c4), (18, i6 (t2.length : Int)), (19, i6 y11), (49, .bool y17)] ∧ St w no w1 [rowC cHurdle A9 c10 58 y8, rowC G.cs A3 c4 9 t2, box b16 (cSpot.enc t15.1) 55] [envC Tryz.prog 0]) ?_ ?_
 refine GO ?_
 refine OJ.split (t := 40) Z (fun hb => ?_) (fun hb => ?_)
 replace H := pif_t hb H
 exact MD H hS
 replace H := pifb_f hb H
 refine GO ?_
 refine OJ.st Z Z Z (SR.eqB oU Z Z Z Z) ?_
 refine GO ?_
 refine OJ.split (t := 45) Z (fun hb => ?_) (fun hb => ?_)
 replace H := pif_t (of_decide_eq_true hb) H
 exact MD H hS
 replace H := pif_f (of_decide_eq_false hb) H
 exact MD H hS
 rintro F w1 ⟨y17, he, rfl, hS⟩
 obtain rfl := Option.some.inj he
 have H := K385
 refine CB H (fun H => GO ?_) (fun H => ?_)
 obtain rfl := Option.some.inj H; have H := K382
 replace hS := hS.addNil cHurdle 58 none
 obtain rfl := Option.some.inj H
 exact EJ.fin Z (.tmp Z (.tmp Z .nil)) ⟨none, 0, Z, hS.pick [3] [] Z⟩
 refine GO ?_
 refine oS (SE (ce hS 2)) ?_
 refine OJ.st Z Z Z (SR.build (C := cHurdle) oU oI Z Z Z (zs := [.int .i8 0, .int .i8 0, .bool false]) Z Z Z (⟨t15.1, t14.2⟩ : Hurdle) Z) ?_
 refine OF (EL hS cHurdle ([(⟨t15.1, t14.2⟩ : Hurdle)] : List Hurdle)) ?_
 rintro _ w1 ⟨A18, rfl, hS⟩
 obtain ⟨u19, hu19, H⟩ := pbind H
 refine OW (AP hS 0 (rC hS 3 Z) (chk_some hu19)) ?_
 rintro _ w1 ⟨A20, c21, rfl, hS⟩
 exact MD H hS
 exact MD H hS
 rintro F w1 ⟨y5, A6, c7, ⟨⟩, rfl, hS⟩
 have H := K382
 refine EJ.next ?_
 refine GO ?_
 obtain rfl := Option.some.inj H
 exact EJ.fin Z (.tmp Z (.tmp Z .nil)) ⟨A6, c7, Z, hS.pick [0] [] Z⟩

def q17.l1 (a0 : List Hurdle) (a1 : List Hurdle) : Nat → Int → Option (Bool ⊕ Unit)
  | 0, _ => none
  | k + 1, y1 => if y1 < (a0.length : Int) then ((getI a0 y1).bind fun t2 => (getI a1 y1).bind fun t3 => if t2 ≠ t3 then (some (Sum.inl false)) else (q17.l1 a0 a1 k (IntKind.i64.wrap (y1 + 1)))) else (some (Sum.inr ()))
def q17.f (k : Nat) (a0 : List Hurdle) (a1 : List Hurdle) : Option Bool := if (a0.length : Int) ≠ (a1.length : Int) then (some false) else ((q17.l1 a0 a1 k 0).bind fun s387 => match s387 with | .inl r => some r | .inr _ => some true)
theorem q17.c {k w Aa0 ca0} {a0 : List Hurdle} (hr0 : Rd cHurdle w Aa0 a0) (hc0 : a0.length ≤ ca0) {Aa1 ca1} {a1 : List Hurdle} (hr1 : Rd cHurdle w Aa1 a1) (hc1 : a1.length ≤ ca1) (r : Bool) (H : q17.f k a0 a1 = some r) :
 CV Tryz.prog 18 [sl Aa0 a0 ca0, sl Aa1 a1 ca1].toArray w fun v w' => v = .bool r ∧ Ext w w' := by
 have hS := (((St.init w no).param cHurdle Aa0 ca0 a0 hr0 hc0).param cHurdle Aa1 ca1 a1 hr1 hc1)
 unfold q17.f at H
 refine CV.body Tryz.func18 Z Tryz.ntmps18 Z ?_
 refine GO ?_
 refine CP H (fun H => ?_) (fun H => ?_)
 exact FE H hS
 refine GO ?_
 obtain ⟨j387, H, K387⟩ := pbind H
 refine CJ.cut1 (fun F w1 => some j387 = some (Sum.inr ()) ∧ F = [] ∧ St w no w1 [] [roC cHurdle Aa0 ca0 a0, roC cHurdle Aa1 ca1 a1]) ?_ ?_
 refine CJ.block ?_
 refine LQ (fun k F w1 => ∃ (y1 : Int), F = [(0, sl Aa0 a0 ca0), (1, sl Aa1 a1 ca1), (5, i6 y1)] ∧ St w no w1 [] [roC cHurdle Aa0 ca0 a0, roC cHurdle Aa1 ca1 a1] ∧ q17.l1 a0 a1 k y1 = some j387) k H hS ?_
 rintro k F w1 ⟨y1, rfl, hS, H⟩
 rw [q17.l1] at H
 refine GO ?_
 refine CP H (fun H => GO ?_) (fun H => ?_)
 refine CJ.block ?_
 refine GO ?_
 refine CJ.draw [] [0, 1, 2, 3, 4, 5, 6, 7, 8] mixed (by kernel_rfl) hS fun w1 hS => ?_
 refine GO ?_
 obtain ⟨t2, ht2, H⟩ := pbind H
 obtain ⟨ad2, e2⟩ := (rA hS 0 Z).some' ht2
 refine DS (SI e2 (getI_some ht2).1) ?_
 refine dS (SE ((rA hS 0 Z).at_ e2 ht2)) ?_
 obtain ⟨t3, ht3, H⟩ := pbind H
 obtain ⟨ad3, e3⟩ := (rA hS 1 Z).some' ht3
 refine DS (SI e3 (getI_some ht3).1) ?_
 refine DS (SE ((rA hS 1 Z).at_ e3 ht3)) ?_
 refine DJ.st Z Z Z Z Z (SR.neS eqT58 eqG58 Z Z Z (Z : _ = (cHurdle.enc t2).toArray) (Z : _ = (cHurdle.enc t3).toArray)) ?_
 refine GO ?_
 refine CP H (fun H => GO ?_) (fun H => ?_)
 obtain rfl := Option.some.inj H; have H := K387
 exact FE H hS
 exact MD H hS
 exact MD H hS
 rintro F w1 ⟨⟨⟩, rfl, hS⟩
 have H := K387
 refine EJ.next ?_
 exact FE H hS

def q1d.l1 (a0 : List Spot) (a1 : List Spot) : Nat → Int → Option (Bool ⊕ Unit)
  | 0, _ => none
  | k + 1, y1 => if y1 < (a0.length : Int) then ((getI a0 y1).bind fun t2 => (getI a1 y1).bind fun t3 => if t2 ≠ t3 then (some (Sum.inl false)) else (q1d.l1 a0 a1 k (IntKind.i64.wrap (y1 + 1)))) else (some (Sum.inr ()))
def q1d.f (k : Nat) (a0 : List Spot) (a1 : List Spot) : Option Bool := if (a0.length : Int) ≠ (a1.length : Int) then (some false) else ((q1d.l1 a0 a1 k 0).bind fun s388 => match s388 with | .inl r => some r | .inr _ => some true)
theorem q1d.c {k w Aa0 ca0} {a0 : List Spot} (hr0 : Rd cSpot w Aa0 a0) (hc0 : a0.length ≤ ca0) {Aa1 ca1} {a1 : List Spot} (hr1 : Rd cSpot w Aa1 a1) (hc1 : a1.length ≤ ca1) (r : Bool) (H : q1d.f k a0 a1 = some r) :
 CV Tryz.prog 19 [sl Aa0 a0 ca0, sl Aa1 a1 ca1].toArray w fun v w' => v = .bool r ∧ Ext w w' := by
 have hS := (((St.init w no).param cSpot Aa0 ca0 a0 hr0 hc0).param cSpot Aa1 ca1 a1 hr1 hc1)
 unfold q1d.f at H
 refine CV.body Tryz.func19 Z Tryz.ntmps19 Z ?_
 refine GO ?_
 refine CP H (fun H => ?_) (fun H => ?_)
 exact FE H hS
 refine GO ?_
 obtain ⟨j388, H, K388⟩ := pbind H
 refine CJ.cut1 (fun F w1 => some j388 = some (Sum.inr ()) ∧ F = [] ∧ St w no w1 [] [roC cSpot Aa0 ca0 a0, roC cSpot Aa1 ca1 a1]) ?_ ?_
 refine CJ.block ?_
 refine LQ (fun k F w1 => ∃ (y1 : Int), F = [(0, sl Aa0 a0 ca0), (1, sl Aa1 a1 ca1), (5, i6 y1)] ∧ St w no w1 [] [roC cSpot Aa0 ca0 a0, roC cSpot Aa1 ca1 a1] ∧ q1d.l1 a0 a1 k y1 = some j388) k H hS ?_
 rintro k F w1 ⟨y1, rfl, hS, H⟩
 rw [q1d.l1] at H
 refine GO ?_
 refine CP H (fun H => GO ?_) (fun H => ?_)
 refine CJ.block ?_
 refine GO ?_
 refine CJ.draw [] [0, 1, 2, 3, 4, 5, 6, 7, 8] mixed (by kernel_rfl) hS fun w1 hS => ?_
 refine GO ?_
 obtain ⟨t2, ht2, H⟩ := pbind H
 obtain ⟨ad2, e2⟩ := (rA hS 0 Z).some' ht2
 refine DS (SI e2 (getI_some ht2).1) ?_
 refine dS (SE ((rA hS 0 Z).at_ e2 ht2)) ?_
 obtain ⟨t3, ht3, H⟩ := pbind H
 obtain ⟨ad3, e3⟩ := (rA hS 1 Z).some' ht3
 refine DS (SI e3 (getI_some ht3).1) ?_
 refine DS (SE ((rA hS 1 Z).at_ e3 ht3)) ?_
 refine DJ.st Z Z Z Z Z (SR.neS eqT55 eqG55 Z Z Z (Z : _ = (cSpot.enc t2).toArray) (Z : _ = (cSpot.enc t3).toArray)) ?_
 refine GO ?_
 refine CP H (fun H => GO ?_) (fun H => ?_)
 obtain rfl := Option.some.inj H; have H := K388
 exact FE H hS
 exact MD H hS
 exact MD H hS
 rintro F w1 ⟨⟨⟩, rfl, hS⟩
 have H := K388
 refine EJ.next ?_
 exact FE H hS

def q1w.l1 (a0 : List (List Spot)) (a1 : List (List Spot)) : Nat → Int → Option (Bool ⊕ Unit)
  | 0, _ => none
  | k + 1, y1 => if y1 < (a0.length : Int) then ((getI a0 y1).bind fun t2 => (getI a1 y1).bind fun t3 => (q1d.f k t2 t3).bind fun t4 => if (!t4) = true then (some (Sum.inl false)) else (q1w.l1 a0 a1 k (IntKind.i64.wrap (y1 + 1)))) else (some (Sum.inr ()))
def q1w.f (k : Nat) (a0 : List (List Spot)) (a1 : List (List Spot)) : Option Bool := if (a0.length : Int) ≠ (a1.length : Int) then (some false) else ((q1w.l1 a0 a1 k 0).bind fun s389 => match s389 with | .inl r => some r | .inr _ => some true)
theorem q1w.c {k w Aa0 ca0} (Da0 : List SH) {a0 : List (List Spot)} (hr0 : (rosC cSpot Aa0 ca0 Da0 a0).holds w) {Aa1 ca1} (Da1 : List SH) {a1 : List (List Spot)} (hr1 : (rosC cSpot Aa1 ca1 Da1 a1).holds w) (r : Bool) (H : q1w.f k a0 a1 = some r) :
 CV Tryz.prog 20 [sl Aa0 a0 ca0, sl Aa1 a1 ca1].toArray w fun v w' => v = .bool r ∧ Ext w w' := by
 have hS := (((St.init w no).paramC (rosC cSpot Aa0 ca0 Da0 a0) hr0).paramC (rosC cSpot Aa1 ca1 Da1 a1) hr1)
 unfold q1w.f at H
 refine CV.body Tryz.func20 Z Tryz.ntmps20 Z ?_
 refine GO ?_
 refine CP H (fun H => ?_) (fun H => ?_)
 exact FE H hS
 refine GO ?_
 obtain ⟨j389, H, K389⟩ := pbind H
 refine CJ.cut1 (fun F w1 => some j389 = some (Sum.inr ()) ∧ F = [] ∧ St w no w1 [] [rosC cSpot Aa0 ca0 Da0 a0, rosC cSpot Aa1 ca1 Da1 a1]) ?_ ?_
 refine CJ.block ?_
 refine LQ (fun k F w1 => ∃ (y1 : Int), F = [(0, sl Aa0 a0 ca0), (1, sl Aa1 a1 ca1), (5, i6 y1)] ∧ St w no w1 [] [rosC cSpot Aa0 ca0 Da0 a0, rosC cSpot Aa1 ca1 Da1 a1] ∧ q1w.l1 a0 a1 k y1 = some j389) k H hS ?_
 rintro k F w1 ⟨y1, rfl, hS, H⟩
 rw [q1w.l1] at H
 refine GO ?_
 refine CP H (fun H => GO ?_) (fun H => ?_)
 refine CJ.block ?_
 refine GO ?_
 refine CJ.draw [] [0, 1, 2, 3, 4, 5, 6, 7, 8, 9] mixed (by kernel_rfl) hS fun w1 hS => ?_
 refine GO ?_
 obtain ⟨t2, ht2, H⟩ := pbind H
 obtain ⟨Ae2, ce2, g2, d2, hx2⟩ := ros_el (hS.rosH (i := 0) rfl) ht2
 obtain ⟨ad2, e2⟩ := (ros_rd (hS.rosH (i := 0) rfl)).some' g2
 refine DS (SI e2 (getI_some ht2).1) ?_
 refine dS (SL ((ros_rd (hS.rosH (i := 0) Z)).at_ e2 g2)) ?_
 obtain ⟨t3, ht3, H⟩ := pbind H
 obtain ⟨Ae3, ce3, g3, d3, hx3⟩ := ros_el (hS.rosH (i := 1) rfl) ht3
 obtain ⟨ad3, e3⟩ := (ros_rd (hS.rosH (i := 1) rfl)).some' g3
 refine DS (SI e3 (getI_some ht3).1) ?_
 refine DS (SL ((ros_rd (hS.rosH (i := 1) Z)).at_ e3 g3)) ?_
 obtain ⟨t4, ht4, H⟩ := pbind H
 refine DJ.callF rfl rfl rfl rfl rfl rfl rfl hb19 rfl (q1d.c (ros_sub (hS.rosH (i := 0) rfl) d2 hx2) (ros_subLe (hS.rosH (i := 0) rfl) d2 hx2) (ros_sub (hS.rosH (i := 1) rfl) d3 hx3) (ros_subLe (hS.rosH (i := 1) rfl) d3 hx3) _ ht4) (by rintro v w' ⟨rfl, hs⟩; exact hs) ?_
 rintro _ w1 ⟨rfl, hs⟩
 replace hS := hS.grow hs
 refine GO ?_
 refine CB H (fun H => GO ?_) (fun H => ?_)
 obtain rfl := Option.some.inj H; have H := K389
 exact FE H hS
 exact MD H hS
 exact MD H hS
 rintro F w1 ⟨⟨⟩, rfl, hS⟩
 have H := K389
 refine EJ.next ?_
 exact FE H hS

def q2t.f (k : Nat) (a0 : Pasture) (a1 : List Spot) : Option (List Hurdle × Int) := (q22.f k a0 a1).bind fun t2 => if t2 ≠ 0 then (some ([], t2)) else ((q1f.f k a0 a1).bind fun t3 => some (t3, 0))
theorem q2t.c {k w} (a0 : Pasture) {Aa1 ca1} {a1 : List Spot} (hr1 : Rd cSpot w Aa1 a1) (hc1 : a1.length ≤ ca1) (r : List Hurdle × Int) (H : q2t.f k a0 a1 = some r) :
 CV Tryz.prog 21 [.agg (cPasture.enc a0).toArray, sl Aa1 a1 ca1].toArray w fun v w' => ∃ (A0 : Option Addr) (c0 : Nat), v = .tuple #[sl A0 r.1 c0, i6 r.2] ∧ St w no w' [rowC cHurdle A0 c0 58 r.1] [] := by
 have hS := ((St.init w no).param cSpot Aa1 ca1 a1 hr1 hc1)
 unfold q2t.f at H
 refine CV.body Tryz.func21 Z Tryz.ntmps21 Z ?_
 refine GO ?_
 refine oX hS (cPasture.enc a0) fun b1 w1 hS => ?_
 refine oS (SE (ce hS 0)) ?_
 refine oB H hS hb46 (q22.c a0 (rA hS 0 Z) (rB hS 0 Z)) fun t2 w1 H hS => ?_
 refine CP H (fun H => GO ?_) (fun H => ?_)
 replace hS := hS.addNil cHurdle 58 none
 obtain rfl := Option.some.inj H
 exact EJ.fin Z (.tmp Z (.tmp Z .nil)) ⟨none, 0, Z, hS.pick [1] [] Z⟩
 refine GO ?_
 refine oS (SE (ce hS 0)) ?_
 obtain ⟨t3, ht3, H⟩ := pbind H
 refine OC hb30 (q1f.c a0 (rA hS 0 Z) (rB hS 0 Z) _ ht3) ?_
 rintro _ w1 ⟨A4, c5, rfl, hs⟩
 replace hS := hS.addN hs
 refine GO ?_
 obtain rfl := Option.some.inj H
 exact EJ.fin Z (.tmp Z (.tmp Z .nil)) ⟨A4, c5, Z, hS.pick [1] [] Z⟩

def q30.f (k : Nat) (a0 : Pasture) (a1 : Hurdle) : Option Bool := (q0i.f k a0).bind fun t3 => if t3 = true then ((q1m.f a0 a1).bind fun t4 => some t4) else (some false)
theorem q30.c {k w} (a0 : Pasture) (a1 : Hurdle) (r : Bool) (H : q30.f k a0 a1 = some r) :
 CV Tryz.prog 23 [.agg (cPasture.enc a0).toArray, .agg (cHurdle.enc a1).toArray].toArray w fun v w' => v = .bool r ∧ Ext w w' := by
 have hS := (St.init w no)
 unfold q30.f at H
 refine CV.body Tryz.func23 Z Tryz.ntmps23 Z ?_
 refine GO ?_
 refine OF (EB hS (cPasture.enc a0)) ?_
 rintro _ w1 ⟨b1, rfl, hS⟩
 refine oX hS (cHurdle.enc a1) fun b2 w1 hS => ?_
 refine OS (SE (ce hS 0)) ?_
 refine oB H hS hb64 (q0i.c a0) fun t3 w1 H hS => ?_
 refine OJ.split (t := 7) Z (fun hb => ?_) (fun hb => ?_)
 replace H := pif_t hb H
 refine OS (SE (ce hS 0)) ?_
 refine OS (SE (ce hS 1)) ?_
 refine OB H hS hb65 (q1m.c a0 a1) fun t4 w1 H hS => ?_
 exact FE H hS
 replace H := pifb_f hb H
 exact FE H hS

def q34.f (k : Nat) (a0 : Pasture) (a1 : List Hurdle) : Option (Pasture × Int) := (q2a.f k a0 a1).bind fun t3 => if t3 ≠ 0 then (some ((⟨0, 0, (Arr.mk' (Arr.mk' 0 : Arr 10 Int) : Arr 10 (Arr 10 Int)), (Arr.mk' 0 : Arr 10 Int), (Arr.mk' 0 : Arr 10 Int)⟩ : Pasture), t3)) else ((q0r.f k a0 a1 true).bind fun t4 => some (t4, 0))
theorem q34.c {k w} (a0 : Pasture) {Aa1 ca1} {a1 : List Hurdle} (hr1 : Rd cHurdle w Aa1 a1) (hc1 : a1.length ≤ ca1) (r : Pasture × Int) (H : q34.f k a0 a1 = some r) :
 CV Tryz.prog 24 [.agg (cPasture.enc a0).toArray, sl Aa1 a1 ca1].toArray w fun v w' => v = .tuple #[.agg (cPasture.enc r.1).toArray, .int .i64 r.2] ∧ Ext w w' := by
 have hS := ((St.init w no).param cHurdle Aa1 ca1 a1 hr1 hc1)
 unfold q34.f at H
 refine CV.body Tryz.func24 Z Tryz.ntmps24 Z ?_
 refine GO ?_
 refine OF (EB hS (cPasture.enc a0)) ?_
 rintro _ w1 ⟨b1, rfl, hS⟩
 refine OJ.ef rfl rfl rfl (Ef.alloc hS oI rfl rfl (cPasture.enc (⟨0, 0, (Arr.mk' (Arr.mk' 0 : Arr 10 Int) : Arr 10 (Arr 10 Int)), (Arr.mk' 0 : Arr 10 Int), (Arr.mk' 0 : Arr 10 Int)⟩ : Pasture)) (by kernel_rfl)) ?_
 rintro _ w1 ⟨b2, rfl, hS⟩
 refine GO ?_
 refine oS (SE (ce hS 0)) ?_
 refine oB H hS hb48 (q2a.c a0 (rA hS 0 Z) (rB hS 0 Z)) fun t3 w1 H hS => ?_
 refine CP H (fun H => GO ?_) (fun H => ?_)
 refine OJ.st Z Z Z (SR.build (C := cPasture) oU oI Z Z Z (zs := [.int .i8 0, .int .i8 0, .int .i16 0, .int .i16 0, .int .i16 0, .int .i16 0, .int .i16 0, .int .i16 0, .int .i16 0, .int .i16 0, .int .i16 0, .int .i16 0, .int .i16 0, .int .i16 0, .int .i16 0, .int .i16 0, .int .i16 0, .int .i16 0, .int .i16 0, .int .i16 0, .int .i16 0, .int .i16 0, .int .i16 0, .int .i16 0, .int .i16 0, .int .i16 0, .int .i16 0, .int .i16 0, .int .i16 0, .int .i16 0, .int .i16 0, .int .i16 0, .int .i16 0, .int .i16 0, .int .i16 0, .int .i16 0, .int .i16 0, .int .i16 0, .int .i16 0, .int .i16 0, .int .i16 0, .int .i16 0, .int .i16 0, .int .i16 0, .int .i16 0, .int .i16 0, .int .i16 0, .int .i16 0, .int .i16 0, .int .i16 0, .int .i16 0, .int .i16 0, .int .i16 0, .int .i16 0, .int .i16 0, .int .i16 0, .int .i16 0, .int .i16 0, .int .i16 0, .int .i16 0, .int .i16 0, .int .i16 0, .int .i16 0, .int .i16 0, .int .i16 0, .int .i16 0, .int .i16 0, .int .i16 0, .int .i16 0, .int .i16 0, .int .i16 0, .int .i16 0, .int .i16 0, .int .i16 0, .int .i16 0, .int .i16 0, .int .i16 0, .int .i16 0, .int .i16 0, .int .i16 0, .int .i16 0, .int .i16 0, .int .i16 0, .int .i16 0, .int .i16 0, .int .i16 0, .int .i16 0, .int .i16 0, .int .i16 0, .int .i16 0, .int .i16 0, .int .i16 0, .int .i16 0, .int .i16 0, .int .i16 0, .int .i16 0, .int .i16 0, .int .i16 0, .int .i16 0, .int .i16 0, .int .i16 0, .int .i16 0, .int .u16 0, .int .u16 0, .int .u16 0, .int .u16 0, .int .u16 0, .int .u16 0, .int .u16 0, .int .u16 0, .int .u16 0, .int .u16 0, .int .u16 0, .int .u16 0, .int .u16 0, .int .u16 0, .int .u16 0, .int .u16 0, .int .u16 0, .int .u16 0, .int .u16 0, .int .u16 0]) Z Z Z (⟨0, 0, (Arr.mk' (Arr.mk' 0 : Arr 10 Int) : Arr 10 (Arr 10 Int)), (Arr.mk' 0 : Arr 10 Int), (Arr.mk' 0 : Arr 10 Int)⟩ : Pasture) Z) ?_
 refine GO ?_
 refine OJ.es rfl rfl (Es.put oI hS (i := 1) rfl rfl rfl rfl rfl (vs := cPasture.enc (⟨0, 0, (Arr.mk' (Arr.mk' 0 : Arr 10 Int) : Arr 10 (Arr 10 Int)), (Arr.mk' 0 : Arr 10 Int), (Arr.mk' 0 : Arr 10 Int)⟩ : Pasture)) rfl (cPasture.len _) (cPasture.one _) (Put.all cPasture (⟨0, 0, (Arr.mk' (Arr.mk' 0 : Arr 10 Int) : Arr 10 (Arr 10 Int)), (Arr.mk' 0 : Arr 10 Int), (Arr.mk' 0 : Arr 10 Int)⟩ : Pasture) (⟨0, 0, (Arr.mk' (Arr.mk' 0 : Arr 10 Int) : Arr 10 (Arr 10 Int)), (Arr.mk' 0 : Arr 10 Int), (Arr.mk' 0 : Arr 10 Int)⟩ : Pasture)) (by (try simp only [add_lit, Nat.add_assoc, Nat.zero_add, Nat.add_zero]) <;> first | rfl | (congr 1; exact Nat.zero_add _))) ?_
 intro w1 hS
 refine GO ?_
 obtain rfl := Option.some.inj H
 exact EJ.fin Z (.cell Z (ldE oU oI Z Z Z (hS.cells (i := 1) Z) Z) (.tmp Z .nil)) ⟨Z, hS.ext⟩
 refine GO ?_
 refine oS (SE (ce hS 0)) ?_
 refine OB H hS hb39 (q0r.c a0 (rA hS 0 Z) (rB hS 0 Z)) fun t4 w1 H hS => ?_
 refine OJ.es rfl rfl (Es.put oI hS (i := 1) rfl rfl rfl rfl rfl (vs := cPasture.enc t4) rfl (cPasture.len _) (cPasture.one _) (Put.all cPasture (⟨0, 0, (Arr.mk' (Arr.mk' 0 : Arr 10 Int) : Arr 10 (Arr 10 Int)), (Arr.mk' 0 : Arr 10 Int), (Arr.mk' 0 : Arr 10 Int)⟩ : Pasture) t4) (by (try simp only [add_lit, Nat.add_assoc, Nat.zero_add, Nat.add_zero]) <;> first | rfl | (congr 1; exact Nat.zero_add _))) ?_
 intro w1 hS
 refine GO ?_
 obtain rfl := Option.some.inj H
 exact EJ.fin Z (.cell Z (ldE oU oI Z Z Z (hS.cells (i := 1) Z) Z) (.tmp Z .nil)) ⟨Z, hS.ext⟩

def q31.f (k : Nat) (a0 : Pasture) (a1 : List Hurdle) : Option (Pasture × Int) := (q2a.f k a0 a1).bind fun t3 => if t3 ≠ 0 then (some ((⟨0, 0, (Arr.mk' (Arr.mk' 0 : Arr 10 Int) : Arr 10 (Arr 10 Int)), (Arr.mk' 0 : Arr 10 Int), (Arr.mk' 0 : Arr 10 Int)⟩ : Pasture), t3)) else ((q0r.f k a0 a1 false).bind fun t4 => some (t4, 0))
theorem q31.c {k w} (a0 : Pasture) {Aa1 ca1} {a1 : List Hurdle} (hr1 : Rd cHurdle w Aa1 a1) (hc1 : a1.length ≤ ca1) (r : Pasture × Int) (H : q31.f k a0 a1 = some r) :
 CV Tryz.prog 25 [.agg (cPasture.enc a0).toArray, sl Aa1 a1 ca1].toArray w fun v w' => v = .tuple #[.agg (cPasture.enc r.1).toArray, .int .i64 r.2] ∧ Ext w w' := by
 have hS := ((St.init w no).param cHurdle Aa1 ca1 a1 hr1 hc1)
 unfold q31.f at H
 refine CV.body Tryz.func25 Z Tryz.ntmps25 Z ?_
 refine GO ?_
 refine OF (EB hS (cPasture.enc a0)) ?_
 rintro _ w1 ⟨b1, rfl, hS⟩
 refine OJ.ef rfl rfl rfl (Ef.alloc hS oI rfl rfl (cPasture.enc (⟨0, 0, (Arr.mk' (Arr.mk' 0 : Arr 10 Int) : Arr 10 (Arr 10 Int)), (Arr.mk' 0 : Arr 10 Int), (Arr.mk' 0 : Arr 10 Int)⟩ : Pasture)) (by kernel_rfl)) ?_
 rintro _ w1 ⟨b2, rfl, hS⟩
 refine GO ?_
 refine oS (SE (ce hS 0)) ?_
 refine oB H hS hb48 (q2a.c a0 (rA hS 0 Z) (rB hS 0 Z)) fun t3 w1 H hS => ?_
 refine CP H (fun H => GO ?_) (fun H => ?_)
 refine OJ.st Z Z Z (SR.build (C := cPasture) oU oI Z Z Z (zs := [.int .i8 0, .int .i8 0, .int .i16 0, .int .i16 0, .int .i16 0, .int .i16 0, .int .i16 0, .int .i16 0, .int .i16 0, .int .i16 0, .int .i16 0, .int .i16 0, .int .i16 0, .int .i16 0, .int .i16 0, .int .i16 0, .int .i16 0, .int .i16 0, .int .i16 0, .int .i16 0, .int .i16 0, .int .i16 0, .int .i16 0, .int .i16 0, .int .i16 0, .int .i16 0, .int .i16 0, .int .i16 0, .int .i16 0, .int .i16 0, .int .i16 0, .int .i16 0, .int .i16 0, .int .i16 0, .int .i16 0, .int .i16 0, .int .i16 0, .int .i16 0, .int .i16 0, .int .i16 0, .int .i16 0, .int .i16 0, .int .i16 0, .int .i16 0, .int .i16 0, .int .i16 0, .int .i16 0, .int .i16 0, .int .i16 0, .int .i16 0, .int .i16 0, .int .i16 0, .int .i16 0, .int .i16 0, .int .i16 0, .int .i16 0, .int .i16 0, .int .i16 0, .int .i16 0, .int .i16 0, .int .i16 0, .int .i16 0, .int .i16 0, .int .i16 0, .int .i16 0, .int .i16 0, .int .i16 0, .int .i16 0, .int .i16 0, .int .i16 0, .int .i16 0, .int .i16 0, .int .i16 0, .int .i16 0, .int .i16 0, .int .i16 0, .int .i16 0, .int .i16 0, .int .i16 0, .int .i16 0, .int .i16 0, .int .i16 0, .int .i16 0, .int .i16 0, .int .i16 0, .int .i16 0, .int .i16 0, .int .i16 0, .int .i16 0, .int .i16 0, .int .i16 0, .int .i16 0, .int .i16 0, .int .i16 0, .int .i16 0, .int .i16 0, .int .i16 0, .int .i16 0, .int .i16 0, .int .i16 0, .int .i16 0, .int .i16 0, .int .u16 0, .int .u16 0, .int .u16 0, .int .u16 0, .int .u16 0, .int .u16 0, .int .u16 0, .int .u16 0, .int .u16 0, .int .u16 0, .int .u16 0, .int .u16 0, .int .u16 0, .int .u16 0, .int .u16 0, .int .u16 0, .int .u16 0, .int .u16 0, .int .u16 0, .int .u16 0]) Z Z Z (⟨0, 0, (Arr.mk' (Arr.mk' 0 : Arr 10 Int) : Arr 10 (Arr 10 Int)), (Arr.mk' 0 : Arr 10 Int), (Arr.mk' 0 : Arr 10 Int)⟩ : Pasture) Z) ?_
 refine GO ?_
 refine OJ.es rfl rfl (Es.put oI hS (i := 1) rfl rfl rfl rfl rfl (vs := cPasture.enc (⟨0, 0, (Arr.mk' (Arr.mk' 0 : Arr 10 Int) : Arr 10 (Arr 10 Int)), (Arr.mk' 0 : Arr 10 Int), (Arr.mk' 0 : Arr 10 Int)⟩ : Pasture)) rfl (cPasture.len _) (cPasture.one _) (Put.all cPasture (⟨0, 0, (Arr.mk' (Arr.mk' 0 : Arr 10 Int) : Arr 10 (Arr 10 Int)), (Arr.mk' 0 : Arr 10 Int), (Arr.mk' 0 : Arr 10 Int)⟩ : Pasture) (⟨0, 0, (Arr.mk' (Arr.mk' 0 : Arr 10 Int) : Arr 10 (Arr 10 Int)), (Arr.mk' 0 : Arr 10 Int), (Arr.mk' 0 : Arr 10 Int)⟩ : Pasture)) (by (try simp only [add_lit, Nat.add_assoc, Nat.zero_add, Nat.add_zero]) <;> first | rfl | (congr 1; exact Nat.zero_add _))) ?_
 intro w1 hS
 refine GO ?_
 obtain rfl := Option.some.inj H
 exact EJ.fin Z (.cell Z (ldE oU oI Z Z Z (hS.cells (i := 1) Z) Z) (.tmp Z .nil)) ⟨Z, hS.ext⟩
 refine GO ?_
 refine oS (SE (ce hS 0)) ?_
 refine OB H hS hb39 (q0r.c a0 (rA hS 0 Z) (rB hS 0 Z)) fun t4 w1 H hS => ?_
 refine OJ.es rfl rfl (Es.put oI hS (i := 1) rfl rfl rfl rfl rfl (vs := cPasture.enc t4) rfl (cPasture.len _) (cPasture.one _) (Put.all cPasture (⟨0, 0, (Arr.mk' (Arr.mk' 0 : Arr 10 Int) : Arr 10 (Arr 10 Int)), (Arr.mk' 0 : Arr 10 Int), (Arr.mk' 0 : Arr 10 Int)⟩ : Pasture) t4) (by (try simp only [add_lit, Nat.add_assoc, Nat.zero_add, Nat.add_zero]) <;> first | rfl | (congr 1; exact Nat.zero_add _))) ?_
 intro w1 hS
 refine GO ?_
 obtain rfl := Option.some.inj H
 exact EJ.fin Z (.cell Z (ldE oU oI Z Z Z (hS.cells (i := 1) Z) Z) (.tmp Z .nil)) ⟨Z, hS.ext⟩

def q0o.l1 (t6 : List Spot) (t30 : List Spot × Int) : Nat → Int → Option (Bool ⊕ Unit)
  | 0, _ => none
  | k + 1, y57 => if y57 < (t6.length : Int) then ((getI t6 y57).bind fun t58 => (q1h.f k t30.1 t58).bind fun t59 => if (!t59) = true then (some (Sum.inl false)) else (q0o.l1 t6 t30 k (IntKind.i64.wrap (y57 + 1)))) else (some (Sum.inr ()))
def q0o.l2 (t13 : List Spot) (t30 : List Spot × Int) : Nat → Int → Option (Bool ⊕ Unit)
  | 0, _ => none
  | k + 1, y60 => if y60 < (t13.length : Int) then ((getI t13 y60).bind fun t61 => (q1h.f k t30.1 t61).bind fun t62 => if t62 = true then (some (Sum.inl false)) else (q0o.l2 t13 t30 k (IntKind.i64.wrap (y60 + 1)))) else (some (Sum.inr ()))
def q0o.l3 (t4 : Pasture) (t6 : List Spot) (t13 : List Spot) (t24 : List Hurdle × Int) : Nat → Int → Option (Bool ⊕ Unit)
  | 0, _ => none
  | k + 1, y63 => if y63 < (t24.1.length : Int) then ((chk ((0 : Int) ≤ 0 ∧ 0 ≤ y63 ∧ y63 ≤ (t24.1.length : Int))).bind fun u64 => (chk ((0 : Int) ≤ (IntKind.i64.wrap (y63 + 1)) ∧ (IntKind.i64.wrap (y63 + 1)) ≤ (t24.1.length : Int) ∧ (t24.1.length : Int) ≤ (t24.1.length : Int))).bind fun u65 => (chk (([] : List Hurdle).length + ((t24.1.drop 0).take (y63.toNat - 0)).length ≤ 4294967296)).bind fun u67 => (chk ((([] : List Hurdle) ++ ((t24.1.drop 0).take (y63.toNat - 0))).length + ((t24.1.drop ((IntKind.i64.wrap (y63 + 1)).toNat)).take (t24.1.length - ((IntKind.i64.wrap (y63 + 1)).toNat))).length ≤ 4294967296)).bind fun u70 => (q28.f k t4 t6 t13 ((([] : List Hurdle) ++ ((t24.1.drop 0).take (y63.toNat - 0))) ++ ((t24.1.drop ((IntKind.i64.wrap (y63 + 1)).toNat)).take (t24.1.length - ((IntKind.i64.wrap (y63 + 1)).toNat))))).bind fun t78 => if t78.2 ≠ 0 then (some (Sum.inl false)) else (if t78.1 = true then (some (Sum.inl false)) else ((getI t24.1 y63).bind fun t79 => (q30.f k t4 t79).bind fun t80 => if (!t80) = true then (some (Sum.inl false)) else (q0o.l3 t4 t6 t13 t24 k (IntKind.i64.wrap (y63 + 1)))))) else (some (Sum.inr ()))
def q0o.f (k : Nat) (a0 : List Int) (a1 : List Int) : Option Bool := ((q3a.f a0).bind fun t2 => if t2 = true then (some true) else ((q3a.f a1).bind fun t3 => some t3)).bind fun y1 => if y1 = true then (some true) else ((q2y.f k a0).bind fun t4 => (q1s.f k a1 t4).bind fun t6 => (chk (([5] : List Int).length + a1.length ≤ 4294967296)).bind fun u10 => (q1p.f k (([5] : List Int) ++ a1) t4 t6).bind fun t13 => (q2r.f k t4 t6 t13).bind fun t21 => (q3b.f k t4 t6 t13).bind fun t24 => (q3f.f k t4 t6 t13).bind fun t27 => (q10.f k t4 t6 t13).bind fun t30 => (q0l.f k t4 t6 t13).bind fun t33 => (q0x.f k t4 t6 t13).bind fun t37 => (q28.f k t4 t6 t13 t24.1).bind fun t41 => (q0f.f k t4 t6 t13 t37.1).bind fun t42 => (q1i.f k t24.1).bind fun t43 => (q1o.f k t43).bind fun t44 => (if t21.2 ≠ t24.2 then (some true) else (if t21.2 ≠ 0 then (some true) else ((q17.f k t21.1 t24.1).bind fun t48 => if (!t48) = true then (some true) else (if t27.2 ≠ t30.2 then (some true) else (if t27.2 ≠ 0 then (some true) else ((q1d.f k t27.1 t30.1).bind fun t49 => if (!t49) = true then (some true) else (if t33.2 ≠ t37.2 then (some true) else (if t33.2 ≠ 0 then (some true) else ((q1w.f k t33.1 t37.1).bind fun t50 => if (!t50) = true then (some true) else (if t41.2 ≠ 0 then (some true) else (if (!t41.1) = true then (some true) else (if t42.2 ≠ 0 then (some true) else (if (!t42.1) = true then (some true) else (if t44.2 ≠ 0 then (some true) else ((q17.f k t44.1 t24.1).bind fun t51 => if (!t51) = true then (some true) else (some (decide ((t24.1.length : Int) < (t37.1.length : Int))))))))))))))))))).bind fun y47 => if y47 = true then (some false) else ((q2t.f k t4 t30.1).bind fun t52 => (if t52.2 ≠ 0 then (some true) else ((q17.f k t52.1 t24.1).bind fun t56 => if (!t56) = true then (some true) else (if 0 < (t24.1.length : Int) then (some (decide ((t37.1.length : Int) = 0))) else (some false)))).bind fun y55 => if y55 = true then (some false) else ((q0o.l1 t6 t30 k 0).bind fun s391 => match s391 with | .inl r => some r | .inr _ => (q0o.l2 t13 t30 k 0).bind fun s392 => match s392 with | .inl r => some r | .inr _ => (q0o.l3 t4 t6 t13 t24 k 0).bind fun s393 => match s393 with | .inl r => some r | .inr _ => (q2r.f k t4 t13 t6).bind fun t81 => (q2t.f k t4 t6).bind fun t84 => (q34.f k t4 t24.1).bind fun t87 => (q31.f k t87.1 t24.1).bind fun t89 => (if t81.2 ≠ 0 then (some true) else (if (t81.1.length : Int) ≠ (t24.1.length : Int) then (some true) else (if t84.2 ≠ 0 then (some true) else (if (t84.1.length : Int) < (t24.1.length : Int) then (some true) else (if t87.2 ≠ 0 then (some true) else (if t89.2 ≠ 0 then (some true) else (some (decide (t89.1 ≠ t4))))))))).bind fun y91 => if y91 = true then (some false) else (if (t37.1.length : Int) = 0 then (some true) else ((getI t37.1 0).bind fun t92 => (chk (([] : List (List Spot)).length + t37.1.length ≤ 4294967296)).bind fun u94 => (chk ((([] : List (List Spot)) ++ t37.1).length + ([t92] : List (List Spot)).length ≤ 4294967296)).bind fun u98 => (q0f.f k t4 t6 t13 ((([] : List (List Spot)) ++ t37.1) ++ ([t92] : List (List Spot)))).bind fun t101 => if t101.2 = 0 then (some (!t101.1)) else (some false))))))
theorem q0o.c (k : Nat) (w : World) (Aa0 : Option Addr) (ca0 : Nat) (a0 : List Int) (hr0 : Rd (ci .u8) w Aa0 a0) (hc0 : a0.length ≤ ca0) (Aa1 : Option Addr) (ca1 : Nat) (a1 : List Int) (hr1 : Rd (ci .u8) w Aa1 a1) (hc1 : a1.length ≤ ca1) (hT : (envC Tryz.prog 0).holds w) (r : Bool) (H : q0o.f k a0 a1 = some r) :
 CV Tryz.prog 3 [sl Aa0 a0 ca0, sl Aa1 a1 ca1].toArray w fun v w' => v = .bool r ∧ Ext w w' := by
 have hS := ((((St.init w no).param (ci .u8) Aa0 ca0 a0 hr0 hc0).param (ci .u8) Aa1 ca1 a1 hr1 hc1).paramT (envC Tryz.prog 0) hT)
 unfold q0o.f at H
 refine CV.body Tryz.func3 Z Tryz.ntmps3 Z ?_
 refine SG ?_
 refine PX 1 ?_
 refine CJ.seq ?_
 obtain ⟨j381, H, K381⟩ := pbind H
 refine CJ.cut (fun F w1 => ∃ y1, some y1 = some j381 ∧ F = [(0, sl Aa0 a0 ca0), (1, sl Aa1 a1 ca1), (49, .bool y1)] ∧ St w no w1 [] [roC (ci .u8) Aa0 ca0 a0, roC (ci .u8) Aa1 ca1 a1, envC Tryz.prog 0]) ?_ ?_
 refine GO ?_
 refine oB H hS hb4 (q3a.c (rA hS 0 Z) (rB hS 0 Z)) fun t2 w1 H hS => ?_
 refine OJ.split (t := 46) Z (fun hb => ?_) (fun hb => ?_)
 replace H := pif_t hb H
 exact MD H hS
 replace H := pifb_f hb H
 refine GO ?_
 refine OB H hS hb4 (q3a.c (rA hS 1 Z) (rB hS 1 Z)) fun t3 w1 H hS => ?_
 exact MD H hS
 rintro F w1 ⟨y1, he, rfl, hS⟩
 obtain rfl := Option.some.inj he
 have H := K381
 refine CB H (fun H => ?_) (fun H => ?_)
 exact FE H hS
 refine GO ?_
 refine OB H hS hb5 (q2y.c (rA hS 0 Z) (rB hS 0 Z)) fun t4 w1 H hS => ?_
 refine OJ.ef rfl rfl rfl (Ef.alloc hS oI rfl rfl (cPasture.enc (⟨0, 0, (Arr.mk' (Arr.mk' 0 : Arr 10 Int) : Arr 10 (Arr 10 Int)), (Arr.mk' 0 : Arr 10 Int), (Arr.mk' 0 : Arr 10 Int)⟩ : Pasture)) (by kernel_rfl)) ?_
 rintro _ w1 ⟨b5, rfl, hS⟩
 refine OJ.es rfl rfl (Es.put oI hS (i := 0) rfl rfl rfl rfl rfl (vs := cPasture.enc t4) rfl (cPasture.len _) (cPasture.one _) (Put.all cPasture (⟨0, 0, (Arr.mk' (Arr.mk' 0 : Arr 10 Int) : Arr 10 (Arr 10 Int)), (Arr.mk' 0 : Arr 10 Int), (Arr.mk' 0 : Arr 10 Int)⟩ : Pasture) t4) (by (try simp only [add_lit, Nat.add_assoc, Nat.zero_add, Nat.add_zero]) <;> first | rfl | (congr 1; exact Nat.zero_add _))) ?_
 intro w1 hS
 refine GO ?_
 refine OS (SE (ce hS 0)) ?_
 obtain ⟨t6, ht6, H⟩ := pbind H
 refine OC hb6 (q1s.c (rA hS 1 Z) (rB hS 1 Z) t4 _ ht6) ?_
 rintro _ w1 ⟨A7, c8, rfl, hs⟩
 replace hS := hS.addN hs
 refine GO ?_
 obtain ⟨u10, hu10, H⟩ := pbind H
 obtain ⟨t13, ht13, H⟩ := pbind H
 refine CJ.cut1 (fun F w1 => ∃ (A11 c12 A14 c15 : _), F = [(5, pt b5), (6, sl A7 t6 c8), (7, sl A14 t13 c15)] ∧ St w no w1 [box b5 (cPasture.enc t4) 31, rowC cSpot A7 c8 55 t6, rowC (ci .u8) A11 c12 5 (([5] : List Int) ++ a1), rowC cSpot A14 c15 55 t13] [roC (ci .u8) Aa0 ca0 a0, roC (ci .u8) Aa1 ca1 a1, envC Tryz.prog 0]) ?_ ?_
 refine CJ.drawT [] [0, 2, 5] (.one 1 (.one 3 (.one 4 (.one 0 (.one 2 (.one 5 (.one 6 (.fin)))))))) mixed (by kernel_rfl) hS [0] fun w1 hS hY hV => ?_
 refine GO ?_
 refine TJ.st hY Z Z Z Z Z (fun w2 hY => SR.load Z Z (fun w' hx => ldE oU oI Z Z Z (CA.ext ((hV w2 hY).cellsR (i := 3) Z) hx) Z)) ?_
 refine GO ?_
 refine TF hY (EL hS (ci .u8) ([5] : List Int)) ?_
 rintro _ w1 hY ⟨A16, rfl, hS⟩
 refine tW [0] 2 3 hY hS (rA hS 1 Z) (chk_some hu10) fun A17 c18 w1 hY (hS : St _ _ _ [_, _, _] _) => ?_
 refine TJ.callF hY rfl rfl rfl rfl rfl rfl rfl hb7 rfl (q1p.c (rC hS 2 Z) (rD hS 2 Z) t4 (rC hS 1 Z) (rD hS 1 Z) _ ht13) (by rintro v w' ⟨A19, c20, rfl, hs⟩; exact hs.ext) ?_
 rintro _ w1 hY ⟨A19, c20, rfl, hs⟩
 replace hS := hS.addN hs
 exact MD H hS
 rintro F w1 ⟨A11, c12, A14, c15, rfl, hS⟩
 refine EJ.next ?_
 refine GO ?_
 refine oS (SE (ce hS 0)) ?_
 obtain ⟨t21, ht21, H⟩ := pbind H
 refine OC hb8 (q2r.c t4 (rC hS 1 Z) (rD hS 1 Z) (rC hS 3 Z) (rD hS 3 Z) _ ht21) ?_
 rintro _ w1 ⟨A22, c23, rfl, hs⟩
 replace hS := hS.addN hs
 refine GO ?_
 refine oS (SE (ce hS 0)) ?_
 obtain ⟨t24, ht24, H⟩ := pbind H
 refine OC hb9 (q3b.c t4 (rC hS 1 Z) (rD hS 1 Z) (rC hS 3 Z) (rD hS 3 Z) _ ht24) ?_
 rintro _ w1 ⟨A25, c26, rfl, hs⟩
 replace hS := hS.addN hs
 have hS : St _ _ _ [_, _, _, _, _, _] _ := hS
 refine GO ?_
 refine oS (SE (ce hS 0)) ?_
 obtain ⟨t27, ht27, H⟩ := pbind H
 refine OC hb10 (q3f.c t4 (rC hS 1 Z) (rD hS 1 Z) (rC hS 3 Z) (rD hS 3 Z) _ ht27) ?_
 rintro _ w1 ⟨A28, c29, rfl, hs⟩
 replace hS := hS.addN hs
 have hS : St _ _ _ [_, _, _, _, _, _, _] _ := hS
 refine GO ?_
 refine oS (SE (ce hS 0)) ?_
 obtain ⟨t30, ht30, H⟩ := pbind H
 refine OC hb11 (q10.c t4 (rC hS 1 Z) (rD hS 1 Z) (rC hS 3 Z) (rD hS 3 Z) _ ht30) ?_
 rintro _ w1 ⟨A31, c32, rfl, hs⟩
 replace hS := hS.addN hs
 have hS : St _ _ _ [_, _, _, _, _, _, _, _] _ := hS
 refine GO ?_
 refine oS (SE (ce hS 0)) ?_
 obtain ⟨t33, ht33, H⟩ := pbind H
 refine OC hb12 (q0l.c t4 (rC hS 1 Z) (rD hS 1 Z) (rC hS 3 Z) (rD hS 3 Z) _ ht33) ?_
 rintro _ w1 ⟨A34, c35, D36, rfl, hs⟩
 replace hS := hS.addN hs
 have hS : St _ _ _ [_, _, _, _, _, _, _, _, _] _ := hS
 refine GO ?_
 refine oS (SE (ce hS 0)) ?_
 obtain ⟨t37, ht37, H⟩ := pbind H
 refine OC hb13 (q0x.c t4 (rC hS 1 Z) (rD hS 1 Z) (rC hS 3 Z) (rD hS 3 Z) _ ht37) ?_
 rintro _ w1 ⟨A38, c39, D40, rfl, hs⟩
 replace hS := hS.addN hs
 have hS : St _ _ _ [_, _, _, _, _, _, _, _, _, _] _ := hS
 refine GO ?_
 refine oS (SE (ce hS 0)) ?_
 refine oB H hS hb14 (q28.c t4 (rC hS 1 Z) (rD hS 1 Z) (rC hS 3 Z) (rD hS 3 Z) (rC hS 5 Z) (rD hS 5 Z)) fun t41 w1 H hS => ?_
 refine oS (SE (ce hS 0)) ?_
 refine oB H hS hb15 (q0f.c t4 (rC hS 1 Z) (rD hS 1 Z) (rC hS 3 Z) (rD hS 3 Z) D40 (hS.rowsRo (i := 9) Z)) fun t42 w1 H hS => ?_
 refine OB H hS hb17 (q1i.c (rC hS 5 Z) (rD hS 5 Z) (hS.ro (i := 2) Z)) fun t43 w1 H hS => ?_
 obtain ⟨t44, ht44, H⟩ := pbind H
 refine OC hb16 (q1o.c (hS.ro (i := 2) Z) _ ht44) ?_
 rintro _ w1 ⟨A45, c46, rfl, hs⟩
 replace hS := hS.addN hs
 have hS : St _ _ _ [_, _, _, _, _, _, _, _, _, _, _] _ := hS
 refine PX 5 ?_
 refine CJ.seq ?_
 obtain ⟨j386, H, K386⟩ := pbind H
 refine CJ.cut (fun F w1 => ∃ y47, some y47 = some j386 ∧ F = [(5, pt b5), (6, sl A7 t6 c8), (7, sl A14 t13 c15), (10, sl A25 t24.1 c26), (14, sl A31 t30.1 c32), (18, sl A38 t37.1 c39), (200, .bool y47)] ∧ St w no w1 [box b5 (cPasture.enc t4) 31, rowC cSpot A7 c8 55 t6, rowC cSpot A14 c15 55 t13, rowC cHurdle A25 c26 58 t24.1, rowC cSpot A31 c32 55 t30.1, rowsC cSpot A38 c39 33 55 D40 t37.1] [roC (ci .u8) Aa0 ca0 a0, roC (ci .u8) Aa1 ca1 a1, envC Tryz.prog 0]) ?_ ?_
 refine GO ?_
 refine OJ.split (t := 128) Z (fun hb => ?_) (fun hb => ?_)
 replace H := pif_t (of_decide_eq_true hb) H
 exact MD H hS
 replace H := pif_f (of_decide_eq_false hb) H
 refine GO ?_
 refine OJ.split (t := 132) Z (fun hb => ?_) (fun hb => ?_)
 replace H := pif_t (of_decide_eq_true hb) H
 exact MD H hS
 replace H := pif_f (of_decide_eq_false hb) H
 refine GO ?_
 refine oB H hS hb18 (q17.c (rC hS 4 Z) (rD hS 4 Z) (rC hS 5 Z) (rD hS 5 Z)) fun t48 w1 H hS => ?_
 refine OJ.split (t := 138) Z (fun hb => ?_) (fun hb => ?_)
 replace H := pif_t hb H
 exact MD H hS
 replace H := pifb_f hb H
 refine GO ?_
 refine OJ.split (t := 143) Z (fun hb => ?_) (fun hb => ?_)
 replace H := pif_t (of_decide_eq_true hb) H
 exact MD H hS
 replace H := pif_f (of_decide_eq_false hb) H
 refine GO ?_
 refine OJ.split (t := 147) Z (fun hb => ?_) (fun hb => ?_)
 replace H := pif_t (of_decide_eq_true hb) H
 exact MD H hS
 replace H := pif_f (of_decide_eq_false hb) H
 refine GO ?_
 refine oB H hS hb19 (q1d.c (rC hS 6 Z) (rD hS 6 Z) (rC hS 7 Z) (rD hS 7 Z)) fun t49 w1 H hS => ?_
 refine OJ.split (t := 153) Z (fun hb => ?_) (fun hb => ?_)
 replace H := pif_t hb H
 exact MD H hS
 replace H := pifb_f hb H
 refine GO ?_
 refine OJ.split (t := 158) Z (fun hb => ?_) (fun hb => ?_)
 replace H := pif_t (of_decide_eq_true hb) H
 exact MD H hS
 replace H := pif_f (of_decide_eq_false hb) H
 refine GO ?_
 refine OJ.split (t := 162) Z (fun hb => ?_) (fun hb => ?_)
 replace H := pif_t (of_decide_eq_true hb) H
 exact MD H hS
 replace H := pif_f (of_decide_eq_false hb) H
 refine GO ?_
 refine oB H hS hb20 (q1w.c D36 (hS.rowsRo (i := 8) Z) D40 (hS.rowsRo (i := 9) Z)) fun t50 w1 H hS => ?_
 refine OJ.split (t := 168) Z (fun hb => ?_) (fun hb => ?_)
 replace H := pif_t hb H
 exact MD H hS
 replace H := pifb_f hb H
 refine GO ?_
 refine OJ.split (t := 172) Z (fun hb => ?_) (fun hb => ?_)
 replace H := pif_t (of_decide_eq_true hb) H
 exact MD H hS
 replace H := pif_f (of_decide_eq_false hb) H
 refine GO ?_
 refine OJ.split (t := 176) Z (fun hb => ?_) (fun hb => ?_)
 replace H := pif_t hb H
 exact MD H hS
 replace H := pifb_f hb H
 refine GO ?_
 refine OJ.split (t := 180) Z (fun hb => ?_) (fun hb => ?_)
 replace H := pif_t (of_decide_eq_true hb) H
 exact MD H hS
 replace H := pif_f (of_decide_eq_false hb) H
 refine GO ?_
 refine OJ.split (t := 184) Z (fun hb => ?_) (fun hb => ?_)
 replace H := pif_t hb H
 exact MD H hS
 replace H := pifb_f hb H
 refine GO ?_
 refine OJ.split (t := 188) Z (fun hb => ?_) (fun hb => ?_)
 replace H := pif_t (of_decide_eq_true hb) H
 exact MD H hS
 replace H := pif_f (of_decide_eq_false hb) H
 refine GO ?_
 refine oB H hS hb18 (q17.c (rC hS 10 Z) (rD hS 10 Z) (rC hS 5 Z) (rD hS 5 Z)) fun t51 w1 H hS => ?_
 refine OJ.split (t := 194) Z (fun hb => ?_) (fun hb => ?_)
 replace H := pif_t hb H
 exact MD H hS
 replace H := pifb_f hb H
 exact MD H hS
 rintro F w1 ⟨y47, he, rfl, hS⟩
 obtain rfl := Option.some.inj he
 have H := K386
 refine CB H (fun H => ?_) (fun H => ?_)
 exact FE H hS
 refine GO ?_
 refine oS (SE (ce hS 0)) ?_
 obtain ⟨t52, ht52, H⟩ := pbind H
 refine OC hb21 (q2t.c t4 (rC hS 4 Z) (rD hS 4 Z) _ ht52) ?_
 rintro _ w1 ⟨A53, c54, rfl, hs⟩
 replace hS := hS.addN hs
 have hS : St _ _ _ [_, _, _, _, _, _, _] _ := hS
 refine PX 5 ?_
 refine CJ.seq ?_
 obtain ⟨j390, H, K390⟩ := pbind H
 refine CJ.cut (fun F w1 => ∃ y55, some y55 = some j390 ∧ F = [(5, pt b5), (6, sl A7 t6 c8), (7, sl A14 t13 c15), (10, sl A25 t24.1 c26), (14, sl A31 t30.1 c32), (18, sl A38 t37.1 c39), (224, .bool y55)] ∧ St w no w1 [box b5 (cPasture.enc t4) 31, rowC cSpot A7 c8 55 t6, rowC cSpot A14 c15 55 t13, rowC cHurdle A25 c26 58 t24.1, rowC cSpot A31 c32 55 t30.1, rowsC cSpot A38 c39 33 55 D40 t37.1] [roC (ci .u8) Aa0 ca0 a0, roC (ci .u8) Aa1 ca1 a1, envC Tryz.prog 0]) ?_ ?_
 refine GO ?_
 refine OJ.split (t := 209) Z (fun hb => ?_) (fun hb => ?_)
 replace H := pif_t (of_decide_eq_true hb) H
 exact MD H hS
 replace H := pif_f (of_decide_eq_false hb) H
 refine GO ?_
 refine oB H hS hb18 (q17.c (rC hS 6 Z) (rD hS 6 Z) (rC hS 3 Z) (rD hS 3 Z)) fun t56 w1 H hS => ?_
 refine OJ.split (t := 215) Z (fun hb => ?_) (fun hb => ?_)
 replace H := pif_t hb H
 exact MD H hS
 replace H := pifb_f hb H
 refine GO ?_
 refine OJ.split (t := 219) Z (fun hb => ?_) (fun hb => ?_)
 replace H := pif_t (of_decide_eq_true hb) H
 exact MD H hS
 replace H := pif_f (of_decide_eq_false hb) H
 exact MD H hS
 rintro F w1 ⟨y55, he, rfl, hS⟩
 obtain rfl := Option.some.inj he
 have H := K390
 refine CB H (fun H => ?_) (fun H => ?_)
 exact FE H hS
 refine GO ?_
 obtain ⟨j391, H, K391⟩ := pbind H
 refine CJ.cut1 (fun F w1 => some j391 = some (Sum.inr ()) ∧ F = [(5, pt b5), (6, sl A7 t6 c8), (7, sl A14 t13 c15), (10, sl A25 t24.1 c26), (14, sl A31 t30.1 c32), (18, sl A38 t37.1 c39)] ∧ St w no w1 [box b5 (cPasture.enc t4) 31, rowC cSpot A7 c8 55 t6, rowC cSpot A14 c15 55 t13, rowC cHurdle A25 c26 58 t24.1, rowC cSpot A31 c32 55 t30.1, rowsC cSpot A38 c39 33 55 D40 t37.1] [roC (ci .u8) Aa0 ca0 a0, roC (ci .u8) Aa1 ca1 a1, envC Tryz.prog 0]) ?_ ?_
 refine CJ.block ?_
 refine LQ (fun k F w1 => ∃ (y57 : Int), F = [(5, pt b5), (6, sl A7 t6 c8), (7, sl A14 t13 c15), (10, sl A25 t24.1 c26), (14, sl A31 t30.1 c32), (18, sl A38 t37.1 c39), (28, i6 y57)] ∧ St w no w1 [box b5 (cPasture.enc t4) 31, rowC cSpot A7 c8 55 t6, rowC cSpot A14 c15 55 t13, rowC cHurdle A25 c26 58 t24.1, rowC cSpot A31 c32 55 t30.1, rowsC cSpot A38 c39 33 55 D40 t37.1] [roC (ci .u8) Aa0 ca0 a0, roC (ci .u8) Aa1 ca1 a1, envC Tryz.prog 0] ∧ q0o.l1 t6 t30 k y57 = some j391) k H hS ?_
 rintro k F w1 ⟨y57, rfl, hS, H⟩
 rw [q0o.l1] at H
 refine GO ?_
 refine CP H (fun H => GO ?_) (fun H => ?_)
 refine CJ.block ?_
 refine GO ?_
 obtain ⟨t58, ht58, H⟩ := pbind H
 obtain ⟨ad58, e58⟩ := (rC hS 1 Z).some' ht58
 refine OS (SI e58 (getI_some ht58).1) ?_
 refine OS (SE ((rC hS 1 Z).at_ e58 ht58)) ?_
 refine oB H hS hb22 (q1h.c (rC hS 4 Z) (rD hS 4 Z) t58) fun t59 w1 H hS => ?_
 refine CB H (fun H => GO ?_) (fun H => ?_)
 obtain rfl := Option.some.inj H; have H := K391
 exact FE H hS
 exact MD H hS
 exact MD H hS
 rintro F w1 ⟨⟨⟩, rfl, hS⟩
 have H := K391
 refine EJ.next ?_
 refine GO ?_
 obtain ⟨j392, H, K392⟩ := pbind H
 refine CJ.cut1 (fun F w1 => some j392 = some (Sum.inr ()) ∧ F = [(5, pt b5), (6, sl A7 t6 c8), (7, sl A14 t13 c15), (10, sl A25 t24.1 c26), (18, sl A38 t37.1 c39)] ∧ St w no w1 [box b5 (cPasture.enc t4) 31, rowC cSpot A7 c8 55 t6, rowC cSpot A14 c15 55 t13, rowC cHurdle A25 c26 58 t24.1, rowsC cSpot A38 c39 33 55 D40 t37.1] [roC (ci .u8) Aa0 ca0 a0, roC (ci .u8) Aa1 ca1 a1, envC Tryz.prog 0]) ?_ ?_
 refine CJ.block ?_
 refine LQ (fun k F w1 => ∃ (y60 : Int), F = [(5, pt b5), (6, sl A7 t6 c8), (7, sl A14 t13 c15), (10, sl A25 t24.1 c26), (14, sl A31 t30.1 c32), (18, sl A38 t37.1 c39), (29, i6 y60)] ∧ St w no w1 [box b5 (cPasture.enc t4) 31, rowC cSpot A7 c8 55 t6, rowC cSpot A14 c15 55 t13, rowC cHurdle A25 c26 58 t24.1, rowC cSpot A31 c32 55 t30.1, rowsC cSpot A38 c39 33 55 D40 t37.1] [roC (ci .u8) Aa0 ca0 a0, roC (ci .u8) Aa1 ca1 a1, envC Tryz.prog 0] ∧ q0o.l2 t13 t30 k y60 = some j392) k H hS ?_
 rintro k F w1 ⟨y60, rfl, hS, H⟩
 rw [q0o.l2] at H
 refine GO ?_
 refine CP H (fun H => GO ?_) (fun H => ?_)
 refine CJ.block ?_
 refine GO ?_
 obtain ⟨t61, ht61, H⟩ := pbind H
 obtain ⟨ad61, e61⟩ := (rC hS 2 Z).some' ht61
 refine OS (SI e61 (getI_some ht61).1) ?_
 refine OS (SE ((rC hS 2 Z).at_ e61 ht61)) ?_
 refine oB H hS hb22 (q1h.c (rC hS 4 Z) (rD hS 4 Z) t61) fun t62 w1 H hS => ?_
 refine CB H (fun H => GO ?_) (fun H => ?_)
 obtain rfl := Option.some.inj H; have H := K392
 exact FE H hS
 exact MD H hS
 exact MD H hS
 rintro F w1 ⟨⟨⟩, rfl, hS⟩
 have H := K392
 refine EJ.next ?_
 refine GO ?_
 replace hS := hS.freezeG (i := 3) Z
 obtain ⟨j393, H, K393⟩ := pbind H
 refine CJ.cut1 (fun F w1 => some j393 = some (Sum.inr ()) ∧ F = [(5, pt b5), (6, sl A7 t6 c8), (7, sl A14 t13 c15), (10, sl A25 t24.1 c26), (18, sl A38 t37.1 c39)] ∧ St w no w1 [box b5 (cPasture.enc t4) 31, rowC cSpot A7 c8 55 t6, rowC cSpot A14 c15 55 t13, rowsC cSpot A38 c39 33 55 D40 t37.1] [roC (ci .u8) Aa0 ca0 a0, roC (ci .u8) Aa1 ca1 a1, envC Tryz.prog 0, roC cHurdle A25 c26 t24.1]) ?_ ?_
 refine CJ.block ?_
 refine LQ (fun k F w1 => ∃ (y63 : Int), F = [(5, pt b5), (6, sl A7 t6 c8), (7, sl A14 t13 c15), (10, sl A25 t24.1 c26), (18, sl A38 t37.1 c39), (30, i6 y63)] ∧ St w no w1 [box b5 (cPasture.enc t4) 31, rowC cSpot A7 c8 55 t6, rowC cSpot A14 c15 55 t13, rowsC cSpot A38 c39 33 55 D40 t37.1] [roC (ci .u8) Aa0 ca0 a0, roC (ci .u8) Aa1 ca1 a1, envC Tryz.prog 0, roC cHurdle A25 c26 t24.1] ∧ q0o.l3 t4 t6 t13 t24 k y63 = some j393) k H hS ?_
 rintro k F w1 ⟨y63, rfl, hS, H⟩
 rw [q0o.l3] at H
 refine GO ?_
 refine CP H (fun H => GO ?_) (fun H => ?_)
 refine CJ.block ?_
 refine GO ?_
 obtain ⟨u64, hu64, H⟩ := pbind H
 obtain ⟨u65, hu65, H⟩ := pbind H
 obtain ⟨u67, hu67, H⟩ := pbind H
 obtain ⟨u70, hu70, H⟩ := pbind H
 refine CJ.cut1 (fun F w1 => ∃ (A71 c72 : _), F = [(5, pt b5), (6, sl A7 t6 c8), (7, sl A14 t13 c15), (10, sl A25 t24.1 c26), (18, sl A38 t37.1 c39), (30, i6 y63), (31, sl A71 ((([] : List Hurdle) ++ ((t24.1.drop 0).take (y63.toNat - 0))) ++ ((t24.1.drop ((IntKind.i64.wrap (y63 + 1)).toNat)).take (t24.1.length - ((IntKind.i64.wrap (y63 + 1)).toNat)))) c72)] ∧ St w no w1 [box b5 (cPasture.enc t4) 31, rowC cSpot A7 c8 55 t6, rowC cSpot A14 c15 55 t13, rowsC cSpot A38 c39 33 55 D40 t37.1, rowC cHurdle A71 c72 58 ((([] : List Hurdle) ++ ((t24.1.drop 0).take (y63.toNat - 0))) ++ ((t24.1.drop ((IntKind.i64.wrap (y63 + 1)).toNat)).take (t24.1.length - ((IntKind.i64.wrap (y63 + 1)).toNat))))] [roC (ci .u8) Aa0 ca0 a0, roC (ci .u8) Aa1 ca1 a1, envC Tryz.prog 0, roC cHurdle A25 c26 t24.1, roC cHurdle (cutA A25 c26 0 cHurdle.sz) (c26 - 0) ((t24.1.drop 0).take (y63.toNat - 0)), roC cHurdle (cutA A25 c26 ((IntKind.i64.wrap (y63 + 1)).toNat) cHurdle.sz) (c26 - ((IntKind.i64.wrap (y63 + 1)).toNat)) ((t24.1.drop ((IntKind.i64.wrap (y63 + 1)).toNat)).take (t24.1.length - ((IntKind.i64.wrap (y63 + 1)).toNat)))]) ?_ ?_
 refine CJ.drawT [] [0, 4, 9] (.one 1 (.one 2 (.one 3 (.one 5 (.one 6 (.one 7 (.one 8 (.one 0 (.one 4 (.one 9 (.one 10 (.fin)))))))))))) mixed (by kernel_rfl) hS [] fun w1 hS hY hV => ?_
 refine GO ?_
 refine TJ.st hY rfl rfl rfl rfl rfl (fun w2 hY => SR.cutS oU oI (0) (y63.toNat) rfl rfl rfl rfl rfl rfl (.inl ⟨rfl, rfl⟩) (.inr ⟨_, _, rfl, (by have := (chk_some hu64); omega), rfl⟩) (by have := (chk_some hu64); omega) (by have := (chk_some hu64); have := ((hV w2 hY).le' (i := 3) rfl : t24.1.length ≤ c26); omega)) ?_
 replace hS := hS.cutR (i := 3) (lo := 0) (hi := y63.toNat) rfl (by have := (chk_some hu64); omega) (by have := (chk_some hu64); omega)
 refine TJ.as (t := 259) rfl (show _ = (.slice (cutA A25 c26 0 cHurdle.sz) ((t24.1.drop 0).take (y63.toNat - 0)).length (c26 - 0) : Value) by rw [cutLen (by have := (chk_some hu64); omega) (by have := (chk_some hu64); omega)]; rfl) ?_
 refine GO ?_
 refine TJ.st hY rfl rfl rfl rfl rfl (fun w2 hY => SR.cutS oU oI ((IntKind.i64.wrap (y63 + 1)).toNat) (t24.1.length) rfl rfl rfl rfl rfl rfl (.inr ⟨_, _, rfl, (chk_some hu65).1, rfl⟩) (.inl ⟨rfl, rfl⟩) (by have := (chk_some hu65); omega) (by have := (chk_some hu65); have := ((hV w2 hY).le' (i := 3) rfl : t24.1.length ≤ c26); omega)) ?_
 replace hS := hS.cutR (i := 3) (lo := (IntKind.i64.wrap (y63 + 1)).toNat) (hi := t24.1.length) rfl (by have := (chk_some hu65); omega) (by have := (chk_some hu65); omega)
 refine TJ.as (t := 264) rfl (show _ = (.slice (cutA A25 c26 ((IntKind.i64.wrap (y63 + 1)).toNat) cHurdle.sz) ((t24.1.drop ((IntKind.i64.wrap (y63 + 1)).toNat)).take (t24.1.length - ((IntKind.i64.wrap (y63 + 1)).toNat))).length (c26 - ((IntKind.i64.wrap (y63 + 1)).toNat)) : Value) by rw [cutLen (by have := (chk_some hu65); omega) (by have := (chk_some hu65); omega)]; rfl) ?_
 refine TF hY (EL hS cHurdle ([] : List Hurdle)) ?_
 rintro _ w1 hY ⟨A73, rfl, hS⟩
 refine tW [] 4 4 hY hS (rA hS 4 Z) (chk_some hu67) fun A74 c75 w1 hY (hS : St _ _ _ [_, _, _, _, _] _) => ?_
 refine tW [] 4 4 hY hS (rA hS 5 Z) (chk_some hu70) fun A76 c77 w1 hY (hS : St _ _ _ [_, _, _, _, _] _) => ?_
 exact MD H hS
 rintro F w1 ⟨A71, c72, rfl, hS⟩
 refine EJ.next ?_
 refine GO ?_
 refine oS (SE (ce hS 0)) ?_
 refine oB H hS hb14 (q28.c t4 (rC hS 1 Z) (rD hS 1 Z) (rC hS 2 Z) (rD hS 2 Z) (rC hS 4 Z) (rD hS 4 Z)) fun t78 w1 H hS => ?_
 refine CJ.draw [] [0, 1, 2, 3, 4, 5, 6, 7, 8, 9, 10, 11, 12, 13] mixed (by kernel_rfl) hS fun w1 hS => ?_
 refine GO ?_
 refine DJ.split (t := 276) Z (fun hb => ?_) (fun hb => ?_)
 replace H := pif_t (of_decide_eq_true hb) H
 refine GO ?_
 refine CJ.condT Z ?_
 refine GO ?_
 obtain rfl := Option.some.inj H; have H := K393
 exact FE H hS
 replace H := pif_f (of_decide_eq_false hb) H
 refine GO ?_
 refine DJ.split (t := 279) Z (fun hb => ?_) (fun hb => ?_)
 replace H := pif_t hb H
 refine GO ?_
 refine CJ.condT Z ?_
 refine GO ?_
 obtain rfl := Option.some.inj H; have H := K393
 exact FE H hS
 replace H := pifb_f hb H
 refine dS (SE (ce hS 0)) ?_
 obtain ⟨t79, ht79, H⟩ := pbind H
 obtain ⟨ad79, e79⟩ := (rA hS 3 Z).some' ht79
 refine DS (SI e79 (getI_some ht79).1) ?_
 refine DS (SE ((rA hS 3 Z).at_ e79 ht79)) ?_
 obtain ⟨t80, ht80, H⟩ := pbind H
 refine DJ.callF rfl rfl rfl rfl rfl rfl rfl hb23 rfl (q30.c t4 t79 _ ht80) (by rintro v w' ⟨rfl, hs⟩; exact hs) ?_
 rintro _ w1 ⟨rfl, hs⟩
 replace hS := hS.grow hs
 refine GO ?_
 refine CB H (fun H => GO ?_) (fun H => ?_)
 obtain rfl := Option.some.inj H; have H := K393
 exact FE H hS
 exact MD H hS
 exact MD H hS
 rintro F w1 ⟨⟨⟩, rfl, hS⟩
 have H := K393
 refine EJ.next ?_
 refine GO ?_
 refine oS (SE (ce hS 0)) ?_
 obtain ⟨t81, ht81, H⟩ := pbind H
 refine OC hb8 (q2r.c t4 (rC hS 2 Z) (rD hS 2 Z) (rC hS 1 Z) (rD hS 1 Z) _ ht81) ?_
 rintro _ w1 ⟨A82, c83, rfl, hs⟩
 replace hS := hS.addN hs
 refine GO ?_
 refine oS (SE (ce hS 0)) ?_
 obtain ⟨t84, ht84, H⟩ := pbind H
 refine OC hb21 (q2t.c t4 (rC hS 1 Z) (rD hS 1 Z) _ ht84) ?_
 rintro _ w1 ⟨A85, c86, rfl, hs⟩
 replace hS := hS.addN hs
 have hS : St _ _ _ [_, _, _, _, _, _] _ := hS
 refine GO ?_
 refine oS (SE (ce hS 0)) ?_
 refine oB H hS hb24 (q34.c t4 (rA hS 3 Z) (rB hS 3 Z)) fun t87 w1 H hS => ?_
 refine OJ.ef rfl rfl rfl (Ef.alloc hS oI rfl rfl (cPasture.enc (⟨0, 0, (Arr.mk' (Arr.mk' 0 : Arr 10 Int) : Arr 10 (Arr 10 Int)), (Arr.mk' 0 : Arr 10 Int), (Arr.mk' 0 : Arr 10 Int)⟩ : Pasture)) (by kernel_rfl)) ?_
 rintro _ w1 ⟨b88, rfl, hS⟩
 refine OJ.es rfl rfl (Es.put oI hS (i := 6) rfl rfl rfl rfl rfl (vs := cPasture.enc t87.1) rfl (cPasture.len _) (cPasture.one _) (Put.all cPasture (⟨0, 0, (Arr.mk' (Arr.mk' 0 : Arr 10 Int) : Arr 10 (Arr 10 Int)), (Arr.mk' 0 : Arr 10 Int), (Arr.mk' 0 : Arr 10 Int)⟩ : Pasture) t87.1) (by (try simp only [add_lit, Nat.add_assoc, Nat.zero_add, Nat.add_zero]) <;> first | rfl | (congr 1; exact Nat.zero_add _))) ?_
 intro w1 hS
 refine GO ?_
 refine oS (SE (ce hS 6)) ?_
 refine oB H hS hb25 (q31.c t87.1 (rA hS 3 Z) (rB hS 3 Z)) fun t89 w1 H hS => ?_
 refine OJ.ef rfl rfl rfl (Ef.alloc hS oI rfl rfl (cPasture.enc (⟨0, 0, (Arr.mk' (Arr.mk' 0 : Arr 10 Int) : Arr 10 (Arr 10 Int)), (Arr.mk' 0 : Arr 10 Int), (Arr.mk' 0 : Arr 10 Int)⟩ : Pasture)) (by kernel_rfl)) ?_
 rintro _ w1 ⟨b90, rfl, hS⟩
 refine OJ.es rfl rfl (Es.put oI hS (i := 7) rfl rfl rfl rfl rfl (vs := cPasture.enc t89.1) rfl (cPasture.len _) (cPasture.one _) (Put.all cPasture (⟨0, 0, (Arr.mk' (Arr.mk' 0 : Arr 10 Int) : Arr 10 (Arr 10 Int)), (Arr.mk' 0 : Arr 10 Int), (Arr.mk' 0 : Arr 10 Int)⟩ : Pasture) t89.1) (by (try simp only [add_lit, Nat.add_assoc, Nat.zero_add, Nat.add_zero]) <;> first | rfl | (congr 1; exact Nat.zero_add _))) ?_
 intro w1 hS
 refine PX 1 ?_
 refine CJ.seq ?_
 obtain ⟨j394, H, K394⟩ := pbind H
 refine CJ.cut (fun F w1 => ∃ y91, some y91 = some j394 ∧ F = [(5, pt b5), (6, sl A7 t6 c8), (7, sl A14 t13 c15), (18, sl A38 t37.1 c39), (345, .bool y91)] ∧ St w no w1 [box b5 (cPasture.enc t4) 31, rowC cSpot A7 c8 55 t6, rowC cSpot A14 c15 55 t13, rowsC cSpot A38 c39 33 55 D40 t37.1] [roC (ci .u8) Aa0 ca0 a0, roC (ci .u8) Aa1 ca1 a1, envC Tryz.prog 0, roC cHurdle A25 c26 t24.1]) ?_ ?_
 refine GO ?_
 refine OJ.split (t := 315) Z (fun hb => ?_) (fun hb => ?_)
 replace H := pif_t (of_decide_eq_true hb) H
 exact MD H hS
 replace H := pif_f (of_decide_eq_false hb) H
 refine GO ?_
 refine OJ.split (t := 322) Z (fun hb => ?_) (fun hb => ?_)
 replace H := pif_t (of_decide_eq_true hb) H
 exact MD H hS
 replace H := pif_f (of_decide_eq_false hb) H
 refine GO ?_
 refine OJ.split (t := 326) Z (fun hb => ?_) (fun hb => ?_)
 replace H := pif_t (of_decide_eq_true hb) H
 exact MD H hS
 replace H := pif_f (of_decide_eq_false hb) H
 refine GO ?_
 refine OJ.split (t := 333) Z (fun hb => ?_) (fun hb => ?_)
 replace H := pif_t (of_decide_eq_true hb) H
 exact MD H hS
 replace H := pif_f (of_decide_eq_false hb) H
 refine GO ?_
 refine OJ.split (t := 337) Z (fun hb => ?_) (fun hb => ?_)
 replace H := pif_t (of_decide_eq_true hb) H
 exact MD H hS
 replace H := pif_f (of_decide_eq_false hb) H
 refine GO ?_
 refine OJ.split (t := 341) Z (fun hb => ?_) (fun hb => ?_)
 replace H := pif_t (of_decide_eq_true hb) H
 exact MD H hS
 replace H := pif_f (of_decide_eq_false hb) H
 refine OS (SE (ce hS 7)) ?_
 refine OS (SE (ce hS 0)) ?_
 refine OJ.st Z Z Z (SR.neS eqT31 eqG31 Z Z Z (Z : _ = (cPasture.enc t89.1).toArray) (Z : _ = (cPasture.enc t4).toArray)) ?_
 exact MD H hS
 rintro F w1 ⟨y91, he, rfl, hS⟩
 obtain rfl := Option.some.inj he
 have H := K394
 refine CB H (fun H => ?_) (fun H => ?_)
 exact FE H hS
 refine GO ?_
 refine CP H (fun H => ?_) (fun H => ?_)
 exact FE H hS
 refine GO ?_
 obtain ⟨t92, ht92, H⟩ := pbind H
 obtain ⟨u94, hu94, H⟩ := pbind H
 obtain ⟨u98, hu98, H⟩ := pbind H
 obtain ⟨t101, ht101, H⟩ := pbind H
 refine CJ.cut1 (fun F w1 => F = [(42, .bool t101.1), (43, i6 t101.2)] ∧ St w no w1 [box b5 (cPasture.enc t4) 31, rowC cSpot A7 c8 55 t6, rowC cSpot A14 c15 55 t13, rowsC cSpot A38 c39 33 55 D40 t37.1] [roC (ci .u8) Aa0 ca0 a0, roC (ci .u8) Aa1 ca1 a1, envC Tryz.prog 0, roC cHurdle A25 c26 t24.1]) ?_ ?_
 refine CJ.drawT [] [3, 5, 9, 10, 11] (.one 0 (.one 1 (.one 2 (.one 4 (.one 6 (.one 7 (.one 8 (.br (.alt 3 (.br (.alt 5 (.one 9 (.one 10 (.one 11 (.one 12 (.one 13 (.one 14 (.one 15 (.one 16 (.fin))))))))) (.alt 9 (.one 5 (.one 10 (.one 11 (.one 12 (.one 13 (.one 14 (.one 15 (.one 16 (.fin))))))))) (.stop)))) (.alt 9 (.one 3 (.one 5 (.one 10 (.one 11 (.one 12 (.one 13 (.one 14 (.one 15 (.one 16 (.fin)))))))))) (.stop))))))))))) mixed (by kernel_rfl) hS [0, 3] fun w1 hS hY hV => ?_
 refine TJ.st hY Z Z Z Z Z (fun w2 hY => SR.load Z Z (fun w' hx => ldE oU oI Z Z Z (CA.ext ((hV w2 hY).cellsR (i := 4) Z) hx) Z)) ?_
 refine GO ?_
 obtain ⟨Ae92, ce92, g92, d92, hx92⟩ := ros_el (hS.rowsRo (i := 3) rfl) ht92
 obtain ⟨ad92, e92⟩ := (ros_rd (hS.rowsRo (i := 3) rfl)).some' g92
 refine TP (fun _ => SI e92 (getI_some ht92).1) ?_
 refine TL hY (fun w2 hY => SL ((ros_rd ((hV w2 hY).rowsRoR (i := 5) Z)).at_ e92 g92)) ?_
 refine TJ.br ?_
 refine TJ.alt ?_ ?_
 refine TF hY (EL hS csv (hsl (α := Spot) ([] : List SH) ([] : List (List Spot)))) ?_
 rintro _ w1 hY ⟨A102, rfl, hS⟩
 refine TJ.br ?_
 refine TJ.alt ?_ ?_
 have ha103 : (hsl (α := Spot) ([] : List SH) ([] : List (List Spot))).length = ([] : List (List Spot)).length := rfl
 have hb103 : (hsl (α := Spot) D40 t37.1).length = t37.1.length := (hsl_len (hS.rowsRo (i := 3) rfl).1)
 have hl103 : ((hsl (α := Spot) ([] : List SH) ([] : List (List Spot))) ++ (hsl (α := Spot) D40 t37.1)).length = (([] : List (List Spot)) ++ t37.1).length := len2 ha103 hb103
 have hf103 : ([] : List SH).length = ([] : List (List Spot)).length := rfl
 have hg103 : D40.length = t37.1.length := (hS.rowsRo (i := 3) rfl).1
 have hd103 : (([] : List SH) ++ D40).length = (([] : List (List Spot)) ++ t37.1).length := len2 hf103 hg103
 have he103 : ((hsl (α := Spot) ([] : List SH) ([] : List (List Spot))) ++ (hsl (α := Spot) D40 t37.1)) = hsl (([] : List SH) ++ D40) (([] : List (List Spot)) ++ t37.1) := by rw [hsl_app hf103, ← (show (hsl (α := Spot) ([] : List SH) ([] : List (List Spot))) = hsl ([] : List SH) ([] : List (List Spot)) from rfl), ← (show (hsl (α := Spot) D40 t37.1) = hsl D40 t37.1 from rfl)]
 have hO := hS
 refine TJ.ew rfl rfl rfl rfl rfl (Ew.appendL oU oI (C := csv) (xs := (hsl (α := Spot) ([] : List SH) ([] : List (List Spot)))) (ys := (hsl (α := Spot) D40 t37.1)) (hS.inn [0, 3]) (i := 4) rfl rfl rfl rfl rfl rfl rfl rfl rfl rfl rfl rfl rfl (ros_rd (hS.rowsRo (i := 3) rfl)) (by rw [ha103, hb103]; exact chk_some hu94) ha103 hb103 hl103) (by rintro _ w1 ⟨A103, c104, rfl, hS⟩; exact hY.wr (hO.inY [0, 3] 4 rfl rfl) hS.chg) ?_
 rintro _ w1 hY ⟨A103, c104, rfl, hS⟩
 have hS : St _ _ _ [_, _, _, _, _] _ := hO.out [0, 3] hS
 refine TF hY (EL hS csv (hsl (α := Spot) ([(Ae92, ce92)] : List SH) ([t92] : List (List Spot)))) ?_
 rintro _ w1 hY ⟨A105, rfl, hS⟩
 have ha106 : ((hsl (α := Spot) ([] : List SH) ([] : List (List Spot))) ++ (hsl (α := Spot) D40 t37.1)).length = (([] : List (List Spot)) ++ t37.1).length := hl103
 have hb106 : (hsl (α := Spot) ([(Ae92, ce92)] : List SH) ([t92] : List (List Spot))).length = ([t92] : List (List Spot)).length := rfl
 have hl106 : (((hsl (α := Spot) ([] : List SH) ([] : List (List Spot))) ++ (hsl (α := Spot) D40 t37.1)) ++ (hsl (α := Spot) ([(Ae92, ce92)] : List SH) ([t92] : List (List Spot)))).length = ((([] : List (List Spot)) ++ t37.1) ++ ([t92] : List (List Spot))).length := len2 ha106 hb106
 have hf106 : (([] : List SH) ++ D40).length = (([] : List (List Spot)) ++ t37.1).length := hd103
 have hg106 : ([(Ae92, ce92)] : List SH).length = ([t92] : List (List Spot)).length := rfl
 have hd106 : ((([] : List SH) ++ D40) ++ ([(Ae92, ce92)] : List SH)).length = ((([] : List (List Spot)) ++ t37.1) ++ ([t92] : List (List Spot))).length := len2 hf106 hg106
 have he106 : (((hsl (α := Spot) ([] : List SH) ([] : List (List Spot))) ++ (hsl (α := Spot) D40 t37.1)) ++ (hsl (α := Spot) ([(Ae92, ce92)] : List SH) ([t92] : List (List Spot)))) = hsl ((([] : List SH) ++ D40) ++ ([(Ae92, ce92)] : List SH)) ((([] : List (List Spot)) ++ t37.1) ++ ([t92] : List (List Spot))) := by rw [hsl_app hf106, ← (show ((hsl (α := Spot) ([] : List SH) ([] : List (List Spot))) ++ (hsl (α := Spot) D40 t37.1)) = hsl (([] : List SH) ++ D40) (([] : List (List Spot)) ++ t37.1) from he103), ← (show (hsl (α := Spot) ([(Ae92, ce92)] : List SH) ([t92] : List (List Spot))) = hsl ([(Ae92, ce92)] : List SH) ([t92] : List (List Spot)) from rfl)]
 have hO := hS
 refine TJ.ew rfl rfl rfl rfl rfl (Ew.appendL oU oI (C := csv) (xs := ((hsl (α := Spot) ([] : List SH) ([] : List (List Spot))) ++ (hsl (α := Spot) D40 t37.1))) (ys := (hsl (α := Spot) ([(Ae92, ce92)] : List SH) ([t92] : List (List Spot)))) (hS.inn [0, 3]) (i := 4) rfl rfl rfl rfl rfl rfl rfl rfl rfl rfl rfl rfl rfl (rC hS 5 Z) (by rw [ha106, hb106]; exact chk_some hu98) ha106 hb106 hl106) (by rintro _ w1 ⟨A106, c107, rfl, hS⟩; exact hY.wr (hO.inY [0, 3] 4 rfl rfl) hS.chg) ?_
 rintro _ w1 hY ⟨A106, c107, rfl, hS⟩
 have hS : St _ _ _ [_, _, _, _, _, _] _ := hO.out [0, 3] hS
 refine TJ.callF hY rfl rfl rfl rfl rfl rfl rfl hb15 rfl (q0f.c t4 (rC hS 1 Z) (rD hS 1 Z) (rC hS 2 Z) (rD hS 2 Z) ((([] : List SH) ++ D40) ++ ([(Ae92, ce92)] : List SH)) (ros_lit' hS (i := 4) rfl he106 (Inn.app (Inn.app trivial (Inn.of (hS.rowsRo (i := 3) rfl))) ⟨⟨(ros_sub (hS.rowsRo (i := 3) rfl) d92 hx92), (ros_subLe (hS.rowsRo (i := 3) rfl) d92 hx92)⟩, trivial⟩)) _ ht101) (by rintro v w' ⟨rfl, hs⟩; exact hs) ?_
 rintro _ w1 hY ⟨rfl, hs⟩
 replace hS := hS.grow hs
 exact MD H hS
 refine TJ.alt ?_ ?_
 refine TF hY (EL hS csv (hsl (α := Spot) ([(Ae92, ce92)] : List SH) ([t92] : List (List Spot)))) ?_
 rintro _ w1 hY ⟨A108, rfl, hS⟩
 have ha109 : (hsl (α := Spot) ([] : List SH) ([] : List (List Spot))).length = ([] : List (List Spot)).length := rfl
 have hb109 : (hsl (α := Spot) D40 t37.1).length = t37.1.length := (hsl_len (hS.rowsRo (i := 3) rfl).1)
 have hl109 : ((hsl (α := Spot) ([] : List SH) ([] : List (List Spot))) ++ (hsl (α := Spot) D40 t37.1)).length = (([] : List (List Spot)) ++ t37.1).length := len2 ha109 hb109
 have hf109 : ([] : List SH).length = ([] : List (List Spot)).length := rfl
 have hg109 : D40.length = t37.1.length := (hS.rowsRo (i := 3) rfl).1
 have hd109 : (([] : List SH) ++ D40).length = (([] : List (List Spot)) ++ t37.1).length := len2 hf109 hg109
 have he109 : ((hsl (α := Spot) ([] : List SH) ([] : List (List Spot))) ++ (hsl (α := Spot) D40 t37.1)) = hsl (([] : List SH) ++ D40) (([] : List (List Spot)) ++ t37.1) := by rw [hsl_app hf109, ← (show (hsl (α := Spot) ([] : List SH) ([] : List (List Spot))) = hsl ([] : List SH) ([] : List (List Spot)) from rfl), ← (show (hsl (α := Spot) D40 t37.1) = hsl D40 t37.1 from rfl)]
 have hO := hS
 refine TJ.ew rfl rfl rfl rfl rfl (Ew.appendL oU oI (C := csv) (xs := (hsl (α := Spot) ([] : List SH) ([] : List (List Spot)))) (ys := (hsl (α := Spot) D40 t37.1)) (hS.inn [0, 3]) (i := 4) rfl rfl rfl rfl rfl rfl rfl rfl rfl rfl rfl rfl rfl (ros_rd (hS.rowsRo (i := 3) rfl)) (by rw [ha109, hb109]; exact chk_some hu94) ha109 hb109 hl109) (by rintro _ w1 ⟨A109, c110, rfl, hS⟩; exact hY.wr (hO.inY [0, 3] 4 rfl rfl) hS.chg) ?_
 rintro _ w1 hY ⟨A109, c110, rfl, hS⟩
 have hS : St _ _ _ [_, _, _, _, _, _] _ := hO.out [0, 3] hS
 have ha111 : ((hsl (α := Spot) ([] : List SH) ([] : List (List Spot))) ++ (hsl (α := Spot) D40 t37.1)).length = (([] : List (List Spot)) ++ t37.1).length := hl109
 have hb111 : (hsl (α := Spot) ([(Ae92, ce92)] : List SH) ([t92] : List (List Spot))).length = ([t92] : List (List Spot)).length := rfl
 have hl111 : (((hsl (α := Spot) ([] : List SH) ([] : List (List Spot))) ++ (hsl (α := Spot) D40 t37.1)) ++ (hsl (α := Spot) ([(Ae92, ce92)] : List SH) ([t92] : List (List Spot)))).length = ((([] : List (List Spot)) ++ t37.1) ++ ([t92] : List (List Spot))).length := len2 ha111 hb111
 have hf111 : (([] : List SH) ++ D40).length = (([] : List (List Spot)) ++ t37.1).length := hd109
 have hg111 : ([(Ae92, ce92)] : List SH).length = ([t92] : List (List Spot)).length := rfl
 have hd111 : ((([] : List SH) ++ D40) ++ ([(Ae92, ce92)] : List SH)).length = ((([] : List (List Spot)) ++ t37.1) ++ ([t92] : List (List Spot))).length := len2 hf111 hg111
 have he111 : (((hsl (α := Spot) ([] : List SH) ([] : List (List Spot))) ++ (hsl (α := Spot) D40 t37.1)) ++ (hsl (α := Spot) ([(Ae92, ce92)] : List SH) ([t92] : List (List Spot)))) = hsl ((([] : List SH) ++ D40) ++ ([(Ae92, ce92)] : List SH)) ((([] : List (List Spot)) ++ t37.1) ++ ([t92] : List (List Spot))) := by rw [hsl_app hf111, ← (show ((hsl (α := Spot) ([] : List SH) ([] : List (List Spot))) ++ (hsl (α := Spot) D40 t37.1)) = hsl (([] : List SH) ++ D40) (([] : List (List Spot)) ++ t37.1) from he109), ← (show (hsl (α := Spot) ([(Ae92, ce92)] : List SH) ([t92] : List (List Spot))) = hsl ([(Ae92, ce92)] : List SH) ([t92] : List (List Spot)) from rfl)]
 have hO := hS
 refine TJ.ew rfl rfl rfl rfl rfl (Ew.appendL oU oI (C := csv) (xs := ((hsl (α := Spot) ([] : List SH) ([] : List (List Spot))) ++ (hsl (α := Spot) D40 t37.1))) (ys := (hsl (α := Spot) ([(Ae92, ce92)] : List SH) ([t92] : List (List Spot)))) (hS.inn [0, 3]) (i := 4) rfl rfl rfl rfl rfl rfl rfl rfl rfl rfl rfl rfl rfl (rC hS 5 Z) (by rw [ha111, hb111]; exact chk_some hu98) ha111 hb111 hl111) (by rintro _ w1 ⟨A111, c112, rfl, hS⟩; exact hY.wr (hO.inY [0, 3] 4 rfl rfl) hS.chg) ?_
 rintro _ w1 hY ⟨A111, c112, rfl, hS⟩
 have hS : St _ _ _ [_, _, _, _, _, _] _ := hO.out [0, 3] hS
 refine TJ.callF hY rfl rfl rfl rfl rfl rfl rfl hb15 rfl (q0f.c t4 (rC hS 1 Z) (rD hS 1 Z) (rC hS 2 Z) (rD hS 2 Z) ((([] : List SH) ++ D40) ++ ([(Ae92, ce92)] : List SH)) (ros_lit' hS (i := 4) rfl he111 (Inn.app (Inn.app trivial (Inn.of (hS.rowsRo (i := 3) rfl))) ⟨⟨(ros_sub (hS.rowsRo (i := 3) rfl) d92 hx92), (ros_subLe (hS.rowsRo (i := 3) rfl) d92 hx92)⟩, trivial⟩)) _ ht101) (by rintro v w' ⟨rfl, hs⟩; exact hs) ?_
 rintro _ w1 hY ⟨rfl, hs⟩
 replace hS := hS.grow hs
 exact MD H hS
 exact TJ.stop
 refine TJ.alt ?_ ?_
 refine TF hY (EL hS csv (hsl (α := Spot) ([(Ae92, ce92)] : List SH) ([t92] : List (List Spot)))) ?_
 rintro _ w1 hY ⟨A113, rfl, hS⟩
 refine TF hY (EL hS csv (hsl (α := Spot) ([] : List SH) ([] : List (List Spot)))) ?_
 rintro _ w1 hY ⟨A114, rfl, hS⟩
 have ha115 : (hsl (α := Spot) ([] : List SH) ([] : List (List Spot))).length = ([] : List (List Spot)).length := rfl
 have hb115 : (hsl (α := Spot) D40 t37.1).length = t37.1.length := (hsl_len (hS.rowsRo (i := 3) rfl).1)
 have hl115 : ((hsl (α := Spot) ([] : List SH) ([] : List (List Spot))) ++ (hsl (α := Spot) D40 t37.1)).length = (([] : List (List Spot)) ++ t37.1).length := len2 ha115 hb115
 have hf115 : ([] : List SH).length = ([] : List (List Spot)).length := rfl
 have hg115 : D40.length = t37.1.length := (hS.rowsRo (i := 3) rfl).1
 have hd115 : (([] : List SH) ++ D40).length = (([] : List (List Spot)) ++ t37.1).length := len2 hf115 hg115
 have he115 : ((hsl (α := Spot) ([] : List SH) ([] : List (List Spot))) ++ (hsl (α := Spot) D40 t37.1)) = hsl (([] : List SH) ++ D40) (([] : List (List Spot)) ++ t37.1) := by rw [hsl_app hf115, ← (show (hsl (α := Spot) ([] : List SH) ([] : List (List Spot))) = hsl ([] : List SH) ([] : List (List Spot)) from rfl), ← (show (hsl (α := Spot) D40 t37.1) = hsl D40 t37.1 from rfl)]
 have hO := hS
 refine TJ.ew rfl rfl rfl rfl rfl (Ew.appendL oU oI (C := csv) (xs := (hsl (α := Spot) ([] : List SH) ([] : List (List Spot)))) (ys := (hsl (α := Spot) D40 t37.1)) (hS.inn [0, 3]) (i := 5) rfl rfl rfl rfl rfl rfl rfl rfl rfl rfl rfl rfl rfl (ros_rd (hS.rowsRo (i := 3) rfl)) (by rw [ha115, hb115]; exact chk_some hu94) ha115 hb115 hl115) (by rintro _ w1 ⟨A115, c116, rfl, hS⟩; exact hY.wr (hO.inY [0, 3] 4 rfl rfl) hS.chg) ?_
 rintro _ w1 hY ⟨A115, c116, rfl, hS⟩
 have hS : St _ _ _ [_, _, _, _, _, _] _ := hO.out [0, 3] hS
 have ha117 : ((hsl (α := Spot) ([] : List SH) ([] : List (List Spot))) ++ (hsl (α := Spot) D40 t37.1)).length = (([] : List (List Spot)) ++ t37.1).length := hl115
 have hb117 : (hsl (α := Spot) ([(Ae92, ce92)] : List SH) ([t92] : List (List Spot))).length = ([t92] : List (List Spot)).length := rfl
 have hl117 : (((hsl (α := Spot) ([] : List SH) ([] : List (List Spot))) ++ (hsl (α := Spot) D40 t37.1)) ++ (hsl (α := Spot) ([(Ae92, ce92)] : List SH) ([t92] : List (List Spot)))).length = ((([] : List (List Spot)) ++ t37.1) ++ ([t92] : List (List Spot))).length := len2 ha117 hb117
 have hf117 : (([] : List SH) ++ D40).length = (([] : List (List Spot)) ++ t37.1).length := hd115
 have hg117 : ([(Ae92, ce92)] : List SH).length = ([t92] : List (List Spot)).length := rfl
 have hd117 : ((([] : List SH) ++ D40) ++ ([(Ae92, ce92)] : List SH)).length = ((([] : List (List Spot)) ++ t37.1) ++ ([t92] : List (List Spot))).length := len2 hf117 hg117
 have he117 : (((hsl (α := Spot) ([] : List SH) ([] : List (List Spot))) ++ (hsl (α := Spot) D40 t37.1)) ++ (hsl (α := Spot) ([(Ae92, ce92)] : List SH) ([t92] : List (List Spot)))) = hsl ((([] : List SH) ++ D40) ++ ([(Ae92, ce92)] : List SH)) ((([] : List (List Spot)) ++ t37.1) ++ ([t92] : List (List Spot))) := by rw [hsl_app hf117, ← (show ((hsl (α := Spot) ([] : List SH) ([] : List (List Spot))) ++ (hsl (α := Spot) D40 t37.1)) = hsl (([] : List SH) ++ D40) (([] : List (List Spot)) ++ t37.1) from he115), ← (show (hsl (α := Spot) ([(Ae92, ce92)] : List SH) ([t92] : List (List Spot))) = hsl ([(Ae92, ce92)] : List SH) ([t92] : List (List Spot)) from rfl)]
 have hO := hS
 refine TJ.ew rfl rfl rfl rfl rfl (Ew.appendL oU oI (C := csv) (xs := ((hsl (α := Spot) ([] : List SH) ([] : List (List Spot))) ++ (hsl (α := Spot) D40 t37.1))) (ys := (hsl (α := Spot) ([(Ae92, ce92)] : List SH) ([t92] : List (List Spot)))) (hS.inn [0, 3]) (i := 5) rfl rfl rfl rfl rfl rfl rfl rfl rfl rfl rfl rfl rfl (rC hS 4 Z) (by rw [ha117, hb117]; exact chk_some hu98) ha117 hb117 hl117) (by rintro _ w1 ⟨A117, c118, rfl, hS⟩; exact hY.wr (hO.inY [0, 3] 4 rfl rfl) hS.chg) ?_
 rintro _ w1 hY ⟨A117, c118, rfl, hS⟩
 have hS : St _ _ _ [_, _, _, _, _, _] _ := hO.out [0, 3] hS
 refine TJ.callF hY rfl rfl rfl rfl rfl rfl rfl hb15 rfl (q0f.c t4 (rC hS 1 Z) (rD hS 1 Z) (rC hS 2 Z) (rD hS 2 Z) ((([] : List SH) ++ D40) ++ ([(Ae92, ce92)] : List SH)) (ros_lit' hS (i := 5) rfl he117 (Inn.app (Inn.app trivial (Inn.of (hS.rowsRo (i := 3) rfl))) ⟨⟨(ros_sub (hS.rowsRo (i := 3) rfl) d92 hx92), (ros_subLe (hS.rowsRo (i := 3) rfl) d92 hx92)⟩, trivial⟩)) _ ht101) (by rintro v w' ⟨rfl, hs⟩; exact hs) ?_
 rintro _ w1 hY ⟨rfl, hs⟩
 replace hS := hS.grow hs
 exact MD H hS
 exact TJ.stop
 rintro F w1 ⟨rfl, hS⟩
 refine EJ.next ?_
 refine GO ?_
 refine OJ.split (t := 366) Z (fun hb => ?_) (fun hb => ?_)
 replace H := pif_t (of_decide_eq_true hb) H
 exact FE H hS
 replace H := pif_f (of_decide_eq_false hb) H
 exact FE H hS
end Go.Proofs.YtegibnmfiogebaaGreatDoor
