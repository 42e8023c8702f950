/-
  What the functions come to.
-/
import Derived.Test.YtegibnmfiogebaaGreatDoorHK
import Derived.Test.YtegibnmfiogebaaGreatDoorCs
namespace Go.Proofs.YtegibnmfiogebaaGreatDoor
open G
set_option linter.unusedVariables false
set_option linter.unusedSimpArgs false
set_option maxRecDepth 100000
set_option maxHeartbeats 4000000
def q3a.f (a0 : List Int) : Option Bool := some (decide (4096 < (a0.length : Int)))
theorem q3a.c {w Aa0 ca0} {a0 : List Int} (hr0 : Rd (ci .u8) w Aa0 a0) (hc0 : a0.length ≤ ca0) (r : Bool) (H : q3a.f a0 = some r) :
 CV Tryz.prog 4 [sl Aa0 a0 ca0].toArray w fun v w' => v = .bool r ∧ Ext w w' := by
 have hS := ((St.init w no).param (ci .u8) Aa0 ca0 a0 hr0 hc0)
 unfold q3a.f at H
 refine CV.body Tryz.func4 Z Tryz.ntmps4 Z ?_
 exact FE H hS

def q33.f (a0 : List Int) : Option l00Src := some (⟨a0, 0, 0⟩ : l00Src)
theorem q33.c {w Aa0 ca0} {a0 : List Int} (hr0 : Rd (ci .u8) w Aa0 a0) (hc0 : a0.length ≤ ca0) (r : l00Src) (H : q33.f a0 = some r) :
 CV Tryz.prog 27 [sl Aa0 a0 ca0].toArray w fun v w' => ∃ (bn : Nat), v = pt bn ∧ St w no w' [box bn ([sl Aa0 a0 ca0, i6 r.at_, .int .u64 r.seed]) 113] [] := by
 have hS := ((St.init w no).param (ci .u8) Aa0 ca0 a0 hr0 hc0)
 unfold q33.f at H
 refine CV.body Tryz.func27 Z Tryz.ntmps27 Z ?_
 refine GO ?_
 refine OJ.st Z Z Z (SR.build' oU oI Z Z Z (zs := [.slice none 0 0, i6 0, .int .u64 0]) Z Z Z ([sl Aa0 a0 ca0, i6 0, .int .u64 0]) Z) ?_
 refine oX hS ([sl Aa0 a0 ca0, i6 0, .int .u64 0]) fun b1 w1 hS => ?_
 obtain rfl := Option.some.inj H
 exact FT ⟨b1, Z, hS.pick [0] [] Z⟩

def q2b.f (a0 : l00Src) : Option (Int × l00Src) := if a0.at_ < (a0.code.length : Int) then ((getI a0.code a0.at_).bind fun t1 => if (IntKind.i64.wrap (a0.at_ + 1)) ≤ (a0.code.length : Int) then (some (IntKind.i64.wrap t1, (⟨a0.code, IntKind.i64.wrap (a0.at_ + 1), IntKind.u64.wrap ((IntKind.u64.wrap ((IntKind.u64.wrap (a0.seed * 6364136223846793005)) + (IntKind.u64.wrap (IntKind.i64.wrap t1)))) + 1442695040888963407)⟩ : l00Src))) else (some (IntKind.i64.wrap (andI .u64 (shrI .u64 (IntKind.u64.wrap ((IntKind.u64.wrap ((IntKind.u64.wrap (a0.seed * 6364136223846793005)) + (IntKind.u64.wrap (IntKind.i64.wrap t1)))) + 1442695040888963407)) 40) 255), (⟨a0.code, IntKind.i64.wrap (a0.at_ + 1), IntKind.u64.wrap ((IntKind.u64.wrap ((IntKind.u64.wrap (a0.seed * 6364136223846793005)) + (IntKind.u64.wrap (IntKind.i64.wrap t1)))) + 1442695040888963407)⟩ : l00Src)))) else (if (IntKind.i64.wrap (a0.at_ + 1)) ≤ (a0.code.length : Int) then (some (0, (⟨a0.code, IntKind.i64.wrap (a0.at_ + 1), IntKind.u64.wrap ((IntKind.u64.wrap ((IntKind.u64.wrap (a0.seed * 6364136223846793005)) + (IntKind.u64.wrap 0))) + 1442695040888963407)⟩ : l00Src))) else (some (IntKind.i64.wrap (andI .u64 (shrI .u64 (IntKind.u64.wrap ((IntKind.u64.wrap ((IntKind.u64.wrap (a0.seed * 6364136223846793005)) + (IntKind.u64.wrap 0))) + 1442695040888963407)) 40) 255), (⟨a0.code, IntKind.i64.wrap (a0.at_ + 1), IntKind.u64.wrap ((IntKind.u64.wrap ((IntKind.u64.wrap (a0.seed * 6364136223846793005)) + (IntKind.u64.wrap 0))) + 1442695040888963407)⟩ : l00Src))))
theorem q2b.c {w Aa0_0 ca0_0} (a0 : l00Src) (ba0 : Nat) (hin : St w (fpU [box ba0 ([sl Aa0_0 a0.code ca0_0, i6 a0.at_, .int .u64 a0.seed]) 113]) w [box ba0 ([sl Aa0_0 a0.code ca0_0, i6 a0.at_, .int .u64 a0.seed]) 113] [roC (ci .u8) Aa0_0 ca0_0 a0.code]) (r : Int × l00Src) (H : q2b.f a0 = some r) :
 CV Tryz.prog 69 [pt ba0].toArray w fun v w' => v = .int .i64 r.1 ∧ St w (fpU [box ba0 ([sl Aa0_0 a0.code ca0_0, i6 a0.at_, .int .u64 a0.seed]) 113]) w' [box ba0 ([sl Aa0_0 a0.code ca0_0, i6 r.2.at_, .int .u64 r.2.seed]) 113] [] := by
 have hS := hin
 unfold q2b.f at H
 refine CV.body Tryz.func69 Z Tryz.ntmps69 Z ?_
 refine GO ?_
 refine CJ.draw [] [0, 1, 2, 3, 4, 5, 6, 7, 8, 9] mixed (by kernel_rfl) hS fun w1 hS => ?_
 refine GO ?_
 refine dS (SL (cf hS 0 1)) ?_
 refine dS (SL (cf hS 0 0)) ?_
 refine CP H (fun H => ?_) (fun H => ?_)
 refine CJ.draw [] [0, 1, 2, 3, 4, 5, 6, 7, 8, 9, 10, 11] mixed (by kernel_rfl) hS fun w1 hS => ?_
 refine GO ?_
 refine dS (SL (cf hS 0 0)) ?_
 refine DS (SL (cf hS 0 1)) ?_
 refine xD H (rA hS 0 Z) fun t1 ad1 ht1 H => ?_
 refine oS (SL (cf hS 0 1)) ?_
 refine oE (WS hS 0 [.int .i64 (IntKind.i64.wrap (a0.at_ + 1))] [sl Aa0_0 a0.code ca0_0, i6 (IntKind.i64.wrap (a0.at_ + 1)), .int .u64 a0.seed]) fun w1 hS => ?_
 refine oS (SL (cf hS 0 2)) ?_
 refine oE (WS hS 0 [.int .u64 (IntKind.u64.wrap ((IntKind.u64.wrap ((IntKind.u64.wrap (a0.seed * 6364136223846793005)) + (IntKind.u64.wrap (IntKind.i64.wrap t1)))) + 1442695040888963407))] [sl Aa0_0 a0.code ca0_0, i6 (IntKind.i64.wrap (a0.at_ + 1)), .int .u64 (IntKind.u64.wrap ((IntKind.u64.wrap ((IntKind.u64.wrap (a0.seed * 6364136223846793005)) + (IntKind.u64.wrap (IntKind.i64.wrap t1)))) + 1442695040888963407))]) fun w1 hS => ?_
 refine CJ.draw [] [0, 1, 2, 3, 4, 5, 6, 7, 8, 9] mixed (by kernel_rfl) hS fun w1 hS => ?_
 refine GO ?_
 refine dS (SL (cf hS 0 1)) ?_
 refine dS (SL (cf hS 0 0)) ?_
 refine CP H (fun H => GO ?_) (fun H => ?_)
 obtain rfl := Option.some.inj H
 exact FT ⟨Z, hS.pick [0] [] Z⟩
 refine GO ?_
 refine OS (SL (cf hS 0 2)) ?_
 refine OJ.st rfl rfl rfl (SR.shr rfl rfl rfl (by decide)) ?_
 refine GO ?_
 obtain rfl := Option.some.inj H
 exact FT ⟨Z, hS.pick [0] [] Z⟩
 refine GO ?_
 refine oS (SL (cf hS 0 1)) ?_
 refine oE (WS hS 0 [.int .i64 (IntKind.i64.wrap (a0.at_ + 1))] [sl Aa0_0 a0.code ca0_0, i6 (IntKind.i64.wrap (a0.at_ + 1)), .int .u64 a0.seed]) fun w1 hS => ?_
 refine oS (SL (cf hS 0 2)) ?_
 refine oE (WS hS 0 [.int .u64 (IntKind.u64.wrap ((IntKind.u64.wrap ((IntKind.u64.wrap (a0.seed * 6364136223846793005)) + (IntKind.u64.wrap 0))) + 1442695040888963407))] [sl Aa0_0 a0.code ca0_0, i6 (IntKind.i64.wrap (a0.at_ + 1)), .int .u64 (IntKind.u64.wrap ((IntKind.u64.wrap ((IntKind.u64.wrap (a0.seed * 6364136223846793005)) + (IntKind.u64.wrap 0))) + 1442695040888963407))]) fun w1 hS => ?_
 refine CJ.draw [] [0, 1, 2, 3, 4, 5, 6, 7, 8, 9] mixed (by kernel_rfl) hS fun w1 hS => ?_
 refine GO ?_
 refine dS (SL (cf hS 0 1)) ?_
 refine dS (SL (cf hS 0 0)) ?_
 refine CP H (fun H => GO ?_) (fun H => ?_)
 obtain rfl := Option.some.inj H
 exact FT ⟨Z, hS.pick [0] [] Z⟩
 refine GO ?_
 refine OS (SL (cf hS 0 2)) ?_
 refine OJ.st rfl rfl rfl (SR.shr rfl rfl rfl (by decide)) ?_
 refine GO ?_
 obtain rfl := Option.some.inj H
 exact FT ⟨Z, hS.pick [0] [] Z⟩

def q0t.f (a0 : l00Src) (a1 : Int) : Option (Int × l00Src) := if a1 ≤ 1 then (some (0, a0)) else ((q2b.f a0).bind fun t1 => if 200 < a1 then ((q2b.f (⟨a0.code, t1.2.at_, t1.2.seed⟩ : l00Src)).bind fun t2 => (chk (a1 ≠ 0)).bind fun u3 => some (Int.tmod (IntKind.i64.wrap ((IntKind.i64.wrap (t1.1 * 256)) + t2.1)) a1, (⟨a0.code, t2.2.at_, t2.2.seed⟩ : l00Src))) else ((chk (a1 ≠ 0)).bind fun u4 => some (Int.tmod t1.1 a1, (⟨a0.code, t1.2.at_, t1.2.seed⟩ : l00Src))))
theorem q0t.c {w Aa0_0 ca0_0} (a0 : l00Src) (ba0 : Nat) {a1 : Int} (hin : St w (fpU [box ba0 ([sl Aa0_0 a0.code ca0_0, i6 a0.at_, .int .u64 a0.seed]) 113]) w [box ba0 ([sl Aa0_0 a0.code ca0_0, i6 a0.at_, .int .u64 a0.seed]) 113] [roC (ci .u8) Aa0_0 ca0_0 a0.code]) (r : Int × l00Src) (H : q0t.f a0 a1 = some r) :
 CV Tryz.prog 28 [pt ba0, i6 a1].toArray w fun v w' => v = .int .i64 r.1 ∧ St w (fpU [box ba0 ([sl Aa0_0 a0.code ca0_0, i6 a0.at_, .int .u64 a0.seed]) 113]) w' [box ba0 ([sl Aa0_0 a0.code ca0_0, i6 r.2.at_, .int .u64 r.2.seed]) 113] [] := by
 have hS := hin
 unfold q0t.f at H
 refine CV.body Tryz.func28 Z Tryz.ntmps28 Z ?_
 refine GO ?_
 refine CP H (fun H => GO ?_) (fun H => ?_)
 obtain rfl := Option.some.inj H
 exact FT ⟨Z, hS.pick [0] [] Z⟩
 refine GO ?_
 obtain ⟨t1, ht1, H⟩ := pbind H
 refine OC hb69 (q2b.c a0 ba0 ((hS.subs [0] [0] [] Z).pick [0] [0] Z) _ ht1) ?_
 rintro _ w1 ⟨rfl, hs⟩
 replace hS := hS.back [0] Z Z [box ba0 ([sl Aa0_0 a0.code ca0_0, i6 t1.2.at_, .int .u64 t1.2.seed]) 113] [] hs ⟨fun _ => Iff.rfl, trivial⟩
 refine GO ?_
 refine CP H (fun H => GO ?_) (fun H => ?_)
 obtain ⟨t2, ht2, H⟩ := pbind H
 refine OC hb69 (q2b.c (⟨a0.code, t1.2.at_, t1.2.seed⟩ : l00Src) ba0 ((hS.subs [0] [0] [] Z).pick [0] [0] Z) _ ht2) ?_
 rintro _ w1 ⟨rfl, hs⟩
 replace hS := hS.back [0] Z Z [box ba0 ([sl Aa0_0 a0.code ca0_0, i6 t2.2.at_, .int .u64 t2.2.seed]) 113] [] hs ⟨fun _ => Iff.rfl, trivial⟩
 refine GO ?_
 obtain ⟨u3, hu3, H⟩ := pbind H
 refine OJ.st Z Z Z (SR.rem Z Z Z (chk_some hu3)) ?_
 refine GO ?_
 obtain rfl := Option.some.inj H
 exact FT ⟨Z, hS.pick [0] [] Z⟩
 refine GO ?_
 obtain ⟨u4, hu4, H⟩ := pbind H
 refine OJ.st Z Z Z (SR.rem Z Z Z (chk_some hu4)) ?_
 refine GO ?_
 obtain rfl := Option.some.inj H
 exact FT ⟨Z, hS.pick [0] [] Z⟩

def q0y.f (a0 : Spot) (a1 : Int) : Option Spot := if a1 = 0 then (some (⟨a0.X, IntKind.i8.wrap (a0.Y - 1)⟩ : Spot)) else (if a1 = 1 then (some (⟨IntKind.i8.wrap (a0.X + 1), a0.Y⟩ : Spot)) else (if a1 = 2 then (some (⟨a0.X, IntKind.i8.wrap (a0.Y + 1)⟩ : Spot)) else (some (⟨IntKind.i8.wrap (a0.X - 1), a0.Y⟩ : Spot))))
theorem q0y.c {w} (a0 : Spot) {a1 : Int} (r : Spot) (H : q0y.f a0 a1 = some r) :
 CV Tryz.prog 67 [.agg (cSpot.enc a0).toArray, .int .i64 a1].toArray w fun v w' => v = .agg (cSpot.enc r).toArray ∧ Ext w w' := by
 have hS := (St.init w no)
 unfold q0y.f at H
 refine CV.body Tryz.func67 Z Tryz.ntmps67 Z ?_
 refine GO ?_
 refine OF (EB hS (cSpot.enc a0)) ?_
 rintro _ w1 ⟨b1, rfl, hS⟩
 refine oA hS (cSpot.enc (⟨0, 0⟩ : Spot)) fun b2 w1 hS => ?_
 refine CJ.block ?_
 refine GO ?_
 refine CP H (fun H => GO ?_) (fun H => ?_)
 refine oS (SL (cf hS 0 1)) ?_
 refine oE (WS hS 0 ((ci .i8).enc (IntKind.i8.wrap (a0.Y - 1))) (cSpot.enc (⟨a0.X, IntKind.i8.wrap (a0.Y - 1)⟩ : Spot))) fun w1 hS => ?_
 refine OS (SE (ce hS 0)) ?_
 refine OJ.es Z Z (eS cSpot (⟨a0.X, IntKind.i8.wrap (a0.Y - 1)⟩ : Spot) hS (i := 1) Z Z Z Z Z Z Z Z Z Z) ?_
 intro w1 hS
 refine GO ?_
 obtain rfl := Option.some.inj H
 exact EJ.fin Z (.cell Z (ldE oU oI Z Z Z (hS.cells (i := 1) Z) Z) .nil) ⟨Z, hS.ext⟩
 refine GO ?_
 refine CP H (fun H => GO ?_) (fun H => ?_)
 refine oS (SL (cf hS 0 0)) ?_
 refine oE (WS hS 0 ((ci .i8).enc (IntKind.i8.wrap (a0.X + 1))) (cSpot.enc (⟨IntKind.i8.wrap (a0.X + 1), a0.Y⟩ : Spot))) fun w1 hS => ?_
 refine OS (SE (ce hS 0)) ?_
 refine OJ.es Z Z (eS cSpot (⟨IntKind.i8.wrap (a0.X + 1), a0.Y⟩ : Spot) hS (i := 1) Z Z Z Z Z Z Z Z Z Z) ?_
 intro w1 hS
 refine GO ?_
 obtain rfl := Option.some.inj H
 exact EJ.fin Z (.cell Z (ldE oU oI Z Z Z (hS.cells (i := 1) Z) Z) .nil) ⟨Z, hS.ext⟩
 refine GO ?_
 refine CP H (fun H => GO ?_) (fun H => ?_)
 refine oS (SL (cf hS 0 1)) ?_
 refine oE (WS hS 0 ((ci .i8).enc (IntKind.i8.wrap (a0.Y + 1))) (cSpot.enc (⟨a0.X, IntKind.i8.wrap (a0.Y + 1)⟩ : Spot))) fun w1 hS => ?_
 refine OS (SE (ce hS 0)) ?_
 refine OJ.es Z Z (eS cSpot (⟨a0.X, IntKind.i8.wrap (a0.Y + 1)⟩ : Spot) hS (i := 1) Z Z Z Z Z Z Z Z Z Z) ?_
 intro w1 hS
 refine GO ?_
 obtain rfl := Option.some.inj H
 exact EJ.fin Z (.cell Z (ldE oU oI Z Z Z (hS.cells (i := 1) Z) Z) .nil) ⟨Z, hS.ext⟩
 refine GO ?_
 refine oS (SL (cf hS 0 0)) ?_
 refine oE (WS hS 0 ((ci .i8).enc (IntKind.i8.wrap (a0.X - 1))) (cSpot.enc (⟨IntKind.i8.wrap (a0.X - 1), a0.Y⟩ : Spot))) fun w1 hS => ?_
 refine OS (SE (ce hS 0)) ?_
 refine OJ.es Z Z (eS cSpot (⟨IntKind.i8.wrap (a0.X - 1), a0.Y⟩ : Spot) hS (i := 1) Z Z Z Z Z Z Z Z Z Z) ?_
 intro w1 hS
 refine GO ?_
 obtain rfl := Option.some.inj H
 exact EJ.fin Z (.cell Z (ldE oU oI Z Z Z (hS.cells (i := 1) Z) Z) .nil) ⟨Z, hS.ext⟩

def q2c.f (a0 : Int) (a1 : Int) (a2 : Int) : Option Bool := if a1 ≤ a0 then (some (decide (a0 ≤ a2))) else (some false)
theorem q2c.c {w} {a0 : Int} {a1 : Int} {a2 : Int} (r : Bool) (H : q2c.f a0 a1 a2 = some r) :
 CV Tryz.prog 117 [.int .i64 a0, i6 a1, i6 a2].toArray w fun v w' => v = .bool r ∧ Ext w w' := by
 have hS := (St.init w no)
 unfold q2c.f at H
 refine CV.body Tryz.func117 Z Tryz.ntmps117 Z ?_
 refine GO ?_
 refine OJ.split (t := 10) Z (fun hb => ?_) (fun hb => ?_)
 replace H := pif_t (of_decide_eq_true hb) H
 exact FE H hS
 replace H := pif_f (of_decide_eq_false hb) H
 exact FE H hS

def q1g.f (a0 : Pasture) (a1 : Spot) : Option Bool := (q2c.f (IntKind.i64.wrap a1.X) 0 (IntKind.i64.wrap ((IntKind.i64.wrap a0.Wide) - 1))).bind fun t2 => if t2 = true then ((q2c.f (IntKind.i64.wrap a1.Y) 0 (IntKind.i64.wrap ((IntKind.i64.wrap a0.High) - 1))).bind fun t3 => some t3) else (some false)
theorem q1g.c {w} (pa0 : Addr) (a0 : Pasture) (hp0 : CA w pa0 (cPasture.enc a0)) (a1 : Spot) (r : Bool) (H : q1g.f a0 a1 = some r) :
 CV Tryz.prog 66 [.pointer (some pa0), .agg (cSpot.enc a1).toArray].toArray w fun v w' => v = .bool r ∧ Ext w w' := by
 have hS := ((St.init w no).paramP pa0 (cPasture.enc a0) hp0)
 unfold q1g.f at H
 refine CV.body Tryz.func66 Z Tryz.ntmps66 Z ?_
 refine GO ?_
 refine oX hS (cSpot.enc a1) fun b1 w1 hS => ?_
 refine CJ.draw [] [0, 1, 2, 3, 4, 5, 6, 7, 8, 9, 10, 11, 12, 13, 14, 15, 16, 17, 18, 19, 20, 21, 22] mixed (by kernel_rfl) hS fun w1 hS => ?_
 refine GO ?_
 refine dS (SL (cf hS 0 0)) ?_
 refine dS (SL (CA.fld (hS.ca (i := 0) Z) (mid_part (fe_Pasture_0 _) (fl_Pasture_0 _) ((ci .i8).len _)))) ?_
 obtain ⟨t2, ht2, H⟩ := pbind H
 refine DJ.callF rfl rfl rfl rfl rfl rfl rfl hb117 rfl (q2c.c _ ht2) (by rintro v w' ⟨rfl, hs⟩; exact hs) ?_
 rintro _ w1 ⟨rfl, hs⟩
 replace hS := hS.grow hs
 refine GO ?_
 refine DJ.split (t := 15) Z (fun hb => ?_) (fun hb => ?_)
 replace H := pif_t hb H
 refine GO ?_
 refine dS (SL (cf hS 0 1)) ?_
 refine dS (SL (CA.fld (hS.ca (i := 0) Z) (mid_part (fe_Pasture_1 _) (fl_Pasture_1 _) ((ci .i8).len _)))) ?_
 obtain ⟨t3, ht3, H⟩ := pbind H
 refine DJ.callF rfl rfl rfl rfl rfl rfl rfl hb117 rfl (q2c.c _ ht3) (by rintro v w' ⟨rfl, hs⟩; exact hs) ?_
 rintro _ w1 ⟨rfl, hs⟩
 replace hS := hS.grow hs
 exact FE H hS
 replace H := pifb_f hb H
 exact FE H hS

def q2v.f (a0 : l00Src) (a1 : Int) : Option (Bool × l00Src) := (q0t.f a0 a1).bind fun t1 => some (decide (t1.1 = 0), (⟨a0.code, t1.2.at_, t1.2.seed⟩ : l00Src))
theorem q2v.c {w Aa0_0 ca0_0} (a0 : l00Src) (ba0 : Nat) {a1 : Int} (hin : St w (fpU [box ba0 ([sl Aa0_0 a0.code ca0_0, i6 a0.at_, .int .u64 a0.seed]) 113]) w [box ba0 ([sl Aa0_0 a0.code ca0_0, i6 a0.at_, .int .u64 a0.seed]) 113] [roC (ci .u8) Aa0_0 ca0_0 a0.code]) (r : Bool × l00Src) (H : q2v.f a0 a1 = some r) :
 CV Tryz.prog 68 [pt ba0, i6 a1].toArray w fun v w' => v = .bool r.1 ∧ St w (fpU [box ba0 ([sl Aa0_0 a0.code ca0_0, i6 a0.at_, .int .u64 a0.seed]) 113]) w' [box ba0 ([sl Aa0_0 a0.code ca0_0, i6 r.2.at_, .int .u64 r.2.seed]) 113] [] := by
 have hS := hin
 unfold q2v.f at H
 refine CV.body Tryz.func68 Z Tryz.ntmps68 Z ?_
 refine GO ?_
 obtain ⟨t1, ht1, H⟩ := pbind H
 refine OC hb28 (q0t.c a0 ba0 ((hS.subs [0] [0] [] Z).pick [0] [0] Z) _ ht1) ?_
 rintro _ w1 ⟨rfl, hs⟩
 replace hS := hS.back [0] Z Z [box ba0 ([sl Aa0_0 a0.code ca0_0, i6 t1.2.at_, .int .u64 t1.2.seed]) 113] [] hs ⟨fun _ => Iff.rfl, trivial⟩
 refine GO ?_
 obtain rfl := Option.some.inj H
 exact FT ⟨Z, hS.pick [0] [] Z⟩

def q26.f (a0 : Pasture) (a1 : Spot) (a2 : Int) (a3 : Bool) : Option Pasture := (if a2 = 0 then (some true) else (some (decide (a2 = 3)))).bind fun y2 => if y2 = true then ((q0y.f a1 a2).bind fun t3 => (chk (0 ≤ (IntKind.u64.wrap t3.X))).bind fun u4 => (if a2 = 1 then (some true) else (some (decide (a2 = 3)))).bind fun y5 => if y5 = true then ((getI a0.East.l t3.Y).bind fun t6 => (getI a0.East.l t3.Y).bind fun t7 => if a3 = true then ((getI (aset a0.East t3.Y.toNat (andNotI .u16 t6 (shlI .u16 1 (IntKind.u64.wrap t3.X)))).l t3.Y).bind fun t8 => (getI (aset a0.East t3.Y.toNat (andNotI .u16 t6 (shlI .u16 1 (IntKind.u64.wrap t3.X)))).l t3.Y).bind fun t9 => some (⟨a0.Wide, a0.High, a0.Grass, (aset (aset a0.East t3.Y.toNat (andNotI .u16 t6 (shlI .u16 1 (IntKind.u64.wrap t3.X)))) t3.Y.toNat (orI .u16 t8 (shlI .u16 1 (IntKind.u64.wrap t3.X)))), a0.South⟩ : Pasture)) else (some (⟨a0.Wide, a0.High, a0.Grass, (aset a0.East t3.Y.toNat (andNotI .u16 t6 (shlI .u16 1 (IntKind.u64.wrap t3.X)))), a0.South⟩ : Pasture))) else ((getI a0.South.l t3.Y).bind fun t10 => (getI a0.South.l t3.Y).bind fun t11 => if a3 = true then ((getI (aset a0.South t3.Y.toNat (andNotI .u16 t10 (shlI .u16 1 (IntKind.u64.wrap t3.X)))).l t3.Y).bind fun t12 => (getI (aset a0.South t3.Y.toNat (andNotI .u16 t10 (shlI .u16 1 (IntKind.u64.wrap t3.X)))).l t3.Y).bind fun t13 => some (⟨a0.Wide, a0.High, a0.Grass, a0.East, (aset (aset a0.South t3.Y.toNat (andNotI .u16 t10 (shlI .u16 1 (IntKind.u64.wrap t3.X)))) t3.Y.toNat (orI .u16 t12 (shlI .u16 1 (IntKind.u64.wrap t3.X))))⟩ : Pasture)) else (some (⟨a0.Wide, a0.High, a0.Grass, a0.East, (aset a0.South t3.Y.toNat (andNotI .u16 t10 (shlI .u16 1 (IntKind.u64.wrap t3.X))))⟩ : Pasture)))) else ((chk (0 ≤ (IntKind.u64.wrap a1.X))).bind fun u14 => (if a2 = 1 then (some true) else (some (decide (a2 = 3)))).bind fun y15 => if y15 = true then ((getI a0.East.l a1.Y).bind fun t16 => (getI a0.East.l a1.Y).bind fun t17 => if a3 = true then ((getI (aset a0.East a1.Y.toNat (andNotI .u16 t16 (shlI .u16 1 (IntKind.u64.wrap a1.X)))).l a1.Y).bind fun t18 => (getI (aset a0.East a1.Y.toNat (andNotI .u16 t16 (shlI .u16 1 (IntKind.u64.wrap a1.X)))).l a1.Y).bind fun t19 => some (⟨a0.Wide, a0.High, a0.Grass, (aset (aset a0.East a1.Y.toNat (andNotI .u16 t16 (shlI .u16 1 (IntKind.u64.wrap a1.X)))) a1.Y.toNat (orI .u16 t18 (shlI .u16 1 (IntKind.u64.wrap a1.X)))), a0.South⟩ : Pasture)) else (some (⟨a0.Wide, a0.High, a0.Grass, (aset a0.East a1.Y.toNat (andNotI .u16 t16 (shlI .u16 1 (IntKind.u64.wrap a1.X)))), a0.South⟩ : Pasture))) else ((getI a0.South.l a1.Y).bind fun t20 => (getI a0.South.l a1.Y).bind fun t21 => if a3 = true then ((getI (aset a0.South a1.Y.toNat (andNotI .u16 t20 (shlI .u16 1 (IntKind.u64.wrap a1.X)))).l a1.Y).bind fun t22 => (getI (aset a0.South a1.Y.toNat (andNotI .u16 t20 (shlI .u16 1 (IntKind.u64.wrap a1.X)))).l a1.Y).bind fun t23 => some (⟨a0.Wide, a0.High, a0.Grass, a0.East, (aset (aset a0.South a1.Y.toNat (andNotI .u16 t20 (shlI .u16 1 (IntKind.u64.wrap a1.X)))) a1.Y.toNat (orI .u16 t22 (shlI .u16 1 (IntKind.u64.wrap a1.X))))⟩ : Pasture)) else (some (⟨a0.Wide, a0.High, a0.Grass, a0.East, (aset a0.South a1.Y.toNat (andNotI .u16 t20 (shlI .u16 1 (IntKind.u64.wrap a1.X))))⟩ : Pasture))))
theorem q26.c {w} (ba0 : Nat) (a0 : Pasture) (a1 : Spot) {a2 : Int} {a3 : Bool} (hin : St w (fpU [box ba0 (cPasture.enc a0) 31]) w [box ba0 (cPasture.enc a0) 31] []) (r : Pasture) (H : q26.f a0 a1 a2 a3 = some r) :
 CV Tryz.prog 43 [pt ba0, .agg (cSpot.enc a1).toArray, .int .i64 a2, .bool a3].toArray w fun v w' => v = .tuple #[] ∧ St w (fpU [box ba0 (cPasture.enc a0) 31]) w' [box ba0 (cPasture.enc r) 31] [] := by
 have hS := hin
 unfold q26.f at H
 refine CV.body Tryz.func43 Z Tryz.ntmps43 Z ?_
 refine GO ?_
 refine OF (EB hS (cSpot.enc a1)) ?_
 rintro _ w1 ⟨b1, rfl, hS⟩
 refine NX ?_
 refine CJ.seq ?_
 obtain ⟨j9, H, K9⟩ := pbind H
 refine CJ.cut (fun F w1 => ∃ y2, some y2 = some j9 ∧ F = [(0, pt ba0), (2, i6 a2), (3, .bool a3), (5, pt b1), (14, .bool y2)] ∧ St w (fpU [box ba0 (cPasture.enc a0) 31]) w1 [box ba0 (cPasture.enc a0) 31, box b1 (cSpot.enc a1) 55] []) ?_ ?_
 refine GO ?_
 refine OJ.split (t := 11) Z (fun hb => ?_) (fun hb => ?_)
 replace H := pif_t (of_decide_eq_true hb) H
 exact MD H hS
 replace H := pif_f (of_decide_eq_false hb) H
 exact MD H hS
 rintro F w1 ⟨y2, he, rfl, hS⟩
 obtain rfl := Option.some.inj he
 have H := K9
 refine CB H (fun H => GO ?_) (fun H => ?_)
 refine oS (SE (ce hS 1)) ?_
 refine OB H hS hb67 (q0y.c a1) fun t3 w1 H hS => ?_
 refine OJ.es Z Z (eS cSpot t3 hS (i := 1) Z Z Z Z Z Z Z Z Z Z) ?_
 intro w1 hS
 refine GO ?_
 refine oS (SL (cf hS 1 0)) ?_
 obtain ⟨u4, hu4, H⟩ := pbind H
 refine OJ.st Z Z Z (SR.shl Z Z Z (chk_some hu4)) ?_
 refine PX 1 ?_
 refine CJ.seq ?_
 obtain ⟨j10, H, K10⟩ := pbind H
 refine CJ.cut (fun F w1 => ∃ y5, some y5 = some j10 ∧ F = [(0, pt ba0), (3, .bool a3), (5, pt b1), (8, .int .u16 (shlI .u16 1 (IntKind.u64.wrap t3.X))), (27, .bool y5)] ∧ St w (fpU [box ba0 (cPasture.enc a0) 31]) w1 [box ba0 (cPasture.enc a0) 31, box b1 (cSpot.enc t3) 55] []) ?_ ?_
 refine GO ?_
 refine OJ.split (t := 24) Z (fun hb => ?_) (fun hb => ?_)
 replace H := pif_t (of_decide_eq_true hb) H
 exact MD H hS
 replace H := pif_f (of_decide_eq_false hb) H
 exact MD H hS
 rintro F w1 ⟨y5, he, rfl, hS⟩
 obtain rfl := Option.some.inj he
 have H := K10
 refine CB H (fun H => GO ?_) (fun H => ?_)
 refine CJ.draw [] [0, 1, 2, 3, 4, 5, 6, 7, 8, 9, 10, 11, 12] mixed (by kernel_rfl) hS fun w1 hS => ?_
 refine GO ?_
 refine dS (SL (cf hS 1 1)) ?_
 obtain ⟨t6, ht6, H⟩ := pbind H
 refine DJ.st Z Z Z Z Z (SR.idxA oU oI Z Z Z Z Z (Arr.lt ht6)) ?_
 refine dS (SL (CA.idx (CA.fld (ce hS 0) (mid_part (fe_Pasture_3 _) (fl_Pasture_3 _) ((carr 10 (ci .u16)).len _))) ht6)) ?_
 obtain ⟨t7, ht7, H⟩ := pbind H
 refine DJ.st Z Z Z Z Z (SR.idxA oU oI Z Z Z Z Z (Arr.lt ht7)) ?_
 refine DJ.es rfl rfl rfl rfl (Es.put oI hS (i := 0) rfl rfl rfl rfl rfl (vs := (ci .u16).enc (andNotI .u16 t6 (shlI .u16 1 (IntKind.u64.wrap t3.X)))) rfl rfl (one1 rfl) (put_Pasture_3 (Put.idx (Put.all (ci .u16) t7 (andNotI .u16 t6 (shlI .u16 1 (IntKind.u64.wrap t3.X)))) ht7)) (by (try simp only [add_lit, Nat.add_assoc, Nat.zero_add, Nat.add_zero]) <;> first | rfl | (congr 1; exact Nat.zero_add _))) ?_
 intro w1 hS
 refine GO ?_
 refine CB H (fun H => ?_) (fun H => ?_)
 refine CJ.draw [] [0, 1, 2, 3, 4, 5, 6, 7, 8, 9, 10, 11, 12] mixed (by kernel_rfl) hS fun w1 hS => ?_
 refine GO ?_
 refine dS (SL (cf hS 1 1)) ?_
 obtain ⟨t8, ht8, H⟩ := pbind H
 refine DJ.st Z Z Z Z Z (SR.idxA oU oI Z Z Z Z Z (Arr.lt ht8)) ?_
 refine dS (SL (CA.idx (CA.fld (ce hS 0) (mid_part (fe_Pasture_3 _) (fl_Pasture_3 _) ((carr 10 (ci .u16)).len _))) ht8)) ?_
 obtain ⟨t9, ht9, H⟩ := pbind H
 refine DJ.st Z Z Z Z Z (SR.idxA oU oI Z Z Z Z Z (Arr.lt ht9)) ?_
 refine DJ.es rfl rfl rfl rfl (Es.put oI hS (i := 0) rfl rfl rfl rfl rfl (vs := (ci .u16).enc (orI .u16 t8 (shlI .u16 1 (IntKind.u64.wrap t3.X)))) rfl rfl (one1 rfl) (put_Pasture_3 (Put.idx (Put.all (ci .u16) t9 (orI .u16 t8 (shlI .u16 1 (IntKind.u64.wrap t3.X)))) ht9)) (by (try simp only [add_lit, Nat.add_assoc, Nat.zero_add, Nat.add_zero]) <;> first | rfl | (congr 1; exact Nat.zero_add _))) ?_
 intro w1 hS
 refine GO ?_
 obtain rfl := Option.some.inj H
 exact EJ.fin Z .nil ⟨Z, hS.pick [0] [] Z⟩
 refine GO ?_
 obtain rfl := Option.some.inj H
 exact EJ.fin Z .nil ⟨Z, hS.pick [0] [] Z⟩
 refine GO ?_
 refine CJ.draw [] [0, 1, 2, 3, 4, 5, 6, 7, 8, 9, 10, 11, 12] mixed (by kernel_rfl) hS fun w1 hS => ?_
 refine GO ?_
 refine dS (SL (cf hS 1 1)) ?_
 obtain ⟨t10, ht10, H⟩ := pbind H
 refine DJ.st Z Z Z Z Z (SR.idxA oU oI Z Z Z Z Z (Arr.lt ht10)) ?_
 refine dS (SL (CA.idx (CA.fld (ce hS 0) (mid_part (fe_Pasture_4 _) (fl_Pasture_4 _) ((carr 10 (ci .u16)).len _))) ht10)) ?_
 obtain ⟨t11, ht11, H⟩ := pbind H
 refine DJ.st Z Z Z Z Z (SR.idxA oU oI Z Z Z Z Z (Arr.lt ht11)) ?_
 refine DJ.es rfl rfl rfl rfl (Es.put oI hS (i := 0) rfl rfl rfl rfl rfl (vs := (ci .u16).enc (andNotI .u16 t10 (shlI .u16 1 (IntKind.u64.wrap t3.X)))) rfl rfl (one1 rfl) (put_Pasture_4 (Put.idx (Put.all (ci .u16) t11 (andNotI .u16 t10 (shlI .u16 1 (IntKind.u64.wrap t3.X)))) ht11)) (by (try simp only [add_lit, Nat.add_assoc, Nat.zero_add, Nat.add_zero]) <;> first | rfl | (congr 1; exact Nat.zero_add _))) ?_
 intro w1 hS
 refine GO ?_
 refine CB H (fun H => ?_) (fun H => ?_)
 refine CJ.draw [] [0, 1, 2, 3, 4, 5, 6, 7, 8, 9, 10, 11, 12] mixed (by kernel_rfl) hS fun w1 hS => ?_
 refine GO ?_
 refine dS (SL (cf hS 1 1)) ?_
 obtain ⟨t12, ht12, H⟩ := pbind H
 refine DJ.st Z Z Z Z Z (SR.idxA oU oI Z Z Z Z Z (Arr.lt ht12)) ?_
 refine dS (SL (CA.idx (CA.fld (ce hS 0) (mid_part (fe_Pasture_4 _) (fl_Pasture_4 _) ((carr 10 (ci .u16)).len _))) ht12)) ?_
 obtain ⟨t13, ht13, H⟩ := pbind H
 refine DJ.st Z Z Z Z Z (SR.idxA oU oI Z Z Z Z Z (Arr.lt ht13)) ?_
 refine DJ.es rfl rfl rfl rfl (Es.put oI hS (i := 0) rfl rfl rfl rfl rfl (vs := (ci .u16).enc (orI .u16 t12 (shlI .u16 1 (IntKind.u64.wrap t3.X)))) rfl rfl (one1 rfl) (put_Pasture_4 (Put.idx (Put.all (ci .u16) t13 (orI .u16 t12 (shlI .u16 1 (IntKind.u64.wrap t3.X)))) ht13)) (by (try simp only [add_lit, Nat.add_assoc, Nat.zero_add, Nat.add_zero]) <;> first | rfl | (congr 1; exact Nat.zero_add _))) ?_
 intro w1 hS
 refine GO ?_
 obtain rfl := Option.some.inj H
 exact EJ.fin' Z .nil ⟨Z, hS.pick [0] [] Z⟩
 refine GO ?_
 obtain rfl := Option.some.inj H
 exact EJ.fin' Z .nil ⟨Z, hS.pick [0] [] Z⟩
 refine GO ?_
 refine oS (SL (cf hS 1 0)) ?_
 obtain ⟨u14, hu14, H⟩ := pbind H
 refine OJ.st Z Z Z (SR.shl Z Z Z (chk_some hu14)) ?_
 refine PX 1 ?_
 refine CJ.seq ?_
 obtain ⟨j11, H, K11⟩ := pbind H
 refine CJ.cut (fun F w1 => ∃ y15, some y15 = some j11 ∧ F = [(0, pt ba0), (3, .bool a3), (5, pt b1), (8, .int .u16 (shlI .u16 1 (IntKind.u64.wrap a1.X))), (27, .bool y15)] ∧ St w (fpU [box ba0 (cPasture.enc a0) 31]) w1 [box ba0 (cPasture.enc a0) 31, box b1 (cSpot.enc a1) 55] []) ?_ ?_
 refine GO ?_
 refine OJ.split (t := 24) Z (fun hb => ?_) (fun hb => ?_)
 replace H := pif_t (of_decide_eq_true hb) H
 exact MD H hS
 replace H := pif_f (of_decide_eq_false hb) H
 exact MD H hS
 rintro F w1 ⟨y15, he, rfl, hS⟩
 obtain rfl := Option.some.inj he
 have H := K11
 refine CB H (fun H => GO ?_) (fun H => ?_)
 refine CJ.draw [] [0, 1, 2, 3, 4, 5, 6, 7, 8, 9, 10, 11, 12] mixed (by kernel_rfl) hS fun w1 hS => ?_
 refine GO ?_
 refine dS (SL (cf hS 1 1)) ?_
 obtain ⟨t16, ht16, H⟩ := pbind H
 refine DJ.st Z Z Z Z Z (SR.idxA oU oI Z Z Z Z Z (Arr.lt ht16)) ?_
 refine dS (SL (CA.idx (CA.fld (ce hS 0) (mid_part (fe_Pasture_3 _) (fl_Pasture_3 _) ((carr 10 (ci .u16)).len _))) ht16)) ?_
 obtain ⟨t17, ht17, H⟩ := pbind H
 refine DJ.st Z Z Z Z Z (SR.idxA oU oI Z Z Z Z Z (Arr.lt ht17)) ?_
 refine DJ.es rfl rfl rfl rfl (Es.put oI hS (i := 0) rfl rfl rfl rfl rfl (vs := (ci .u16).enc (andNotI .u16 t16 (shlI .u16 1 (IntKind.u64.wrap a1.X)))) rfl rfl (one1 rfl) (put_Pasture_3 (Put.idx (Put.all (ci .u16) t17 (andNotI .u16 t16 (shlI .u16 1 (IntKind.u64.wrap a1.X)))) ht17)) (by (try simp only [add_lit, Nat.add_assoc, Nat.zero_add, Nat.add_zero]) <;> first | rfl | (congr 1; exact Nat.zero_add _))) ?_
 intro w1 hS
 refine GO ?_
 refine CB H (fun H => ?_) (fun H => ?_)
 refine CJ.draw [] [0, 1, 2, 3, 4, 5, 6, 7, 8, 9, 10, 11, 12] mixed (by kernel_rfl) hS fun w1 hS => ?_
 refine GO ?_
 refine dS (SL (cf hS 1 1)) ?_
 obtain ⟨t18, ht18, H⟩ := pbind H
 refine DJ.st Z Z Z Z Z (SR.idxA oU oI Z Z Z Z Z (Arr.lt ht18)) ?_
 refine dS (SL (CA.idx (CA.fld (ce hS 0) (mid_part (fe_Pasture_3 _) (fl_Pasture_3 _) ((carr 10 (ci .u16)).len _))) ht18)) ?_
 obtain ⟨t19, ht19, H⟩ := pbind H
 refine DJ.st Z Z Z Z Z (SR.idxA oU oI Z Z Z Z Z (Arr.lt ht19)) ?_
 refine DJ.es rfl rfl rfl rfl (Es.put oI hS (i := 0) rfl rfl rfl rfl rfl (vs := (ci .u16).enc (orI .u16 t18 (shlI .u16 1 (IntKind.u64.wrap a1.X)))) rfl rfl (one1 rfl) (put_Pasture_3 (Put.idx (Put.all (ci .u16) t19 (orI .u16 t18 (shlI .u16 1 (IntKind.u64.wrap a1.X)))) ht19)) (by (try simp only [add_lit, Nat.add_assoc, Nat.zero_add, Nat.add_zero]) <;> first | rfl | (congr 1; exact Nat.zero_add _))) ?_
 intro w1 hS
 refine GO ?_
 obtain rfl := Option.some.inj H
 exact EJ.fin Z .nil ⟨Z, hS.pick [0] [] Z⟩
 refine GO ?_
 obtain rfl := Option.some.inj H
 exact EJ.fin Z .nil ⟨Z, hS.pick [0] [] Z⟩
 refine GO ?_
 refine CJ.draw [] [0, 1, 2, 3, 4, 5, 6, 7, 8, 9, 10, 11, 12] mixed (by kernel_rfl) hS fun w1 hS => ?_
 refine GO ?_
 refine dS (SL (cf hS 1 1)) ?_
 obtain ⟨t20, ht20, H⟩ := pbind H
 refine DJ.st Z Z Z Z Z (SR.idxA oU oI Z Z Z Z Z (Arr.lt ht20)) ?_
 refine dS (SL (CA.idx (CA.fld (ce hS 0) (mid_part (fe_Pasture_4 _) (fl_Pasture_4 _) ((carr 10 (ci .u16)).len _))) ht20)) ?_
 obtain ⟨t21, ht21, H⟩ := pbind H
 refine DJ.st Z Z Z Z Z (SR.idxA oU oI Z Z Z Z Z (Arr.lt ht21)) ?_
 refine DJ.es rfl rfl rfl rfl (Es.put oI hS (i := 0) rfl rfl rfl rfl rfl (vs := (ci .u16).enc (andNotI .u16 t20 (shlI .u16 1 (IntKind.u64.wrap a1.X)))) rfl rfl (one1 rfl) (put_Pasture_4 (Put.idx (Put.all (ci .u16) t21 (andNotI .u16 t20 (shlI .u16 1 (IntKind.u64.wrap a1.X)))) ht21)) (by (try simp only [add_lit, Nat.add_assoc, Nat.zero_add, Nat.add_zero]) <;> first | rfl | (congr 1; exact Nat.zero_add _))) ?_
 intro w1 hS
 refine GO ?_
 refine CB H (fun H => ?_) (fun H => ?_)
 refine CJ.draw [] [0, 1, 2, 3, 4, 5, 6, 7, 8, 9, 10, 11, 12] mixed (by kernel_rfl) hS fun w1 hS => ?_
 refine GO ?_
 refine dS (SL (cf hS 1 1)) ?_
 obtain ⟨t22, ht22, H⟩ := pbind H
 refine DJ.st Z Z Z Z Z (SR.idxA oU oI Z Z Z Z Z (Arr.lt ht22)) ?_
 refine dS (SL (CA.idx (CA.fld (ce hS 0) (mid_part (fe_Pasture_4 _) (fl_Pasture_4 _) ((carr 10 (ci .u16)).len _))) ht22)) ?_
 obtain ⟨t23, ht23, H⟩ := pbind H
 refine DJ.st Z Z Z Z Z (SR.idxA oU oI Z Z Z Z Z (Arr.lt ht23)) ?_
 refine DJ.es rfl rfl rfl rfl (Es.put oI hS (i := 0) rfl rfl rfl rfl rfl (vs := (ci .u16).enc (orI .u16 t22 (shlI .u16 1 (IntKind.u64.wrap a1.X)))) rfl rfl (one1 rfl) (put_Pasture_4 (Put.idx (Put.all (ci .u16) t23 (orI .u16 t22 (shlI .u16 1 (IntKind.u64.wrap a1.X)))) ht23)) (by (try simp only [add_lit, Nat.add_assoc, Nat.zero_add, Nat.add_zero]) <;> first | rfl | (congr 1; exact Nat.zero_add _))) ?_
 intro w1 hS
 refine GO ?_
 obtain rfl := Option.some.inj H
 exact EJ.fin' Z .nil ⟨Z, hS.pick [0] [] Z⟩
 refine GO ?_
 obtain rfl := Option.some.inj H
 exact EJ.fin' Z .nil ⟨Z, hS.pick [0] [] Z⟩

def q0h.l3 (a0 : l00Src) (t5 : Int × l00Src) (y10 : Int) (y20 : Int) : Nat → Pasture → Int → Int → Int → Option (Pasture × Int × Int)
  | 0, _, _, _, _ => none
  | k + 1, y32, y33, y34, y35 => if y33 ≤ 2 then ((q0y.f (⟨y20, y10⟩ : Spot) y33).bind fun t37 => (q1g.f y32 t37).bind fun t38 => if t38 = true then ((q2v.f (⟨a0.code, y34, y35⟩ : l00Src) (IntKind.i64.wrap (2 + t5.1))).bind fun t39 => if t39.1 = true then ((q26.f y32 (⟨y20, y10⟩ : Spot) y33 true).bind fun t40 => q0h.l3 a0 t5 y10 y20 k t40 (IntKind.i64.wrap (y33 + 1)) t39.2.at_ t39.2.seed) else (q0h.l3 a0 t5 y10 y20 k y32 (IntKind.i64.wrap (y33 + 1)) t39.2.at_ t39.2.seed)) else (q0h.l3 a0 t5 y10 y20 k y32 (IntKind.i64.wrap (y33 + 1)) y34 y35)) else (some (y32, y34, y35))
def q0h.l2 (a0 : l00Src) (t5 : Int × l00Src) (y10 : Int) : Nat → Pasture → Int → Int → Int → Option (Pasture × Int × Int)
  | 0, _, _, _, _ => none
  | k + 1, y19, y20, y21, y22 => if y20 < y19.Wide then (((getI y19.Grass.l y10).bind fun t26 => (q0t.f (⟨a0.code, y21, y22⟩ : l00Src) 12).bind fun t27 => (getI t26.l y20).bind fun t28 => (q0h.l3 a0 t5 y10 y20 k (⟨y19.Wide, y19.High, (aset y19.Grass y10.toNat (aset t26 y20.toNat (IntKind.i16.wrap t27.1))), y19.East, y19.South⟩ : Pasture) 1 t27.2.at_ t27.2.seed).bind fun (y29, y30, y31) => some (y29, y30, y31)).bind fun (y23, y24, y25) => q0h.l2 a0 t5 y10 k y23 (IntKind.i8.wrap (y20 + 1)) y24 y25) else (some (y19, y21, y22))
def q0h.l1 (a0 : l00Src) (t5 : Int × l00Src) : Nat → Pasture → Int → Int → Int → Option (Pasture × Int × Int)
  | 0, _, _, _, _ => none
  | k + 1, y9, y10, y11, y12 => if y10 < y9.High then (((q0h.l2 a0 t5 y10 k y9 0 y11 y12).bind fun (y16, y17, y18) => some (y16, y17, y18)).bind fun (y13, y14, y15) => q0h.l1 a0 t5 k y13 (IntKind.i8.wrap (y10 + 1)) y14 y15) else (some (y9, y11, y12))
def q0h.f (k : Nat) (a0 : l00Src) : Option (Pasture × l00Src) := (q0t.f a0 5).bind fun t2 => (q0t.f (⟨a0.code, t2.2.at_, t2.2.seed⟩ : l00Src) 5).bind fun t4 => (q0t.f (⟨a0.code, t4.2.at_, t4.2.seed⟩ : l00Src) 5).bind fun t5 => (q0h.l1 a0 t5 k (⟨IntKind.i8.wrap (IntKind.i64.wrap (1 + t2.1)), IntKind.i8.wrap (IntKind.i64.wrap (1 + t4.1)), (Arr.mk' (Arr.mk' 0 : Arr 10 Int) : Arr 10 (Arr 10 Int)), (Arr.mk' 0 : Arr 10 Int), (Arr.mk' 0 : Arr 10 Int)⟩ : Pasture) 0 t5.2.at_ t5.2.seed).bind fun (y6, y7, y8) => some (y6, (⟨a0.code, y7, y8⟩ : l00Src))
theorem q0h.c {k w Aa0_0 ca0_0} (a0 : l00Src) (ba0 : Nat) (hin : St w (fpU [box ba0 ([sl Aa0_0 a0.code ca0_0, i6 a0.at_, .int .u64 a0.seed]) 113]) w [box ba0 ([sl Aa0_0 a0.code ca0_0, i6 a0.at_, .int .u64 a0.seed]) 113] [roC (ci .u8) Aa0_0 ca0_0 a0.code]) (r : Pasture × l00Src) (H : q0h.f k a0 = some r) :
 CV Tryz.prog 26 [pt ba0].toArray w fun v w' => v = .agg (cPasture.enc r.1).toArray ∧ St w (fpU [box ba0 ([sl Aa0_0 a0.code ca0_0, i6 a0.at_, .int .u64 a0.seed]) 113]) w' [box ba0 ([sl Aa0_0 a0.code ca0_0, i6 r.2.at_, .int .u64 r.2.seed]) 113] [] := by
 have hS := hin
 unfold q0h.f at H
 refine CV.body Tryz.func26 Z Tryz.ntmps26 Z ?_
 refine GO ?_
 refine OJ.ef rfl rfl rfl (Ef.alloc hS oI rfl rfl (cPasture.enc (⟨0, 0, (Arr.mk' (Arr.mk' 0 : Arr 10 Int) : Arr 10 (Arr 10 Int)), (Arr.mk' 0 : Arr 10 Int), (Arr.mk' 0 : Arr 10 Int)⟩ : Pasture)) (by kernel_rfl)) ?_
 rintro _ w1 ⟨b1, rfl, hS⟩
 refine GO ?_
 obtain ⟨t2, ht2, H⟩ := pbind H
 refine OC hb28 (q0t.c a0 ba0 ((hS.subs [0] [0] [] Z).pick [0] [0] Z) _ ht2) ?_
 rintro _ w1 ⟨rfl, hs⟩
 replace hS := hS.back [0] Z Z [box ba0 ([sl Aa0_0 a0.code ca0_0, i6 t2.2.at_, .int .u64 t2.2.seed]) 113] [] hs ⟨fun _ => Iff.rfl, trivial⟩
 refine GO ?_
 refine OJ.st Z Z Z (SR.build (C := cPasture) oU oI Z Z Z (zs := [.int .i8 0, .int .i8 0, .int .i16 0, .int .i16 0, .int .i16 0, .int .i16 0, .int .i16 0, .int .i16 0, .int .i16 0, .int .i16 0, .int .i16 0, .int .i16 0, .int .i16 0, .int .i16 0, .int .i16 0, .int .i16 0, .int .i16 0, .int .i16 0, .int .i16 0, .int .i16 0, .int .i16 0, .int .i16 0, .int .i16 0, .int .i16 0, .int .i16 0, .int .i16 0, .int .i16 0, .int .i16 0, .int .i16 0, .int .i16 0, .int .i16 0, .int .i16 0, .int .i16 0, .int .i16 0, .int .i16 0, .int .i16 0, .int .i16 0, .int .i16 0, .int .i16 0, .int .i16 0, .int .i16 0, .int .i16 0, .int .i16 0, .int .i16 0, .int .i16 0, .int .i16 0, .int .i16 0, .int .i16 0, .int .i16 0, .int .i16 0, .int .i16 0, .int .i16 0, .int .i16 0, .int .i16 0, .int .i16 0, .int .i16 0, .int .i16 0, .int .i16 0, .int .i16 0, .int .i16 0, .int .i16 0, .int .i16 0, .int .i16 0, .int .i16 0, .int .i16 0, .int .i16 0, .int .i16 0, .int .i16 0, .int .i16 0, .int .i16 0, .int .i16 0, .int .i16 0, .int .i16 0, .int .i16 0, .int .i16 0, .int .i16 0, .int .i16 0, .int .i16 0, .int .i16 0, .int .i16 0, .int .i16 0, .int .i16 0, .int .i16 0, .int .i16 0, .int .i16 0, .int .i16 0, .int .i16 0, .int .i16 0, .int .i16 0, .int .i16 0, .int .i16 0, .int .i16 0, .int .i16 0, .int .i16 0, .int .i16 0, .int .i16 0, .int .i16 0, .int .i16 0, .int .i16 0, .int .i16 0, .int .i16 0, .int .i16 0, .int .u16 0, .int .u16 0, .int .u16 0, .int .u16 0, .int .u16 0, .int .u16 0, .int .u16 0, .int .u16 0, .int .u16 0, .int .u16 0, .int .u16 0, .int .u16 0, .int .u16 0, .int .u16 0, .int .u16 0, .int .u16 0, .int .u16 0, .int .u16 0, .int .u16 0, .int .u16 0]) Z Z Z (⟨IntKind.i8.wrap (IntKind.i64.wrap (1 + t2.1)), 0, (Arr.mk' (Arr.mk' 0 : Arr 10 Int) : Arr 10 (Arr 10 Int)), (Arr.mk' 0 : Arr 10 Int), (Arr.mk' 0 : Arr 10 Int)⟩ : Pasture) Z) ?_
 refine OJ.ef rfl rfl rfl (Ef.alloc hS oI rfl rfl (cPasture.enc (⟨0, 0, (Arr.mk' (Arr.mk' 0 : Arr 10 Int) : Arr 10 (Arr 10 Int)), (Arr.mk' 0 : Arr 10 Int), (Arr.mk' 0 : Arr 10 Int)⟩ : Pasture)) (by kernel_rfl)) ?_
 rintro _ w1 ⟨b3, rfl, hS⟩
 refine OJ.es rfl rfl (Es.put oI hS (i := 2) rfl rfl rfl rfl rfl (vs := cPasture.enc (⟨IntKind.i8.wrap (IntKind.i64.wrap (1 + t2.1)), 0, (Arr.mk' (Arr.mk' 0 : Arr 10 Int) : Arr 10 (Arr 10 Int)), (Arr.mk' 0 : Arr 10 Int), (Arr.mk' 0 : Arr 10 Int)⟩ : Pasture)) rfl (cPasture.len _) (cPasture.one _) (Put.all cPasture (⟨0, 0, (Arr.mk' (Arr.mk' 0 : Arr 10 Int) : Arr 10 (Arr 10 Int)), (Arr.mk' 0 : Arr 10 Int), (Arr.mk' 0 : Arr 10 Int)⟩ : Pasture) (⟨IntKind.i8.wrap (IntKind.i64.wrap (1 + t2.1)), 0, (Arr.mk' (Arr.mk' 0 : Arr 10 Int) : Arr 10 (Arr 10 Int)), (Arr.mk' 0 : Arr 10 Int), (Arr.mk' 0 : Arr 10 Int)⟩ : Pasture)) (by (try simp only [add_lit, Nat.add_assoc, Nat.zero_add, Nat.add_zero]) <;> first | rfl | (congr 1; exact Nat.zero_add _))) ?_
 intro w1 hS
 refine GO ?_
 obtain ⟨t4, ht4, H⟩ := pbind H
 refine OC hb28 (q0t.c (⟨a0.code, t2.2.at_, t2.2.seed⟩ : l00Src) ba0 ((hS.subs [0] [0] [] Z).pick [0] [0] Z) _ ht4) ?_
 rintro _ w1 ⟨rfl, hs⟩
 replace hS := hS.back [0] Z Z [box ba0 ([sl Aa0_0 a0.code ca0_0, i6 t4.2.at_, .int .u64 t4.2.seed]) 113] [] hs ⟨fun _ => Iff.rfl, trivial⟩
 refine GO ?_
 refine OJ.es rfl rfl (Es.put oI hS (i := 2) rfl rfl rfl rfl rfl (vs := (ci .i8).enc (IntKind.i8.wrap (IntKind.i64.wrap (1 + t4.1)))) rfl rfl (one1 rfl) (put_Pasture_1 (Put.all (ci .i8) 0 (IntKind.i8.wrap (IntKind.i64.wrap (1 + t4.1))))) (by (try simp only [add_lit, Nat.add_assoc, Nat.zero_add, Nat.add_zero]) <;> first | rfl | (congr 1; exact Nat.zero_add _))) ?_
 intro w1 hS
 refine GO ?_
 obtain ⟨t5, ht5, H⟩ := pbind H
 refine OC hb28 (q0t.c (⟨a0.code, t4.2.at_, t4.2.seed⟩ : l00Src) ba0 ((hS.subs [0] [0] [] Z).pick [0] [0] Z) _ ht5) ?_
 rintro _ w1 ⟨rfl, hs⟩
 replace hS := hS.back [0] Z Z [box ba0 ([sl Aa0_0 a0.code ca0_0, i6 t5.2.at_, .int .u64 t5.2.seed]) 113] [] hs ⟨fun _ => Iff.rfl, trivial⟩
 refine GO ?_
 obtain ⟨j2, H, K2⟩ := pbind H
 refine CJ.cut1 (fun F w1 => ∃ y6 y7 y8, some j2 = some (y6, y7, y8) ∧ F = [(2, pt b1), (3, pt b3)] ∧ St w (fpU [box ba0 ([sl Aa0_0 a0.code ca0_0, i6 a0.at_, .int .u64 a0.seed]) 113]) w1 [box ba0 ([sl Aa0_0 a0.code ca0_0, i6 y7, .int .u64 y8]) 113, box b1 (cPasture.enc (⟨0, 0, (Arr.mk' (Arr.mk' 0 : Arr 10 Int) : Arr 10 (Arr 10 Int)), (Arr.mk' 0 : Arr 10 Int), (Arr.mk' 0 : Arr 10 Int)⟩ : Pasture)) 31, box b3 (cPasture.enc y6) 31] [roC (ci .u8) Aa0_0 ca0_0 a0.code]) ?_ ?_
 refine CJ.block ?_
 refine LQ (fun k F w1 => ∃ (y9 : Pasture) (y10 : Int) (y11 : Int) (y12 : Int), F = [(0, pt ba0), (2, pt b1), (3, pt b3), (4, i6 (IntKind.i64.wrap (2 + t5.1))), (5, .int .i8 y10)] ∧ St w (fpU [box ba0 ([sl Aa0_0 a0.code ca0_0, i6 a0.at_, .int .u64 a0.seed]) 113]) w1 [box ba0 ([sl Aa0_0 a0.code ca0_0, i6 y11, .int .u64 y12]) 113, box b1 (cPasture.enc (⟨0, 0, (Arr.mk' (Arr.mk' 0 : Arr 10 Int) : Arr 10 (Arr 10 Int)), (Arr.mk' 0 : Arr 10 Int), (Arr.mk' 0 : Arr 10 Int)⟩ : Pasture)) 31, box b3 (cPasture.enc y9) 31] [roC (ci .u8) Aa0_0 ca0_0 a0.code] ∧ q0h.l1 a0 t5 k y9 y10 y11 y12 = some j2) k H hS ?_
 rintro k F w1 ⟨y9, y10, y11, y12, rfl, hS, H⟩
 rw [q0h.l1] at H
 refine GO ?_
 refine oS (SL (CA.fld (ce hS 2) (mid_part (fe_Pasture_1 _) (fl_Pasture_1 _) ((ci .i8).len _)))) ?_
 refine CP H (fun H => ?_) (fun H => ?_)
 refine CJ.skip (EJ.next ?_)
 obtain ⟨j50, H, K50⟩ := pbind H
 refine CJ.cut (fun F w1 => ∃ y13 y14 y15, some j50 = some (y13, y14, y15) ∧ F = [(0, pt ba0), (2, pt b1), (3, pt b3), (4, i6 (IntKind.i64.wrap (2 + t5.1))), (5, .int .i8 y10)] ∧ St w (fpU [box ba0 ([sl Aa0_0 a0.code ca0_0, i6 a0.at_, .int .u64 a0.seed]) 113]) w1 [box ba0 ([sl Aa0_0 a0.code ca0_0, i6 y14, .int .u64 y15]) 113, box b1 (cPasture.enc (⟨0, 0, (Arr.mk' (Arr.mk' 0 : Arr 10 Int) : Arr 10 (Arr 10 Int)), (Arr.mk' 0 : Arr 10 Int), (Arr.mk' 0 : Arr 10 Int)⟩ : Pasture)) 31, box b3 (cPasture.enc y13) 31] [roC (ci .u8) Aa0_0 ca0_0 a0.code]) ?_ ?_
 refine CJ.block ?_
 refine GO ?_
 obtain ⟨j61, H, K61⟩ := pbind H
 refine CJ.cut1 (fun F w1 => ∃ y16 y17 y18, some j61 = some (y16, y17, y18) ∧ F = [(0, pt ba0), (2, pt b1), (3, pt b3), (4, i6 (IntKind.i64.wrap (2 + t5.1))), (5, .int .i8 y10)] ∧ St w (fpU [box ba0 ([sl Aa0_0 a0.code ca0_0, i6 a0.at_, .int .u64 a0.seed]) 113]) w1 [box ba0 ([sl Aa0_0 a0.code ca0_0, i6 y17, .int .u64 y18]) 113, box b1 (cPasture.enc (⟨0, 0, (Arr.mk' (Arr.mk' 0 : Arr 10 Int) : Arr 10 (Arr 10 Int)), (Arr.mk' 0 : Arr 10 Int), (Arr.mk' 0 : Arr 10 Int)⟩ : Pasture)) 31, box b3 (cPasture.enc y16) 31] [roC (ci .u8) Aa0_0 ca0_0 a0.code]) ?_ ?_
 refine CJ.block ?_
 refine LQ (fun k F w1 => ∃ (y19 : Pasture) (y20 : Int) (y21 : Int) (y22 : Int), F = [(0, pt ba0), (2, pt b1), (3, pt b3), (4, i6 (IntKind.i64.wrap (2 + t5.1))), (5, .int .i8 y10), (6, .int .i8 y20)] ∧ St w (fpU [box ba0 ([sl Aa0_0 a0.code ca0_0, i6 a0.at_, .int .u64 a0.seed]) 113]) w1 [box ba0 ([sl Aa0_0 a0.code ca0_0, i6 y21, .int .u64 y22]) 113, box b1 (cPasture.enc (⟨0, 0, (Arr.mk' (Arr.mk' 0 : Arr 10 Int) : Arr 10 (Arr 10 Int)), (Arr.mk' 0 : Arr 10 Int), (Arr.mk' 0 : Arr 10 Int)⟩ : Pasture)) 31, box b3 (cPasture.enc y19) 31] [roC (ci .u8) Aa0_0 ca0_0 a0.code] ∧ q0h.l2 a0 t5 y10 k y19 y20 y21 y22 = some j61) k H hS ?_
 rintro k F w1 ⟨y19, y20, y21, y22, rfl, hS, H⟩
 rw [q0h.l2] at H
 refine GO ?_
 refine oS (SL (CA.fld (ce hS 2) (mid_part (fe_Pasture_0 _) (fl_Pasture_0 _) ((ci .i8).len _)))) ?_
 refine CP H (fun H => ?_) (fun H => ?_)
 refine CJ.skip (EJ.next ?_)
 obtain ⟨j68, H, K68⟩ := pbind H
 refine CJ.cut (fun F w1 => ∃ y23 y24 y25, some j68 = some (y23, y24, y25) ∧ F = [(0, pt ba0), (2, pt b1), (3, pt b3), (4, i6 (IntKind.i64.wrap (2 + t5.1))), (5, .int .i8 y10), (6, .int .i8 y20)] ∧ St w (fpU [box ba0 ([sl Aa0_0 a0.code ca0_0, i6 a0.at_, .int .u64 a0.seed]) 113]) w1 [box ba0 ([sl Aa0_0 a0.code ca0_0, i6 y24, .int .u64 y25]) 113, box b1 (cPasture.enc (⟨0, 0, (Arr.mk' (Arr.mk' 0 : Arr 10 Int) : Arr 10 (Arr 10 Int)), (Arr.mk' 0 : Arr 10 Int), (Arr.mk' 0 : Arr 10 Int)⟩ : Pasture)) 31, box b3 (cPasture.enc y23) 31] [roC (ci .u8) Aa0_0 ca0_0 a0.code]) ?_ ?_
 refine CJ.block ?_
 refine GO ?_
 obtain ⟨t26, ht26, H⟩ := pbind H
 obtain ⟨t27, ht27, H⟩ := pbind H
 obtain ⟨t28, ht28, H⟩ := pbind H
 refine CJ.cut1 (fun F w1 => F = [(0, pt ba0), (2, pt b1), (3, pt b3), (4, i6 (IntKind.i64.wrap (2 + t5.1))), (5, .int .i8 y10), (6, .int .i8 y20)] ∧ St w (fpU [box ba0 ([sl Aa0_0 a0.code ca0_0, i6 a0.at_, .int .u64 a0.seed]) 113]) w1 [box ba0 ([sl Aa0_0 a0.code ca0_0, i6 t27.2.at_, .int .u64 t27.2.seed]) 113, box b1 (cPasture.enc (⟨0, 0, (Arr.mk' (Arr.mk' 0 : Arr 10 Int) : Arr 10 (Arr 10 Int)), (Arr.mk' 0 : Arr 10 Int), (Arr.mk' 0 : Arr 10 Int)⟩ : Pasture)) 31, box b3 (cPasture.enc (⟨y19.Wide, y19.High, (aset y19.Grass y10.toNat (aset t26 y20.toNat (IntKind.i16.wrap t27.1))), y19.East, y19.South⟩ : Pasture)) 31] [roC (ci .u8) Aa0_0 ca0_0 a0.code]) ?_ ?_
 refine CJ.drawT [] [3, 8] (.one 0 (.one 1 (.one 2 (.one 5 (.one 6 (.one 3 (.one 4 (.one 7 (.one 8 (.fin)))))))))) mixed (by kernel_rfl) hS [] fun w1 hS hY hV => ?_
 refine GO ?_
 refine TP (fun _ => SF) ?_
 refine TJ.sp Z Z Z Z Z (fun w2 => SR.idxA oU oI Z Z Z Z Z (Arr.lt ht26)) ?_
 refine TJ.callFw rfl rfl rfl rfl rfl rfl rfl hb28 rfl (q0t.c (⟨a0.code, y21, y22⟩ : l00Src) ba0 ((hS.subs [0] [0] [] rfl).pick [0] [0] rfl) _ ht27) (by rintro _ w1 ⟨rfl, hs⟩; exact hY.wr (hS.inP [] 1 rfl rfl [0] rfl) hs.chg) ?_
 rintro _ w1 hY ⟨rfl, hs⟩
 replace hS := hS.back [0] Z Z [box ba0 ([sl Aa0_0 a0.code ca0_0, i6 t27.2.at_, .int .u64 t27.2.seed]) 113] [] hs ⟨fun _ => Iff.rfl, trivial⟩
 refine GO ?_
 refine TJ.sp Z Z Z Z Z (fun w2 => SR.idxA oU oI Z Z Z Z Z (Arr.lt ht28)) ?_
 have hO := hS
 refine TJ.es rfl rfl rfl rfl (Es.put oI (hS.inn []) (i := 2) rfl rfl rfl rfl rfl (vs := (ci .i16).enc (IntKind.i16.wrap t27.1)) rfl rfl (one1 rfl) (put_Pasture_2 (Put.idx (Put.idx (Put.all (ci .i16) t28 (IntKind.i16.wrap t27.1)) ht28) ht26)) (by (try simp only [add_lit, Nat.add_assoc, Nat.zero_add, Nat.add_zero]) <;> first | rfl | (congr 1; exact Nat.zero_add _))) (by intro w1 hS; exact hY.wr (hO.inY [] 1 rfl rfl) hS.chg) ?_
 intro w1 hY hS
 have hS : St _ _ _ [_, _, _] _ := hO.out [] hS
 exact MD H hS
 rintro F w1 ⟨rfl, hS⟩
 refine EJ.next ?_
 refine GO ?_
 obtain ⟨j70, H, K70⟩ := pbind H
 refine CJ.cut1 (fun F w1 => ∃ y29 y30 y31, some j70 = some (y29, y30, y31) ∧ F = [(0, pt ba0), (2, pt b1), (3, pt b3), (4, i6 (IntKind.i64.wrap (2 + t5.1))), (5, .int .i8 y10), (6, .int .i8 y20)] ∧ St w (fpU [box ba0 ([sl Aa0_0 a0.code ca0_0, i6 a0.at_, .int .u64 a0.seed]) 113]) w1 [box ba0 ([sl Aa0_0 a0.code ca0_0, i6 y30, .int .u64 y31]) 113, box b1 (cPasture.enc (⟨0, 0, (Arr.mk' (Arr.mk' 0 : Arr 10 Int) : Arr 10 (Arr 10 Int)), (Arr.mk' 0 : Arr 10 Int), (Arr.mk' 0 : Arr 10 Int)⟩ : Pasture)) 31, box b3 (cPasture.enc y29) 31] [roC (ci .u8) Aa0_0 ca0_0 a0.code]) ?_ ?_
 refine CJ.block ?_
 refine LQ (fun k F w1 => ∃ (y32 : Pasture) (y33 : Int) (y34 : Int) (y35 : Int), F = [(0, pt ba0), (2, pt b1), (3, pt b3), (4, i6 (IntKind.i64.wrap (2 + t5.1))), (5, .int .i8 y10), (6, .int .i8 y20), (7, i6 y33)] ∧ St w (fpU [box ba0 ([sl Aa0_0 a0.code ca0_0, i6 a0.at_, .int .u64 a0.seed]) 113]) w1 [box ba0 ([sl Aa0_0 a0.code ca0_0, i6 y34, .int .u64 y35]) 113, box b1 (cPasture.enc (⟨0, 0, (Arr.mk' (Arr.mk' 0 : Arr 10 Int) : Arr 10 (Arr 10 Int)), (Arr.mk' 0 : Arr 10 Int), (Arr.mk' 0 : Arr 10 Int)⟩ : Pasture)) 31, box b3 (cPasture.enc y32) 31] [roC (ci .u8) Aa0_0 ca0_0 a0.code] ∧ q0h.l3 a0 t5 y10 y20 k y32 y33 y34 y35 = some j70) k H hS ?_
 rintro k F w1 ⟨y32, y33, y34, y35, rfl, hS, H⟩
 rw [q0h.l3] at H
 refine GO ?_
 refine CP H (fun H => GO ?_) (fun H => ?_)
 refine CJ.block ?_
 refine GO ?_
 refine OJ.st Z Z Z (SR.build (C := cSpot) oU oI Z Z Z (zs := [.int .i8 0, .int .i8 0]) Z Z Z (⟨y20, y10⟩ : Spot) Z) ?_
 refine OF (EA hS (cSpot.enc (⟨0, 0⟩ : Spot))) ?_
 rintro _ w1 ⟨b36, rfl, hS⟩
 refine OJ.es Z Z (eS cSpot (⟨y20, y10⟩ : Spot) hS (i := 3) Z Z Z Z Z Z Z Z Z Z) ?_
 intro w1 hS
 refine GO ?_
 refine oS (SE (ce hS 3)) ?_
 refine OB H hS hb67 (q0y.c (⟨y20, y10⟩ : Spot)) fun t37 w1 H hS => ?_
 refine oB H hS hb66 (q1g.c _ y32 (hS.cells (i := 2) Z) t37) fun t38 w1 H hS => ?_
 refine OJ.split (t := 53) Z (fun hb => ?_) (fun hb => ?_)
 replace H := pif_t hb H
 refine GO ?_
 obtain ⟨t39, ht39, H⟩ := pbind H
 refine OC hb68 (q2v.c (⟨a0.code, y34, y35⟩ : l00Src) ba0 ((hS.subs [0] [0] [] Z).pick [0] [0] Z) _ ht39) ?_
 rintro _ w1 ⟨rfl, hs⟩
 replace hS := hS.back [0] Z Z [box ba0 ([sl Aa0_0 a0.code ca0_0, i6 t39.2.at_, .int .u64 t39.2.seed]) 113] [] hs ⟨fun _ => Iff.rfl, trivial⟩
 refine GO ?_
 refine CB H (fun H => GO ?_) (fun H => ?_)
 refine oS (SE (ce hS 3)) ?_
 obtain ⟨t40, ht40, H⟩ := pbind H
 refine OC hb43 (q26.c b3 y32 (⟨y20, y10⟩ : Spot) ((hS.subs [2] [] [] Z).pick [0] [] Z) _ ht40) ?_
 rintro _ w1 ⟨rfl, hs⟩
 replace hS := hS.back [2] Z Z [box b3 (cPasture.enc t40) 31] [] hs ⟨fun _ => Iff.rfl, trivial⟩
 exact MD H hS
 exact MD H hS
 replace H := pifb_f hb H
 refine GO ?_
 refine CJ.condF Z ?_
 exact MD H hS
 exact MD H hS
 rintro F w1 ⟨y29, y30, y31, ⟨⟩, rfl, hS⟩
 have H := K70
 refine EJ.blk (?_)
 exact MD H hS
 rintro F w1 ⟨y23, y24, y25, ⟨⟩, rfl, hS⟩
 have H := K68
 exact MD H hS
 exact MD H hS
 rintro F w1 ⟨y16, y17, y18, ⟨⟩, rfl, hS⟩
 have H := K61
 refine EJ.blk (?_)
 exact MD H hS
 rintro F w1 ⟨y13, y14, y15, ⟨⟩, rfl, hS⟩
 have H := K50
 exact MD H hS
 exact MD H hS
 rintro F w1 ⟨y6, y7, y8, ⟨⟩, rfl, hS⟩
 have H := K2
 refine EJ.next ?_
 refine GO ?_
 refine OS (SE (ce hS 2)) ?_
 refine OJ.es rfl rfl (Es.put oI hS (i := 1) rfl rfl rfl rfl rfl (vs := cPasture.enc y6) rfl (cPasture.len _) (cPasture.one _) (Put.all cPasture (⟨0, 0, (Arr.mk' (Arr.mk' 0 : Arr 10 Int) : Arr 10 (Arr 10 Int)), (Arr.mk' 0 : Arr 10 Int), (Arr.mk' 0 : Arr 10 Int)⟩ : Pasture) y6) (by (try simp only [add_lit, Nat.add_assoc, Nat.zero_add, Nat.add_zero]) <;> first | rfl | (congr 1; exact Nat.zero_add _))) ?_
 intro w1 hS
 refine GO ?_
 obtain rfl := Option.some.inj H
 exact EJ.fin Z (.cell Z (ldE oU oI Z Z Z (hS.cells (i := 1) Z) Z) .nil) ⟨Z, hS.pick [0] [] Z⟩

def q2y.f (k : Nat) (a0 : List Int) : Option Pasture := (q33.f a0).bind fun t2 => (q0h.f k (⟨a0, t2.at_, t2.seed⟩ : l00Src)).bind fun t4 => some t4.1
theorem q2y.c {k w Aa0 ca0} {a0 : List Int} (hr0 : Rd (ci .u8) w Aa0 a0) (hc0 : a0.length ≤ ca0) (r : Pasture) (H : q2y.f k a0 = some r) :
 CV Tryz.prog 5 [sl Aa0 a0 ca0].toArray w fun v w' => v = .agg (cPasture.enc r).toArray ∧ Ext w w' := by
 have hS := ((St.init w no).param (ci .u8) Aa0 ca0 a0 hr0 hc0)
 unfold q2y.f at H
 refine CV.body Tryz.func5 Z Tryz.ntmps5 Z ?_
 refine GO ?_
 refine OJ.ef rfl rfl rfl (Ef.alloc hS oI rfl rfl (cPasture.enc (⟨0, 0, (Arr.mk' (Arr.mk' 0 : Arr 10 Int) : Arr 10 (Arr 10 Int)), (Arr.mk' 0 : Arr 10 Int), (Arr.mk' 0 : Arr 10 Int)⟩ : Pasture)) (by kernel_rfl)) ?_
 rintro _ w1 ⟨b1, rfl, hS⟩
 refine GO ?_
 obtain ⟨t2, ht2, H⟩ := pbind H
 refine OC hb27 (q33.c (rA hS 0 Z) (rB hS 0 Z) _ ht2) ?_
 rintro _ w1 ⟨b3, rfl, hs⟩
 replace hS := hS.addN hs
 obtain ⟨t4, ht4, H⟩ := pbind H
 refine OC hb26 (q0h.c (⟨a0, t2.at_, t2.seed⟩ : l00Src) b3 ((hS.subs [1] [0] [] Z).pick [0] [0] Z) _ ht4) ?_
 rintro _ w1 ⟨rfl, hs⟩
 replace hS := hS.back [1] Z Z [box b3 ([sl Aa0 a0 ca0, i6 t4.2.at_, .int .u64 t4.2.seed]) 113] [] hs ⟨fun _ => Iff.rfl, trivial⟩
 refine OJ.es rfl rfl (Es.put oI hS (i := 0) rfl rfl rfl rfl rfl (vs := cPasture.enc t4.1) rfl (cPasture.len _) (cPasture.one _) (Put.all cPasture (⟨0, 0, (Arr.mk' (Arr.mk' 0 : Arr 10 Int) : Arr 10 (Arr 10 Int)), (Arr.mk' 0 : Arr 10 Int), (Arr.mk' 0 : Arr 10 Int)⟩ : Pasture) t4.1) (by (try simp only [add_lit, Nat.add_assoc, Nat.zero_add, Nat.add_zero]) <;> first | rfl | (congr 1; exact Nat.zero_add _))) ?_
 intro w1 hS
 refine GO ?_
 obtain rfl := Option.some.inj H
 exact EJ.fin Z (.cell Z (ldE oU oI Z Z Z (hS.cells (i := 0) Z) Z) .nil) ⟨Z, hS.ext⟩

def q1s.l1 (a0 : List Int) (a1 : Pasture) : Nat → (List Spot) → Int → Int → Int → Option (List Spot)
  | 0, _, _, _, _ => none
  | k + 1, y9, y12, y13, y14 => if 0 < y12 then ((q0t.f (⟨a0, y13, y14⟩ : l00Src) (IntKind.i64.wrap a1.Wide)).bind fun t15 => (q0t.f (⟨a0, t15.2.at_, t15.2.seed⟩ : l00Src) (IntKind.i64.wrap a1.High)).bind fun t16 => (chk (y9.length + ([(⟨IntKind.i8.wrap t15.1, IntKind.i8.wrap t16.1⟩ : Spot)] : List Spot).length ≤ 4294967296)).bind fun u18 => q1s.l1 a0 a1 k (y9 ++ ([(⟨IntKind.i8.wrap t15.1, IntKind.i8.wrap t16.1⟩ : Spot)] : List Spot)) (IntKind.i64.wrap (y12 - 1)) t16.2.at_ t16.2.seed) else (some y9)
def q1s.f (k : Nat) (a0 : List Int) (a1 : Pasture) : Option (List Spot) := (q33.f a0).bind fun t2 => (q0t.f (⟨a0, t2.at_, t2.seed⟩ : l00Src) 5).bind fun t5 => (q1s.l1 a0 a1 k ([] : List Spot) t5.1 t5.2.at_ t5.2.seed).bind fun y6 => some y6
theorem q1s.c {k w Aa0 ca0} {a0 : List Int} (hr0 : Rd (ci .u8) w Aa0 a0) (hc0 : a0.length ≤ ca0) (a1 : Pasture) (r : List Spot) (H : q1s.f k a0 a1 = some r) :
 CV Tryz.prog 6 [sl Aa0 a0 ca0, .agg (cPasture.enc a1).toArray].toArray w fun v w' => ∃ (A0 : Option Addr) (c0 : Nat), v = .slice A0 r.length c0 ∧ St w no w' [rowC cSpot A0 c0 55 r] [] := by
 have hS := ((St.init w no).param (ci .u8) Aa0 ca0 a0 hr0 hc0)
 unfold q1s.f at H
 refine CV.body Tryz.func6 Z Tryz.ntmps6 Z ?_
 refine GO ?_
 refine oX hS (cPasture.enc a1) fun b1 w1 hS => ?_
 obtain ⟨t2, ht2, H⟩ := pbind H
 refine OC hb27 (q33.c (rA hS 0 Z) (rB hS 0 Z) _ ht2) ?_
 rintro _ w1 ⟨b3, rfl, hs⟩
 replace hS := hS.addN hs
 refine GO ?_
 refine OF (EL hS cSpot ([] : List Spot)) ?_
 rintro _ w1 ⟨A4, rfl, hS⟩
 refine GO ?_
 obtain ⟨t5, ht5, H⟩ := pbind H
 refine OC hb28 (q0t.c (⟨a0, t2.at_, t2.seed⟩ : l00Src) b3 ((hS.subs [1] [0] [] Z).pick [0] [0] Z) _ ht5) ?_
 rintro _ w1 ⟨rfl, hs⟩
 replace hS := hS.back [1] Z Z [box b3 ([sl Aa0 a0 ca0, i6 t5.2.at_, .int .u64 t5.2.seed]) 113] [] hs ⟨fun _ => Iff.rfl, trivial⟩
 refine GO ?_
 obtain ⟨j71, H, K71⟩ := pbind H
 refine CJ.cut1 (fun F w1 => ∃ y6 A7 c8, some y6 = some j71 ∧ F = [(6, sl A7 y6 c8)] ∧ St w no w1 [rowC cSpot A7 c8 55 y6] [roC (ci .u8) Aa0 ca0 a0]) ?_ ?_
 refine CJ.block ?_
 refine LQ (fun k F w1 => ∃ (y9 : List Spot) (y12 : Int) (y13 : Int) (y14 : Int) (A10 c11 : _), F = [(3, pt b1), (5, pt b3), (6, sl A10 y9 c11), (7, i6 y12)] ∧ St w no w1 [box b1 (cPasture.enc a1) 31, box b3 ([sl Aa0 a0 ca0, i6 y13, .int .u64 y14]) 113, rowC cSpot A10 c11 55 y9] [roC (ci .u8) Aa0 ca0 a0] ∧ q1s.l1 a0 a1 k y9 y12 y13 y14 = some j71) k H hS ?_
 rintro k F w1 ⟨y9, y12, y13, y14, A10, c11, rfl, hS, H⟩
 rw [q1s.l1] at H
 refine GO ?_
 refine CP H (fun H => GO ?_) (fun H => ?_)
 refine CJ.block ?_
 refine GO ?_
 refine oS (SL (CA.fld (ce hS 0) (mid_part (fe_Pasture_0 _) (fl_Pasture_0 _) ((ci .i8).len _)))) ?_
 obtain ⟨t15, ht15, H⟩ := pbind H
 refine OC hb28 (q0t.c (⟨a0, y13, y14⟩ : l00Src) b3 ((hS.subs [1] [0] [] Z).pick [0] [0] Z) _ ht15) ?_
 rintro _ w1 ⟨rfl, hs⟩
 replace hS := hS.back [1] Z Z [box b3 ([sl Aa0 a0 ca0, i6 t15.2.at_, .int .u64 t15.2.seed]) 113] [] hs ⟨fun _ => Iff.rfl, trivial⟩
 refine GO ?_
 refine oS (SL (CA.fld (ce hS 0) (mid_part (fe_Pasture_1 _) (fl_Pasture_1 _) ((ci .i8).len _)))) ?_
 obtain ⟨t16, ht16, H⟩ := pbind H
 refine OC hb28 (q0t.c (⟨a0, t15.2.at_, t15.2.seed⟩ : l00Src) b3 ((hS.subs [1] [0] [] Z).pick [0] [0] Z) _ ht16) ?_
 rintro _ w1 ⟨rfl, hs⟩
 replace hS := hS.back [1] Z Z [box b3 ([sl Aa0 a0 ca0, i6 t16.2.at_, .int .u64 t16.2.seed]) 113] [] hs ⟨fun _ => Iff.rfl, trivial⟩
 refine GO ?_
 refine OJ.st Z Z Z (SR.build (C := cSpot) oU oI Z Z Z (zs := [.int .i8 0, .int .i8 0]) Z Z Z (⟨IntKind.i8.wrap t15.1, IntKind.i8.wrap t16.1⟩ : Spot) Z) ?_
 refine OF (EL hS cSpot ([(⟨IntKind.i8.wrap t15.1, IntKind.i8.wrap t16.1⟩ : Spot)] : List Spot)) ?_
 rintro _ w1 ⟨A17, rfl, hS⟩
 obtain ⟨u18, hu18, H⟩ := pbind H
 refine OW (AP hS 2 (rC hS 3 Z) (chk_some hu18)) ?_
 rintro _ w1 ⟨A19, c20, rfl, hS⟩
 exact MD H hS
 exact MD H hS
 rintro F w1 ⟨y6, A7, c8, he, rfl, hS⟩
 obtain rfl := Option.some.inj he
 have H := K71
 refine EJ.next ?_
 refine GO ?_
 obtain rfl := Option.some.inj H
 exact FT ⟨A7, c8, Z, hS.pick [0] [] Z⟩

def q1h.l1 (a0 : List Spot) (a1 : Spot) : Nat → Int → Option (Bool ⊕ Unit)
  | 0, _ => none
  | k + 1, y2 => if y2 < (a0.length : Int) then ((getI a0 y2).bind fun t3 => if t3 = a1 then (some (Sum.inl true)) else (q1h.l1 a0 a1 k (IntKind.i64.wrap (y2 + 1)))) else (some (Sum.inr ()))
def q1h.f (k : Nat) (a0 : List Spot) (a1 : Spot) : Option Bool := (q1h.l1 a0 a1 k 0).bind fun s73 => match s73 with | .inl r => some r | .inr _ => some false
theorem q1h.c {k w Aa0 ca0} {a0 : List Spot} (hr0 : Rd cSpot w Aa0 a0) (hc0 : a0.length ≤ ca0) (a1 : Spot) (r : Bool) (H : q1h.f k a0 a1 = some r) :
 CV Tryz.prog 22 [sl Aa0 a0 ca0, .agg (cSpot.enc a1).toArray].toArray w fun v w' => v = .bool r ∧ Ext w w' := by
 have hS := ((St.init w no).param cSpot Aa0 ca0 a0 hr0 hc0)
 unfold q1h.f at H
 refine CV.body Tryz.func22 Z Tryz.ntmps22 Z ?_
 refine GO ?_
 refine oX hS (cSpot.enc a1) fun b1 w1 hS => ?_
 obtain ⟨j73, H, K73⟩ := pbind H
 refine CJ.cut1 (fun F w1 => some j73 = some (Sum.inr ()) ∧ F = [] ∧ St w no w1 [] [roC cSpot Aa0 ca0 a0]) ?_ ?_
 refine CJ.block ?_
 refine LQ (fun k F w1 => ∃ (y2 : Int), F = [(0, sl Aa0 a0 ca0), (3, pt b1), (5, i6 y2)] ∧ St w no w1 [box b1 (cSpot.enc a1) 55] [roC cSpot Aa0 ca0 a0] ∧ q1h.l1 a0 a1 k y2 = some j73) k H hS ?_
 rintro k F w1 ⟨y2, rfl, hS, H⟩
 rw [q1h.l1] at H
 refine GO ?_
 refine CP H (fun H => GO ?_) (fun H => ?_)
 refine CJ.block ?_
 refine GO ?_
 refine CJ.draw [] [0, 1, 2, 3, 4, 5] mixed (by kernel_rfl) hS fun w1 hS => ?_
 refine GO ?_
 obtain ⟨t3, ht3, H⟩ := pbind H
 obtain ⟨ad3, e3⟩ := (rA hS 0 Z).some' ht3
 refine DS (SI e3 (getI_some ht3).1) ?_
 refine DS (SE ((rA hS 0 Z).at_ e3 ht3)) ?_
 refine DS (SE (ce hS 0)) ?_
 refine DJ.st Z Z Z Z Z (SR.eqS eqT55 eqG55 Z Z Z (Z : _ = (cSpot.enc t3).toArray) (Z : _ = (cSpot.enc a1).toArray)) ?_
 refine GO ?_
 refine CP H (fun H => GO ?_) (fun H => ?_)
 obtain rfl := Option.some.inj H; have H := K73
 exact FE H hS
 exact MD H hS
 exact MD H hS
 rintro F w1 ⟨⟨⟩, rfl, hS⟩
 have H := K73
 refine EJ.next ?_
 exact FE H hS

def q1p.l1 (a2 : List Spot) (t2 : List Spot) : Nat → (List Spot) → Int → Option (List Spot)
  | 0, _, _ => none
  | k + 1, y9, y12 => if y12 < (t2.length : Int) then ((getI t2 y12).bind fun t13 => (q1h.f k a2 t13).bind fun t14 => if (!t14) = true then ((getI t2 y12).bind fun t15 => (chk (y9.length + ([t15] : List Spot).length ≤ 4294967296)).bind fun u17 => q1p.l1 a2 t2 k (y9 ++ ([t15] : List Spot)) (IntKind.i64.wrap (y12 + 1))) else (q1p.l1 a2 t2 k y9 (IntKind.i64.wrap (y12 + 1)))) else (some y9)
def q1p.f (k : Nat) (a0 : List Int) (a1 : Pasture) (a2 : List Spot) : Option (List Spot) := (q1s.f k a0 a1).bind fun t2 => (q1p.l1 a2 t2 k ([] : List Spot) 0).bind fun y6 => some y6
theorem q1p.c {k w Aa0 ca0} {a0 : List Int} (hr0 : Rd (ci .u8) w Aa0 a0) (hc0 : a0.length ≤ ca0) (a1 : Pasture) {Aa2 ca2} {a2 : List Spot} (hr2 : Rd cSpot w Aa2 a2) (hc2 : a2.length ≤ ca2) (r : List Spot) (H : q1p.f k a0 a1 a2 = some r) :
 CV Tryz.prog 7 [sl Aa0 a0 ca0, .agg (cPasture.enc a1).toArray, sl Aa2 a2 ca2].toArray w fun v w' => ∃ (A0 : Option Addr) (c0 : Nat), v = .slice A0 r.length c0 ∧ St w no w' [rowC cSpot A0 c0 55 r] [] := by
 have hS := (((St.init w no).param (ci .u8) Aa0 ca0 a0 hr0 hc0).param cSpot Aa2 ca2 a2 hr2 hc2)
 unfold q1p.f at H
 refine CV.body Tryz.func7 Z Tryz.ntmps7 Z ?_
 refine GO ?_
 refine oX hS (cPasture.enc a1) fun b1 w1 hS => ?_
 refine OS (SE (ce hS 0)) ?_
 obtain ⟨t2, ht2, H⟩ := pbind H
 refine OC hb6 (q1s.c (rA hS 0 Z) (rB hS 0 Z) a1 _ ht2) ?_
 rintro _ w1 ⟨A3, c4, rfl, hs⟩
 replace hS := hS.addN hs
 refine GO ?_
 refine OF (EL hS cSpot ([] : List Spot)) ?_
 rintro _ w1 ⟨A5, rfl, hS⟩
 refine GO ?_
 obtain ⟨j72, H, K72⟩ := pbind H
 refine CJ.cut1 (fun F w1 => ∃ y6 A7 c8, some y6 = some j72 ∧ F = [(8, sl A7 y6 c8)] ∧ St w no w1 [rowC cSpot A7 c8 55 y6] [roC (ci .u8) Aa0 ca0 a0, roC cSpot Aa2 ca2 a2]) ?_ ?_
 refine CJ.block ?_
 refine LQ (fun k F w1 => ∃ (y9 : List Spot) (y12 : Int) (A10 c11 : _), F = [(2, sl Aa2 a2 ca2), (7, sl A3 t2 c4), (8, sl A10 y9 c11), (9, i6 y12)] ∧ St w no w1 [rowC cSpot A3 c4 55 t2, rowC cSpot A10 c11 55 y9] [roC (ci .u8) Aa0 ca0 a0, roC cSpot Aa2 ca2 a2] ∧ q1p.l1 a2 t2 k y9 y12 = some j72) k H hS ?_
 rintro k F w1 ⟨y9, y12, A10, c11, rfl, hS, H⟩
 rw [q1p.l1] at H
 refine GO ?_
 refine CP H (fun H => GO ?_) (fun H => ?_)
 refine CJ.block ?_
 refine GO ?_
 obtain ⟨t13, ht13, H⟩ := pbind H
 obtain ⟨ad13, e13⟩ := (rC hS 0 Z).some' ht13
 refine OS (SI e13 (getI_some ht13).1) ?_
 refine OS (SE ((rC hS 0 Z).at_ e13 ht13)) ?_
 refine oB H hS hb22 (q1h.c (rA hS 1 Z) (rB hS 1 Z) t13) fun t14 w1 H hS => ?_
 refine CB H (fun H => GO ?_) (fun H => ?_)
 obtain ⟨t15, ht15, H⟩ := pbind H
 obtain ⟨ad15, e15⟩ := (rC hS 0 Z).some' ht15
 refine OS (SI e15 (getI_some ht15).1) ?_
 refine OS (SE ((rC hS 0 Z).at_ e15 ht15)) ?_
 refine OF (EL hS cSpot ([t15] : List Spot)) ?_
 rintro _ w1 ⟨A16, rfl, hS⟩
 obtain ⟨u17, hu17, H⟩ := pbind H
 refine OW (AP hS 1 (rC hS 2 Z) (chk_some hu17)) ?_
 rintro _ w1 ⟨A18, c19, rfl, hS⟩
 exact MD H hS
 exact MD H hS
 exact MD H hS
 rintro F w1 ⟨y6, A7, c8, he, rfl, hS⟩
 obtain rfl := Option.some.inj he
 have H := K72
 refine EJ.next ?_
 refine GO ?_
 obtain rfl := Option.some.inj H
 exact FT ⟨A7, c8, Z, hS.pick [0] [] Z⟩

def q1r.f (a0 : Int) : Option (List Spot) := (chk (0 ≤ a0 ∧ a0 ≤ 4294967296)).bind fun _ => some []
theorem q1r.c {w} {a0 : Int} (r : List Spot) (H : q1r.f a0 = some r) :
 CV Tryz.prog 100 [.slice none 0 0, i6 a0].toArray w fun v w' => ∃ (A0 : Option Addr) (c0 : Nat), v = .slice A0 r.length c0 ∧ St w no w' [rowC cSpot A0 c0 55 r] [] := by
 unfold q1r.f at H
 obtain ⟨u, hu, H⟩ := pbind H
 have h := chk_some hu
 obtain rfl := Option.some.inj H
 obtain ⟨ii, hii, hiz, hs, hby⟩ := oI.at_ (t := 55) (d := ⟨2, 2, (.agg #[.int .i8 0, .int .i8 0])⟩) rfl
 exact grow_cv (C := cSpot) (sz := 2) (by_ := 2) (z := (.agg #[.int .i8 0, .int .i8 0])) w h Z Z Z
  (fun w => Any8.slices_Grow_room layGrowSpot none 0 0 0 w (Nat.le_refl _) (by omega) (by omega) (Nat.le_refl _))
  (fun n w h1 h2 h3 => Any8.slices_Grow_grow layGrowSpot ii (.agg #[.int .i8 0, .int .i8 0]) hii hiz (by rw [hs]; decide) none 0 0 n [] w (Nat.le_refl _) h1 (by rw [hby]; exact h2) h3 (by simp) (fun _ => rfl) (fun a ha => by cases ha))

def q01.l1 (a0 : List (List Spot)) : Nat → Int → Int → Option Int
  | 0, _, _ => none
  | k + 1, y2, y3 => if y3 < (a0.length : Int) then ((getI a0 y3).bind fun t4 => if (IntKind.i64.wrap (y2 + (t4.length : Int))) < 0 then none else (q01.l1 a0 k (IntKind.i64.wrap (y2 + (t4.length : Int))) (IntKind.i64.wrap (y3 + 1)))) else (some y2)
def q01.l2 (a0 : List (List Spot)) : Nat → (List Spot) → Int → Option (List Spot)
  | 0, _, _ => none
  | k + 1, y11, y14 => if y14 < (a0.length : Int) then ((getI a0 y14).bind fun t15 => (chk (y11.length + t15.length ≤ 4294967296)).bind fun u16 => q01.l2 a0 k (y11 ++ t15) (IntKind.i64.wrap (y14 + 1))) else (some y11)
def q01.f (k : Nat) (a0 : List (List Spot)) : Option (List Spot) := (q01.l1 a0 k 0 0).bind fun y1 => (q1r.f y1).bind fun t5 => (q01.l2 a0 k t5 0).bind fun y8 => some y8
theorem q01.c {k w Aa0 ca0} (Da0 : List SH) {a0 : List (List Spot)} (hr0 : (rosC cSpot Aa0 ca0 Da0 a0).holds w) (r : List Spot) (H : q01.f k a0 = some r) :
 CV Tryz.prog 47 [sl Aa0 a0 ca0].toArray w fun v w' => ∃ (A0 : Option Addr) (c0 : Nat), v = .slice A0 r.length c0 ∧ St w no w' [rowC cSpot A0 c0 55 r] [] := by
 have hS := ((St.init w no).paramC (rosC cSpot Aa0 ca0 Da0 a0) hr0)
 unfold q01.f at H
 refine CV.body Tryz.func47 Z Tryz.ntmps47 Z ?_
 refine GO ?_
 obtain ⟨j74, H, K74⟩ := pbind H
 refine CJ.cut1 (fun F w1 => ∃ y1, some y1 = some j74 ∧ F = [(0, sl Aa0 a0 ca0), (3, i6 y1)] ∧ St w no w1 [] [rosC cSpot Aa0 ca0 Da0 a0]) ?_ ?_
 refine CJ.block ?_
 refine LQ (fun k F w1 => ∃ (y2 : Int) (y3 : Int), F = [(0, sl Aa0 a0 ca0), (3, i6 y2), (9, sl Aa0 a0 ca0), (10, i6 (a0.length : Int)), (11, i6 y3)] ∧ St w no w1 [] [rosC cSpot Aa0 ca0 Da0 a0] ∧ q01.l1 a0 k y2 y3 = some j74) k H hS ?_
 rintro k F w1 ⟨y2, y3, rfl, hS, H⟩
 rw [q01.l1] at H
 refine GO ?_
 refine CP H (fun H => GO ?_) (fun H => ?_)
 refine CJ.block ?_
 refine GO ?_
 obtain ⟨t4, ht4, H⟩ := pbind H
 obtain ⟨Ae4, ce4, g4, d4, hx4⟩ := ros_el (hS.rosH (i := 0) rfl) ht4
 obtain ⟨ad4, e4⟩ := (ros_rd (hS.rosH (i := 0) rfl)).some' g4
 refine OS (SI e4 (getI_some ht4).1) ?_
 refine oS (SL ((ros_rd (hS.rosH (i := 0) Z)).at_ e4 g4)) ?_
 refine CP H (fun H => ?_) (fun H => ?_)
 cases H
 exact MD H hS
 exact MD H hS
 rintro F w1 ⟨y1, he, rfl, hS⟩
 obtain rfl := Option.some.inj he
 have H := K74
 refine EJ.next ?_
 refine GO ?_
 obtain ⟨t5, ht5, H⟩ := pbind H
 refine OC hb100 (q1r.c _ ht5) ?_
 rintro _ w1 ⟨A6, c7, rfl, hs⟩
 replace hS := hS.addN hs
 refine GO ?_
 obtain ⟨j75, H, K75⟩ := pbind H
 refine CJ.cut1 (fun F w1 => ∃ y8 A9 c10, some y8 = some j75 ∧ F = [(6, sl A9 y8 c10)] ∧ St w no w1 [rowC cSpot A9 c10 55 y8] [rosC cSpot Aa0 ca0 Da0 a0]) ?_ ?_
 refine CJ.block ?_
 refine LQ (fun k F w1 => ∃ (y11 : List Spot) (y14 : Int) (A12 c13 : _), F = [(6, sl A12 y11 c13), (25, sl Aa0 a0 ca0), (26, i6 (a0.length : Int)), (27, i6 y14)] ∧ St w no w1 [rowC cSpot A12 c13 55 y11] [rosC cSpot Aa0 ca0 Da0 a0] ∧ q01.l2 a0 k y11 y14 = some j75) k H hS ?_
 rintro k F w1 ⟨y11, y14, A12, c13, rfl, hS, H⟩
 rw [q01.l2] at H
 refine GO ?_
 refine CP H (fun H => GO ?_) (fun H => ?_)
 refine CJ.block ?_
 refine GO ?_
 obtain ⟨t15, ht15, H⟩ := pbind H
 obtain ⟨Ae15, ce15, g15, d15, hx15⟩ := ros_el (hS.rosH (i := 0) rfl) ht15
 obtain ⟨ad15, e15⟩ := (ros_rd (hS.rosH (i := 0) rfl)).some' g15
 refine OS (SI e15 (getI_some ht15).1) ?_
 refine oS (SL ((ros_rd (hS.rosH (i := 0) Z)).at_ e15 g15)) ?_
 obtain ⟨u16, hu16, H⟩ := pbind H
 refine OW (AP hS 0 (ros_sub (hS.rosH (i := 0) Z) d15 hx15) (chk_some hu16)) ?_
 rintro _ w1 ⟨A17, c18, rfl, hS⟩
 exact MD H hS
 exact MD H hS
 rintro F w1 ⟨y8, A9, c10, he, rfl, hS⟩
 obtain rfl := Option.some.inj he
 have H := K75
 refine EJ.next ?_
 refine GO ?_
 obtain rfl := Option.some.inj H
 exact FT ⟨A9, c10, Z, hS.pick [0] [] Z⟩

def q1q.f (a0 : Int) (a1 : Int) (a2 : Int) : Option Bool := if a1 ≤ a0 then (some (decide (a0 ≤ a2))) else (some false)
theorem q1q.c {w} {a0 : Int} {a1 : Int} {a2 : Int} (r : Bool) (H : q1q.f a0 a1 a2 = some r) :
 CV Tryz.prog 114 [.int .i64 a0, i6 a1, i6 a2].toArray w fun v w' => v = .bool r ∧ Ext w w' := by
 have hS := (St.init w no)
 unfold q1q.f at H
 refine CV.body Tryz.func114 Z Tryz.ntmps114 Z ?_
 refine GO ?_
 refine OJ.split (t := 10) Z (fun hb => ?_) (fun hb => ?_)
 replace H := pif_t (of_decide_eq_true hb) H
 exact FE H hS
 replace H := pif_f (of_decide_eq_false hb) H
 exact FE H hS

def q0m.f (a0 : Pasture) (a1 : Spot) : Option Bool := (q1q.f (IntKind.i64.wrap a1.X) 0 (IntKind.i64.wrap ((if 10 < (IntKind.i64.wrap a0.Wide) then 10 else (IntKind.i64.wrap a0.Wide)) - 1))).bind fun t3 => if t3 = true then ((q1q.f (IntKind.i64.wrap a1.Y) 0 (IntKind.i64.wrap ((if 10 < (IntKind.i64.wrap a0.High) then 10 else (IntKind.i64.wrap a0.High)) - 1))).bind fun t4 => some t4) else (some false)
theorem q0m.c {w} (a0 : Pasture) (a1 : Spot) (r : Bool) (H : q0m.f a0 a1 = some r) :
 CV Tryz.prog 99 [.agg (cPasture.enc a0).toArray, .agg (cSpot.enc a1).toArray].toArray w fun v w' => v = .bool r ∧ Ext w w' := by
 have hS := (St.init w no)
 unfold q0m.f at H
 refine CV.body Tryz.func99 Z Tryz.ntmps99 Z ?_
 refine GO ?_
 refine OF (EB hS (cPasture.enc a0)) ?_
 rintro _ w1 ⟨b1, rfl, hS⟩
 refine oX hS (cSpot.enc a1) fun b2 w1 hS => ?_
 refine oS (SL (cf hS 1 0)) ?_
 refine oS (SL (CA.fld (ce hS 0) (mid_part (fe_Pasture_0 _) (fl_Pasture_0 _) ((ci .i8).len _)))) ?_
 refine oB H hS hb114 (q1q.c) fun t3 w1 H hS => ?_
 refine OJ.split (t := 14) Z (fun hb => ?_) (fun hb => ?_)
 replace H := pif_t hb H
 refine GO ?_
 refine oS (SL (cf hS 1 1)) ?_
 refine oS (SL (CA.fld (ce hS 0) (mid_part (fe_Pasture_1 _) (fl_Pasture_1 _) ((ci .i8).len _)))) ?_
 refine OB H hS hb114 (q1q.c) fun t4 w1 H hS => ?_
 exact FE H hS
 replace H := pifb_f hb H
 exact FE H hS

def q35.f (a0 : Bool) : Option Int := if a0 = true then (some 1) else (some 0)
theorem q35.c {w} {a0 : Bool} (r : Int) (H : q35.f a0 = some r) :
 CV Tryz.prog 115 [.bool a0].toArray w fun v w' => v = .int .i64 r ∧ Ext w w' := by
 have hS := (St.init w no)
 unfold q35.f at H
 refine CV.body Tryz.func115 Z Tryz.ntmps115 Z ?_
 refine GO ?_
 refine CB H (fun H => ?_) (fun H => ?_)
 exact FE H hS
 exact FE H hS

def q0i.l2 (a0 : Pasture) (y5 : Int) : Nat → Int → Int → Int → Option (((Bool ⊕ Unit) ⊕ Unit) ⊕ (Int × Int))
  | 0, _, _, _ => none
  | k + 1, y8, y9, y10 => if y10 < 10 then ((q0m.f a0 (⟨IntKind.i8.wrap y10, IntKind.i8.wrap y5⟩ : Spot)).bind fun t11 => if t11 = true then ((q0m.f a0 (⟨IntKind.i8.wrap (IntKind.i64.wrap (y10 + 1)), IntKind.i8.wrap y5⟩ : Spot)).bind fun t12 => (q35.f t12).bind fun t13 => (chk (0 ≤ y10)).bind fun u14 => (q0m.f a0 (⟨IntKind.i8.wrap y10, IntKind.i8.wrap (IntKind.i64.wrap (y5 + 1))⟩ : Spot)).bind fun t15 => (q35.f t15).bind fun t16 => (chk (0 ≤ y10)).bind fun u17 => (getI a0.Grass.l y5).bind fun t18 => (getI t18.l y10).bind fun t19 => (q1q.f (IntKind.i64.wrap t19) 0 1000).bind fun t20 => if (!t20) = true then (some (Sum.inl (Sum.inl (Sum.inl false)))) else (q0i.l2 a0 y5 k (orI .u16 y8 (shlI .u16 (IntKind.u16.wrap t13) y10)) (orI .u16 y9 (shlI .u16 (IntKind.u16.wrap t16) y10)) (IntKind.i64.wrap (y10 + 1)))) else ((getI a0.Grass.l y5).bind fun t21 => (getI t21.l y10).bind fun t22 => (q1q.f (IntKind.i64.wrap t22) 0 0).bind fun t23 => if (!t23) = true then (some (Sum.inl (Sum.inl (Sum.inl false)))) else (q0i.l2 a0 y5 k y8 y9 (IntKind.i64.wrap (y10 + 1))))) else (some (Sum.inr (y8, y9)))
def q0i.l1 (a0 : Pasture) : Nat → Int → Option (Bool ⊕ Unit)
  | 0, _ => none
  | k + 1, y5 => if y5 < 10 then (((q0i.l2 a0 y5 k 0 0 0).bind fun s86 => match s86 with | .inl r => some r | .inr (y6, y7) => (getI a0.East.l y5).bind fun t24 => if (andNotI .u16 t24 y6) ≠ 0 then (some (Sum.inl (Sum.inl false))) else ((getI a0.South.l y5).bind fun t25 => if (andNotI .u16 t25 y7) ≠ 0 then (some (Sum.inl (Sum.inl false))) else (some (Sum.inr ())))).bind fun s84 => match s84 with | .inl r => some r | .inr _ => q0i.l1 a0 k (IntKind.i64.wrap (y5 + 1))) else (some (Sum.inr ()))
def q0i.f (k : Nat) (a0 : Pasture) : Option Bool := ((q1q.f (IntKind.i64.wrap a0.Wide) 1 10).bind fun t3 => if (!t3) = true then (some true) else ((q1q.f (IntKind.i64.wrap a0.High) 1 10).bind fun t4 => some (!t4))).bind fun y2 => if y2 = true then (some false) else ((q0i.l1 a0 k 0).bind fun s77 => match s77 with | .inl r => some r | .inr _ => some true)
theorem q0i.c {k w} (a0 : Pasture) (r : Bool) (H : q0i.f k a0 = some r) :
 CV Tryz.prog 64 [.agg (cPasture.enc a0).toArray].toArray w fun v w' => v = .bool r ∧ Ext w w' := by
 have hS := (St.init w no)
 unfold q0i.f at H
 refine CV.body Tryz.func64 Z Tryz.ntmps64 Z ?_
 refine GO ?_
 refine OF (EB hS (cPasture.enc a0)) ?_
 rintro _ w1 ⟨b1, rfl, hS⟩
 refine PX 1 ?_
 refine CJ.seq ?_
 obtain ⟨j76, H, K76⟩ := pbind H
 refine CJ.cut (fun F w1 => ∃ y2, some y2 = some j76 ∧ F = [(1, pt b1), (19, .bool y2)] ∧ St w no w1 [box b1 (cPasture.enc a0) 31] []) ?_ ?_
 refine GO ?_
 refine oS (SL (CA.fld (ce hS 0) (mid_part (fe_Pasture_0 _) (fl_Pasture_0 _) ((ci .i8).len _)))) ?_
 refine oB H hS hb114 (q1q.c) fun t3 w1 H hS => ?_
 refine OJ.split (t := 13) Z (fun hb => ?_) (fun hb => ?_)
 replace H := pif_t hb H
 exact MD H hS
 replace H := pifb_f hb H
 refine GO ?_
 refine oS (SL (CA.fld (ce hS 0) (mid_part (fe_Pasture_1 _) (fl_Pasture_1 _) ((ci .i8).len _)))) ?_
 refine OB H hS hb114 (q1q.c) fun t4 w1 H hS => ?_
 exact MD H hS
 rintro F w1 ⟨y2, he, rfl, hS⟩
 obtain rfl := Option.some.inj he
 have H := K76
 refine CB H (fun H => ?_) (fun H => ?_)
 exact FE H hS
 refine GO ?_
 obtain ⟨j77, H, K77⟩ := pbind H
 refine CJ.cut1 (fun F w1 => some j77 = some (Sum.inr ()) ∧ F = [] ∧ St w no w1 [] []) ?_ ?_
 refine CJ.block ?_
 refine LQ (fun k F w1 => ∃ (y5 : Int), F = [(1, pt b1), (20, i6 y5)] ∧ St w no w1 [box b1 (cPasture.enc a0) 31] [] ∧ q0i.l1 a0 k y5 = some j77) k H hS ?_
 rintro k F w1 ⟨y5, rfl, hS, H⟩
 rw [q0i.l1] at H
 refine GO ?_
 refine CP H (fun H => ?_) (fun H => ?_)
 refine CJ.skip (EJ.next ?_)
 obtain ⟨j84, H, K84⟩ := pbind H
 refine CJ.cut (fun F w1 => some j84 = some (Sum.inr ()) ∧ F = [(1, pt b1), (20, i6 y5)] ∧ St w no w1 [box b1 (cPasture.enc a0) 31] []) ?_ ?_
 refine CJ.block ?_
 refine GO ?_
 obtain ⟨j86, H, K86⟩ := pbind H
 refine CJ.cut1 (fun F w1 => ∃ y6 y7, some j86 = some (Sum.inr (y6, y7)) ∧ F = [(1, pt b1), (3, i6 y5), (4, .int .u16 y6), (5, .int .u16 y7), (20, i6 y5)] ∧ St w no w1 [box b1 (cPasture.enc a0) 31] []) ?_ ?_
 refine CJ.block ?_
 refine LQ (fun k F w1 => ∃ (y8 : Int) (y9 : Int) (y10 : Int), F = [(1, pt b1), (3, i6 y5), (4, .int .u16 y8), (5, .int .u16 y9), (20, i6 y5), (23, i6 y10)] ∧ St w no w1 [box b1 (cPasture.enc a0) 31] [] ∧ q0i.l2 a0 y5 k y8 y9 y10 = some j86) k H hS ?_
 rintro k F w1 ⟨y8, y9, y10, rfl, hS, H⟩
 rw [q0i.l2] at H
 refine GO ?_
 refine CP H (fun H => GO ?_) (fun H => ?_)
 refine CJ.block ?_
 refine GO ?_
 refine oS (SE (ce hS 0)) ?_
 refine OJ.st Z Z Z (SR.build (C := cSpot) oU oI Z Z Z (zs := [.int .i8 0, .int .i8 0]) Z Z Z (⟨IntKind.i8.wrap y10, IntKind.i8.wrap y5⟩ : Spot) Z) ?_
 refine oB H hS hb99 (q0m.c a0 (⟨IntKind.i8.wrap y10, IntKind.i8.wrap y5⟩ : Spot)) fun t11 w1 H hS => ?_
 refine CB H (fun H => GO ?_) (fun H => ?_)
 refine oS (SE (ce hS 0)) ?_
 refine OJ.st Z Z Z (SR.build (C := cSpot) oU oI Z Z Z (zs := [.int .i8 0, .int .i8 0]) Z Z Z (⟨IntKind.i8.wrap (IntKind.i64.wrap (y10 + 1)), IntKind.i8.wrap y5⟩ : Spot) Z) ?_
 refine OB H hS hb99 (q0m.c a0 (⟨IntKind.i8.wrap (IntKind.i64.wrap (y10 + 1)), IntKind.i8.wrap y5⟩ : Spot)) fun t12 w1 H hS => ?_
 refine oB H hS hb115 (q35.c) fun t13 w1 H hS => ?_
 obtain ⟨u14, hu14, H⟩ := pbind H
 refine OJ.st Z Z Z (SR.shl Z Z Z (chk_some hu14)) ?_
 refine GO ?_
 refine oS (SE (ce hS 0)) ?_
 refine OJ.st Z Z Z (SR.build (C := cSpot) oU oI Z Z Z (zs := [.int .i8 0, .int .i8 0]) Z Z Z (⟨IntKind.i8.wrap y10, IntKind.i8.wrap (IntKind.i64.wrap (y5 + 1))⟩ : Spot) Z) ?_
 refine OB H hS hb99 (q0m.c a0 (⟨IntKind.i8.wrap y10, IntKind.i8.wrap (IntKind.i64.wrap (y5 + 1))⟩ : Spot)) fun t15 w1 H hS => ?_
 refine oB H hS hb115 (q35.c) fun t16 w1 H hS => ?_
 obtain ⟨u17, hu17, H⟩ := pbind H
 refine OJ.st Z Z Z (SR.shl Z Z Z (chk_some hu17)) ?_
 refine GO ?_
 obtain ⟨t18, ht18, H⟩ := pbind H
 refine OJ.st Z Z Z (SR.idxA oU oI Z Z Z Z Z (Arr.lt ht18)) ?_
 obtain ⟨t19, ht19, H⟩ := pbind H
 refine OJ.st Z Z Z (SR.idxA oU oI Z Z Z Z Z (Arr.lt ht19)) ?_
 refine oS (SL (CA.idx (CA.idx (CA.fld (ce hS 0) (mid_part (fe_Pasture_2 _) (fl_Pasture_2 _) ((carr 10 (carr 10 (ci .i16))).len _))) ht18) ht19)) ?_
 refine oB H hS hb114 (q1q.c) fun t20 w1 H hS => ?_
 refine CB H (fun H => GO ?_) (fun H => ?_)
 obtain rfl := Option.some.inj H; have H := K86
 obtain rfl := Option.some.inj H; have H := K84
 obtain rfl := Option.some.inj H; have H := K77
 exact FE H hS
 exact MD H hS
 refine GO ?_
 obtain ⟨t21, ht21, H⟩ := pbind H
 refine OJ.st Z Z Z (SR.idxA oU oI Z Z Z Z Z (Arr.lt ht21)) ?_
 obtain ⟨t22, ht22, H⟩ := pbind H
 refine OJ.st Z Z Z (SR.idxA oU oI Z Z Z Z Z (Arr.lt ht22)) ?_
 refine oS (SL (CA.idx (CA.idx (CA.fld (ce hS 0) (mid_part (fe_Pasture_2 _) (fl_Pasture_2 _) ((carr 10 (carr 10 (ci .i16))).len _))) ht21) ht22)) ?_
 refine oB H hS hb114 (q1q.c) fun t23 w1 H hS => ?_
 refine CB H (fun H => GO ?_) (fun H => ?_)
 obtain rfl := Option.some.inj H; have H := K86
 obtain rfl := Option.some.inj H; have H := K84
 obtain rfl := Option.some.inj H; have H := K77
 exact FE H hS
 exact MD H hS
 exact MD H hS
 rintro F w1 ⟨y6, y7, ⟨⟩, rfl, hS⟩
 have H := K86
 refine EJ.next ?_
 refine GO ?_
 obtain ⟨t24, ht24, H⟩ := pbind H
 refine OJ.st Z Z Z (SR.idxA oU oI Z Z Z Z Z (Arr.lt ht24)) ?_
 refine oS (SL (CA.idx (CA.fld (ce hS 0) (mid_part (fe_Pasture_3 _) (fl_Pasture_3 _) ((carr 10 (ci .u16)).len _))) ht24)) ?_
 refine OJ.split (t := 79) Z (fun hb => ?_) (fun hb => ?_)
 replace H := pif_t (of_decide_eq_true hb) H
 refine GO ?_
 refine CJ.condT Z ?_
 refine GO ?_
 obtain rfl := Option.some.inj H; have H := K84
 obtain rfl := Option.some.inj H; have H := K77
 exact FE H hS
 replace H := pif_f (of_decide_eq_false hb) H
 refine GO ?_
 obtain ⟨t25, ht25, H⟩ := pbind H
 refine OJ.st Z Z Z (SR.idxA oU oI Z Z Z Z Z (Arr.lt ht25)) ?_
 refine oS (SL (CA.idx (CA.fld (ce hS 0) (mid_part (fe_Pasture_4 _) (fl_Pasture_4 _) ((carr 10 (ci .u16)).len _))) ht25)) ?_
 refine CP H (fun H => GO ?_) (fun H => ?_)
 obtain rfl := Option.some.inj H; have H := K84
 obtain rfl := Option.some.inj H; have H := K77
 exact FE H hS
 exact MD H hS
 rintro F w1 ⟨⟨⟩, rfl, hS⟩
 have H := K84
 exact MD H hS
 exact MD H hS
 rintro F w1 ⟨⟨⟩, rfl, hS⟩
 have H := K77
 refine EJ.next ?_
 exact FE H hS

def q03.l1 (a0 : List Spot) (a1 : Spot → Option Bool) : Nat → Int → Option (Int ⊕ Unit)
  | 0, _ => none
  | k + 1, y1 => if y1 < (a0.length : Int) then ((getI a0 y1).bind fun t2 => (a1 t2).bind fun t3 => if t3 = true then (some (Sum.inl y1)) else (q03.l1 a0 a1 k (IntKind.i64.wrap (y1 + 1)))) else (some (Sum.inr ()))
def q03.f (k : Nat) (a0 : List Spot) (a1 : Spot → Option Bool) : Option Int := (q03.l1 a0 a1 k 0).bind fun s87 => match s87 with | .inl r => some r | .inr _ => some (-1)
theorem q03.c {k w Aa0 ca0} {a0 : List Spot} (hr0 : Rd cSpot w Aa0 a0) (hc0 : a0.length ≤ ca0) (na1 : Nat) (fsa1 : Array Value) (capa1 : Array Value) (hb1 : hasBody Tryz.prog na1) (a1 : Spot → Option Bool) (hf1 : ∀ (z0 : Spot) (r : Bool), a1 z0 = some r → ∀ w', Chg no w w' → CV Tryz.prog na1 (fsa1 ++ [.agg (cSpot.enc z0).toArray].toArray ++ capa1) w' fun v w'' => v = .bool r ∧ Ext w' w'') (r : Int) (H : q03.f k a0 a1 = some r) :
 CV Tryz.prog 102 [sl Aa0 a0 ca0, .func (.func na1) fsa1 capa1].toArray w fun v w' => v = .int .i64 r ∧ Ext w w' := by
 have hS := ((St.init w no).param cSpot Aa0 ca0 a0 hr0 hc0)
 unfold q03.f at H
 refine CV.body Tryz.func102 Z Tryz.ntmps102 Z ?_
 refine GO ?_
 obtain ⟨j87, H, K87⟩ := pbind H
 refine CJ.cut1 (fun F w1 => some j87 = some (Sum.inr ()) ∧ F = [] ∧ St w no w1 [] [roC cSpot Aa0 ca0 a0]) ?_ ?_
 refine CJ.block ?_
 refine LQ (fun k F w1 => ∃ (y1 : Int), F = [(0, sl Aa0 a0 ca0), (1, .func (.func na1) fsa1 capa1), (7, i6 (a0.length : Int)), (8, i6 y1)] ∧ St w no w1 [] [roC cSpot Aa0 ca0 a0] ∧ q03.l1 a0 a1 k y1 = some j87) k H hS ?_
 rintro k F w1 ⟨y1, rfl, hS, H⟩
 rw [q03.l1] at H
 refine GO ?_
 refine CP H (fun H => GO ?_) (fun H => ?_)
 refine CJ.block ?_
 refine GO ?_
 obtain ⟨t2, ht2, H⟩ := pbind H
 obtain ⟨ad2, e2⟩ := (rA hS 0 Z).some' ht2
 refine OS (SI e2 (getI_some ht2).1) ?_
 refine OS (SE ((rA hS 0 Z).at_ e2 ht2)) ?_
 obtain ⟨t3, ht3, H⟩ := pbind H
 refine OJ.call Z Z (Nat.le_of_ble_eq_true Z) Z Z Z hb1 Z (hf1 t2 _ ht3 _ hS.chg) ?_
 rintro _ w1 ⟨rfl, hs⟩
 replace hS := hS.grow hs
 refine GO ?_
 refine CB H (fun H => GO ?_) (fun H => ?_)
 obtain rfl := Option.some.inj H; have H := K87
 exact FE H hS
 exact MD H hS
 exact MD H hS
 rintro F w1 ⟨⟨⟩, rfl, hS⟩
 have H := K87
 refine EJ.next ?_
 exact FE H hS

def q0v.f (k : Nat) (a0 : List Spot) (a1 : Spot → Option Bool) : Option Bool := (q03.f k a0 a1).bind fun t1 => some (decide (0 ≤ t1))
theorem q0v.c {k w Aa0 ca0} {a0 : List Spot} (hr0 : Rd cSpot w Aa0 a0) (hc0 : a0.length ≤ ca0) (na1 : Nat) (fsa1 : Array Value) (capa1 : Array Value) (hb1 : hasBody Tryz.prog na1) (a1 : Spot → Option Bool) (hf1 : ∀ (z0 : Spot) (r : Bool), a1 z0 = some r → ∀ w', Chg no w w' → CV Tryz.prog na1 (fsa1 ++ [.agg (cSpot.enc z0).toArray].toArray ++ capa1) w' fun v w'' => v = .bool r ∧ Ext w' w'') (r : Bool) (H : q0v.f k a0 a1 = some r) :
 CV Tryz.prog 49 [sl Aa0 a0 ca0, .func (.func na1) fsa1 capa1].toArray w fun v w' => v = .bool r ∧ Ext w w' := by
 have hS := ((St.init w no).param cSpot Aa0 ca0 a0 hr0 hc0)
 unfold q0v.f at H
 refine CV.body Tryz.func49 Z Tryz.ntmps49 Z ?_
 refine GO ?_
 refine OB H hS hb102 (q03.c (rA hS 0 Z) (rB hS 0 Z) na1 fsa1 capa1 hb1 a1 (fun z0 r h w' hx => hf1 z0 r h w' (hS.chg.then hx (fun _ _ e => e.elim)))) fun t1 w1 H hS => ?_
 exact FE H hS

def q2f.f (a1 : Pasture) (a0 : Spot) : Option Bool := (q0m.f a1 a0).bind fun t2 => some (!t2)
theorem q2f.c {w} (pa1 : Addr) (a1 : Pasture) (hp1 : CA w pa1 (cPasture.enc a1)) (a0 : Spot) (r : Bool) (H : q2f.f a1 a0 = some r) :
 CV Tryz.prog 98 [.agg (cSpot.enc a0).toArray, .pointer (some pa1)].toArray w fun v w' => v = .bool r ∧ Ext w w' := by
 have hS := ((St.init w no).paramP pa1 (cPasture.enc a1) hp1)
 unfold q2f.f at H
 refine CV.body Tryz.func98 Z Tryz.ntmps98 Z ?_
 refine GO ?_
 refine oX hS (cSpot.enc a0) fun b1 w1 hS => ?_
 refine OS (SE (hS.ca (i := 0) Z)) ?_
 refine OS (SE (ce hS 0)) ?_
 refine OB H hS hb99 (q0m.c a1 a0) fun t2 w1 H hS => ?_
 exact FE H hS

def q2d.f (a0 : Bool) (a1 : Int) : Option Int := if a0 = true then (some 0) else (some a1)
theorem q2d.c {w} {a0 : Bool} {a1 : Int} (r : Int) (H : q2d.f a0 a1 = some r) :
 CV Tryz.prog 53 [.bool a0, i6 a1].toArray w fun v w' => v = .int .i64 r ∧ Ext w w' := by
 have hS := (St.init w no)
 unfold q2d.f at H
 refine CV.body Tryz.func53 Z Tryz.ntmps53 Z ?_
 refine GO ?_
 refine CB H (fun H => ?_) (fun H => ?_)
 exact FE H hS
 exact FE H hS

def q22.f (k : Nat) (a0 : Pasture) (a1 : List Spot) : Option Int := (q0i.f k a0).bind fun t2 => if (!t2) = true then (some 1) else ((q0v.f k a1 (q2f.f a0)).bind fun t3 => (q2d.f (!t3) 2).bind fun t4 => some t4)
theorem q22.c {k w} (a0 : Pasture) {Aa1 ca1} {a1 : List Spot} (hr1 : Rd cSpot w Aa1 a1) (hc1 : a1.length ≤ ca1) (r : Int) (H : q22.f k a0 a1 = some r) :
 CV Tryz.prog 46 [.agg (cPasture.enc a0).toArray, sl Aa1 a1 ca1].toArray w fun v w' => v = .int .i64 r ∧ Ext w w' := by
 have hS := ((St.init w no).param cSpot Aa1 ca1 a1 hr1 hc1)
 unfold q22.f at H
 refine CV.body Tryz.func46 Z Tryz.ntmps46 Z ?_
 refine GO ?_
 refine oX hS (cPasture.enc a0) fun b1 w1 hS => ?_
 refine OS (SE (ce hS 0)) ?_
 refine oB H hS hb64 (q0i.c a0) fun t2 w1 H hS => ?_
 refine CB H (fun H => ?_) (fun H => ?_)
 exact FE H hS
 refine GO ?_
 refine oB H hS hb49 (q0v.c (rA hS 0 Z) (rB hS 0 Z) 98 #[] #[.pointer (some ⟨b1, 0, none⟩)] hb98 (q2f.f a0) (fun z0 r h w' hx => CV.cast (q2f.c ⟨b1, 0, none⟩ a0 (CA.ext (hS.cells (i := 0) rfl) hx) z0 r h) (by simp))) fun t3 w1 H hS => ?_
 refine OB H hS hb53 (q2d.c) fun t4 w1 H hS => ?_
 exact FE H hS

def q0e.f (a0 : List Spot) : Option (List Spot) := (chk (([] : List Spot).length + a0.length ≤ 4294967296)).bind fun _ => some a0
theorem q0e.c {w} (A : Option Addr) (c : Nat) {a0 : List Spot} (hr0 : Rd cSpot w A a0) (hc0 : a0.length ≤ c) (r : List Spot) (H : q0e.f a0 = some r) :
 CV Tryz.prog 84 [sl A a0 c].toArray w fun v w' => ∃ (A0 : Option Addr) (c0 : Nat), v = .slice A0 r.length c0 ∧ St w no w' [rowC cSpot A0 c0 55 r] [] := by
 have hS := ((St.init w no).param cSpot A c a0 hr0 hc0)
 obtain ⟨u, hu, H⟩ := pbind H
 obtain rfl := Option.some.inj H
 refine CV.body Tryz.func84 Z Tryz.ntmps84 Z ?_
 refine GO ?_
 refine OJ.st Z Z Z (SR.eqNil oU Z Z Z Z) ?_
 refine GO ?_
 refine CJ.cond Z (fun hb => ?_) (fun hb => ?_)
 obtain rfl := hr0.isNone hb
 refine GO ?_
 replace hS := hS.addNil cSpot 55 none
 exact FT ⟨none, 0, Z, hS.pick [0] [] Z⟩
 refine GO ?_
 refine OF (EL hS cSpot ([] : List Spot)) ?_
 rintro _ w1 ⟨A1, rfl, hS⟩
 refine GO ?_
 refine OW (AP hS 0 (rA hS 0 Z) (chk_some hu)) ?_
 rintro _ w1 ⟨A2, c2, rfl, hS⟩
 refine GO ?_
 exact EJ.fin Z (.tmp Z .nil) ⟨A2, c2, Z, hS.pick [0] [] Z⟩

def q04.l1 (a1 : Spot → Option Bool) : Nat → (List Spot) → Int → Int → Option ((List Spot) × Int)
  | 0, _, _, _ => none
  | k + 1, y4, y5, y6 => if y6 < (y4.length : Int) then ((getI y4 y6).bind fun t7 => (a1 t7).bind fun t9 => if (!t9) = true then ((getI y4 y5).bind fun t10 => q04.l1 a1 k (y4.set y5.toNat t7) (IntKind.i64.wrap (y5 + 1)) (IntKind.i64.wrap (y6 + 1))) else (q04.l1 a1 k y4 y5 (IntKind.i64.wrap (y6 + 1)))) else (some (y4, y5))
def q04.f (k : Nat) (a0 : List Spot) (a1 : Spot → Option Bool) : Option (List Spot) := (q03.f k a0 a1).bind fun t1 => if t1 = (-1) then (some a0) else ((q04.l1 a1 k a0 t1 (IntKind.i64.wrap (t1 + 1))).bind fun (y2, y3) => (chk ((0 : Int) ≤ y3 ∧ y3 ≤ (y2.length : Int) ∧ (y2.length : Int) ≤ (y2.length : Int))).bind fun u11 => (chk ((0 : Int) ≤ 0 ∧ 0 ≤ y3 ∧ y3 ≤ ((y2.take y3.toNat ++ List.replicate (y2.length - y3.toNat) (⟨0, 0⟩ : Spot)).length : Int))).bind fun u12 => some ((y2.take y3.toNat ++ List.replicate (y2.length - y3.toNat) (⟨0, 0⟩ : Spot)).take y3.toNat))
theorem q04.c {k w Aa0 ca0} {a0 : List Spot} (na1 : Nat) (fsa1 : Array Value) (capa1 : Array Value) (hb1 : hasBody Tryz.prog na1) (a1 : Spot → Option Bool) (hf1 : ∀ (z0 : Spot) (r : Bool), a1 z0 = some r → ∀ w', Chg (fpU [rowC cSpot Aa0 ca0 55 a0]) w w' → CV Tryz.prog na1 (fsa1 ++ [.agg (cSpot.enc z0).toArray].toArray ++ capa1) w' fun v w'' => v = .bool r ∧ Ext w' w'') (hin : St w (fpU [rowC cSpot Aa0 ca0 55 a0]) w [rowC cSpot Aa0 ca0 55 a0] []) (r : List Spot) (H : q04.f k a0 a1 = some r) :
 CV Tryz.prog 91 [sl Aa0 a0 ca0, .func (.func na1) fsa1 capa1].toArray w fun v w' => ∃ (A0 : Option Addr) (c0 : Nat), v = .slice A0 r.length c0 ∧ St w (fpU [rowC cSpot Aa0 ca0 55 a0]) w' [rowC cSpot A0 c0 55 r] [] := by
 have hS := hin
 unfold q04.f at H
 refine CV.body Tryz.func91 Z Tryz.ntmps91 Z ?_
 refine GO ?_
 refine oB H hS hb102 (q03.c (rC hS 0 Z) (rD hS 0 Z) na1 fsa1 capa1 hb1 a1 (fun z0 r h w' hx => hf1 z0 r h w' (hS.chg.then hx (fun _ _ e => e.elim)))) fun t1 w1 H hS => ?_
 refine CP H (fun H => GO ?_) (fun H => ?_)
 obtain rfl := Option.some.inj H
 exact FT ⟨Aa0, ca0, Z, hS.pick [0] [] Z⟩
 refine GO ?_
 obtain ⟨j88, H, K88⟩ := pbind H
 refine CJ.cut1 (fun F w1 => ∃ y2 y3, some j88 = some (y2, y3) ∧ F = [(0, sl Aa0 y2 ca0), (5, i6 y3)] ∧ St w (fpU [rowC cSpot Aa0 ca0 55 a0]) w1 [rowC cSpot Aa0 ca0 55 y2] []) ?_ ?_
 refine CJ.block ?_
 refine LQ (fun k F w1 => ∃ (y4 : List Spot) (y5 : Int) (y6 : Int), F = [(0, sl Aa0 y4 ca0), (1, .func (.func na1) fsa1 capa1), (5, i6 y5), (6, i6 y6)] ∧ St w (fpU [rowC cSpot Aa0 ca0 55 a0]) w1 [rowC cSpot Aa0 ca0 55 y4] [] ∧ q04.l1 a1 k y4 y5 y6 = some j88) k H hS ?_
 rintro k F w1 ⟨y4, y5, y6, rfl, hS, H⟩
 rw [q04.l1] at H
 refine GO ?_
 refine CP H (fun H => GO ?_) (fun H => ?_)
 refine CJ.block ?_
 refine GO ?_
 obtain ⟨t7, ht7, H⟩ := pbind H
 obtain ⟨ad7, e7⟩ := (rC hS 0 Z).some' ht7
 refine OS (SI e7 (getI_some ht7).1) ?_
 refine OS (SE ((rC hS 0 Z).at_ e7 ht7)) ?_
 refine OF (EA hS (cSpot.enc (⟨0, 0⟩ : Spot))) ?_
 rintro _ w1 ⟨b8, rfl, hS⟩
 refine OJ.es Z Z (eS cSpot t7 hS (i := 1) Z Z Z Z Z Z Z Z Z Z) ?_
 intro w1 hS
 refine GO ?_
 refine OS (SE (ce hS 1)) ?_
 obtain ⟨t9, ht9, H⟩ := pbind H
 refine OJ.call Z Z (Nat.le_of_ble_eq_true Z) Z Z Z hb1 Z (hf1 t7 _ ht9 _ hS.chg) ?_
 rintro _ w1 ⟨rfl, hs⟩
 replace hS := hS.grow hs
 refine GO ?_
 refine CB H (fun H => GO ?_) (fun H => ?_)
 refine OS (SE (ce hS 1)) ?_
 obtain ⟨t10, ht10, H⟩ := pbind H
 obtain ⟨ad10, e10⟩ := (rC hS 0 Z).some' ht10
 refine OS (SI e10 (getI_some ht10).1) ?_
 refine OJ.es Z Z (Es.storeR oI hS (i := 0) (off := 0) Z Z ht10 e10 Z Z Z Z (vs := cSpot.enc t7) Z (cSpot.len _) (cSpot.one _) (Nat.le_of_ble_eq_true Z) t7 Z) ?_
 intro w1 hS
 refine OJ.as (t := 0) rfl (show _ = (.slice Aa0 (y4.set y5.toNat t7).length ca0 : Value) by simp only [List.length_set]) ?_
 refine OJ.as (t := 17) rfl (show _ = (.slice Aa0 (y4.set y5.toNat t7).length ca0 : Value) by simp only [List.length_set]) ?_
 refine OJ.as (t := 22) rfl (show _ = (.slice Aa0 (y4.set y5.toNat t7).length ca0 : Value) by simp only [List.length_set]) ?_
 refine OJ.as (t := 30) rfl (show _ = (.slice Aa0 (y4.set y5.toNat t7).length ca0 : Value) by simp only [List.length_set]) ?_
 exact MD H hS
 exact MD H hS
 exact MD H hS
 rintro F w1 ⟨y2, y3, ⟨⟩, rfl, hS⟩
 have H := K88
 refine EJ.next ?_
 refine GO ?_
 obtain ⟨u11, hu11, H⟩ := pbind H
 refine OJ.st rfl rfl rfl (SR.cutS oU oI (y3.toNat) (y2.length) rfl rfl rfl rfl rfl rfl (.inr ⟨_, _, rfl, (chk_some hu11).1, rfl⟩) (.inl ⟨rfl, rfl⟩) (by have := (chk_some hu11); omega) (by have := (chk_some hu11); have := (hS.le (i := 0) rfl : y2.length ≤ ca0); omega)) ?_
 refine OJ.ewn rfl rfl (Ew.clear oU oI (C := cSpot) (lo := y3.toNat) hS (i := 0) rfl rfl rfl rfl rfl rfl rfl rfl rfl (⟨0, 0⟩ : Spot) rfl (by have := (chk_some hu11); omega) rfl) ?_
 rintro _ w1 ⟨rfl, hS⟩
 refine OJ.as (t := 0) rfl (show _ = (.slice Aa0 (y2.take y3.toNat ++ List.replicate (y2.length - y3.toNat) (⟨0, 0⟩ : Spot)).length ca0 : Value) by (rw [List.length_append, List.length_take, List.length_replicate, Nat.min_eq_left (by have := (chk_some hu11); omega), Nat.add_sub_cancel' (by have := (chk_some hu11); omega)])) ?_
 refine OJ.as (t := 36) rfl (show _ = (.slice Aa0 (y2.take y3.toNat ++ List.replicate (y2.length - y3.toNat) (⟨0, 0⟩ : Spot)).length ca0 : Value) by (rw [List.length_append, List.length_take, List.length_replicate, Nat.min_eq_left (by have := (chk_some hu11); omega), Nat.add_sub_cancel' (by have := (chk_some hu11); omega)])) ?_
 refine GO ?_
 obtain ⟨u12, hu12, H⟩ := pbind H
 refine OJ.st rfl rfl rfl (SR.cut0 oU oI rfl rfl rfl rfl rfl (by have := (chk_some hu12); omega) (by have := (chk_some hu12); have := (hS.le (i := 0) rfl : (y2.take y3.toNat ++ List.replicate (y2.length - y3.toNat) (⟨0, 0⟩ : Spot)).length ≤ ca0); omega)) ?_
 replace hS := hS.shrink (i := 0) (m := y3.toNat) rfl (by have := (chk_some hu12); omega)
 refine OJ.as (t := 41) rfl (show _ = (.slice Aa0 ((y2.take y3.toNat ++ List.replicate (y2.length - y3.toNat) (⟨0, 0⟩ : Spot)).take y3.toNat).length ca0 : Value) by rw [List.length_take, Nat.min_eq_left (by have := (chk_some hu12); omega)]) ?_
 refine GO ?_
 obtain rfl := Option.some.inj H
 exact FT ⟨Aa0, ca0, Z, hS.pick [0] [] Z⟩

def q0k.l1 (a0 : List Spot) (a1 : Spot) : Nat → Int → Option (Int ⊕ Unit)
  | 0, _ => none
  | k + 1, y2 => if y2 < (a0.length : Int) then ((getI a0 y2).bind fun t3 => if a1 = t3 then (some (Sum.inl y2)) else (q0k.l1 a0 a1 k (IntKind.i64.wrap (y2 + 1)))) else (some (Sum.inr ()))
def q0k.f (k : Nat) (a0 : List Spot) (a1 : Spot) : Option Int := (q0k.l1 a0 a1 k 0).bind fun s89 => match s89 with | .inl r => some r | .inr _ => some (-1)
theorem q0k.c {k w Aa0 ca0} {a0 : List Spot} (hr0 : Rd cSpot w Aa0 a0) (hc0 : a0.length ≤ ca0) (a1 : Spot) (r : Int) (H : q0k.f k a0 a1 = some r) :
 CV Tryz.prog 104 [sl Aa0 a0 ca0, .agg (cSpot.enc a1).toArray].toArray w fun v w' => v = .int .i64 r ∧ Ext w w' := by
 have hS := ((St.init w no).param cSpot Aa0 ca0 a0 hr0 hc0)
 unfold q0k.f at H
 refine CV.body Tryz.func104 Z Tryz.ntmps104 Z ?_
 refine GO ?_
 refine oX hS (cSpot.enc a1) fun b1 w1 hS => ?_
 obtain ⟨j89, H, K89⟩ := pbind H
 refine CJ.cut1 (fun F w1 => some j89 = some (Sum.inr ()) ∧ F = [] ∧ St w no w1 [] [roC cSpot Aa0 ca0 a0]) ?_ ?_
 refine CJ.block ?_
 refine LQ (fun k F w1 => ∃ (y2 : Int), F = [(0, sl Aa0 a0 ca0), (3, pt b1), (7, i6 (a0.length : Int)), (8, i6 y2)] ∧ St w no w1 [box b1 (cSpot.enc a1) 55] [roC cSpot Aa0 ca0 a0] ∧ q0k.l1 a0 a1 k y2 = some j89) k H hS ?_
 rintro k F w1 ⟨y2, rfl, hS, H⟩
 rw [q0k.l1] at H
 refine GO ?_
 refine CP H (fun H => GO ?_) (fun H => ?_)
 refine CJ.block ?_
 refine GO ?_
 refine CJ.draw [] [0, 1, 2, 3, 4, 5] mixed (by kernel_rfl) hS fun w1 hS => ?_
 refine dS (SE (ce hS 0)) ?_
 obtain ⟨t3, ht3, H⟩ := pbind H
 obtain ⟨ad3, e3⟩ := (rA hS 0 Z).some' ht3
 refine DS (SI e3 (getI_some ht3).1) ?_
 refine DS (SE ((rA hS 0 Z).at_ e3 ht3)) ?_
 refine DJ.st Z Z Z Z Z (SR.eqS eqT55 eqG55 Z Z Z (Z : _ = (cSpot.enc a1).toArray) (Z : _ = (cSpot.enc t3).toArray)) ?_
 refine GO ?_
 refine CP H (fun H => GO ?_) (fun H => ?_)
 obtain rfl := Option.some.inj H; have H := K89
 exact FE H hS
 exact MD H hS
 exact MD H hS
 rintro F w1 ⟨⟨⟩, rfl, hS⟩
 have H := K89
 refine EJ.next ?_
 exact FE H hS

def q09.f (k : Nat) (a0 : List Spot) (a1 : Spot) : Option Bool := (q0k.f k a0 a1).bind fun t2 => some (decide (0 ≤ t2))
theorem q09.c {k w Aa0 ca0} {a0 : List Spot} (hr0 : Rd cSpot w Aa0 a0) (hc0 : a0.length ≤ ca0) (a1 : Spot) (r : Bool) (H : q09.f k a0 a1 = some r) :
 CV Tryz.prog 54 [sl Aa0 a0 ca0, .agg (cSpot.enc a1).toArray].toArray w fun v w' => v = .bool r ∧ Ext w w' := by
 have hS := ((St.init w no).param cSpot Aa0 ca0 a0 hr0 hc0)
 unfold q09.f at H
 refine CV.body Tryz.func54 Z Tryz.ntmps54 Z ?_
 refine GO ?_
 refine oX hS (cSpot.enc a1) fun b1 w1 hS => ?_
 refine OS (SE (ce hS 0)) ?_
 refine OB H hS hb104 (q0k.c (rA hS 0 Z) (rB hS 0 Z) a1) fun t2 w1 H hS => ?_
 exact FE H hS

def q36.f (k : Nat) (a1 : List Spot) (a0 : Spot) : Option Bool := (q09.f k a1 a0).bind fun t2 => some (!t2)
theorem q36.c {k w Aa1 ca1} {a1 : List Spot} (hr1 : Rd cSpot w Aa1 a1) (hc1 : a1.length ≤ ca1) (pa1 : Addr) (hp1 : CA w pa1 [sl Aa1 a1 ca1]) (a0 : Spot) (r : Bool) (H : q36.f k a1 a0 = some r) :
 CV Tryz.prog 118 [.agg (cSpot.enc a0).toArray, .pointer (some pa1)].toArray w fun v w' => v = .bool r ∧ Ext w w' := by
 have hS := (((St.init w no).param cSpot Aa1 ca1 a1 hr1 hc1).paramP pa1 [sl Aa1 a1 ca1] hp1)
 unfold q36.f at H
 refine CV.body Tryz.func118 Z Tryz.ntmps118 Z ?_
 refine GO ?_
 refine oX hS (cSpot.enc a0) fun b1 w1 hS => ?_
 refine OS (SL (hS.ca (i := 1) Z)) ?_
 refine OS (SE (ce hS 0)) ?_
 refine OB H hS hb54 (q09.c (rA hS 0 Z) (rB hS 0 Z) a0) fun t2 w1 H hS => ?_
 exact FE H hS

def q3i.f (k : Nat) (a0 : List Spot) (a1 : List Spot) : Option (List Spot) := (q0e.f a0).bind fun t2 => (q04.f k t2 (q36.f k a1)).bind fun t5 => some t5
theorem q3i.c {k w Aa0 ca0} {a0 : List Spot} (hr0 : Rd cSpot w Aa0 a0) (hc0 : a0.length ≤ ca0) {Aa1 ca1} {a1 : List Spot} (hr1 : Rd cSpot w Aa1 a1) (hc1 : a1.length ≤ ca1) (r : List Spot) (H : q3i.f k a0 a1 = some r) :
 CV Tryz.prog 70 [sl Aa0 a0 ca0, sl Aa1 a1 ca1].toArray w fun v w' => ∃ (A0 : Option Addr) (c0 : Nat), v = .slice A0 r.length c0 ∧ St w no w' [rowC cSpot A0 c0 55 r] [] := by
 have hS := (((St.init w no).param cSpot Aa0 ca0 a0 hr0 hc0).param cSpot Aa1 ca1 a1 hr1 hc1)
 unfold q3i.f at H
 refine CV.body Tryz.func70 Z Tryz.ntmps70 Z ?_
 refine GO ?_
 refine oX hS ([sl Aa1 a1 ca1]) fun b1 w1 hS => ?_
 obtain ⟨t2, ht2, H⟩ := pbind H
 refine OC hb84 (q0e.c Aa0 ca0 (rA hS 0 Z) (rB hS 0 Z) _ ht2) ?_
 rintro _ w1 ⟨A3, c4, rfl, hs⟩
 replace hS := hS.addN hs
 refine GO ?_
 obtain ⟨t5, ht5, H⟩ := pbind H
 refine OC hb91 (q04.c 118 #[] #[.pointer (some ⟨b1, 0, none⟩)] hb118 (q36.f k a1) (fun z0 r h w' hx => CV.cast (q36.c (roC.rd (hS.stayR [1] hx (j := 1) rfl)) (rB hS 1 Z) ⟨b1, 0, none⟩ (box.ca (hS.stayL [1] hx (j := 0) rfl rfl)) z0 r h) (by simp)) ((hS.subs [1] [] [] rfl).pick [0] [] rfl) _ ht5) ?_
 rintro _ w1 ⟨A6, c7, rfl, hs⟩
 replace hS := hS.back' [] [1] rfl rfl [] [rowC cSpot A6 c7 55 t5] [] hs trivial (fun _ h => by cases h) (.inr rfl)
 refine GO ?_
 obtain rfl := Option.some.inj H
 exact FT ⟨A6, c7, Z, hS.pick [2] [] Z⟩

def q1b.l1 (a0 : List Int) : Nat → Int → Option (Int ⊕ Unit)
  | 0, _ => none
  | k + 1, y1 => if y1 < (a0.length : Int) then ((getI a0 y1).bind fun t2 => if t2 ≠ 0 then (some (Sum.inl t2)) else (q1b.l1 a0 k (IntKind.i64.wrap (y1 + 1)))) else (some (Sum.inr ()))
def q1b.f (k : Nat) (a0 : List Int) : Option Int := (q1b.l1 a0 k 0).bind fun s90 => match s90 with | .inl r => some r | .inr _ => some 0
theorem q1b.c {k w Aa0 ca0} {a0 : List Int} (hr0 : Rd (ci .i64) w Aa0 a0) (hc0 : a0.length ≤ ca0) (r : Int) (H : q1b.f k a0 = some r) :
 CV Tryz.prog 45 [sl Aa0 a0 ca0].toArray w fun v w' => v = .int .i64 r ∧ Ext w w' := by
 have hS := ((St.init w no).param (ci .i64) Aa0 ca0 a0 hr0 hc0)
 unfold q1b.f at H
 refine CV.body Tryz.func45 Z Tryz.ntmps45 Z ?_
 refine GO ?_
 obtain ⟨j90, H, K90⟩ := pbind H
 refine CJ.cut1 (fun F w1 => some j90 = some (Sum.inr ()) ∧ F = [] ∧ St w no w1 [] [roC (ci .i64) Aa0 ca0 a0]) ?_ ?_
 refine CJ.block ?_
 refine LQ (fun k F w1 => ∃ (y1 : Int), F = [(5, sl Aa0 a0 ca0), (6, i6 (a0.length : Int)), (7, i6 y1)] ∧ St w no w1 [] [roC (ci .i64) Aa0 ca0 a0] ∧ q1b.l1 a0 k y1 = some j90) k H hS ?_
 rintro k F w1 ⟨y1, rfl, hS, H⟩
 rw [q1b.l1] at H
 refine GO ?_
 refine CP H (fun H => GO ?_) (fun H => ?_)
 refine CJ.block ?_
 refine GO ?_
 refine xI H (rA hS 0 Z) fun t2 ad2 ht2 H => ?_
 refine CP H (fun H => GO ?_) (fun H => ?_)
 obtain rfl := Option.some.inj H; have H := K90
 exact FE H hS
 exact MD H hS
 exact MD H hS
 rintro F w1 ⟨⟨⟩, rfl, hS⟩
 have H := K90
 refine EJ.next ?_
 exact FE H hS

def q2j.f (k : Nat) (a0 : Pasture) (a1 : List Spot) (a2 : List Spot) : Option Int := (q01.f k ([a1, a2] : List (List Spot))).bind fun t3 => (q22.f k a0 t3).bind fun t6 => (q3i.f k a1 a2).bind fun t7 => (q2d.f (decide ((t7.length : Int) = 0)) 4).bind fun t10 => (q1b.f k ([t6, t10] : List Int)).bind fun t12 => some t12
theorem q2j.c {k w} (a0 : Pasture) {Aa1 ca1} {a1 : List Spot} (hr1 : Rd cSpot w Aa1 a1) (hc1 : a1.length ≤ ca1) {Aa2 ca2} {a2 : List Spot} (hr2 : Rd cSpot w Aa2 a2) (hc2 : a2.length ≤ ca2) (r : Int) (H : q2j.f k a0 a1 a2 = some r) :
 CV Tryz.prog 29 [.agg (cPasture.enc a0).toArray, sl Aa1 a1 ca1, sl Aa2 a2 ca2].toArray w fun v w' => v = .int .i64 r ∧ Ext w w' := by
 have hS := (((St.init w no).param cSpot Aa1 ca1 a1 hr1 hc1).param cSpot Aa2 ca2 a2 hr2 hc2)
 unfold q2j.f at H
 refine CV.body Tryz.func29 Z Tryz.ntmps29 Z ?_
 refine GO ?_
 refine oX hS (cPasture.enc a0) fun b1 w1 hS => ?_
 refine CJ.draw [] [0, 1, 2, 6, 7, 3, 4, 5, 8, 9, 10, 11, 12, 13, 14] mixed (by kernel_rfl) hS fun w1 hS => ?_
 refine dS (SE (ce hS 0)) ?_
 refine DF (EL hS csv (hsl (α := Spot) [(Aa1, ca1), (Aa2, ca2)] ([a1, a2] : List (List Spot)))) ?_
 rintro _ w1 ⟨A2, rfl, hS⟩
 obtain ⟨t3, ht3, H⟩ := pbind H
 refine DJ.callF rfl rfl rfl rfl rfl rfl rfl hb47 rfl (q01.c [(Aa1, ca1), (Aa2, ca2)] (ros_lit hS (i := 1) rfl ⟨⟨(rA hS 0 Z), (rB hS 0 Z)⟩, ⟨(rA hS 1 Z), (rB hS 1 Z)⟩, trivial⟩) _ ht3) (by rintro v w' ⟨A4, c5, rfl, hs⟩; exact hs.ext) ?_
 rintro _ w1 ⟨A4, c5, rfl, hs⟩
 replace hS := hS.addN hs
 obtain ⟨t6, ht6, H⟩ := pbind H
 refine DJ.callF rfl rfl rfl rfl rfl rfl rfl hb46 rfl (q22.c a0 (rC hS 2 Z) (rD hS 2 Z) _ ht6) (by rintro v w' ⟨rfl, hs⟩; exact hs) ?_
 rintro _ w1 ⟨rfl, hs⟩
 replace hS := hS.grow hs
 obtain ⟨t7, ht7, H⟩ := pbind H
 refine DJ.callF rfl rfl rfl rfl rfl rfl rfl hb70 rfl (q3i.c (rA hS 0 Z) (rB hS 0 Z) (rA hS 1 Z) (rB hS 1 Z) _ ht7) (by rintro v w' ⟨A8, c9, rfl, hs⟩; exact hs.ext) ?_
 rintro _ w1 ⟨A8, c9, rfl, hs⟩
 replace hS := hS.addN hs
 refine GO ?_
 obtain ⟨t10, ht10, H⟩ := pbind H
 refine DJ.callF rfl rfl rfl rfl rfl rfl rfl hb53 rfl (q2d.c _ ht10) (by rintro v w' ⟨rfl, hs⟩; exact hs) ?_
 rintro _ w1 ⟨rfl, hs⟩
 replace hS := hS.grow hs
 refine DF (EL hS (ci .i64) ([t6, t10] : List Int)) ?_
 rintro _ w1 ⟨A11, rfl, hS⟩
 obtain ⟨t12, ht12, H⟩ := pbind H
 refine DJ.callF rfl rfl rfl rfl rfl rfl rfl hb45 rfl (q1b.c (rC hS 4 Z) (rD hS 4 Z) _ ht12) (by rintro v w' ⟨rfl, hs⟩; exact hs) ?_
 rintro _ w1 ⟨rfl, hs⟩
 replace hS := hS.grow hs
 exact FE H hS

def q0u.f (a0 : Spot) (a1 : Int) : Option Spot := if a1 = 0 then (some (⟨a0.X, IntKind.i8.wrap (a0.Y - 1)⟩ : Spot)) else (if a1 = 1 then (some (⟨IntKind.i8.wrap (a0.X + 1), a0.Y⟩ : Spot)) else (if a1 = 2 then (some (⟨a0.X, IntKind.i8.wrap (a0.Y + 1)⟩ : Spot)) else (some (⟨IntKind.i8.wrap (a0.X - 1), a0.Y⟩ : Spot))))
theorem q0u.c {w} (a0 : Spot) {a1 : Int} (r : Spot) (H : q0u.f a0 a1 = some r) :
 CV Tryz.prog 85 [.agg (cSpot.enc a0).toArray, .int .i64 a1].toArray w fun v w' => v = .agg (cSpot.enc r).toArray ∧ Ext w w' := by
 have hS := (St.init w no)
 unfold q0u.f at H
 refine CV.body Tryz.func85 Z Tryz.ntmps85 Z ?_
 refine GO ?_
 refine OF (EB hS (cSpot.enc a0)) ?_
 rintro _ w1 ⟨b1, rfl, hS⟩
 refine oA hS (cSpot.enc (⟨0, 0⟩ : Spot)) fun b2 w1 hS => ?_
 refine CJ.block ?_
 refine GO ?_
 refine CP H (fun H => GO ?_) (fun H => ?_)
 refine oS (SL (cf hS 0 1)) ?_
 refine oE (WS hS 0 ((ci .i8).enc (IntKind.i8.wrap (a0.Y - 1))) (cSpot.enc (⟨a0.X, IntKind.i8.wrap (a0.Y - 1)⟩ : Spot))) fun w1 hS => ?_
 refine OS (SE (ce hS 0)) ?_
 refine OJ.es Z Z (eS cSpot (⟨a0.X, IntKind.i8.wrap (a0.Y - 1)⟩ : Spot) hS (i := 1) Z Z Z Z Z Z Z Z Z Z) ?_
 intro w1 hS
 refine GO ?_
 obtain rfl := Option.some.inj H
 exact EJ.fin Z (.cell Z (ldE oU oI Z Z Z (hS.cells (i := 1) Z) Z) .nil) ⟨Z, hS.ext⟩
 refine GO ?_
 refine CP H (fun H => GO ?_) (fun H => ?_)
 refine oS (SL (cf hS 0 0)) ?_
 refine oE (WS hS 0 ((ci .i8).enc (IntKind.i8.wrap (a0.X + 1))) (cSpot.enc (⟨IntKind.i8.wrap (a0.X + 1), a0.Y⟩ : Spot))) fun w1 hS => ?_
 refine OS (SE (ce hS 0)) ?_
 refine OJ.es Z Z (eS cSpot (⟨IntKind.i8.wrap (a0.X + 1), a0.Y⟩ : Spot) hS (i := 1) Z Z Z Z Z Z Z Z Z Z) ?_
 intro w1 hS
 refine GO ?_
 obtain rfl := Option.some.inj H
 exact EJ.fin Z (.cell Z (ldE oU oI Z Z Z (hS.cells (i := 1) Z) Z) .nil) ⟨Z, hS.ext⟩
 refine GO ?_
 refine CP H (fun H => GO ?_) (fun H => ?_)
 refine oS (SL (cf hS 0 1)) ?_
 refine oE (WS hS 0 ((ci .i8).enc (IntKind.i8.wrap (a0.Y + 1))) (cSpot.enc (⟨a0.X, IntKind.i8.wrap (a0.Y + 1)⟩ : Spot))) fun w1 hS => ?_
 refine OS (SE (ce hS 0)) ?_
 refine OJ.es Z Z (eS cSpot (⟨a0.X, IntKind.i8.wrap (a0.Y + 1)⟩ : Spot) hS (i := 1) Z Z Z Z Z Z Z Z Z Z) ?_
 intro w1 hS
 refine GO ?_
 obtain rfl := Option.some.inj H
 exact EJ.fin Z (.cell Z (ldE oU oI Z Z Z (hS.cells (i := 1) Z) Z) .nil) ⟨Z, hS.ext⟩
 refine GO ?_
 refine oS (SL (cf hS 0 0)) ?_
 refine oE (WS hS 0 ((ci .i8).enc (IntKind.i8.wrap (a0.X - 1))) (cSpot.enc (⟨IntKind.i8.wrap (a0.X - 1), a0.Y⟩ : Spot))) fun w1 hS => ?_
 refine OS (SE (ce hS 0)) ?_
 refine OJ.es Z Z (eS cSpot (⟨IntKind.i8.wrap (a0.X - 1), a0.Y⟩ : Spot) hS (i := 1) Z Z Z Z Z Z Z Z Z Z) ?_
 intro w1 hS
 refine GO ?_
 obtain rfl := Option.some.inj H
 exact EJ.fin Z (.cell Z (ldE oU oI Z Z Z (hS.cells (i := 1) Z) Z) .nil) ⟨Z, hS.ext⟩

def q1j.f (a0 : Spot) (a1 : Int) : Option Hurdle := (if a1 = 0 then (some true) else (some (decide (a1 = 3)))).bind fun y3 => if y3 = true then ((q0u.f a0 a1).bind fun t4 => if a1 = 0 then (some (⟨t4, true⟩ : Hurdle)) else (some (⟨t4, decide (a1 = 2)⟩ : Hurdle))) else (if a1 = 0 then (some (⟨a0, true⟩ : Hurdle)) else (some (⟨a0, decide (a1 = 2)⟩ : Hurdle)))
theorem q1j.c {w} (a0 : Spot) {a1 : Int} (r : Hurdle) (H : q1j.f a0 a1 = some r) :
 CV Tryz.prog 94 [.agg (cSpot.enc a0).toArray, .int .i64 a1].toArray w fun v w' => v = .agg (cHurdle.enc r).toArray ∧ Ext w w' := by
 have hS := (St.init w no)
 unfold q1j.f at H
 refine CV.body Tryz.func94 Z Tryz.ntmps94 Z ?_
 refine GO ?_
 refine OF (EB hS (cSpot.enc a0)) ?_
 rintro _ w1 ⟨b1, rfl, hS⟩
 refine OF (EA hS (cHurdle.enc (⟨(⟨0, 0⟩ : Spot), false⟩ : Hurdle))) ?_
 rintro _ w1 ⟨b2, rfl, hS⟩
 refine NX ?_
 refine CJ.seq ?_
 obtain ⟨j94, H, K94⟩ := pbind H
 refine CJ.cut (fun F w1 => ∃ y3, some y3 = some j94 ∧ F = [(1, i6 a1), (2, pt b1), (4, pt b2), (10, .bool y3)] ∧ St w no w1 [box b1 (cSpot.enc a0) 55, box b2 (cHurdle.enc (⟨(⟨0, 0⟩ : Spot), false⟩ : Hurdle)) 58] []) ?_ ?_
 refine GO ?_
 refine OJ.split (t := 7) Z (fun hb => ?_) (fun hb => ?_)
 replace H := pif_t (of_decide_eq_true hb) H
 exact MD H hS
 replace H := pif_f (of_decide_eq_false hb) H
 exact MD H hS
 rintro F w1 ⟨y3, he, rfl, hS⟩
 obtain rfl := Option.some.inj he
 have H := K94
 refine CB H (fun H => GO ?_) (fun H => ?_)
 refine oS (SE (ce hS 0)) ?_
 refine OB H hS hb85 (q0u.c a0) fun t4 w1 H hS => ?_
 refine OJ.es Z Z (eS cSpot t4 hS (i := 0) Z Z Z Z Z Z Z Z Z Z) ?_
 intro w1 hS
 refine GO ?_
 refine oS (SE (ce hS 0)) ?_
 refine OJ.split (t := 17) Z (fun hb => ?_) (fun hb => ?_)
 replace H := pif_t (of_decide_eq_true hb) H
 refine GO ?_
 refine OJ.st Z Z Z (SR.build (C := cHurdle) oU oI Z Z Z (zs := [.int .i8 0, .int .i8 0, .bool false]) Z Z Z (⟨t4, true⟩ : Hurdle) Z) ?_
 refine OJ.es Z Z (eS cHurdle (⟨t4, true⟩ : Hurdle) hS (i := 1) Z Z Z Z Z Z Z Z Z Z) ?_
 intro w1 hS
 refine GO ?_
 obtain rfl := Option.some.inj H
 exact EJ.fin Z (.cell Z (ldE oU oI Z Z Z (hS.cells (i := 1) Z) Z) .nil) ⟨Z, hS.ext⟩
 replace H := pif_f (of_decide_eq_false hb) H
 refine GO ?_
 refine OJ.st Z Z Z (SR.build (C := cHurdle) oU oI Z Z Z (zs := [.int .i8 0, .int .i8 0, .bool false]) Z Z Z (⟨t4, decide (a1 = 2)⟩ : Hurdle) Z) ?_
 refine OJ.es Z Z (eS cHurdle (⟨t4, decide (a1 = 2)⟩ : Hurdle) hS (i := 1) Z Z Z Z Z Z Z Z Z Z) ?_
 intro w1 hS
 refine GO ?_
 obtain rfl := Option.some.inj H
 exact EJ.fin Z (.cell Z (ldE oU oI Z Z Z (hS.cells (i := 1) Z) Z) .nil) ⟨Z, hS.ext⟩
 refine GO ?_
 refine oS (SE (ce hS 0)) ?_
 refine OJ.split (t := 17) Z (fun hb => ?_) (fun hb => ?_)
 replace H := pif_t (of_decide_eq_true hb) H
 refine GO ?_
 refine OJ.st Z Z Z (SR.build (C := cHurdle) oU oI Z Z Z (zs := [.int .i8 0, .int .i8 0, .bool false]) Z Z Z (⟨a0, true⟩ : Hurdle) Z) ?_
 refine OJ.es Z Z (eS cHurdle (⟨a0, true⟩ : Hurdle) hS (i := 1) Z Z Z Z Z Z Z Z Z Z) ?_
 intro w1 hS
 refine GO ?_
 obtain rfl := Option.some.inj H
 exact EJ.fin Z (.cell Z (ldE oU oI Z Z Z (hS.cells (i := 1) Z) Z) .nil) ⟨Z, hS.ext⟩
 replace H := pif_f (of_decide_eq_false hb) H
 refine GO ?_
 refine OJ.st Z Z Z (SR.build (C := cHurdle) oU oI Z Z Z (zs := [.int .i8 0, .int .i8 0, .bool false]) Z Z Z (⟨a0, decide (a1 = 2)⟩ : Hurdle) Z) ?_
 refine OJ.es Z Z (eS cHurdle (⟨a0, decide (a1 = 2)⟩ : Hurdle) hS (i := 1) Z Z Z Z Z Z Z Z Z Z) ?_
 intro w1 hS
 refine GO ?_
 obtain rfl := Option.some.inj H
 exact EJ.fin Z (.cell Z (ldE oU oI Z Z Z (hS.cells (i := 1) Z) Z) .nil) ⟨Z, hS.ext⟩

def q15.f (a0 : Pasture) (a1 : Hurdle) : Option Bool := if a1.South = true then ((getI a0.South.l a1.At.Y).bind fun t3 => (chk (0 ≤ a1.At.X)).bind fun u4 => some (decide ((andI .u16 (shrI .u16 t3 a1.At.X) 1) = 1))) else ((getI a0.East.l a1.At.Y).bind fun t5 => (chk (0 ≤ a1.At.X)).bind fun u6 => some (decide ((andI .u16 (shrI .u16 t5 a1.At.X) 1) = 1)))
theorem q15.c {w} (a0 : Pasture) (a1 : Hurdle) (r : Bool) (H : q15.f a0 a1 = some r) :
 CV Tryz.prog 73 [.agg (cPasture.enc a0).toArray, .agg (cHurdle.enc a1).toArray].toArray w fun v w' => v = .bool r ∧ Ext w w' := by
 have hS := (St.init w no)
 unfold q15.f at H
 refine CV.body Tryz.func73 Z Tryz.ntmps73 Z ?_
 refine GO ?_
 refine OF (EB hS (cPasture.enc a0)) ?_
 rintro _ w1 ⟨b1, rfl, hS⟩
 refine oX hS (cHurdle.enc a1) fun b2 w1 hS => ?_
 refine oS (SL (cf hS 1 2)) ?_
 refine CB H (fun H => GO ?_) (fun H => ?_)
 refine CJ.draw [] [0, 1, 2, 3, 4, 5, 6, 7, 8, 9, 10, 11, 12] mixed (by kernel_rfl) hS fun w1 hS => ?_
 refine GO ?_
 refine dS (SL (CA.sub (cf hS 1 0) 1)) ?_
 obtain ⟨t3, ht3, H⟩ := pbind H
 refine DJ.st Z Z Z Z Z (SR.idxA oU oI Z Z Z Z Z (Arr.lt ht3)) ?_
 refine dS (SL (CA.idx (CA.fld (ce hS 0) (mid_part (fe_Pasture_4 _) (fl_Pasture_4 _) ((carr 10 (ci .u16)).len _))) ht3)) ?_
 refine DS (SL (CA.sub (cf hS 1 0) 0)) ?_
 obtain ⟨u4, hu4, H⟩ := pbind H
 refine DJ.st Z Z Z Z Z (SR.shr Z Z Z (chk_some hu4)) ?_
 exact FE H hS
 refine GO ?_
 refine CJ.draw [] [0, 1, 2, 3, 4, 5, 6, 7, 8, 9, 10, 11, 12] mixed (by kernel_rfl) hS fun w1 hS => ?_
 refine GO ?_
 refine dS (SL (CA.sub (cf hS 1 0) 1)) ?_
 obtain ⟨t5, ht5, H⟩ := pbind H
 refine DJ.st Z Z Z Z Z (SR.idxA oU oI Z Z Z Z Z (Arr.lt ht5)) ?_
 refine dS (SL (CA.idx (CA.fld (ce hS 0) (mid_part (fe_Pasture_3 _) (fl_Pasture_3 _) ((carr 10 (ci .u16)).len _))) ht5)) ?_
 refine DS (SL (CA.sub (cf hS 1 0) 0)) ?_
 obtain ⟨u6, hu6, H⟩ := pbind H
 refine DJ.st Z Z Z Z Z (SR.shr Z Z Z (chk_some hu6)) ?_
 exact FE H hS

def q1k.f (a0 : Pasture) (a1 : Spot) (a2 : Int) : Option Bool := (q0u.f a1 a2).bind fun t3 => (q0m.f a0 t3).bind fun t4 => if t4 = true then ((q1j.f a1 a2).bind fun t5 => (q15.f a0 t5).bind fun t6 => some (!t6)) else (some false)
theorem q1k.c {w} (a0 : Pasture) (a1 : Spot) {a2 : Int} (r : Bool) (H : q1k.f a0 a1 a2 = some r) :
 CV Tryz.prog 86 [.agg (cPasture.enc a0).toArray, .agg (cSpot.enc a1).toArray, .int .i64 a2].toArray w fun v w' => v = .bool r ∧ Ext w w' := by
 have hS := (St.init w no)
 unfold q1k.f at H
 refine CV.body Tryz.func86 Z Tryz.ntmps86 Z ?_
 refine GO ?_
 refine OF (EB hS (cPasture.enc a0)) ?_
 rintro _ w1 ⟨b1, rfl, hS⟩
 refine oX hS (cSpot.enc a1) fun b2 w1 hS => ?_
 refine CJ.draw [] [0, 1, 2, 3, 4, 5, 6, 7, 8, 9, 10, 11, 12, 13] mixed (by kernel_rfl) hS fun w1 hS => ?_
 refine DS (SE (ce hS 0)) ?_
 refine dS (SE (ce hS 1)) ?_
 obtain ⟨t3, ht3, H⟩ := pbind H
 refine DJ.callF rfl rfl rfl rfl rfl rfl rfl hb85 rfl (q0u.c a1 _ ht3) (by rintro v w' ⟨rfl, hs⟩; exact hs) ?_
 rintro _ w1 ⟨rfl, hs⟩
 replace hS := hS.grow hs
 obtain ⟨t4, ht4, H⟩ := pbind H
 refine DJ.callF rfl rfl rfl rfl rfl rfl rfl hb99 rfl (q0m.c a0 t3 _ ht4) (by rintro v w' ⟨rfl, hs⟩; exact hs) ?_
 rintro _ w1 ⟨rfl, hs⟩
 replace hS := hS.grow hs
 refine GO ?_
 refine DJ.split (t := 12) Z (fun hb => ?_) (fun hb => ?_)
 replace H := pif_t hb H
 refine DS (SE (ce hS 0)) ?_
 refine dS (SE (ce hS 1)) ?_
 obtain ⟨t5, ht5, H⟩ := pbind H
 refine DJ.callF rfl rfl rfl rfl rfl rfl rfl hb94 rfl (q1j.c a1 _ ht5) (by rintro v w' ⟨rfl, hs⟩; exact hs) ?_
 rintro _ w1 ⟨rfl, hs⟩
 replace hS := hS.grow hs
 obtain ⟨t6, ht6, H⟩ := pbind H
 refine DJ.callF rfl rfl rfl rfl rfl rfl rfl hb73 rfl (q15.c a0 t5 _ ht6) (by rintro v w' ⟨rfl, hs⟩; exact hs) ?_
 rintro _ w1 ⟨rfl, hs⟩
 replace hS := hS.grow hs
 exact FE H hS
 replace H := pifb_f hb H
 exact FE H hS

def q0q.l1 (a0 : Pasture) (a1 : Spot) : Nat → (List Spot) → Int → Option (List Spot)
  | 0, _, _ => none
  | k + 1, y7, y10 => if y10 < 4 then ((q1k.f a0 a1 y10).bind fun t11 => if t11 = true then ((q0u.f a1 y10).bind fun t12 => (chk (y7.length + ([t12] : List Spot).length ≤ 4294967296)).bind fun u14 => q0q.l1 a0 a1 k (y7 ++ ([t12] : List Spot)) (IntKind.i64.wrap (y10 + 1))) else (q0q.l1 a0 a1 k y7 (IntKind.i64.wrap (y10 + 1)))) else (some y7)
def q0q.f (k : Nat) (a0 : Pasture) (a1 : Spot) : Option (List Spot) := (q0q.l1 a0 a1 k ([] : List Spot) 0).bind fun y4 => some y4
theorem q0q.c {k w} (a0 : Pasture) (a1 : Spot) (r : List Spot) (H : q0q.f k a0 a1 = some r) :
 CV Tryz.prog 55 [.agg (cPasture.enc a0).toArray, .agg (cSpot.enc a1).toArray].toArray w fun v w' => ∃ (A0 : Option Addr) (c0 : Nat), v = .slice A0 r.length c0 ∧ St w no w' [rowC cSpot A0 c0 55 r] [] := by
 have hS := (St.init w no)
 unfold q0q.f at H
 refine CV.body Tryz.func55 Z Tryz.ntmps55 Z ?_
 refine GO ?_
 refine OF (EB hS (cPasture.enc a0)) ?_
 rintro _ w1 ⟨b1, rfl, hS⟩
 refine oX hS (cSpot.enc a1) fun b2 w1 hS => ?_
 refine OF (EL hS cSpot ([] : List Spot)) ?_
 rintro _ w1 ⟨A3, rfl, hS⟩
 refine GO ?_
 obtain ⟨j93, H, K93⟩ := pbind H
 refine CJ.cut1 (fun F w1 => ∃ y4 A5 c6, some y4 = some j93 ∧ F = [(5, sl A5 y4 c6)] ∧ St w no w1 [rowC cSpot A5 c6 55 y4] []) ?_ ?_
 refine CJ.block ?_
 refine LQ (fun k F w1 => ∃ (y7 : List Spot) (y10 : Int) (A8 c9 : _), F = [(2, pt b1), (3, pt b2), (5, sl A8 y7 c9), (8, i6 y10)] ∧ St w no w1 [box b1 (cPasture.enc a0) 31, box b2 (cSpot.enc a1) 55, rowC cSpot A8 c9 55 y7] [] ∧ q0q.l1 a0 a1 k y7 y10 = some j93) k H hS ?_
 rintro k F w1 ⟨y7, y10, A8, c9, rfl, hS, H⟩
 rw [q0q.l1] at H
 refine GO ?_
 refine CP H (fun H => GO ?_) (fun H => ?_)
 refine CJ.block ?_
 refine GO ?_
 refine OS (SE (ce hS 0)) ?_
 refine oS (SE (ce hS 1)) ?_
 refine oB H hS hb86 (q1k.c a0 a1) fun t11 w1 H hS => ?_
 refine CB H (fun H => GO ?_) (fun H => ?_)
 refine oS (SE (ce hS 1)) ?_
 refine OB H hS hb85 (q0u.c a1) fun t12 w1 H hS => ?_
 refine OF (EL hS cSpot ([t12] : List Spot)) ?_
 rintro _ w1 ⟨A13, rfl, hS⟩
 obtain ⟨u14, hu14, H⟩ := pbind H
 refine OW (AP hS 2 (rC hS 3 Z) (chk_some hu14)) ?_
 rintro _ w1 ⟨A15, c16, rfl, hS⟩
 exact MD H hS
 exact MD H hS
 exact MD H hS
 rintro F w1 ⟨y4, A5, c6, he, rfl, hS⟩
 obtain rfl := Option.some.inj he
 have H := K93
 refine EJ.next ?_
 refine GO ?_
 obtain rfl := Option.some.inj H
 exact FT ⟨A5, c6, Z, hS.pick [0] [] Z⟩

def q0b.l1 (self : Pasture → (List (Arr 2 Spot)) → Spot → (List Spot) → (List Spot) → Option (Bool × List (Arr 2 Spot) × List Spot)) (a0 : Pasture) (a2 : Spot) (a3 : List Spot) (t4 : List Spot) : Nat → (List (Arr 2 Spot)) → (List Spot) → Int → Option ((Bool × List (Arr 2 Spot) × List Spot) ⊕ ((List (Arr 2 Spot)) × (List Spot)))
  | 0, _, _, _ => none
  | k + 1, y9, y10, y11 => if y11 < (t4.length : Int) then ((getI t4 y11).bind fun t12 => (if (hasK y10 t12) = true then (some true) else (some (hasK y9 (⟨[a2, t12], rfl⟩ : Arr 2 Spot)))).bind fun y14 => if y14 = true then (q0b.l1 self a0 a2 a3 t4 k y9 y10 (IntKind.i64.wrap (y11 + 1))) else ((self a0 y9 t12 a3 y10).bind fun t15 => if t15.1 = true then (if (hasK t15.2.1 (⟨[t12, a2], rfl⟩ : Arr 2 Spot)) = true then (some (Sum.inl (true, delS t15.2.1 (⟨[t12, a2], rfl⟩ : Arr 2 Spot), t15.2.2))) else (some (Sum.inl (true, addS t15.2.1 (⟨[a2, t12], rfl⟩ : Arr 2 Spot), t15.2.2)))) else (q0b.l1 self a0 a2 a3 t4 k t15.2.1 t15.2.2 (IntKind.i64.wrap (y11 + 1))))) else (some (Sum.inr (y9, y10)))
def q0b.f : Nat → Pasture → (List (Arr 2 Spot)) → Spot → (List Spot) → (List Spot) → Option (Bool × List (Arr 2 Spot) × List Spot)
  | 0, _, _, _, _, _ => none
  | k + 1, a0, a1, a2, a3, a4 => (q09.f k a3 a2).bind fun t3 => if t3 = true then (some (true, a1, a4)) else ((q0q.f k a0 a2).bind fun t4 => (q0b.l1 (q0b.f k) a0 a2 a3 t4 k a1 (addS a4 a2) 0).bind fun s97 => match s97 with | .inl r => some r | .inr (y7, y8) => some (false, y7, y8))
theorem q0b.c : ∀ (k : Nat) (w : World) (a0 : Pasture) (ba1 : Nat) (a1 : List (Arr 2 Spot)) (a2 : Spot) (Aa3 : Option Addr) (ca3 : Nat) (a3 : List Spot) (ba4 : Nat) (a4 : List Spot) (hin : St w (fpU [mapK (keyV (carr 2 cSpot)) ba1 a1, mapK (keyV cSpot) ba4 a4]) w [mapK (keyV (carr 2 cSpot)) ba1 a1, mapK (keyV cSpot) ba4 a4] [roC cSpot Aa3 ca3 a3]) (r : Bool × List (Arr 2 Spot) × List Spot) (H : q0b.f k a0 a1 a2 a3 a4 = some r),
 CV Tryz.prog 76 [.agg (cPasture.enc a0).toArray, .map (some ba1), .agg (cSpot.enc a2).toArray, sl Aa3 a3 ca3, .map (some ba4)].toArray w fun v w' => v = .bool r.1 ∧ St w (fpU [mapK (keyV (carr 2 cSpot)) ba1 a1, mapK (keyV cSpot) ba4 a4]) w' [mapK (keyV (carr 2 cSpot)) ba1 r.2.1, mapK (keyV cSpot) ba4 r.2.2] [] := by
 intro k
 induction k
 intro w a0 ba1 a1 a2 Aa3 ca3 a3 ba4 a4 hin r H; rw [q0b.f] at H; cases H
 rename_i k ih
 intro w a0 ba1 a1 a2 Aa3 ca3 a3 ba4 a4 hin r H
 have hS := hin
 rw [q0b.f] at H
 generalize q0b.f k = self at H ih
 refine CV.body Tryz.func76 Z Tryz.ntmps76 Z ?_
 refine GO ?_
 refine OF (EB hS (cPasture.enc a0)) ?_
 rintro _ w1 ⟨b1, rfl, hS⟩
 refine oX hS (cSpot.enc a2) fun b2 w1 hS => ?_
 refine OS (SE (ce hS 3)) ?_
 refine oB H hS hb54 (q09.c (rA hS 0 Z) (rB hS 0 Z) a2) fun t3 w1 H hS => ?_
 refine CB H (fun H => GO ?_) (fun H => ?_)
 obtain rfl := Option.some.inj H
 exact FT ⟨Z, hS.pick [0, 1] [] Z⟩
 refine GO ?_
 refine OS (SE (ce hS 3)) ?_
 refine OJ.es rfl rfl (Es.mapUpdateK key55.k (E := 4) (by kernel_rfl) hS (i := 1) rfl rfl rfl rfl rfl) ?_
 intro w1 hS
 refine GO ?_
 refine OS (SE (ce hS 2)) ?_
 refine OS (SE (ce hS 3)) ?_
 obtain ⟨t4, ht4, H⟩ := pbind H
 refine OC hb55 (q0q.c a0 a2 _ ht4) ?_
 rintro _ w1 ⟨A5, c6, rfl, hs⟩
 replace hS := hS.addN hs
 refine GO ?_
 obtain ⟨j97, H, K97⟩ := pbind H
 refine CJ.cut1 (fun F w1 => ∃ y7 y8, some j97 = some (Sum.inr (y7, y8)) ∧ F = [] ∧ St w (fpU [mapK (keyV (carr 2 cSpot)) ba1 a1, mapK (keyV cSpot) ba4 a4]) w1 [mapK (keyV (carr 2 cSpot)) ba1 y7, mapK (keyV cSpot) ba4 y8] [roC cSpot Aa3 ca3 a3]) ?_ ?_
 refine CJ.block ?_
 refine LQ (fun k F w1 => ∃ (y9 : List (Arr 2 Spot)) (y10 : List Spot) (y11 : Int), F = [(1, .map (some ba1)), (3, sl Aa3 a3 ca3), (4, .map (some ba4)), (5, pt b1), (7, pt b2), (20, sl A5 t4 c6), (21, i6 (t4.length : Int)), (22, i6 y11)] ∧ St w (fpU [mapK (keyV (carr 2 cSpot)) ba1 a1, mapK (keyV cSpot) ba4 a4]) w1 [mapK (keyV (carr 2 cSpot)) ba1 y9, mapK (keyV cSpot) ba4 y10, box b1 (cPasture.enc a0) 31, box b2 (cSpot.enc a2) 55, rowC cSpot A5 c6 55 t4] [roC cSpot Aa3 ca3 a3] ∧ q0b.l1 self a0 a2 a3 t4 k y9 y10 y11 = some j97) k H hS ?_
 rintro k F w1 ⟨y9, y10, y11, rfl, hS, H⟩
 rw [q0b.l1] at H
 refine GO ?_
 refine CP H (fun H => GO ?_) (fun H => ?_)
 refine CJ.block ?_
 refine GO ?_
 obtain ⟨t12, ht12, H⟩ := pbind H
 obtain ⟨ad12, e12⟩ := (rC hS 4 Z).some' ht12
 refine OS (SI e12 (getI_some ht12).1) ?_
 refine OS (SE ((rC hS 4 Z).at_ e12 ht12)) ?_
 refine OF (EA hS (cSpot.enc (⟨0, 0⟩ : Spot))) ?_
 rintro _ w1 ⟨b13, rfl, hS⟩
 refine OJ.es Z Z (eS cSpot t12 hS (i := 5) Z Z Z Z Z Z Z Z Z Z) ?_
 intro w1 hS
 refine NX ?_
 refine CJ.seq ?_
 obtain ⟨j100, H, K100⟩ := pbind H
 refine CJ.cut (fun F w1 => ∃ y14, some y14 = some j100 ∧ F = [(1, .map (some ba1)), (3, sl Aa3 a3 ca3), (4, .map (some ba4)), (5, pt b1), (7, pt b2), (12, pt b13), (20, sl A5 t4 c6), (21, i6 (t4.length : Int)), (22, i6 y11), (35, .bool y14)] ∧ St w (fpU [mapK (keyV (carr 2 cSpot)) ba1 a1, mapK (keyV cSpot) ba4 a4]) w1 [mapK (keyV (carr 2 cSpot)) ba1 y9, mapK (keyV cSpot) ba4 y10, box b1 (cPasture.enc a0) 31, box b2 (cSpot.enc a2) 55, rowC cSpot A5 c6 55 t4, box b13 (cSpot.enc t12) 55] [roC cSpot Aa3 ca3 a3]) ?_ ?_
 refine GO ?_
 refine OS (SE (ce hS 5)) ?_
 refine OJ.st rfl rfl rfl (SR.lookupK key55.k (E := 4) (by kernel_rfl) (by kernel_rfl) (zero_of (E := 4) oI rfl rfl) (hS.at_ (i := 1) rfl) rfl rfl rfl) ?_
 refine GO ?_
 refine OJ.split (t := 29) Z (fun hb => ?_) (fun hb => ?_)
 replace H := pif_t hb H
 exact MD H hS
 replace H := pifb_f hb H
 refine GO ?_
 refine OS (SE (ce hS 3)) ?_
 refine OS (SE (ce hS 5)) ?_
 refine OJ.st rfl rfl rfl (SR.buildA oU oI rfl rfl rfl rfl (zs := [.int .i8 0, .int .i8 0, .int .i8 0, .int .i8 0]) rfl rfl ((carr 2 cSpot).enc (⟨[a2, t12], rfl⟩ : Arr 2 Spot)) (by kernel_rfl)) ?_
 refine OJ.st rfl rfl rfl (SR.lookupK key171.k (E := 4) (by kernel_rfl) (by kernel_rfl) (zero_of (E := 4) oI rfl rfl) (hS.at_ (i := 0) rfl) rfl rfl rfl) ?_
 exact MD H hS
 rintro F w1 ⟨y14, he, rfl, hS⟩
 obtain rfl := Option.some.inj he
 have H := K100
 refine CB H (fun H => ?_) (fun H => ?_)
 exact MD H hS
 refine GO ?_
 refine oS (SE (ce hS 2)) ?_
 refine oS (SE (ce hS 5)) ?_
 obtain ⟨t15, ht15, H⟩ := pbind H
 refine OC hb76 (ih _ a0 ba1 y9 t12 Aa3 ca3 a3 ba4 y10 ((hS.subs [0, 1] [0] [] Z).pick [0, 1] [0] Z) _ ht15) ?_
 rintro _ w1 ⟨rfl, hs⟩
 replace hS := hS.back [0, 1] Z Z [mapK (keyV (carr 2 cSpot)) ba1 t15.2.1, mapK (keyV cSpot) ba4 t15.2.2] [] hs ⟨fun _ => Iff.rfl, fun _ => Iff.rfl, trivial⟩
 have hS : St _ _ _ [_, _, _, _, _, _] _ := hS
 have hS : St _ _ _ [_, _, _, _, _, _] _ := hS
 refine GO ?_
 refine CB H (fun H => GO ?_) (fun H => ?_)
 refine OS (SE (ce hS 5)) ?_
 refine OS (SE (ce hS 3)) ?_
 refine OJ.st rfl rfl rfl (SR.buildA oU oI rfl rfl rfl rfl (zs := [.int .i8 0, .int .i8 0, .int .i8 0, .int .i8 0]) rfl rfl ((carr 2 cSpot).enc (⟨[t12, a2], rfl⟩ : Arr 2 Spot)) (by kernel_rfl)) ?_
 refine OJ.st rfl rfl rfl (SR.lookupK key171.k (E := 4) (by kernel_rfl) (by kernel_rfl) (zero_of (E := 4) oI rfl rfl) (hS.at_ (i := 0) rfl) rfl rfl rfl) ?_
 refine GO ?_
 refine CB H (fun H => GO ?_) (fun H => ?_)
 refine OS (SE (ce hS 5)) ?_
 refine OS (SE (ce hS 3)) ?_
 refine OJ.st rfl rfl rfl (SR.buildA oU oI rfl rfl rfl rfl (zs := [.int .i8 0, .int .i8 0, .int .i8 0, .int .i8 0]) rfl rfl ((carr 2 cSpot).enc (⟨[t12, a2], rfl⟩ : Arr 2 Spot)) (by kernel_rfl)) ?_
 refine OJ.ewn rfl rfl (Ew.mapDeleteK key171.k key171.d (E := 4) (by kernel_rfl) hS (i := 0) rfl rfl rfl rfl rfl rfl rfl) ?_
 rintro _ w1 ⟨rfl, hS⟩
 refine GO ?_
 obtain rfl := Option.some.inj H; have H := K97
 obtain rfl := Option.some.inj H
 exact FT ⟨Z, hS.pick [0, 1] [] Z⟩
 refine GO ?_
 refine OS (SE (ce hS 3)) ?_
 refine OS (SE (ce hS 5)) ?_
 refine OJ.st rfl rfl rfl (SR.buildA oU oI rfl rfl rfl rfl (zs := [.int .i8 0, .int .i8 0, .int .i8 0, .int .i8 0]) rfl rfl ((carr 2 cSpot).enc (⟨[a2, t12], rfl⟩ : Arr 2 Spot)) (by kernel_rfl)) ?_
 refine OJ.es rfl rfl (Es.mapUpdateK key171.k (E := 4) (by kernel_rfl) hS (i := 0) rfl rfl rfl rfl rfl) ?_
 intro w1 hS
 refine GO ?_
 obtain rfl := Option.some.inj H; have H := K97
 obtain rfl := Option.some.inj H
 exact FT ⟨Z, hS.pick [0, 1] [] Z⟩
 exact MD H hS
 exact MD H hS
 rintro F w1 ⟨y7, y8, ⟨⟩, rfl, hS⟩
 have H := K97
 refine EJ.next ?_
 refine GO ?_
 obtain rfl := Option.some.inj H
 exact FT ⟨Z, hS.pick [0, 1] [] Z⟩

def q0n.l2 (a0 : Pasture) (a1 : Spot → Option Bool) (y9 : Int) : Nat → (List Spot) → Int → Option (List Spot)
  | 0, _, _ => none
  | k + 1, y16, y19 => if y19 < a0.Wide then ((a1 (⟨y19, y9⟩ : Spot)).bind fun t21 => if t21 = true then ((chk (y16.length + ([(⟨y19, y9⟩ : Spot)] : List Spot).length ≤ 4294967296)).bind fun u23 => q0n.l2 a0 a1 y9 k (y16 ++ ([(⟨y19, y9⟩ : Spot)] : List Spot)) (IntKind.i8.wrap (y19 + 1))) else (q0n.l2 a0 a1 y9 k y16 (IntKind.i8.wrap (y19 + 1)))) else (some y16)
def q0n.l1 (a0 : Pasture) (a1 : Spot → Option Bool) : Nat → (List Spot) → Int → Option (List Spot)
  | 0, _, _ => none
  | k + 1, y6, y9 => if y9 < a0.High then (((q0n.l2 a0 a1 y9 k y6 0).bind fun y13 => some y13).bind fun y10 => q0n.l1 a0 a1 k y10 (IntKind.i8.wrap (y9 + 1))) else (some y6)
def q0n.f (k : Nat) (a0 : Pasture) (a1 : Spot → Option Bool) : Option (List Spot) := (q0n.l1 a0 a1 k ([] : List Spot) 0).bind fun y3 => some y3
theorem q0n.c {k w} (a0 : Pasture) (na1 : Nat) (fsa1 : Array Value) (capa1 : Array Value) (hb1 : hasBody Tryz.prog na1) (a1 : Spot → Option Bool) (hf1 : ∀ (z0 : Spot) (r : Bool), a1 z0 = some r → ∀ w', Chg no w w' → CV Tryz.prog na1 (fsa1 ++ [.agg (cSpot.enc z0).toArray].toArray ++ capa1) w' fun v w'' => v = .bool r ∧ Ext w' w'') (r : List Spot) (H : q0n.f k a0 a1 = some r) :
 CV Tryz.prog 77 [.agg (cPasture.enc a0).toArray, .func (.func na1) fsa1 capa1].toArray w fun v w' => ∃ (A0 : Option Addr) (c0 : Nat), v = .slice A0 r.length c0 ∧ St w no w' [rowC cSpot A0 c0 55 r] [] := by
 have hS := (St.init w no)
 unfold q0n.f at H
 refine CV.body Tryz.func77 Z Tryz.ntmps77 Z ?_
 refine GO ?_
 refine oX hS (cPasture.enc a0) fun b1 w1 hS => ?_
 refine OF (EL hS cSpot ([] : List Spot)) ?_
 rintro _ w1 ⟨A2, rfl, hS⟩
 refine GO ?_
 refine oS (SL (CA.fld (ce hS 0) (mid_part (fe_Pasture_1 _) (fl_Pasture_1 _) ((ci .i8).len _)))) ?_
 obtain ⟨j101, H, K101⟩ := pbind H
 refine CJ.cut1 (fun F w1 => ∃ y3 A4 c5, some y3 = some j101 ∧ F = [(5, sl A4 y3 c5)] ∧ St w no w1 [rowC cSpot A4 c5 55 y3] []) ?_ ?_
 refine CJ.block ?_
 refine LQ (fun k F w1 => ∃ (y6 : List Spot) (y9 : Int) (A7 c8 : _), F = [(1, .func (.func na1) fsa1 capa1), (2, pt b1), (5, sl A7 y6 c8), (11, .int .i8 a0.High), (12, .int .i8 y9)] ∧ St w no w1 [box b1 (cPasture.enc a0) 31, rowC cSpot A7 c8 55 y6] [] ∧ q0n.l1 a0 a1 k y6 y9 = some j101) k H hS ?_
 rintro k F w1 ⟨y6, y9, A7, c8, rfl, hS, H⟩
 rw [q0n.l1] at H
 refine GO ?_
 refine CP H (fun H => ?_) (fun H => ?_)
 refine CJ.skip (EJ.next ?_)
 obtain ⟨j108, H, K108⟩ := pbind H
 refine CJ.cut (fun F w1 => ∃ y10 A11 c12, some y10 = some j108 ∧ F = [(1, .func (.func na1) fsa1 capa1), (2, pt b1), (5, sl A11 y10 c12), (11, .int .i8 a0.High), (12, .int .i8 y9)] ∧ St w no w1 [box b1 (cPasture.enc a0) 31, rowC cSpot A11 c12 55 y10] []) ?_ ?_
 refine CJ.block ?_
 refine GO ?_
 refine oS (SL (CA.fld (ce hS 0) (mid_part (fe_Pasture_0 _) (fl_Pasture_0 _) ((ci .i8).len _)))) ?_
 obtain ⟨j110, H, K110⟩ := pbind H
 refine CJ.cut1 (fun F w1 => ∃ y13 A14 c15, some y13 = some j110 ∧ F = [(1, .func (.func na1) fsa1 capa1), (2, pt b1), (5, sl A14 y13 c15), (11, .int .i8 a0.High), (12, .int .i8 y9)] ∧ St w no w1 [box b1 (cPasture.enc a0) 31, rowC cSpot A14 c15 55 y13] []) ?_ ?_
 refine CJ.block ?_
 refine LQ (fun k F w1 => ∃ (y16 : List Spot) (y19 : Int) (A17 c18 : _), F = [(1, .func (.func na1) fsa1 capa1), (2, pt b1), (5, sl A17 y16 c18), (6, .int .i8 y9), (11, .int .i8 a0.High), (12, .int .i8 y9), (16, .int .i8 a0.Wide), (17, .int .i8 y19)] ∧ St w no w1 [box b1 (cPasture.enc a0) 31, rowC cSpot A17 c18 55 y16] [] ∧ q0n.l2 a0 a1 y9 k y16 y19 = some j110) k H hS ?_
 rintro k F w1 ⟨y16, y19, A17, c18, rfl, hS, H⟩
 rw [q0n.l2] at H
 refine GO ?_
 refine CP H (fun H => GO ?_) (fun H => ?_)
 refine CJ.block ?_
 refine GO ?_
 refine OJ.st Z Z Z (SR.build (C := cSpot) oU oI Z Z Z (zs := [.int .i8 0, .int .i8 0]) Z Z Z (⟨y19, y9⟩ : Spot) Z) ?_
 refine OF (EA hS (cSpot.enc (⟨0, 0⟩ : Spot))) ?_
 rintro _ w1 ⟨b20, rfl, hS⟩
 refine OJ.es Z Z (eS cSpot (⟨y19, y9⟩ : Spot) hS (i := 2) Z Z Z Z Z Z Z Z Z Z) ?_
 intro w1 hS
 refine GO ?_
 refine OS (SE (ce hS 2)) ?_
 obtain ⟨t21, ht21, H⟩ := pbind H
 refine OJ.call Z Z (Nat.le_of_ble_eq_true Z) Z Z Z hb1 Z (hf1 (⟨y19, y9⟩ : Spot) _ ht21 _ hS.chg) ?_
 rintro _ w1 ⟨rfl, hs⟩
 replace hS := hS.grow hs
 refine GO ?_
 refine CB H (fun H => GO ?_) (fun H => ?_)
 refine OS (SE (ce hS 2)) ?_
 refine OF (EL hS cSpot ([(⟨y19, y9⟩ : Spot)] : List Spot)) ?_
 rintro _ w1 ⟨A22, rfl, hS⟩
 obtain ⟨u23, hu23, H⟩ := pbind H
 refine OW (AP hS 1 (rC hS 3 Z) (chk_some hu23)) ?_
 rintro _ w1 ⟨A24, c25, rfl, hS⟩
 exact MD H hS
 exact MD H hS
 exact MD H hS
 rintro F w1 ⟨y13, A14, c15, he, rfl, hS⟩
 obtain rfl := Option.some.inj he
 have H := K110
 refine EJ.blk (?_)
 exact MD H hS
 rintro F w1 ⟨y10, A11, c12, he, rfl, hS⟩
 obtain rfl := Option.some.inj he
 have H := K108
 exact MD H hS
 exact MD H hS
 rintro F w1 ⟨y3, A4, c5, he, rfl, hS⟩
 obtain rfl := Option.some.inj he
 have H := K101
 refine EJ.next ?_
 refine GO ?_
 obtain rfl := Option.some.inj H
 exact FT ⟨A4, c5, Z, hS.pick [0] [] Z⟩

def q21.f (a1 : List Spot) (a0 : Spot) : Option Bool := some (hasK a1 a0)
theorem q21.c {w} (ba1 : Nat) {a1 : List Spot} (hm1 : (mapK (keyV cSpot) ba1 a1).holds w) (pa1 : Addr) (hp1 : CA w pa1 [.map (some ba1)]) (a0 : Spot) (r : Bool) (H : q21.f a1 a0 = some r) :
 CV Tryz.prog 78 [.agg (cSpot.enc a0).toArray, .pointer (some pa1)].toArray w fun v w' => v = .bool r ∧ Ext w w' := by
 have hS := (((St.init w no).read (mapK (keyV cSpot) ba1 a1) hm1 (by simp)).paramP pa1 [.map (some ba1)] hp1)
 unfold q21.f at H
 refine CV.body Tryz.func78 Z Tryz.ntmps78 Z ?_
 refine GO ?_
 refine oX hS (cSpot.enc a0) fun b1 w1 hS => ?_
 refine OS (SL (hS.ca (i := 1) Z)) ?_
 refine OS (SE (ce hS 0)) ?_
 refine OJ.st rfl rfl rfl (SR.lookupK key55.k (E := 4) (by kernel_rfl) (by kernel_rfl) (zero_of (E := 4) oI rfl rfl) (hS.ro (i := 0) rfl) rfl rfl rfl) ?_
 exact FE H hS

def q08.l2 (a0 : Pasture) (a1 : List Spot) (a2 : List Spot) : Nat → (List (Arr 2 Spot)) → (List Spot) → Int → Option ((List (Arr 2 Spot)) × (List Spot) × Bool)
  | 0, _, _, _ => none
  | k + 1, y9, y10, y11 => if y11 < (a1.length : Int) then ((getI a1 y11).bind fun t12 => if (!(hasK y10 t12)) = true then ((q0b.f k a0 y9 t12 a2 y10).bind fun t14 => if t14.1 = true then (some (t14.2.1, t14.2.2, true)) else (q08.l2 a0 a1 a2 k t14.2.1 t14.2.2 (IntKind.i64.wrap (y11 + 1)))) else (q08.l2 a0 a1 a2 k y9 y10 (IntKind.i64.wrap (y11 + 1)))) else (some (y9, y10, false))
def q08.l1 (a0 : Pasture) (a1 : List Spot) (a2 : List Spot) : Nat → (List (Arr 2 Spot)) → Option ((List Spot) ⊕ Unit)
  | 0, _ => none
  | k + 1, y3 => (q08.l2 a0 a1 a2 k y3 ([] : List Spot) 0).bind fun (y6, y7, y8) => if (!y8) = true then ((q0n.f k a0 (q21.f y7)).bind fun t15 => some (Sum.inl t15)) else (q08.l1 a0 a1 a2 k y6)
def q08.f (k : Nat) (a0 : Pasture) (a1 : List Spot) (a2 : List Spot) : Option (List Spot) := (q08.l1 a0 a1 a2 k ([] : List (Arr 2 Spot))).bind fun s91 => match s91 with | .inl r => some r | .inr _ => none
theorem q08.c {k w} (a0 : Pasture) {Aa1 ca1} {a1 : List Spot} (hr1 : Rd cSpot w Aa1 a1) (hc1 : a1.length ≤ ca1) {Aa2 ca2} {a2 : List Spot} (hr2 : Rd cSpot w Aa2 a2) (hc2 : a2.length ≤ ca2) (r : List Spot) (H : q08.f k a0 a1 a2 = some r) :
 CV Tryz.prog 31 [.agg (cPasture.enc a0).toArray, sl Aa1 a1 ca1, sl Aa2 a2 ca2].toArray w fun v w' => ∃ (A0 : Option Addr) (c0 : Nat), v = .slice A0 r.length c0 ∧ St w no w' [rowC cSpot A0 c0 55 r] [] := by
 have hS := (((St.init w no).param cSpot Aa1 ca1 a1 hr1 hc1).param cSpot Aa2 ca2 a2 hr2 hc2)
 unfold q08.f at H
 refine CV.body Tryz.func31 Z Tryz.ntmps31 Z ?_
 refine GO ?_
 refine oX hS (cPasture.enc a0) fun b1 w1 hS => ?_
 refine OJ.ef Z Z Z (Ef.makeMapK hS Z (keyV (carr 2 cSpot))) ?_
 rintro _ w1 ⟨b2, rfl, hS⟩
 refine GO ?_
 obtain ⟨j91, H, K91⟩ := pbind H
 refine CJ.cut1 (fun _ _ => False) ?_ ?_
 refine CJ.block ?_
 refine LQ (fun k F w1 => ∃ (y3 : List (Arr 2 Spot)), F = [(1, sl Aa1 a1 ca1), (2, sl Aa2 a2 ca2), (3, pt b1), (6, .slice none 0 0), (7, .map (some b2))] ∧ St w no w1 [box b1 (cPasture.enc a0) 31, mapK (keyV (carr 2 cSpot)) b2 y3] [roC cSpot Aa1 ca1 a1, roC cSpot Aa2 ca2 a2] ∧ q08.l1 a0 a1 a2 k y3 = some j91) k H hS ?_
 rintro k F w1 ⟨y3, rfl, hS, H⟩
 rw [q08.l1] at H
 refine CJ.block ?_
 refine GO ?_
 refine OJ.ef Z Z Z (Ef.makeMapK hS Z (keyV cSpot)) ?_
 rintro _ w1 ⟨b4, rfl, hS⟩
 refine OF (EA hS ([.map none])) ?_
 rintro _ w1 ⟨b5, rfl, hS⟩
 refine oE (WV hS 3 [.map (some b4)]) fun w1 hS => ?_
 obtain ⟨j112, H, K112⟩ := pbind H
 refine CJ.cut1 (fun F w1 => ∃ y6 y7 y8, some j112 = some (y6, y7, y8) ∧ F = [(1, sl Aa1 a1 ca1), (2, sl Aa2 a2 ca2), (3, pt b1), (6, .slice none 0 0), (7, .map (some b2)), (8, pt b5), (9, .bool y8)] ∧ St w no w1 [box b1 (cPasture.enc a0) 31, mapK (keyV (carr 2 cSpot)) b2 y6, mapK (keyV cSpot) b4 y7, box b5 ([.map (some b4)]) 120] [roC cSpot Aa1 ca1 a1, roC cSpot Aa2 ca2 a2]) ?_ ?_
 refine CJ.block ?_
 refine LQ (fun k F w1 => ∃ (y9 : List (Arr 2 Spot)) (y10 : List Spot) (y11 : Int), F = [(1, sl Aa1 a1 ca1), (2, sl Aa2 a2 ca2), (3, pt b1), (6, .slice none 0 0), (7, .map (some b2)), (8, pt b5), (9, .bool false), (14, sl Aa1 a1 ca1), (15, i6 (a1.length : Int)), (16, i6 y11)] ∧ St w no w1 [box b1 (cPasture.enc a0) 31, mapK (keyV (carr 2 cSpot)) b2 y9, mapK (keyV cSpot) b4 y10, box b5 ([.map (some b4)]) 120] [roC cSpot Aa1 ca1 a1, roC cSpot Aa2 ca2 a2] ∧ q08.l2 a0 a1 a2 k y9 y10 y11 = some j112) k H hS ?_
 rintro k F w1 ⟨y9, y10, y11, rfl, hS, H⟩
 rw [q08.l2] at H
 refine GO ?_
 refine CP H (fun H => GO ?_) (fun H => ?_)
 refine CJ.block ?_
 refine GO ?_
 obtain ⟨t12, ht12, H⟩ := pbind H
 obtain ⟨ad12, e12⟩ := (rA hS 0 Z).some' ht12
 refine OS (SI e12 (getI_some ht12).1) ?_
 refine OS (SE ((rA hS 0 Z).at_ e12 ht12)) ?_
 refine OF (EA hS (cSpot.enc (⟨0, 0⟩ : Spot))) ?_
 rintro _ w1 ⟨b13, rfl, hS⟩
 refine OJ.es Z Z (eS cSpot t12 hS (i := 4) Z Z Z Z Z Z Z Z Z Z) ?_
 intro w1 hS
 refine GO ?_
 refine OS (SL (ce hS 3)) ?_
 refine OS (SE (ce hS 4)) ?_
 refine OJ.st rfl rfl rfl (SR.lookupK key55.k (E := 4) (by kernel_rfl) (by kernel_rfl) (zero_of (E := 4) oI rfl rfl) (hS.at_ (i := 2) rfl) rfl rfl rfl) ?_
 refine GO ?_
 refine OJ.split (t := 24) Z (fun hb => ?_) (fun hb => ?_)
 replace H := pif_t hb H
 refine oS (SE (ce hS 0)) ?_
 refine oS (SE (ce hS 4)) ?_
 refine OS (SL (ce hS 3)) ?_
 obtain ⟨t14, ht14, H⟩ := pbind H
 refine OC hb76 (q0b.c k _ a0 b2 y9 t12 Aa2 ca2 a2 b4 y10 ((hS.subs [1, 2] [1] [] Z).pick [0, 1] [0] Z) _ ht14) ?_
 rintro _ w1 ⟨rfl, hs⟩
 replace hS := hS.back [1, 2] Z Z [mapK (keyV (carr 2 cSpot)) b2 t14.2.1, mapK (keyV cSpot) b4 t14.2.2] [] hs ⟨fun _ => Iff.rfl, fun _ => Iff.rfl, trivial⟩
 refine GO ?_
 refine CB H (fun H => ?_) (fun H => ?_)
 refine SG ?_
 refine PX 1 ?_
 refine CJ.exit (EJ.bkE Z (EJ.skE (EJ.skE (EJ.hit (?_)))))
 exact MD H hS
 exact MD H hS
 replace H := pifb_f hb H
 refine GO ?_
 refine CJ.condF Z ?_
 exact MD H hS
 exact MD H hS
 rintro F w1 ⟨y6, y7, y8, ⟨⟩, rfl, hS⟩
 have H := K112
 refine EJ.next ?_
 refine GO ?_
 refine CB H (fun H => GO ?_) (fun H => ?_)
 refine oS (SE (ce hS 0)) ?_
 obtain ⟨t15, ht15, H⟩ := pbind H
 refine OC hb77 (q0n.c a0 78 #[] #[.pointer (some ⟨b5, 0, none⟩)] hb78 (q21.f y7) (fun z0 r h w' hx => CV.cast (q21.c b4 (mapK_ext (hS.at_ (i := 2) rfl) hx) ⟨b5, 0, none⟩ (CA.ext (hS.cells (i := 3) rfl) hx) z0 r h) (by simp)) _ ht15) ?_
 rintro _ w1 ⟨A16, c17, rfl, hs⟩
 replace hS := hS.addN hs
 refine GO ?_
 obtain rfl := Option.some.inj H; have H := K91
 obtain rfl := Option.some.inj H
 exact FT ⟨A16, c17, Z, hS.pick [4] [] Z⟩
 exact MD H hS
 rintro F w1 h
 exact h.elim

def q16.f (a0 : List Spot) (a1 : Spot → Spot → Option Int) : Option (List Spot) := (chk (a0.length ≤ 4294967296 ∧ a0.all okSpot = true)).bind fun _ => some (a0.mergeSort leSpot)
theorem q16.c {w Aa0 ca0} {a0 : List Spot} (na1 : Nat) (fsa1 : Array Value) (capa1 : Array Value) (hb1 : hasBody Tryz.prog na1) (a1 : Spot → Spot → Option Int) (hf1 : ∀ (z0 : Spot) (z1 : Spot) (r : Int), a1 z0 z1 = some r → ∀ w', Chg (fpU [rowC cSpot Aa0 ca0 55 a0]) w w' → CV Tryz.prog na1 (fsa1 ++ [.agg (cSpot.enc z0).toArray, .agg (cSpot.enc z1).toArray].toArray ++ capa1) w' fun v w'' => v = .int .i64 r ∧ Ext w' w'') (hin : St w (fpU [rowC cSpot Aa0 ca0 55 a0]) w [rowC cSpot Aa0 ca0 55 a0] []) (r : List Spot) (H : q16.f a0 a1 = some r) (hq : na1 = 88 ∧ fsa1 = #[] ∧ capa1 = #[] := by exact ⟨rfl, rfl, rfl⟩) :
    CV Tryz.prog 87 [sl Aa0 a0 ca0, .func (.func na1) fsa1 capa1].toArray w fun v w' => v = .tuple #[] ∧ St w (fpU [rowC cSpot Aa0 ca0 55 a0]) w' [rowC cSpot Aa0 ca0 55 r] [] ∧ r.length = a0.length := by
  unfold q16.f at H
  obtain ⟨u, hu, H⟩ := pbind H
  obtain rfl := Option.some.inj H
  obtain ⟨rfl, rfl, rfl⟩ := hq
  obtain ⟨h1, h2⟩ := chk_some hu
  exact sortf_cv (V := fun x => okSpot x = true) leSpot (fun x hx => List.all_eq_true.1 h2 x hx) hin sortSpot_calls (fun p cap w => AnyF.slices_SortFunc_none laySortSpot p cap _ w) h1

def q0z.f (a0 : Spot) (a1 : Spot) : Option Int := if a0.Y ≠ a1.Y then (some (IntKind.i64.wrap ((IntKind.i64.wrap a0.Y) - (IntKind.i64.wrap a1.Y)))) else (some (IntKind.i64.wrap ((IntKind.i64.wrap a0.X) - (IntKind.i64.wrap a1.X))))
theorem q0z.c {w} (a0 : Spot) (a1 : Spot) (r : Int) (H : q0z.f a0 a1 = some r) :
 CV Tryz.prog 88 [.agg (cSpot.enc a0).toArray, .agg (cSpot.enc a1).toArray].toArray w fun v w' => v = .int .i64 r ∧ Ext w w' := by
 have hS := (St.init w no)
 unfold q0z.f at H
 refine CV.body Tryz.func88 Z Tryz.ntmps88 Z ?_
 refine GO ?_
 refine OF (EB hS (cSpot.enc a0)) ?_
 rintro _ w1 ⟨b1, rfl, hS⟩
 refine oX hS (cSpot.enc a1) fun b2 w1 hS => ?_
 refine oS (SL (cf hS 0 1)) ?_
 refine oS (SL (cf hS 1 1)) ?_
 refine CP H (fun H => GO ?_) (fun H => ?_)
 refine oS (SL (cf hS 0 1)) ?_
 refine OS (SL (cf hS 1 1)) ?_
 exact FE H hS
 refine GO ?_
 refine oS (SL (cf hS 0 0)) ?_
 refine OS (SL (cf hS 1 0)) ?_
 exact FE H hS
end Go.Proofs.YtegibnmfiogebaaGreatDoor
