/-
  What the functions come to.
-/
import Derived.Test.YtokanemjghfadaaGreatDoorGT
namespace Go.Proofs.YtokanemjghfadaaGreatDoor
open G
set_option linter.unusedVariables false
set_option linter.unusedSimpArgs false
set_option maxRecDepth 100000
set_option maxHeartbeats 4000000
def laws_a2Long.f (a0 : List Int) (a1 : List Int) : Option Bool := if 3000 < (a0.length : Int) then (some true) else (some (decide (3000 < (a1.length : Int))))
theorem laws_a2Long.c (w : World) (Aa0 : Option Addr) (ca0 : Nat) (a0 : List Int) (hr0 : Rd (ci .u8) w Aa0 a0) (hc0 : a0.length ≤ ca0) (Aa1 : Option Addr) (ca1 : Nat) (a1 : List Int) (hr1 : Rd (ci .u8) w Aa1 a1) (hc1 : a1.length ≤ ca1) (r : Bool) (H : laws_a2Long.f a0 a1 = some r) :
 CV Tryz.prog 4 [.slice Aa0 a0.length ca0, .slice Aa1 a1.length ca1].toArray w fun v w' => v = .bool r ∧ Ext w w' := by
 have hS := (((St.init w no).param (ci .u8) Aa0 ca0 a0 hr0 hc0).param (ci .u8) Aa1 ca1 a1 hr1 hc1)
 unfold laws_a2Long.f at H
 refine CV.body Tryz.func4 Z Tryz.ntmps4 Z ?_
 refine CJ.seq (CJ.region ?_)
 refine OJ.pures oU 1 Z (OJ.nil (EJ.next ?_))
 refine CJ.seq (CJ.region ?_)
 refine OJ.pures oU 4 Z ?_
 refine OJ.split (t := 8) Z (fun hb => ?_) (fun hb => ?_)
 ·replace H := pif_t (of_decide_eq_true hb) H
  refine OJ.pures oU 5 Z (OJ.nil (EJ.next ?_))
  refine CJ.ret (?_)
  obtain rfl := Option.some.inj H
  exact EJ.fin Z (.tmp Z .nil) ⟨Z, hS.ext⟩
 replace H := pif_f (of_decide_eq_false hb) H
 refine OJ.pures oU 5 Z (OJ.nil (EJ.next ?_))
 refine CJ.ret (?_)
 obtain rfl := Option.some.inj H
 exact EJ.fin Z (.tmp Z .nil) ⟨Z, hS.ext⟩

def spec_l00From.f (a0 : List Int) : Option l00Src := some (⟨a0, 0, 0⟩ : l00Src)
theorem spec_l00From.c (w : World) (Aa0 : Option Addr) (ca0 : Nat) (a0 : List Int) (hr0 : Rd (ci .u8) w Aa0 a0) (hc0 : a0.length ≤ ca0) (r : l00Src) (H : spec_l00From.f a0 = some r) :
 CV Tryz.prog 28 [.slice Aa0 a0.length ca0].toArray w fun v w' => ∃ (bn : Nat), v = .pointer (some ⟨bn, 0, none⟩) ∧ St w no w' [box bn ([.slice Aa0 a0.length ca0, .int .i64 r.at_, .int .u64 r.seed]) 128] [] := by
 have hS := ((St.init w no).param (ci .u8) Aa0 ca0 a0 hr0 hc0)
 unfold spec_l00From.f at H
 refine CV.body Tryz.func28 Z Tryz.ntmps28 Z ?_
 refine CJ.seq (CJ.region ?_)
 refine OJ.pures oU 1 Z (OJ.nil (EJ.next ?_))
 refine CJ.seq (CJ.region ?_)
 refine OJ.pures oU 1 Z ?_
 refine OJ.st Z Z Z (SR.build' oU oI Z Z Z (zs := [.slice none 0 0, .int .i64 0, .int .u64 0]) Z Z Z ([.slice Aa0 a0.length ca0, .int .i64 0, .int .u64 0]) Z) ?_
 refine OJ.ef Z Z Z (Ef.box hS Z Z ([.slice Aa0 a0.length ca0, .int .i64 0, .int .u64 0]) Z) ?_
 rintro _ w1 ⟨b1, rfl, hS⟩
 refine OJ.pures oU 1 Z (OJ.nil (EJ.next ?_))
 refine CJ.ret (?_)
 obtain rfl := Option.some.inj H
 exact EJ.fin Z (.tmp Z .nil) ⟨b1, Z, hS.pick [0] [] Z⟩

def spec_l00Src_next.f (a0 : l00Src) : Option (Int × l00Src) := if a0.at_ < (a0.code.length : Int) then ((getI a0.code a0.at_).bind fun t1 => if (IntKind.i64.wrap (a0.at_ + 1)) ≤ (a0.code.length : Int) then (some (IntKind.i64.wrap t1, (⟨a0.code, IntKind.i64.wrap (a0.at_ + 1), IntKind.u64.wrap ((IntKind.u64.wrap ((IntKind.u64.wrap (a0.seed * 6364136223846793005)) + (IntKind.u64.wrap (IntKind.i64.wrap t1)))) + 1442695040888963407)⟩ : l00Src))) else (some (IntKind.i64.wrap (andI .u64 (shrI .u64 (IntKind.u64.wrap ((IntKind.u64.wrap ((IntKind.u64.wrap (a0.seed * 6364136223846793005)) + (IntKind.u64.wrap (IntKind.i64.wrap t1)))) + 1442695040888963407)) 40) 255), (⟨a0.code, IntKind.i64.wrap (a0.at_ + 1), IntKind.u64.wrap ((IntKind.u64.wrap ((IntKind.u64.wrap (a0.seed * 6364136223846793005)) + (IntKind.u64.wrap (IntKind.i64.wrap t1)))) + 1442695040888963407)⟩ : l00Src)))) else (if (IntKind.i64.wrap (a0.at_ + 1)) ≤ (a0.code.length : Int) then (some (0, (⟨a0.code, IntKind.i64.wrap (a0.at_ + 1), IntKind.u64.wrap ((IntKind.u64.wrap ((IntKind.u64.wrap (a0.seed * 6364136223846793005)) + (IntKind.u64.wrap 0))) + 1442695040888963407)⟩ : l00Src))) else (some (IntKind.i64.wrap (andI .u64 (shrI .u64 (IntKind.u64.wrap ((IntKind.u64.wrap ((IntKind.u64.wrap (a0.seed * 6364136223846793005)) + (IntKind.u64.wrap 0))) + 1442695040888963407)) 40) 255), (⟨a0.code, IntKind.i64.wrap (a0.at_ + 1), IntKind.u64.wrap ((IntKind.u64.wrap ((IntKind.u64.wrap (a0.seed * 6364136223846793005)) + (IntKind.u64.wrap 0))) + 1442695040888963407)⟩ : l00Src))))
theorem spec_l00Src_next.c (w : World) (Aa0_0 : Option Addr) (ca0_0 : Nat) (a0 : l00Src) (ba0 : Nat) (hin : St w (fpU [box ba0 ([.slice Aa0_0 a0.code.length ca0_0, .int .i64 a0.at_, .int .u64 a0.seed]) 128]) w [box ba0 ([.slice Aa0_0 a0.code.length ca0_0, .int .i64 a0.at_, .int .u64 a0.seed]) 128] [roC (ci .u8) Aa0_0 ca0_0 a0.code]) (r : Int × l00Src) (H : spec_l00Src_next.f a0 = some r) :
 CV Tryz.prog 81 [.pointer (some ⟨ba0, 0, none⟩)].toArray w fun v w' => v = .int .i64 r.1 ∧ St w (fpU [box ba0 ([.slice Aa0_0 a0.code.length ca0_0, .int .i64 a0.at_, .int .u64 a0.seed]) 128]) w' [box ba0 ([.slice Aa0_0 a0.code.length ca0_0, .int .i64 r.2.at_, .int .u64 r.2.seed]) 128] [] := by
 have hS := hin
 unfold spec_l00Src_next.f at H
 refine CV.body Tryz.func81 Z Tryz.ntmps81 Z ?_
 refine CJ.seq (CJ.region ?_)
 refine OJ.pures oU 1 Z (OJ.nil (EJ.next ?_))
 refine CJ.seq (CJ.region ?_)
 refine OJ.pures oU 1 Z (OJ.nil (EJ.next ?_))
 refine CJ.seq ?_
 refine CJ.seq ?_
 refine CJ.draw [] [0, 1, 2, 3, 4, 5, 6, 7, 8, 9] mixed (by kernel_rfl) hS fun w1 hS => ?_
 refine DJ.pures oU 2 Z ?_
 refine DJ.st Z Z Z Z Z (SR.fieldAddr oU oI Z Z Z Z Z Z) ?_
 refine DJ.st Z Z Z Z Z (SR.load Z Z (fun w' hx => ld1 oU Z Z (CA.ext (CA.sub (hS.cells (i := 0) Z) 1) hx) Z)) ?_
 refine DJ.pures oU 2 Z ?_
 refine DJ.st Z Z Z Z Z (SR.fieldAddr oU oI Z Z Z Z Z Z) ?_
 refine DJ.st Z Z Z Z Z (SR.load Z Z (fun w' hx => ld1 oU Z Z (CA.ext (CA.sub (hS.cells (i := 0) Z) 0) hx) Z)) ?_
 refine DJ.pures oU 2 Z ?_
 refine DJ.nil (EJ.next ?_)
 refine CJ.cond Z (fun hb => ?_) (fun hb => ?_)
 ·replace H := pif_t (of_decide_eq_true hb) H
  refine CJ.draw [] [0, 1, 2, 3, 4, 5, 6, 7, 8, 9, 10, 11] mixed (by kernel_rfl) hS fun w1 hS => ?_
  refine DJ.pures oU 2 Z ?_
  refine DJ.st Z Z Z Z Z (SR.fieldAddr oU oI Z Z Z Z Z Z) ?_
  refine DJ.st Z Z Z Z Z (SR.load Z Z (fun w' hx => ld1 oU Z Z (CA.ext (CA.sub (hS.cells (i := 0) Z) 0) hx) Z)) ?_
  refine DJ.pures oU 2 Z ?_
  refine DJ.st Z Z Z Z Z (SR.fieldAddr oU oI Z Z Z Z Z Z) ?_
  refine DJ.st Z Z Z Z Z (SR.load Z Z (fun w' hx => ld1 oU Z Z (CA.ext (CA.sub (hS.cells (i := 0) Z) 1) hx) Z)) ?_
  obtain ⟨t1, ht1, H⟩ := pbind H
  obtain ⟨ad1, e1⟩ := (hS.rd' (i := 0) rfl).some' ht1
  refine DJ.st Z Z Z Z Z (SR.idxS oU oI Z Z Z Z e1 Z (getI_some ht1).1) ?_
  refine DJ.st Z Z Z Z Z (SR.load Z Z (fun w' hx => ld1 oU Z Z (CA.ext ((hS.rd' (i := 0) Z).at_ e1 ht1) hx) Z)) ?_
  refine DJ.pures oU 2 Z ?_
  refine DJ.nil (EJ.next ?_)
  refine CJ.seq (CJ.region ?_)
  refine OJ.pures oU 2 Z ?_
  refine OJ.st Z Z Z (SR.fieldAddr oU oI Z Z Z Z Z Z) ?_
  refine OJ.st Z Z Z (SR.load Z Z (fun w' hx => ld1 oU Z Z (CA.ext (CA.sub (hS.cells (i := 0) Z) 1) hx) Z)) ?_
  refine OJ.pures oU 2 Z ?_
  refine OJ.st Z Z Z (SR.fieldAddr oU oI Z Z Z Z Z Z) ?_
  refine OJ.es Z Z (Es.store oI hS (i := 0) (vs := [.int .i64 (IntKind.i64.wrap (a0.at_ + 1))]) Z Z Z (G.ad1 _ _) Z Z Z Z (one1 Z) (Nat.le_of_ble_eq_true Z) ([.slice Aa0_0 a0.code.length ca0_0, .int .i64 (IntKind.i64.wrap (a0.at_ + 1)), .int .u64 a0.seed]) Z) ?_
  intro w1 hS
  refine OJ.nil (EJ.next ?_)
  refine CJ.seq (CJ.region ?_)
  refine OJ.pures oU 3 Z ?_
  refine OJ.st Z Z Z (SR.fieldAddr oU oI Z Z Z Z Z Z) ?_
  refine OJ.st Z Z Z (SR.load Z Z (fun w' hx => ld1 oU Z Z (CA.ext (CA.sub (hS.cells (i := 0) Z) 2) hx) Z)) ?_
  refine OJ.pures oU 6 Z ?_
  refine OJ.st Z Z Z (SR.fieldAddr oU oI Z Z Z Z Z Z) ?_
  refine OJ.es Z Z (Es.store oI hS (i := 0) (vs := [.int .u64 (IntKind.u64.wrap ((IntKind.u64.wrap ((IntKind.u64.wrap (a0.seed * 6364136223846793005)) + (IntKind.u64.wrap (IntKind.i64.wrap t1)))) + 1442695040888963407))]) Z Z Z (G.ad1 _ _) Z Z Z Z (one1 Z) (Nat.le_of_ble_eq_true Z) ([.slice Aa0_0 a0.code.length ca0_0, .int .i64 (IntKind.i64.wrap (a0.at_ + 1)), .int .u64 (IntKind.u64.wrap ((IntKind.u64.wrap ((IntKind.u64.wrap (a0.seed * 6364136223846793005)) + (IntKind.u64.wrap (IntKind.i64.wrap t1)))) + 1442695040888963407))]) Z) ?_
  intro w1 hS
  refine OJ.nil (EJ.next ?_)
  refine CJ.seq ?_
  refine CJ.seq ?_
  refine CJ.draw [] [0, 1, 2, 3, 4, 5, 6, 7, 8, 9] mixed (by kernel_rfl) hS fun w1 hS => ?_
  refine DJ.pures oU 2 Z ?_
  refine DJ.st Z Z Z Z Z (SR.fieldAddr oU oI Z Z Z Z Z Z) ?_
  refine DJ.st Z Z Z Z Z (SR.load Z Z (fun w' hx => ld1 oU Z Z (CA.ext (CA.sub (hS.cells (i := 0) Z) 1) hx) Z)) ?_
  refine DJ.pures oU 2 Z ?_
  refine DJ.st Z Z Z Z Z (SR.fieldAddr oU oI Z Z Z Z Z Z) ?_
  refine DJ.st Z Z Z Z Z (SR.load Z Z (fun w' hx => ld1 oU Z Z (CA.ext (CA.sub (hS.cells (i := 0) Z) 0) hx) Z)) ?_
  refine DJ.pures oU 2 Z ?_
  refine DJ.nil (EJ.next ?_)
  refine CJ.cond Z (fun hb => ?_) (fun hb => ?_)
  ·replace H := pif_t (of_decide_eq_true hb) H
   refine CJ.seq (CJ.region ?_)
   refine OJ.pures oU 2 Z (OJ.nil (EJ.next ?_))
   refine CJ.ret (EJ.skR (?_))
   obtain rfl := Option.some.inj H
   exact EJ.fin Z (.tmp Z .nil) ⟨Z, hS.pick [0] [] Z⟩
  replace H := pif_f (of_decide_eq_false hb) H
  refine CJ.skip (EJ.next ?_)
  refine CJ.seq (CJ.region ?_)
  refine OJ.pures oU 2 Z ?_
  refine OJ.st Z Z Z (SR.fieldAddr oU oI Z Z Z Z Z Z) ?_
  refine OJ.st Z Z Z (SR.load Z Z (fun w' hx => ld1 oU Z Z (CA.ext (CA.sub (hS.cells (i := 0) Z) 2) hx) Z)) ?_
  refine OJ.st rfl rfl rfl (SR.shr rfl rfl rfl (by decide)) ?_
  refine OJ.pures oU 3 Z (OJ.nil (EJ.next ?_))
  refine CJ.ret (?_)
  obtain rfl := Option.some.inj H
  exact EJ.fin Z (.tmp Z .nil) ⟨Z, hS.pick [0] [] Z⟩
 replace H := pif_f (of_decide_eq_false hb) H
 refine CJ.skip (EJ.next ?_)
 refine CJ.seq (CJ.region ?_)
 refine OJ.pures oU 2 Z ?_
 refine OJ.st Z Z Z (SR.fieldAddr oU oI Z Z Z Z Z Z) ?_
 refine OJ.st Z Z Z (SR.load Z Z (fun w' hx => ld1 oU Z Z (CA.ext (CA.sub (hS.cells (i := 0) Z) 1) hx) Z)) ?_
 refine OJ.pures oU 2 Z ?_
 refine OJ.st Z Z Z (SR.fieldAddr oU oI Z Z Z Z Z Z) ?_
 refine OJ.es Z Z (Es.store oI hS (i := 0) (vs := [.int .i64 (IntKind.i64.wrap (a0.at_ + 1))]) Z Z Z (G.ad1 _ _) Z Z Z Z (one1 Z) (Nat.le_of_ble_eq_true Z) ([.slice Aa0_0 a0.code.length ca0_0, .int .i64 (IntKind.i64.wrap (a0.at_ + 1)), .int .u64 a0.seed]) Z) ?_
 intro w1 hS
 refine OJ.nil (EJ.next ?_)
 refine CJ.seq (CJ.region ?_)
 refine OJ.pures oU 3 Z ?_
 refine OJ.st Z Z Z (SR.fieldAddr oU oI Z Z Z Z Z Z) ?_
 refine OJ.st Z Z Z (SR.load Z Z (fun w' hx => ld1 oU Z Z (CA.ext (CA.sub (hS.cells (i := 0) Z) 2) hx) Z)) ?_
 refine OJ.pures oU 6 Z ?_
 refine OJ.st Z Z Z (SR.fieldAddr oU oI Z Z Z Z Z Z) ?_
 refine OJ.es Z Z (Es.store oI hS (i := 0) (vs := [.int .u64 (IntKind.u64.wrap ((IntKind.u64.wrap ((IntKind.u64.wrap (a0.seed * 6364136223846793005)) + (IntKind.u64.wrap 0))) + 1442695040888963407))]) Z Z Z (G.ad1 _ _) Z Z Z Z (one1 Z) (Nat.le_of_ble_eq_true Z) ([.slice Aa0_0 a0.code.length ca0_0, .int .i64 (IntKind.i64.wrap (a0.at_ + 1)), .int .u64 (IntKind.u64.wrap ((IntKind.u64.wrap ((IntKind.u64.wrap (a0.seed * 6364136223846793005)) + (IntKind.u64.wrap 0))) + 1442695040888963407))]) Z) ?_
 intro w1 hS
 refine OJ.nil (EJ.next ?_)
 refine CJ.seq ?_
 refine CJ.seq ?_
 refine CJ.draw [] [0, 1, 2, 3, 4, 5, 6, 7, 8, 9] mixed (by kernel_rfl) hS fun w1 hS => ?_
 refine DJ.pures oU 2 Z ?_
 refine DJ.st Z Z Z Z Z (SR.fieldAddr oU oI Z Z Z Z Z Z) ?_
 refine DJ.st Z Z Z Z Z (SR.load Z Z (fun w' hx => ld1 oU Z Z (CA.ext (CA.sub (hS.cells (i := 0) Z) 1) hx) Z)) ?_
 refine DJ.pures oU 2 Z ?_
 refine DJ.st Z Z Z Z Z (SR.fieldAddr oU oI Z Z Z Z Z Z) ?_
 refine DJ.st Z Z Z Z Z (SR.load Z Z (fun w' hx => ld1 oU Z Z (CA.ext (CA.sub (hS.cells (i := 0) Z) 0) hx) Z)) ?_
 refine DJ.pures oU 2 Z ?_
 refine DJ.nil (EJ.next ?_)
 refine CJ.cond Z (fun hb => ?_) (fun hb => ?_)
 ·replace H := pif_t (of_decide_eq_true hb) H
  refine CJ.seq (CJ.region ?_)
  refine OJ.pures oU 2 Z (OJ.nil (EJ.next ?_))
  refine CJ.ret (EJ.skR (?_))
  obtain rfl := Option.some.inj H
  exact EJ.fin Z (.tmp Z .nil) ⟨Z, hS.pick [0] [] Z⟩
 replace H := pif_f (of_decide_eq_false hb) H
 refine CJ.skip (EJ.next ?_)
 refine CJ.seq (CJ.region ?_)
 refine OJ.pures oU 2 Z ?_
 refine OJ.st Z Z Z (SR.fieldAddr oU oI Z Z Z Z Z Z) ?_
 refine OJ.st Z Z Z (SR.load Z Z (fun w' hx => ld1 oU Z Z (CA.ext (CA.sub (hS.cells (i := 0) Z) 2) hx) Z)) ?_
 refine OJ.st rfl rfl rfl (SR.shr rfl rfl rfl (by decide)) ?_
 refine OJ.pures oU 3 Z (OJ.nil (EJ.next ?_))
 refine CJ.ret (?_)
 obtain rfl := Option.some.inj H
 exact EJ.fin Z (.tmp Z .nil) ⟨Z, hS.pick [0] [] Z⟩

def spec_l00Src_pick.f (a0 : l00Src) (a1 : Int) : Option (Int × l00Src) := if a1 ≤ 1 then (some (0, a0)) else ((spec_l00Src_next.f a0).bind fun t1 => if 200 < a1 then ((spec_l00Src_next.f (⟨a0.code, t1.2.at_, t1.2.seed⟩ : l00Src)).bind fun t2 => (chk (a1 ≠ 0)).bind fun u3 => some (Int.tmod (IntKind.i64.wrap ((IntKind.i64.wrap (t1.1 * 256)) + t2.1)) a1, (⟨a0.code, t2.2.at_, t2.2.seed⟩ : l00Src))) else ((chk (a1 ≠ 0)).bind fun u4 => some (Int.tmod t1.1 a1, (⟨a0.code, t1.2.at_, t1.2.seed⟩ : l00Src))))
theorem spec_l00Src_pick.c (w : World) (Aa0_0 : Option Addr) (ca0_0 : Nat) (a0 : l00Src) (ba0 : Nat) (a1 : Int) (hin : St w (fpU [box ba0 ([.slice Aa0_0 a0.code.length ca0_0, .int .i64 a0.at_, .int .u64 a0.seed]) 128]) w [box ba0 ([.slice Aa0_0 a0.code.length ca0_0, .int .i64 a0.at_, .int .u64 a0.seed]) 128] [roC (ci .u8) Aa0_0 ca0_0 a0.code]) (r : Int × l00Src) (H : spec_l00Src_pick.f a0 a1 = some r) :
 CV Tryz.prog 30 [.pointer (some ⟨ba0, 0, none⟩), .int .i64 a1].toArray w fun v w' => v = .int .i64 r.1 ∧ St w (fpU [box ba0 ([.slice Aa0_0 a0.code.length ca0_0, .int .i64 a0.at_, .int .u64 a0.seed]) 128]) w' [box ba0 ([.slice Aa0_0 a0.code.length ca0_0, .int .i64 r.2.at_, .int .u64 r.2.seed]) 128] [] := by
 have hS := hin
 unfold spec_l00Src_pick.f at H
 refine CV.body Tryz.func30 Z Tryz.ntmps30 Z ?_
 refine CJ.seq (CJ.region ?_)
 refine OJ.pures oU 1 Z (OJ.nil (EJ.next ?_))
 refine CJ.seq ?_
 refine CJ.seq (CJ.region ?_)
 refine OJ.pures oU 2 Z (OJ.nil (EJ.next ?_))
 refine CJ.cond Z (fun hb => ?_) (fun hb => ?_)
 ·replace H := pif_t (of_decide_eq_true hb) H
  refine CJ.seq (CJ.region ?_)
  refine OJ.pures oU 1 Z (OJ.nil (EJ.next ?_))
  refine CJ.ret (EJ.skR (?_))
  obtain rfl := Option.some.inj H
  exact EJ.fin Z (.tmp Z .nil) ⟨Z, hS.pick [0] [] Z⟩
 replace H := pif_f (of_decide_eq_false hb) H
 refine CJ.skip (EJ.next ?_)
 refine CJ.seq (CJ.region ?_)
 refine OJ.pures oU 1 Z ?_
 obtain ⟨t1, ht1, H⟩ := pbind H
 refine OJ.callF Z Z Z Z Z hb81 Z (spec_l00Src_next.c _ Aa0_0 ca0_0 a0 ba0 ((hS.subs [0] [0] [] Z).pick [0] [0] Z) _ ht1) ?_
 rintro _ w1 ⟨rfl, hs⟩
 replace hS := hS.back [0] Z Z [box ba0 ([.slice Aa0_0 a0.code.length ca0_0, .int .i64 t1.2.at_, .int .u64 t1.2.seed]) 128] [] hs ⟨fun _ => Iff.rfl, trivial⟩
 refine OJ.pures oU 1 Z (OJ.nil (EJ.next ?_))
 refine CJ.seq ?_
 refine CJ.seq (CJ.region ?_)
 refine OJ.pures oU 2 Z (OJ.nil (EJ.next ?_))
 refine CJ.cond Z (fun hb => ?_) (fun hb => ?_)
 ·replace H := pif_t (of_decide_eq_true hb) H
  refine CJ.region ?_
  refine OJ.pures oU 3 Z ?_
  obtain ⟨t2, ht2, H⟩ := pbind H
  refine OJ.callF Z Z Z Z Z hb81 Z (spec_l00Src_next.c _ Aa0_0 ca0_0 (⟨a0.code, t1.2.at_, t1.2.seed⟩ : l00Src) ba0 ((hS.subs [0] [0] [] Z).pick [0] [0] Z) _ ht2) ?_
  rintro _ w1 ⟨rfl, hs⟩
  replace hS := hS.back [0] Z Z [box ba0 ([.slice Aa0_0 a0.code.length ca0_0, .int .i64 t2.2.at_, .int .u64 t2.2.seed]) 128] [] hs ⟨fun _ => Iff.rfl, trivial⟩
  refine OJ.pures oU 2 Z (OJ.nil (EJ.next ?_))
  refine CJ.seq (CJ.region ?_)
  refine OJ.pures oU 2 Z ?_
  obtain ⟨u3, hu3, H⟩ := pbind H
  refine OJ.st Z Z Z (SR.rem Z Z Z (chk_some hu3)) ?_
  refine OJ.pures oU 1 Z (OJ.nil (EJ.next ?_))
  refine CJ.ret (?_)
  obtain rfl := Option.some.inj H
  exact EJ.fin Z (.tmp Z .nil) ⟨Z, hS.pick [0] [] Z⟩
 replace H := pif_f (of_decide_eq_false hb) H
 refine CJ.skip (EJ.next ?_)
 refine CJ.seq (CJ.region ?_)
 refine OJ.pures oU 2 Z ?_
 obtain ⟨u4, hu4, H⟩ := pbind H
 refine OJ.st Z Z Z (SR.rem Z Z Z (chk_some hu4)) ?_
 refine OJ.pures oU 1 Z (OJ.nil (EJ.next ?_))
 refine CJ.ret (?_)
 obtain rfl := Option.some.inj H
 exact EJ.fin Z (.tmp Z .nil) ⟨Z, hS.pick [0] [] Z⟩

def spec_l01Next.f (a0 : Spot) (a1 : Int) : Option Spot := if a1 = 0 then (some (⟨a0.X, IntKind.i8.wrap (a0.Y - 1)⟩ : Spot)) else (if a1 = 1 then (some (⟨IntKind.i8.wrap (a0.X + 1), a0.Y⟩ : Spot)) else (if a1 = 2 then (some (⟨a0.X, IntKind.i8.wrap (a0.Y + 1)⟩ : Spot)) else (some (⟨IntKind.i8.wrap (a0.X - 1), a0.Y⟩ : Spot))))
theorem spec_l01Next.c (w : World) (a0 : Spot) (a1 : Int) (r : Spot) (H : spec_l01Next.f a0 a1 = some r) :
 CV Tryz.prog 75 [.agg (cSpot.enc a0).toArray, .int .i64 a1].toArray w fun v w' => v = .agg (cSpot.enc r).toArray ∧ Ext w w' := by
 have hS := (St.init w no)
 unfold spec_l01Next.f at H
 refine CV.body Tryz.func75 Z Tryz.ntmps75 Z ?_
 refine CJ.seq (CJ.region ?_)
 refine OJ.ef Z Z Z (Ef.box hS Z Z (cSpot.enc a0) Z) ?_
 rintro _ w1 ⟨b1, rfl, hS⟩
 refine OJ.ef Z Z Z (Ef.alloc hS oI Z Z (cSpot.enc (⟨0, 0⟩ : Spot)) Z) ?_
 rintro _ w1 ⟨b2, rfl, hS⟩
 refine OJ.nil (EJ.next ?_)
 refine CJ.seq ?_
 refine CJ.seq (CJ.region ?_)
 refine OJ.pures oU 1 Z (OJ.nil (EJ.next ?_))
 refine CJ.block ?_
 refine CJ.seq (CJ.region ?_)
 refine OJ.pures oU 2 Z (OJ.nil (EJ.next ?_))
 refine CJ.cond Z (fun hb => ?_) (fun hb => ?_)
 ·replace H := pif_t (of_decide_eq_true hb) H
  refine CJ.region ?_
  refine OJ.st Z Z Z (SR.fieldAddr oU oI Z Z Z Z Z Z) ?_
  refine OJ.st Z Z Z (SR.load Z Z (fun w' hx => ld1 oU Z Z (CA.ext (CA.sub (hS.cells (i := 0) Z) 1) hx) Z)) ?_
  refine OJ.pures oU 1 Z ?_
  refine OJ.st Z Z Z (SR.fieldAddr oU oI Z Z Z Z Z Z) ?_
  refine OJ.es Z Z (Es.store oI hS (i := 0) Z Z Z (G.ad1 _ _) Z Z (vs := (ci .i8).enc (IntKind.i8.wrap (a0.Y - 1))) Z Z (one1 Z) (Nat.le_of_ble_eq_true Z) (cSpot.enc (⟨a0.X, IntKind.i8.wrap (a0.Y - 1)⟩ : Spot)) Z) ?_
  intro w1 hS
  refine OJ.nil (EJ.blk (EJ.next ?_))
  refine CJ.seq (CJ.region ?_)
  refine OJ.st Z Z Z (SR.load Z Z (fun w' hx => ldE oU oI Z Z Z (CA.ext (hS.cells (i := 0) Z) hx) Z)) ?_
  refine OJ.es Z Z (Es.store oI hS (i := 1) Z Z Z Z Z Z (vs := cSpot.enc (⟨a0.X, IntKind.i8.wrap (a0.Y - 1)⟩ : Spot)) Z (cSpot.len _) (cSpot.one _) (Nat.le_of_ble_eq_true Z) (cSpot.enc (⟨a0.X, IntKind.i8.wrap (a0.Y - 1)⟩ : Spot)) Z) ?_
  intro w1 hS
  refine OJ.nil (EJ.next ?_)
  refine CJ.ret (?_)
  obtain rfl := Option.some.inj H
  exact EJ.fin Z (.cell Z (ldE oU oI Z Z Z (hS.cells (i := 1) Z) Z) .nil) ⟨Z, hS.ext⟩
 replace H := pif_f (of_decide_eq_false hb) H
 refine CJ.seq (CJ.region ?_)
 refine OJ.pures oU 2 Z (OJ.nil (EJ.next ?_))
 refine CJ.cond Z (fun hb => ?_) (fun hb => ?_)
 ·replace H := pif_t (of_decide_eq_true hb) H
  refine CJ.region ?_
  refine OJ.st Z Z Z (SR.fieldAddr oU oI Z Z Z Z Z Z) ?_
  refine OJ.st Z Z Z (SR.load Z Z (fun w' hx => ld1 oU Z Z (CA.ext (CA.sub (hS.cells (i := 0) Z) 0) hx) Z)) ?_
  refine OJ.pures oU 1 Z ?_
  refine OJ.st Z Z Z (SR.fieldAddr oU oI Z Z Z Z Z Z) ?_
  refine OJ.es Z Z (Es.store oI hS (i := 0) Z Z Z (G.ad1 _ _) Z Z (vs := (ci .i8).enc (IntKind.i8.wrap (a0.X + 1))) Z Z (one1 Z) (Nat.le_of_ble_eq_true Z) (cSpot.enc (⟨IntKind.i8.wrap (a0.X + 1), a0.Y⟩ : Spot)) Z) ?_
  intro w1 hS
  refine OJ.nil (EJ.blk (EJ.next ?_))
  refine CJ.seq (CJ.region ?_)
  refine OJ.st Z Z Z (SR.load Z Z (fun w' hx => ldE oU oI Z Z Z (CA.ext (hS.cells (i := 0) Z) hx) Z)) ?_
  refine OJ.es Z Z (Es.store oI hS (i := 1) Z Z Z Z Z Z (vs := cSpot.enc (⟨IntKind.i8.wrap (a0.X + 1), a0.Y⟩ : Spot)) Z (cSpot.len _) (cSpot.one _) (Nat.le_of_ble_eq_true Z) (cSpot.enc (⟨IntKind.i8.wrap (a0.X + 1), a0.Y⟩ : Spot)) Z) ?_
  intro w1 hS
  refine OJ.nil (EJ.next ?_)
  refine CJ.ret (?_)
  obtain rfl := Option.some.inj H
  exact EJ.fin Z (.cell Z (ldE oU oI Z Z Z (hS.cells (i := 1) Z) Z) .nil) ⟨Z, hS.ext⟩
 replace H := pif_f (of_decide_eq_false hb) H
 refine CJ.seq (CJ.region ?_)
 refine OJ.pures oU 2 Z (OJ.nil (EJ.next ?_))
 refine CJ.cond Z (fun hb => ?_) (fun hb => ?_)
 ·replace H := pif_t (of_decide_eq_true hb) H
  refine CJ.region ?_
  refine OJ.st Z Z Z (SR.fieldAddr oU oI Z Z Z Z Z Z) ?_
  refine OJ.st Z Z Z (SR.load Z Z (fun w' hx => ld1 oU Z Z (CA.ext (CA.sub (hS.cells (i := 0) Z) 1) hx) Z)) ?_
  refine OJ.pures oU 1 Z ?_
  refine OJ.st Z Z Z (SR.fieldAddr oU oI Z Z Z Z Z Z) ?_
  refine OJ.es Z Z (Es.store oI hS (i := 0) Z Z Z (G.ad1 _ _) Z Z (vs := (ci .i8).enc (IntKind.i8.wrap (a0.Y + 1))) Z Z (one1 Z) (Nat.le_of_ble_eq_true Z) (cSpot.enc (⟨a0.X, IntKind.i8.wrap (a0.Y + 1)⟩ : Spot)) Z) ?_
  intro w1 hS
  refine OJ.nil (EJ.blk (EJ.next ?_))
  refine CJ.seq (CJ.region ?_)
  refine OJ.st Z Z Z (SR.load Z Z (fun w' hx => ldE oU oI Z Z Z (CA.ext (hS.cells (i := 0) Z) hx) Z)) ?_
  refine OJ.es Z Z (Es.store oI hS (i := 1) Z Z Z Z Z Z (vs := cSpot.enc (⟨a0.X, IntKind.i8.wrap (a0.Y + 1)⟩ : Spot)) Z (cSpot.len _) (cSpot.one _) (Nat.le_of_ble_eq_true Z) (cSpot.enc (⟨a0.X, IntKind.i8.wrap (a0.Y + 1)⟩ : Spot)) Z) ?_
  intro w1 hS
  refine OJ.nil (EJ.next ?_)
  refine CJ.ret (?_)
  obtain rfl := Option.some.inj H
  exact EJ.fin Z (.cell Z (ldE oU oI Z Z Z (hS.cells (i := 1) Z) Z) .nil) ⟨Z, hS.ext⟩
 replace H := pif_f (of_decide_eq_false hb) H
 refine CJ.region ?_
 refine OJ.st Z Z Z (SR.fieldAddr oU oI Z Z Z Z Z Z) ?_
 refine OJ.st Z Z Z (SR.load Z Z (fun w' hx => ld1 oU Z Z (CA.ext (CA.sub (hS.cells (i := 0) Z) 0) hx) Z)) ?_
 refine OJ.pures oU 1 Z ?_
 refine OJ.st Z Z Z (SR.fieldAddr oU oI Z Z Z Z Z Z) ?_
 refine OJ.es Z Z (Es.store oI hS (i := 0) Z Z Z (G.ad1 _ _) Z Z (vs := (ci .i8).enc (IntKind.i8.wrap (a0.X - 1))) Z Z (one1 Z) (Nat.le_of_ble_eq_true Z) (cSpot.enc (⟨IntKind.i8.wrap (a0.X - 1), a0.Y⟩ : Spot)) Z) ?_
 intro w1 hS
 refine OJ.nil (EJ.blk (EJ.next ?_))
 refine CJ.seq (CJ.region ?_)
 refine OJ.st Z Z Z (SR.load Z Z (fun w' hx => ldE oU oI Z Z Z (CA.ext (hS.cells (i := 0) Z) hx) Z)) ?_
 refine OJ.es Z Z (Es.store oI hS (i := 1) Z Z Z Z Z Z (vs := cSpot.enc (⟨IntKind.i8.wrap (a0.X - 1), a0.Y⟩ : Spot)) Z (cSpot.len _) (cSpot.one _) (Nat.le_of_ble_eq_true Z) (cSpot.enc (⟨IntKind.i8.wrap (a0.X - 1), a0.Y⟩ : Spot)) Z) ?_
 intro w1 hS
 refine OJ.nil (EJ.next ?_)
 refine CJ.ret (?_)
 obtain rfl := Option.some.inj H
 exact EJ.fin Z (.cell Z (ldE oU oI Z Z Z (hS.cells (i := 1) Z) Z) .nil) ⟨Z, hS.ext⟩

def spec_l00In.f (a0 : Int) (a1 : Int) (a2 : Int) : Option Bool := if a1 ≤ a0 then (some (decide (a0 ≤ a2))) else (some false)
theorem spec_l00In.c (w : World) (a0 : Int) (a1 : Int) (a2 : Int) (r : Bool) (H : spec_l00In.f a0 a1 a2 = some r) :
 CV Tryz.prog 105 [.int .i64 a0, .int .i64 a1, .int .i64 a2].toArray w fun v w' => v = .bool r ∧ Ext w w' := by
 have hS := (St.init w no)
 unfold spec_l00In.f at H
 refine CV.body Tryz.func105 Z Tryz.ntmps105 Z ?_
 refine CJ.seq (CJ.region ?_)
 refine OJ.pures oU 1 Z (OJ.nil (EJ.next ?_))
 refine CJ.seq (CJ.region ?_)
 refine OJ.pures oU 4 Z ?_
 refine OJ.split (t := 10) Z (fun hb => ?_) (fun hb => ?_)
 ·replace H := pif_t (of_decide_eq_true hb) H
  refine OJ.pures oU 5 Z (OJ.nil (EJ.next ?_))
  refine CJ.ret (?_)
  obtain rfl := Option.some.inj H
  exact EJ.fin Z (.tmp Z .nil) ⟨Z, hS.ext⟩
 replace H := pif_f (of_decide_eq_false hb) H
 refine OJ.pures oU 5 Z (OJ.nil (EJ.next ?_))
 refine CJ.ret (?_)
 obtain rfl := Option.some.inj H
 exact EJ.fin Z (.tmp Z .nil) ⟨Z, hS.ext⟩

def spec_l01Is.f (a0 : Pasture) (a1 : Spot) : Option Bool := (spec_l00In.f (IntKind.i64.wrap a1.X) 0 (IntKind.i64.wrap ((IntKind.i64.wrap a0.Wide) - 1))).bind fun t2 => if t2 = true then ((spec_l00In.f (IntKind.i64.wrap a1.Y) 0 (IntKind.i64.wrap ((IntKind.i64.wrap a0.High) - 1))).bind fun t3 => some t3) else (some false)
theorem spec_l01Is.c (w : World) (pa0 : Addr) (a0 : Pasture) (hp0 : CA w pa0 (cPasture.enc a0)) (a1 : Spot) (r : Bool) (H : spec_l01Is.f a0 a1 = some r) :
 CV Tryz.prog 71 [.pointer (some pa0), .agg (cSpot.enc a1).toArray].toArray w fun v w' => v = .bool r ∧ Ext w w' := by
 have hS := ((St.init w no).paramP pa0 (cPasture.enc a0) hp0)
 unfold spec_l01Is.f at H
 refine CV.body Tryz.func71 Z Tryz.ntmps71 Z ?_
 refine CJ.seq (CJ.region ?_)
 refine OJ.ef Z Z Z (Ef.box hS Z Z (cSpot.enc a1) Z) ?_
 rintro _ w1 ⟨b1, rfl, hS⟩
 refine OJ.pures oU 1 Z (OJ.nil (EJ.next ?_))
 refine CJ.seq ?_
 refine CJ.draw [] [0, 1, 2, 3, 4, 5, 6, 7, 8, 9, 10, 11, 12, 13, 14, 15, 16, 17, 18, 19, 20, 21, 22] mixed (by kernel_rfl) hS fun w1 hS => ?_
 refine DJ.st Z Z Z Z Z (SR.fieldAddr oU oI Z Z Z Z Z Z) ?_
 refine DJ.st Z Z Z Z Z (SR.load Z Z (fun w' hx => ld1 oU Z Z (CA.ext (CA.sub (hS.cells (i := 0) Z) 0) hx) Z)) ?_
 refine DJ.pures oU 3 Z ?_
 refine DJ.st Z Z Z Z Z (SR.fieldAddr oU oI Z Z Z Z Z Z) ?_
 refine DJ.st Z Z Z Z Z (SR.load Z Z (fun w' hx => ld1 oU Z Z (CA.ext (CA.fld (hS.ca (i := 0) Z) (mid_part (fe_Pasture_0 _) (fl_Pasture_0 _) ((ci .i8).len _))) hx) Z)) ?_
 refine DJ.pures oU 2 Z ?_
 obtain ⟨t2, ht2, H⟩ := pbind H
 refine DJ.callF rfl rfl rfl rfl rfl rfl rfl hb105 rfl (spec_l00In.c _ (IntKind.i64.wrap a1.X) 0 (IntKind.i64.wrap ((IntKind.i64.wrap a0.Wide) - 1)) _ ht2) (by rintro v w' ⟨rfl, hs⟩; exact hs) ?_
 rintro _ w1 ⟨rfl, hs⟩
 replace hS := hS.grow hs
 refine DJ.pures oU 1 Z ?_
 refine DJ.split (t := 15) Z (fun hb => ?_) (fun hb => ?_)
 ·replace H := pif_t hb H
  refine DJ.st Z Z Z Z Z (SR.fieldAddr oU oI Z Z Z Z Z Z) ?_
  refine DJ.st Z Z Z Z Z (SR.load Z Z (fun w' hx => ld1 oU Z Z (CA.ext (CA.sub (hS.cells (i := 0) Z) 1) hx) Z)) ?_
  refine DJ.pures oU 3 Z ?_
  refine DJ.st Z Z Z Z Z (SR.fieldAddr oU oI Z Z Z Z Z Z) ?_
  refine DJ.st Z Z Z Z Z (SR.load Z Z (fun w' hx => ld1 oU Z Z (CA.ext (CA.fld (hS.ca (i := 0) Z) (mid_part (fe_Pasture_1 _) (fl_Pasture_1 _) ((ci .i8).len _))) hx) Z)) ?_
  refine DJ.pures oU 2 Z ?_
  obtain ⟨t3, ht3, H⟩ := pbind H
  refine DJ.callF rfl rfl rfl rfl rfl rfl rfl hb105 rfl (spec_l00In.c _ (IntKind.i64.wrap a1.Y) 0 (IntKind.i64.wrap ((IntKind.i64.wrap a0.High) - 1)) _ ht3) (by rintro v w' ⟨rfl, hs⟩; exact hs) ?_
  rintro _ w1 ⟨rfl, hs⟩
  replace hS := hS.grow hs
  refine DJ.pures oU 2 Z ?_
  refine DJ.nil (EJ.next ?_)
  refine CJ.ret (?_)
  obtain rfl := Option.some.inj H
  exact EJ.fin Z (.tmp Z .nil) ⟨Z, hS.ext⟩
 replace H := pifb_f hb H
 refine DJ.pures oU 12 Z ?_
 refine DJ.nil (EJ.next ?_)
 refine CJ.ret (?_)
 obtain rfl := Option.some.inj H
 exact EJ.fin Z (.tmp Z .nil) ⟨Z, hS.ext⟩

def spec_l00Src_one.f (a0 : l00Src) (a1 : Int) : Option (Bool × l00Src) := (spec_l00Src_pick.f a0 a1).bind fun t1 => some (decide (t1.1 = 0), (⟨a0.code, t1.2.at_, t1.2.seed⟩ : l00Src))
theorem spec_l00Src_one.c (w : World) (Aa0_0 : Option Addr) (ca0_0 : Nat) (a0 : l00Src) (ba0 : Nat) (a1 : Int) (hin : St w (fpU [box ba0 ([.slice Aa0_0 a0.code.length ca0_0, .int .i64 a0.at_, .int .u64 a0.seed]) 128]) w [box ba0 ([.slice Aa0_0 a0.code.length ca0_0, .int .i64 a0.at_, .int .u64 a0.seed]) 128] [roC (ci .u8) Aa0_0 ca0_0 a0.code]) (r : Bool × l00Src) (H : spec_l00Src_one.f a0 a1 = some r) :
 CV Tryz.prog 76 [.pointer (some ⟨ba0, 0, none⟩), .int .i64 a1].toArray w fun v w' => v = .bool r.1 ∧ St w (fpU [box ba0 ([.slice Aa0_0 a0.code.length ca0_0, .int .i64 a0.at_, .int .u64 a0.seed]) 128]) w' [box ba0 ([.slice Aa0_0 a0.code.length ca0_0, .int .i64 r.2.at_, .int .u64 r.2.seed]) 128] [] := by
 have hS := hin
 unfold spec_l00Src_one.f at H
 refine CV.body Tryz.func76 Z Tryz.ntmps76 Z ?_
 refine CJ.seq (CJ.region ?_)
 refine OJ.pures oU 1 Z (OJ.nil (EJ.next ?_))
 refine CJ.seq (CJ.region ?_)
 refine OJ.pures oU 2 Z ?_
 obtain ⟨t1, ht1, H⟩ := pbind H
 refine OJ.callF Z Z Z Z Z hb30 Z (spec_l00Src_pick.c _ Aa0_0 ca0_0 a0 ba0 a1 ((hS.subs [0] [0] [] Z).pick [0] [0] Z) _ ht1) ?_
 rintro _ w1 ⟨rfl, hs⟩
 replace hS := hS.back [0] Z Z [box ba0 ([.slice Aa0_0 a0.code.length ca0_0, .int .i64 t1.2.at_, .int .u64 t1.2.seed]) 128] [] hs ⟨fun _ => Iff.rfl, trivial⟩
 refine OJ.pures oU 2 Z (OJ.nil (EJ.next ?_))
 refine CJ.ret (?_)
 obtain rfl := Option.some.inj H
 exact EJ.fin Z (.tmp Z .nil) ⟨Z, hS.pick [0] [] Z⟩

def spec_l01Set.f (a0 : Pasture) (a1 : Spot) (a2 : Int) (a3 : Bool) : Option Pasture := (if a2 = 0 then (some true) else (some (decide (a2 = 3)))).bind fun y2 => if y2 = true then ((spec_l01Next.f a1 a2).bind fun t3 => (chk (0 ≤ (IntKind.u64.wrap t3.X))).bind fun u4 => (if a2 = 1 then (some true) else (some (decide (a2 = 3)))).bind fun y5 => if y5 = true then ((getI a0.East.l t3.Y).bind fun t6 => (getI a0.East.l t3.Y).bind fun t7 => if a3 = true then ((getI (aset a0.East t3.Y.toNat (andNotI .u16 t6 (shlI .u16 1 (IntKind.u64.wrap t3.X)))).l t3.Y).bind fun t8 => (getI (aset a0.East t3.Y.toNat (andNotI .u16 t6 (shlI .u16 1 (IntKind.u64.wrap t3.X)))).l t3.Y).bind fun t9 => some (⟨a0.Wide, a0.High, a0.Grass, (aset (aset a0.East t3.Y.toNat (andNotI .u16 t6 (shlI .u16 1 (IntKind.u64.wrap t3.X)))) t3.Y.toNat (orI .u16 t8 (shlI .u16 1 (IntKind.u64.wrap t3.X)))), a0.South⟩ : Pasture)) else (some (⟨a0.Wide, a0.High, a0.Grass, (aset a0.East t3.Y.toNat (andNotI .u16 t6 (shlI .u16 1 (IntKind.u64.wrap t3.X)))), a0.South⟩ : Pasture))) else ((getI a0.South.l t3.Y).bind fun t10 => (getI a0.South.l t3.Y).bind fun t11 => if a3 = true then ((getI (aset a0.South t3.Y.toNat (andNotI .u16 t10 (shlI .u16 1 (IntKind.u64.wrap t3.X)))).l t3.Y).bind fun t12 => (getI (aset a0.South t3.Y.toNat (andNotI .u16 t10 (shlI .u16 1 (IntKind.u64.wrap t3.X)))).l t3.Y).bind fun t13 => some (⟨a0.Wide, a0.High, a0.Grass, a0.East, (aset (aset a0.South t3.Y.toNat (andNotI .u16 t10 (shlI .u16 1 (IntKind.u64.wrap t3.X)))) t3.Y.toNat (orI .u16 t12 (shlI .u16 1 (IntKind.u64.wrap t3.X))))⟩ : Pasture)) else (some (⟨a0.Wide, a0.High, a0.Grass, a0.East, (aset a0.South t3.Y.toNat (andNotI .u16 t10 (shlI .u16 1 (IntKind.u64.wrap t3.X))))⟩ : Pasture)))) else ((chk (0 ≤ (IntKind.u64.wrap a1.X))).bind fun u14 => (if a2 = 1 then (some true) else (some (decide (a2 = 3)))).bind fun y15 => if y15 = true then ((getI a0.East.l a1.Y).bind fun t16 => (getI a0.East.l a1.Y).bind fun t17 => if a3 = true then ((getI (aset a0.East a1.Y.toNat (andNotI .u16 t16 (shlI .u16 1 (IntKind.u64.wrap a1.X)))).l a1.Y).bind fun t18 => (getI (aset a0.East a1.Y.toNat (andNotI .u16 t16 (shlI .u16 1 (IntKind.u64.wrap a1.X)))).l a1.Y).bind fun t19 => some (⟨a0.Wide, a0.High, a0.Grass, (aset (aset a0.East a1.Y.toNat (andNotI .u16 t16 (shlI .u16 1 (IntKind.u64.wrap a1.X)))) a1.Y.toNat (orI .u16 t18 (shlI .u16 1 (IntKind.u64.wrap a1.X)))), a0.South⟩ : Pasture)) else (some (⟨a0.Wide, a0.High, a0.Grass, (aset a0.East a1.Y.toNat (andNotI .u16 t16 (shlI .u16 1 (IntKind.u64.wrap a1.X)))), a0.South⟩ : Pasture))) else ((getI a0.South.l a1.Y).bind fun t20 => (getI a0.South.l a1.Y).bind fun t21 => if a3 = true then ((getI (aset a0.South a1.Y.toNat (andNotI .u16 t20 (shlI .u16 1 (IntKind.u64.wrap a1.X)))).l a1.Y).bind fun t22 => (getI (aset a0.South a1.Y.toNat (andNotI .u16 t20 (shlI .u16 1 (IntKind.u64.wrap a1.X)))).l a1.Y).bind fun t23 => some (⟨a0.Wide, a0.High, a0.Grass, a0.East, (aset (aset a0.South a1.Y.toNat (andNotI .u16 t20 (shlI .u16 1 (IntKind.u64.wrap a1.X)))) a1.Y.toNat (orI .u16 t22 (shlI .u16 1 (IntKind.u64.wrap a1.X))))⟩ : Pasture)) else (some (⟨a0.Wide, a0.High, a0.Grass, a0.East, (aset a0.South a1.Y.toNat (andNotI .u16 t20 (shlI .u16 1 (IntKind.u64.wrap a1.X))))⟩ : Pasture))))
theorem spec_l01Set.c (w : World) (ba0 : Nat) (a0 : Pasture) (a1 : Spot) (a2 : Int) (a3 : Bool) (hin : St w (fpU [box ba0 (cPasture.enc a0) 31]) w [box ba0 (cPasture.enc a0) 31] []) (r : Pasture) (H : spec_l01Set.f a0 a1 a2 a3 = some r) :
 CV Tryz.prog 77 [.pointer (some ⟨ba0, 0, none⟩), .agg (cSpot.enc a1).toArray, .int .i64 a2, .bool a3].toArray w fun v w' => v = .tuple #[] ∧ St w (fpU [box ba0 (cPasture.enc a0) 31]) w' [box ba0 (cPasture.enc r) 31] [] := by
 have hS := hin
 unfold spec_l01Set.f at H
 refine CV.body Tryz.func77 Z Tryz.ntmps77 Z ?_
 refine CJ.seq (CJ.region ?_)
 refine OJ.ef Z Z Z (Ef.box hS Z Z (cSpot.enc a1) Z) ?_
 rintro _ w1 ⟨b1, rfl, hS⟩
 refine OJ.nil (EJ.next ?_)
 refine CJ.seq ?_
 obtain ⟨j8, H, K8⟩ := pbind H
 refine CJ.cut (fun F w1 => ∃ (y2 : Bool) , (some y2 : Option Bool) = some j8 ∧ F = [(0, .pointer (some ⟨ba0, 0, none⟩)), (2, .int .i64 a2), (3, .bool a3), (5, .pointer (some ⟨b1, 0, none⟩)), (14, .bool y2)] ∧ St w (fpU [box ba0 (cPasture.enc a0) 31]) w1 [box ba0 (cPasture.enc a0) 31, box b1 (cSpot.enc a1) 48] []) ?_ ?_
 ·skip
  refine CJ.region ?_
  refine OJ.pures oU 3 Z ?_
  refine OJ.split (t := 11) Z (fun hb => ?_) (fun hb => ?_)
  ·replace H := pif_t (of_decide_eq_true hb) H
   refine OJ.pures oU 3 Z ?_
   refine OJ.nil ?_
   exact EJ.meet (F' := [(0, .pointer (some ⟨ba0, 0, none⟩)), (2, .int .i64 a2), (3, .bool a3), (5, .pointer (some ⟨b1, 0, none⟩)), (14, .bool true)]) ⟨Z, Z, Z, Z, Z, trivial⟩ ⟨true, H, Z, hS.pick [0, 1] [] Z⟩
  replace H := pif_f (of_decide_eq_false hb) H
  refine OJ.pures oU 3 Z ?_
  refine OJ.nil ?_
  exact EJ.meet (F' := [(0, .pointer (some ⟨ba0, 0, none⟩)), (2, .int .i64 a2), (3, .bool a3), (5, .pointer (some ⟨b1, 0, none⟩)), (14, .bool (decide (a2 = 3)))]) ⟨Z, Z, Z, Z, Z, trivial⟩ ⟨(decide (a2 = 3)), H, Z, hS.pick [0, 1] [] Z⟩
 rintro F w1 ⟨y2, he, rfl, hS⟩
 obtain rfl := Option.some.inj he
 have H := K8
 refine CJ.cond Z (fun hb => ?_) (fun hb => ?_)
 ·replace H := pif_t hb H
  refine CJ.region ?_
  refine OJ.st Z Z Z (SR.load Z Z (fun w' hx => ldE oU oI Z Z Z (CA.ext (hS.cells (i := 1) Z) hx) Z)) ?_
  refine OJ.pures oU 1 Z ?_
  obtain ⟨t3, ht3, H⟩ := pbind H
  refine OJ.callF Z Z Z Z Z hb75 Z (spec_l01Next.c _ a1 a2 _ ht3) ?_
  rintro _ w1 ⟨rfl, hs⟩
  replace hS := hS.grow hs
  refine OJ.es Z Z (Es.store oI hS (i := 1) Z Z Z Z Z Z (vs := cSpot.enc t3) Z (cSpot.len _) (cSpot.one _) (Nat.le_of_ble_eq_true Z) (cSpot.enc t3) Z) ?_
  intro w1 hS
  refine OJ.nil (EJ.next ?_)
  refine CJ.seq (CJ.region ?_)
  refine OJ.st Z Z Z (SR.fieldAddr oU oI Z Z Z Z Z Z) ?_
  refine OJ.st Z Z Z (SR.load Z Z (fun w' hx => ld1 oU Z Z (CA.ext (CA.sub (hS.cells (i := 1) Z) 0) hx) Z)) ?_
  refine OJ.pures oU 1 Z ?_
  obtain ⟨u4, hu4, H⟩ := pbind H
  refine OJ.st Z Z Z (SR.shl Z Z Z (chk_some hu4)) ?_
  refine OJ.pures oU 1 Z (OJ.nil (EJ.next ?_))
  refine CJ.seq ?_
  obtain ⟨j9, H, K9⟩ := pbind H
  refine CJ.cut (fun F w1 => ∃ (y5 : Bool) , (some y5 : Option Bool) = some j9 ∧ F = [(0, .pointer (some ⟨ba0, 0, none⟩)), (3, .bool a3), (5, .pointer (some ⟨b1, 0, none⟩)), (8, .int .u16 (shlI .u16 1 (IntKind.u64.wrap t3.X))), (27, .bool y5)] ∧ St w (fpU [box ba0 (cPasture.enc a0) 31]) w1 [box ba0 (cPasture.enc a0) 31, box b1 (cSpot.enc t3) 48] []) ?_ ?_
  ·skip
   refine CJ.region ?_
   refine OJ.pures oU 3 Z ?_
   refine OJ.split (t := 24) Z (fun hb => ?_) (fun hb => ?_)
   ·replace H := pif_t (of_decide_eq_true hb) H
    refine OJ.pures oU 3 Z ?_
    refine OJ.nil ?_
    exact EJ.meet (F' := [(0, .pointer (some ⟨ba0, 0, none⟩)), (3, .bool a3), (5, .pointer (some ⟨b1, 0, none⟩)), (8, .int .u16 (shlI .u16 1 (IntKind.u64.wrap t3.X))), (27, .bool true)]) ⟨Z, Z, Z, Z, Z, trivial⟩ ⟨true, H, Z, hS.pick [0, 1] [] Z⟩
   replace H := pif_f (of_decide_eq_false hb) H
   refine OJ.pures oU 3 Z ?_
   refine OJ.nil ?_
   exact EJ.meet (F' := [(0, .pointer (some ⟨ba0, 0, none⟩)), (3, .bool a3), (5, .pointer (some ⟨b1, 0, none⟩)), (8, .int .u16 (shlI .u16 1 (IntKind.u64.wrap t3.X))), (27, .bool (decide (a2 = 3)))]) ⟨Z, Z, Z, Z, Z, trivial⟩ ⟨(decide (a2 = 3)), H, Z, hS.pick [0, 1] [] Z⟩
  rintro F w1 ⟨y5, he, rfl, hS⟩
  obtain rfl := Option.some.inj he
  have H := K9
  refine CJ.cond Z (fun hb => ?_) (fun hb => ?_)
  ·replace H := pif_t hb H
   refine CJ.seq ?_
   refine CJ.draw [] [0, 1, 2, 3, 4, 5, 6, 7, 8, 9, 10, 11, 12] mixed (by kernel_rfl) hS fun w1 hS => ?_
   refine DJ.pures oU 1 Z ?_
   refine DJ.st Z Z Z Z Z (SR.fieldAddr oU oI Z Z Z Z Z Z) ?_
   refine DJ.st Z Z Z Z Z (SR.load Z Z (fun w' hx => ld1 oU Z Z (CA.ext (CA.sub (hS.cells (i := 1) Z) 1) hx) Z)) ?_
   refine DJ.pures oU 1 Z ?_
   refine DJ.st Z Z Z Z Z (SR.fieldAddr oU oI Z Z Z Z Z Z) ?_
   obtain ⟨t6, ht6, H⟩ := pbind H
   refine DJ.st Z Z Z Z Z (SR.idxA oU oI Z Z Z Z Z (Arr.lt ht6)) ?_
   refine DJ.st Z Z Z Z Z (SR.load Z Z (fun w' hx => ld1 oU Z Z (CA.ext (CA.idx (CA.fld (hS.cells (i := 0) Z) (mid_part (fe_Pasture_3 _) (fl_Pasture_3 _) ((carr 10 (ci .u16)).len _))) ht6) hx) Z)) ?_
   refine DJ.pures oU 3 Z ?_
   refine DJ.st Z Z Z Z Z (SR.fieldAddr oU oI Z Z Z Z Z Z) ?_
   obtain ⟨t7, ht7, H⟩ := pbind H
   refine DJ.st Z Z Z Z Z (SR.idxA oU oI Z Z Z Z Z (Arr.lt ht7)) ?_
   refine DJ.es rfl rfl rfl rfl (Es.put oI hS (i := 0) rfl rfl rfl rfl rfl (vs := (ci .u16).enc (andNotI .u16 t6 (shlI .u16 1 (IntKind.u64.wrap t3.X)))) rfl rfl (one1 rfl) (put_Pasture_3 (Put.idx (Put.all (ci .u16) t7 (andNotI .u16 t6 (shlI .u16 1 (IntKind.u64.wrap t3.X)))) ht7)) (by (try simp only [add_lit, Nat.add_assoc, Nat.zero_add, Nat.add_zero]) <;> rfl)) ?_
   intro w1 hS
   refine DJ.nil (EJ.next ?_)
   refine CJ.seq ?_
   refine CJ.seq (CJ.region ?_)
   refine OJ.pures oU 1 Z (OJ.nil (EJ.next ?_))
   refine CJ.cond Z (fun hb => ?_) (fun hb => ?_)
   ·replace H := pif_t hb H
    refine CJ.draw [] [0, 1, 2, 3, 4, 5, 6, 7, 8, 9, 10, 11, 12] mixed (by kernel_rfl) hS fun w1 hS => ?_
    refine DJ.pures oU 1 Z ?_
    refine DJ.st Z Z Z Z Z (SR.fieldAddr oU oI Z Z Z Z Z Z) ?_
    refine DJ.st Z Z Z Z Z (SR.load Z Z (fun w' hx => ld1 oU Z Z (CA.ext (CA.sub (hS.cells (i := 1) Z) 1) hx) Z)) ?_
    refine DJ.pures oU 1 Z ?_
    refine DJ.st Z Z Z Z Z (SR.fieldAddr oU oI Z Z Z Z Z Z) ?_
    obtain ⟨t8, ht8, H⟩ := pbind H
    refine DJ.st Z Z Z Z Z (SR.idxA oU oI Z Z Z Z Z (Arr.lt ht8)) ?_
    refine DJ.st Z Z Z Z Z (SR.load Z Z (fun w' hx => ld1 oU Z Z (CA.ext (CA.idx (CA.fld (hS.cells (i := 0) Z) (mid_part (fe_Pasture_3 _) (fl_Pasture_3 _) ((carr 10 (ci .u16)).len _))) ht8) hx) Z)) ?_
    refine DJ.pures oU 3 Z ?_
    refine DJ.st Z Z Z Z Z (SR.fieldAddr oU oI Z Z Z Z Z Z) ?_
    obtain ⟨t9, ht9, H⟩ := pbind H
    refine DJ.st Z Z Z Z Z (SR.idxA oU oI Z Z Z Z Z (Arr.lt ht9)) ?_
    refine DJ.es rfl rfl rfl rfl (Es.put oI hS (i := 0) rfl rfl rfl rfl rfl (vs := (ci .u16).enc (orI .u16 t8 (shlI .u16 1 (IntKind.u64.wrap t3.X)))) rfl rfl (one1 rfl) (put_Pasture_3 (Put.idx (Put.all (ci .u16) t9 (orI .u16 t8 (shlI .u16 1 (IntKind.u64.wrap t3.X)))) ht9)) (by (try simp only [add_lit, Nat.add_assoc, Nat.zero_add, Nat.add_zero]) <;> rfl)) ?_
    intro w1 hS
    refine DJ.nil (EJ.next ?_)
    refine CJ.ret (EJ.skR (?_))
    obtain rfl := Option.some.inj H
    exact EJ.fin Z .nil ⟨Z, hS.pick [0] [] Z⟩
   replace H := pifb_f hb H
   refine CJ.skip (EJ.next ?_)
   refine CJ.ret (EJ.skR (?_))
   obtain rfl := Option.some.inj H
   exact EJ.fin Z .nil ⟨Z, hS.pick [0] [] Z⟩
  replace H := pifb_f hb H
  refine CJ.skip (EJ.next ?_)
  refine CJ.seq ?_
  refine CJ.draw [] [0, 1, 2, 3, 4, 5, 6, 7, 8, 9, 10, 11, 12] mixed (by kernel_rfl) hS fun w1 hS => ?_
  refine DJ.pures oU 1 Z ?_
  refine DJ.st Z Z Z Z Z (SR.fieldAddr oU oI Z Z Z Z Z Z) ?_
  refine DJ.st Z Z Z Z Z (SR.load Z Z (fun w' hx => ld1 oU Z Z (CA.ext (CA.sub (hS.cells (i := 1) Z) 1) hx) Z)) ?_
  refine DJ.pures oU 1 Z ?_
  refine DJ.st Z Z Z Z Z (SR.fieldAddr oU oI Z Z Z Z Z Z) ?_
  obtain ⟨t10, ht10, H⟩ := pbind H
  refine DJ.st Z Z Z Z Z (SR.idxA oU oI Z Z Z Z Z (Arr.lt ht10)) ?_
  refine DJ.st Z Z Z Z Z (SR.load Z Z (fun w' hx => ld1 oU Z Z (CA.ext (CA.idx (CA.fld (hS.cells (i := 0) Z) (mid_part (fe_Pasture_4 _) (fl_Pasture_4 _) ((carr 10 (ci .u16)).len _))) ht10) hx) Z)) ?_
  refine DJ.pures oU 3 Z ?_
  refine DJ.st Z Z Z Z Z (SR.fieldAddr oU oI Z Z Z Z Z Z) ?_
  obtain ⟨t11, ht11, H⟩ := pbind H
  refine DJ.st Z Z Z Z Z (SR.idxA oU oI Z Z Z Z Z (Arr.lt ht11)) ?_
  refine DJ.es rfl rfl rfl rfl (Es.put oI hS (i := 0) rfl rfl rfl rfl rfl (vs := (ci .u16).enc (andNotI .u16 t10 (shlI .u16 1 (IntKind.u64.wrap t3.X)))) rfl rfl (one1 rfl) (put_Pasture_4 (Put.idx (Put.all (ci .u16) t11 (andNotI .u16 t10 (shlI .u16 1 (IntKind.u64.wrap t3.X)))) ht11)) (by (try simp only [add_lit, Nat.add_assoc, Nat.zero_add, Nat.add_zero]) <;> rfl)) ?_
  intro w1 hS
  refine DJ.nil (EJ.next ?_)
  refine CJ.seq (CJ.region ?_)
  refine OJ.pures oU 1 Z (OJ.nil (EJ.next ?_))
  refine CJ.cond Z (fun hb => ?_) (fun hb => ?_)
  ·replace H := pif_t hb H
   refine CJ.draw [] [0, 1, 2, 3, 4, 5, 6, 7, 8, 9, 10, 11, 12] mixed (by kernel_rfl) hS fun w1 hS => ?_
   refine DJ.pures oU 1 Z ?_
   refine DJ.st Z Z Z Z Z (SR.fieldAddr oU oI Z Z Z Z Z Z) ?_
   refine DJ.st Z Z Z Z Z (SR.load Z Z (fun w' hx => ld1 oU Z Z (CA.ext (CA.sub (hS.cells (i := 1) Z) 1) hx) Z)) ?_
   refine DJ.pures oU 1 Z ?_
   refine DJ.st Z Z Z Z Z (SR.fieldAddr oU oI Z Z Z Z Z Z) ?_
   obtain ⟨t12, ht12, H⟩ := pbind H
   refine DJ.st Z Z Z Z Z (SR.idxA oU oI Z Z Z Z Z (Arr.lt ht12)) ?_
   refine DJ.st Z Z Z Z Z (SR.load Z Z (fun w' hx => ld1 oU Z Z (CA.ext (CA.idx (CA.fld (hS.cells (i := 0) Z) (mid_part (fe_Pasture_4 _) (fl_Pasture_4 _) ((carr 10 (ci .u16)).len _))) ht12) hx) Z)) ?_
   refine DJ.pures oU 3 Z ?_
   refine DJ.st Z Z Z Z Z (SR.fieldAddr oU oI Z Z Z Z Z Z) ?_
   obtain ⟨t13, ht13, H⟩ := pbind H
   refine DJ.st Z Z Z Z Z (SR.idxA oU oI Z Z Z Z Z (Arr.lt ht13)) ?_
   refine DJ.es rfl rfl rfl rfl (Es.put oI hS (i := 0) rfl rfl rfl rfl rfl (vs := (ci .u16).enc (orI .u16 t12 (shlI .u16 1 (IntKind.u64.wrap t3.X)))) rfl rfl (one1 rfl) (put_Pasture_4 (Put.idx (Put.all (ci .u16) t13 (orI .u16 t12 (shlI .u16 1 (IntKind.u64.wrap t3.X)))) ht13)) (by (try simp only [add_lit, Nat.add_assoc, Nat.zero_add, Nat.add_zero]) <;> rfl)) ?_
   intro w1 hS
   refine DJ.nil ?_
   obtain rfl := Option.some.inj H
   exact EJ.fin' Z .nil ⟨Z, hS.pick [0] [] Z⟩
  replace H := pifb_f hb H
  refine CJ.skip (?_)
  obtain rfl := Option.some.inj H
  exact EJ.fin' Z .nil ⟨Z, hS.pick [0] [] Z⟩
 replace H := pifb_f hb H
 refine CJ.skip (EJ.next ?_)
 refine CJ.seq (CJ.region ?_)
 refine OJ.st Z Z Z (SR.fieldAddr oU oI Z Z Z Z Z Z) ?_
 refine OJ.st Z Z Z (SR.load Z Z (fun w' hx => ld1 oU Z Z (CA.ext (CA.sub (hS.cells (i := 1) Z) 0) hx) Z)) ?_
 refine OJ.pures oU 1 Z ?_
 obtain ⟨u14, hu14, H⟩ := pbind H
 refine OJ.st Z Z Z (SR.shl Z Z Z (chk_some hu14)) ?_
 refine OJ.pures oU 1 Z (OJ.nil (EJ.next ?_))
 refine CJ.seq ?_
 obtain ⟨j10, H, K10⟩ := pbind H
 refine CJ.cut (fun F w1 => ∃ (y15 : Bool) , (some y15 : Option Bool) = some j10 ∧ F = [(0, .pointer (some ⟨ba0, 0, none⟩)), (3, .bool a3), (5, .pointer (some ⟨b1, 0, none⟩)), (8, .int .u16 (shlI .u16 1 (IntKind.u64.wrap a1.X))), (27, .bool y15)] ∧ St w (fpU [box ba0 (cPasture.enc a0) 31]) w1 [box ba0 (cPasture.enc a0) 31, box b1 (cSpot.enc a1) 48] []) ?_ ?_
 ·skip
  refine CJ.region ?_
  refine OJ.pures oU 3 Z ?_
  refine OJ.split (t := 24) Z (fun hb => ?_) (fun hb => ?_)
  ·replace H := pif_t (of_decide_eq_true hb) H
   refine OJ.pures oU 3 Z ?_
   refine OJ.nil ?_
   exact EJ.meet (F' := [(0, .pointer (some ⟨ba0, 0, none⟩)), (3, .bool a3), (5, .pointer (some ⟨b1, 0, none⟩)), (8, .int .u16 (shlI .u16 1 (IntKind.u64.wrap a1.X))), (27, .bool true)]) ⟨Z, Z, Z, Z, Z, trivial⟩ ⟨true, H, Z, hS.pick [0, 1] [] Z⟩
  replace H := pif_f (of_decide_eq_false hb) H
  refine OJ.pures oU 3 Z ?_
  refine OJ.nil ?_
  exact EJ.meet (F' := [(0, .pointer (some ⟨ba0, 0, none⟩)), (3, .bool a3), (5, .pointer (some ⟨b1, 0, none⟩)), (8, .int .u16 (shlI .u16 1 (IntKind.u64.wrap a1.X))), (27, .bool (decide (a2 = 3)))]) ⟨Z, Z, Z, Z, Z, trivial⟩ ⟨(decide (a2 = 3)), H, Z, hS.pick [0, 1] [] Z⟩
 rintro F w1 ⟨y15, he, rfl, hS⟩
 obtain rfl := Option.some.inj he
 have H := K10
 refine CJ.cond Z (fun hb => ?_) (fun hb => ?_)
 ·replace H := pif_t hb H
  refine CJ.seq ?_
  refine CJ.draw [] [0, 1, 2, 3, 4, 5, 6, 7, 8, 9, 10, 11, 12] mixed (by kernel_rfl) hS fun w1 hS => ?_
  refine DJ.pures oU 1 Z ?_
  refine DJ.st Z Z Z Z Z (SR.fieldAddr oU oI Z Z Z Z Z Z) ?_
  refine DJ.st Z Z Z Z Z (SR.load Z Z (fun w' hx => ld1 oU Z Z (CA.ext (CA.sub (hS.cells (i := 1) Z) 1) hx) Z)) ?_
  refine DJ.pures oU 1 Z ?_
  refine DJ.st Z Z Z Z Z (SR.fieldAddr oU oI Z Z Z Z Z Z) ?_
  obtain ⟨t16, ht16, H⟩ := pbind H
  refine DJ.st Z Z Z Z Z (SR.idxA oU oI Z Z Z Z Z (Arr.lt ht16)) ?_
  refine DJ.st Z Z Z Z Z (SR.load Z Z (fun w' hx => ld1 oU Z Z (CA.ext (CA.idx (CA.fld (hS.cells (i := 0) Z) (mid_part (fe_Pasture_3 _) (fl_Pasture_3 _) ((carr 10 (ci .u16)).len _))) ht16) hx) Z)) ?_
  refine DJ.pures oU 3 Z ?_
  refine DJ.st Z Z Z Z Z (SR.fieldAddr oU oI Z Z Z Z Z Z) ?_
  obtain ⟨t17, ht17, H⟩ := pbind H
  refine DJ.st Z Z Z Z Z (SR.idxA oU oI Z Z Z Z Z (Arr.lt ht17)) ?_
  refine DJ.es rfl rfl rfl rfl (Es.put oI hS (i := 0) rfl rfl rfl rfl rfl (vs := (ci .u16).enc (andNotI .u16 t16 (shlI .u16 1 (IntKind.u64.wrap a1.X)))) rfl rfl (one1 rfl) (put_Pasture_3 (Put.idx (Put.all (ci .u16) t17 (andNotI .u16 t16 (shlI .u16 1 (IntKind.u64.wrap a1.X)))) ht17)) (by (try simp only [add_lit, Nat.add_assoc, Nat.zero_add, Nat.add_zero]) <;> rfl)) ?_
  intro w1 hS
  refine DJ.nil (EJ.next ?_)
  refine CJ.seq ?_
  refine CJ.seq (CJ.region ?_)
  refine OJ.pures oU 1 Z (OJ.nil (EJ.next ?_))
  refine CJ.cond Z (fun hb => ?_) (fun hb => ?_)
  ·replace H := pif_t hb H
   refine CJ.draw [] [0, 1, 2, 3, 4, 5, 6, 7, 8, 9, 10, 11, 12] mixed (by kernel_rfl) hS fun w1 hS => ?_
   refine DJ.pures oU 1 Z ?_
   refine DJ.st Z Z Z Z Z (SR.fieldAddr oU oI Z Z Z Z Z Z) ?_
   refine DJ.st Z Z Z Z Z (SR.load Z Z (fun w' hx => ld1 oU Z Z (CA.ext (CA.sub (hS.cells (i := 1) Z) 1) hx) Z)) ?_
   refine DJ.pures oU 1 Z ?_
   refine DJ.st Z Z Z Z Z (SR.fieldAddr oU oI Z Z Z Z Z Z) ?_
   obtain ⟨t18, ht18, H⟩ := pbind H
   refine DJ.st Z Z Z Z Z (SR.idxA oU oI Z Z Z Z Z (Arr.lt ht18)) ?_
   refine DJ.st Z Z Z Z Z (SR.load Z Z (fun w' hx => ld1 oU Z Z (CA.ext (CA.idx (CA.fld (hS.cells (i := 0) Z) (mid_part (fe_Pasture_3 _) (fl_Pasture_3 _) ((carr 10 (ci .u16)).len _))) ht18) hx) Z)) ?_
   refine DJ.pures oU 3 Z ?_
   refine DJ.st Z Z Z Z Z (SR.fieldAddr oU oI Z Z Z Z Z Z) ?_
   obtain ⟨t19, ht19, H⟩ := pbind H
   refine DJ.st Z Z Z Z Z (SR.idxA oU oI Z Z Z Z Z (Arr.lt ht19)) ?_
   refine DJ.es rfl rfl rfl rfl (Es.put oI hS (i := 0) rfl rfl rfl rfl rfl (vs := (ci .u16).enc (orI .u16 t18 (shlI .u16 1 (IntKind.u64.wrap a1.X)))) rfl rfl (one1 rfl) (put_Pasture_3 (Put.idx (Put.all (ci .u16) t19 (orI .u16 t18 (shlI .u16 1 (IntKind.u64.wrap a1.X)))) ht19)) (by (try simp only [add_lit, Nat.add_assoc, Nat.zero_add, Nat.add_zero]) <;> rfl)) ?_
   intro w1 hS
   refine DJ.nil (EJ.next ?_)
   refine CJ.ret (EJ.skR (?_))
   obtain rfl := Option.some.inj H
   exact EJ.fin Z .nil ⟨Z, hS.pick [0] [] Z⟩
  replace H := pifb_f hb H
  refine CJ.skip (EJ.next ?_)
  refine CJ.ret (EJ.skR (?_))
  obtain rfl := Option.some.inj H
  exact EJ.fin Z .nil ⟨Z, hS.pick [0] [] Z⟩
 replace H := pifb_f hb H
 refine CJ.skip (EJ.next ?_)
 refine CJ.seq ?_
 refine CJ.draw [] [0, 1, 2, 3, 4, 5, 6, 7, 8, 9, 10, 11, 12] mixed (by kernel_rfl) hS fun w1 hS => ?_
 refine DJ.pures oU 1 Z ?_
 refine DJ.st Z Z Z Z Z (SR.fieldAddr oU oI Z Z Z Z Z Z) ?_
 refine DJ.st Z Z Z Z Z (SR.load Z Z (fun w' hx => ld1 oU Z Z (CA.ext (CA.sub (hS.cells (i := 1) Z) 1) hx) Z)) ?_
 refine DJ.pures oU 1 Z ?_
 refine DJ.st Z Z Z Z Z (SR.fieldAddr oU oI Z Z Z Z Z Z) ?_
 obtain ⟨t20, ht20, H⟩ := pbind H
 refine DJ.st Z Z Z Z Z (SR.idxA oU oI Z Z Z Z Z (Arr.lt ht20)) ?_
 refine DJ.st Z Z Z Z Z (SR.load Z Z (fun w' hx => ld1 oU Z Z (CA.ext (CA.idx (CA.fld (hS.cells (i := 0) Z) (mid_part (fe_Pasture_4 _) (fl_Pasture_4 _) ((carr 10 (ci .u16)).len _))) ht20) hx) Z)) ?_
 refine DJ.pures oU 3 Z ?_
 refine DJ.st Z Z Z Z Z (SR.fieldAddr oU oI Z Z Z Z Z Z) ?_
 obtain ⟨t21, ht21, H⟩ := pbind H
 refine DJ.st Z Z Z Z Z (SR.idxA oU oI Z Z Z Z Z (Arr.lt ht21)) ?_
 refine DJ.es rfl rfl rfl rfl (Es.put oI hS (i := 0) rfl rfl rfl rfl rfl (vs := (ci .u16).enc (andNotI .u16 t20 (shlI .u16 1 (IntKind.u64.wrap a1.X)))) rfl rfl (one1 rfl) (put_Pasture_4 (Put.idx (Put.all (ci .u16) t21 (andNotI .u16 t20 (shlI .u16 1 (IntKind.u64.wrap a1.X)))) ht21)) (by (try simp only [add_lit, Nat.add_assoc, Nat.zero_add, Nat.add_zero]) <;> rfl)) ?_
 intro w1 hS
 refine DJ.nil (EJ.next ?_)
 refine CJ.seq (CJ.region ?_)
 refine OJ.pures oU 1 Z (OJ.nil (EJ.next ?_))
 refine CJ.cond Z (fun hb => ?_) (fun hb => ?_)
 ·replace H := pif_t hb H
  refine CJ.draw [] [0, 1, 2, 3, 4, 5, 6, 7, 8, 9, 10, 11, 12] mixed (by kernel_rfl) hS fun w1 hS => ?_
  refine DJ.pures oU 1 Z ?_
  refine DJ.st Z Z Z Z Z (SR.fieldAddr oU oI Z Z Z Z Z Z) ?_
  refine DJ.st Z Z Z Z Z (SR.load Z Z (fun w' hx => ld1 oU Z Z (CA.ext (CA.sub (hS.cells (i := 1) Z) 1) hx) Z)) ?_
  refine DJ.pures oU 1 Z ?_
  refine DJ.st Z Z Z Z Z (SR.fieldAddr oU oI Z Z Z Z Z Z) ?_
  obtain ⟨t22, ht22, H⟩ := pbind H
  refine DJ.st Z Z Z Z Z (SR.idxA oU oI Z Z Z Z Z (Arr.lt ht22)) ?_
  refine DJ.st Z Z Z Z Z (SR.load Z Z (fun w' hx => ld1 oU Z Z (CA.ext (CA.idx (CA.fld (hS.cells (i := 0) Z) (mid_part (fe_Pasture_4 _) (fl_Pasture_4 _) ((carr 10 (ci .u16)).len _))) ht22) hx) Z)) ?_
  refine DJ.pures oU 3 Z ?_
  refine DJ.st Z Z Z Z Z (SR.fieldAddr oU oI Z Z Z Z Z Z) ?_
  obtain ⟨t23, ht23, H⟩ := pbind H
  refine DJ.st Z Z Z Z Z (SR.idxA oU oI Z Z Z Z Z (Arr.lt ht23)) ?_
  refine DJ.es rfl rfl rfl rfl (Es.put oI hS (i := 0) rfl rfl rfl rfl rfl (vs := (ci .u16).enc (orI .u16 t22 (shlI .u16 1 (IntKind.u64.wrap a1.X)))) rfl rfl (one1 rfl) (put_Pasture_4 (Put.idx (Put.all (ci .u16) t23 (orI .u16 t22 (shlI .u16 1 (IntKind.u64.wrap a1.X)))) ht23)) (by (try simp only [add_lit, Nat.add_assoc, Nat.zero_add, Nat.add_zero]) <;> rfl)) ?_
  intro w1 hS
  refine DJ.nil ?_
  obtain rfl := Option.some.inj H
  exact EJ.fin' Z .nil ⟨Z, hS.pick [0] [] Z⟩
 replace H := pifb_f hb H
 refine CJ.skip (?_)
 obtain rfl := Option.some.inj H
 exact EJ.fin' Z .nil ⟨Z, hS.pick [0] [] Z⟩

def spec_l01Drawn.l3 (a0 : l00Src) (t5 : Int × l00Src) (y10 : Int) (y20 : Int) : Nat → Pasture → Int → Int → Int → Option (Pasture × Int × Int)
  | 0, _, _, _, _ => none
  | k + 1, y32, y33, y34, y35 => if y33 ≤ 2 then ((spec_l01Next.f (⟨y20, y10⟩ : Spot) y33).bind fun t37 => (spec_l01Is.f y32 t37).bind fun t38 => if t38 = true then ((spec_l00Src_one.f (⟨a0.code, y34, y35⟩ : l00Src) (IntKind.i64.wrap (2 + t5.1))).bind fun t39 => if t39.1 = true then ((spec_l01Set.f y32 (⟨y20, y10⟩ : Spot) y33 true).bind fun t40 => spec_l01Drawn.l3 a0 t5 y10 y20 k t40 (IntKind.i64.wrap (y33 + 1)) t39.2.at_ t39.2.seed) else (spec_l01Drawn.l3 a0 t5 y10 y20 k y32 (IntKind.i64.wrap (y33 + 1)) t39.2.at_ t39.2.seed)) else (spec_l01Drawn.l3 a0 t5 y10 y20 k y32 (IntKind.i64.wrap (y33 + 1)) y34 y35)) else (some (y32, y34, y35))
def spec_l01Drawn.l2 (a0 : l00Src) (t5 : Int × l00Src) (y10 : Int) : Nat → Pasture → Int → Int → Int → Option (Pasture × Int × Int)
  | 0, _, _, _, _ => none
  | k + 1, y19, y20, y21, y22 => if y20 < y19.Wide then (((getI y19.Grass.l y10).bind fun t26 => (spec_l00Src_pick.f (⟨a0.code, y21, y22⟩ : l00Src) 12).bind fun t27 => (getI t26.l y20).bind fun t28 => (spec_l01Drawn.l3 a0 t5 y10 y20 k (⟨y19.Wide, y19.High, (aset y19.Grass y10.toNat (aset t26 y20.toNat (IntKind.i16.wrap t27.1))), y19.East, y19.South⟩ : Pasture) 1 t27.2.at_ t27.2.seed).bind fun (y29, y30, y31) => some (y29, y30, y31)).bind fun (y23, y24, y25) => spec_l01Drawn.l2 a0 t5 y10 k y23 (IntKind.i8.wrap (y20 + 1)) y24 y25) else (some (y19, y21, y22))
def spec_l01Drawn.l1 (a0 : l00Src) (t5 : Int × l00Src) : Nat → Pasture → Int → Int → Int → Option (Pasture × Int × Int)
  | 0, _, _, _, _ => none
  | k + 1, y9, y10, y11, y12 => if y10 < y9.High then (((spec_l01Drawn.l2 a0 t5 y10 k y9 0 y11 y12).bind fun (y16, y17, y18) => some (y16, y17, y18)).bind fun (y13, y14, y15) => spec_l01Drawn.l1 a0 t5 k y13 (IntKind.i8.wrap (y10 + 1)) y14 y15) else (some (y9, y11, y12))
def spec_l01Drawn.f (k : Nat) (a0 : l00Src) : Option (Pasture × l00Src) := (spec_l00Src_pick.f a0 5).bind fun t2 => (spec_l00Src_pick.f (⟨a0.code, t2.2.at_, t2.2.seed⟩ : l00Src) 5).bind fun t4 => (spec_l00Src_pick.f (⟨a0.code, t4.2.at_, t4.2.seed⟩ : l00Src) 5).bind fun t5 => (spec_l01Drawn.l1 a0 t5 k (⟨IntKind.i8.wrap (IntKind.i64.wrap (1 + t2.1)), IntKind.i8.wrap (IntKind.i64.wrap (1 + t4.1)), (Arr.mk' (Arr.mk' 0 : Arr 10 Int) : Arr 10 (Arr 10 Int)), (Arr.mk' 0 : Arr 10 Int), (Arr.mk' 0 : Arr 10 Int)⟩ : Pasture) 0 t5.2.at_ t5.2.seed).bind fun (y6, y7, y8) => some (y6, (⟨a0.code, y7, y8⟩ : l00Src))
theorem spec_l01Drawn.c (k : Nat) (w : World) (Aa0_0 : Option Addr) (ca0_0 : Nat) (a0 : l00Src) (ba0 : Nat) (hin : St w (fpU [box ba0 ([.slice Aa0_0 a0.code.length ca0_0, .int .i64 a0.at_, .int .u64 a0.seed]) 128]) w [box ba0 ([.slice Aa0_0 a0.code.length ca0_0, .int .i64 a0.at_, .int .u64 a0.seed]) 128] [roC (ci .u8) Aa0_0 ca0_0 a0.code]) (r : Pasture × l00Src) (H : spec_l01Drawn.f k a0 = some r) :
 CV Tryz.prog 27 [.pointer (some ⟨ba0, 0, none⟩)].toArray w fun v w' => v = .agg (cPasture.enc r.1).toArray ∧ St w (fpU [box ba0 ([.slice Aa0_0 a0.code.length ca0_0, .int .i64 a0.at_, .int .u64 a0.seed]) 128]) w' [box ba0 ([.slice Aa0_0 a0.code.length ca0_0, .int .i64 r.2.at_, .int .u64 r.2.seed]) 128] [] := by
 have hS := hin
 unfold spec_l01Drawn.f at H
 refine CV.body Tryz.func27 Z Tryz.ntmps27 Z ?_
 refine CJ.seq (CJ.region ?_)
 refine OJ.ef rfl rfl rfl (Ef.alloc hS oI rfl rfl (cPasture.enc (⟨0, 0, (Arr.mk' (Arr.mk' 0 : Arr 10 Int) : Arr 10 (Arr 10 Int)), (Arr.mk' 0 : Arr 10 Int), (Arr.mk' 0 : Arr 10 Int)⟩ : Pasture)) (by kernel_rfl)) ?_
 rintro _ w1 ⟨b1, rfl, hS⟩
 refine OJ.nil (EJ.next ?_)
 refine CJ.seq (CJ.region ?_)
 refine OJ.pures oU 1 Z ?_
 obtain ⟨t2, ht2, H⟩ := pbind H
 refine OJ.callF Z Z Z Z Z hb30 Z (spec_l00Src_pick.c _ Aa0_0 ca0_0 a0 ba0 5 ((hS.subs [0] [0] [] Z).pick [0] [0] Z) _ ht2) ?_
 rintro _ w1 ⟨rfl, hs⟩
 replace hS := hS.back [0] Z Z [box ba0 ([.slice Aa0_0 a0.code.length ca0_0, .int .i64 t2.2.at_, .int .u64 t2.2.seed]) 128] [] hs ⟨fun _ => Iff.rfl, trivial⟩
 refine OJ.pures oU 2 Z ?_
 refine OJ.st Z Z Z (SR.build (C := cPasture) oU oI Z Z Z (zs := [.int .i8 0, .int .i8 0, .int .i16 0, .int .i16 0, .int .i16 0, .int .i16 0, .int .i16 0, .int .i16 0, .int .i16 0, .int .i16 0, .int .i16 0, .int .i16 0, .int .i16 0, .int .i16 0, .int .i16 0, .int .i16 0, .int .i16 0, .int .i16 0, .int .i16 0, .int .i16 0, .int .i16 0, .int .i16 0, .int .i16 0, .int .i16 0, .int .i16 0, .int .i16 0, .int .i16 0, .int .i16 0, .int .i16 0, .int .i16 0, .int .i16 0, .int .i16 0, .int .i16 0, .int .i16 0, .int .i16 0, .int .i16 0, .int .i16 0, .int .i16 0, .int .i16 0, .int .i16 0, .int .i16 0, .int .i16 0, .int .i16 0, .int .i16 0, .int .i16 0, .int .i16 0, .int .i16 0, .int .i16 0, .int .i16 0, .int .i16 0, .int .i16 0, .int .i16 0, .int .i16 0, .int .i16 0, .int .i16 0, .int .i16 0, .int .i16 0, .int .i16 0, .int .i16 0, .int .i16 0, .int .i16 0, .int .i16 0, .int .i16 0, .int .i16 0, .int .i16 0, .int .i16 0, .int .i16 0, .int .i16 0, .int .i16 0, .int .i16 0, .int .i16 0, .int .i16 0, .int .i16 0, .int .i16 0, .int .i16 0, .int .i16 0, .int .i16 0, .int .i16 0, .int .i16 0, .int .i16 0, .int .i16 0, .int .i16 0, .int .i16 0, .int .i16 0, .int .i16 0, .int .i16 0, .int .i16 0, .int .i16 0, .int .i16 0, .int .i16 0, .int .i16 0, .int .i16 0, .int .i16 0, .int .i16 0, .int .i16 0, .int .i16 0, .int .i16 0, .int .i16 0, .int .i16 0, .int .i16 0, .int .i16 0, .int .i16 0, .int .u16 0, .int .u16 0, .int .u16 0, .int .u16 0, .int .u16 0, .int .u16 0, .int .u16 0, .int .u16 0, .int .u16 0, .int .u16 0, .int .u16 0, .int .u16 0, .int .u16 0, .int .u16 0, .int .u16 0, .int .u16 0, .int .u16 0, .int .u16 0, .int .u16 0, .int .u16 0]) Z Z Z (⟨IntKind.i8.wrap (IntKind.i64.wrap (1 + t2.1)), 0, (Arr.mk' (Arr.mk' 0 : Arr 10 Int) : Arr 10 (Arr 10 Int)), (Arr.mk' 0 : Arr 10 Int), (Arr.mk' 0 : Arr 10 Int)⟩ : Pasture) Z) ?_
 refine OJ.ef rfl rfl rfl (Ef.alloc hS oI rfl rfl (cPasture.enc (⟨0, 0, (Arr.mk' (Arr.mk' 0 : Arr 10 Int) : Arr 10 (Arr 10 Int)), (Arr.mk' 0 : Arr 10 Int), (Arr.mk' 0 : Arr 10 Int)⟩ : Pasture)) (by kernel_rfl)) ?_
 rintro _ w1 ⟨b3, rfl, hS⟩
 refine OJ.es rfl rfl (Es.put oI hS (i := 2) rfl rfl rfl rfl rfl (vs := cPasture.enc (⟨IntKind.i8.wrap (IntKind.i64.wrap (1 + t2.1)), 0, (Arr.mk' (Arr.mk' 0 : Arr 10 Int) : Arr 10 (Arr 10 Int)), (Arr.mk' 0 : Arr 10 Int), (Arr.mk' 0 : Arr 10 Int)⟩ : Pasture)) rfl (cPasture.len _) (cPasture.one _) (Put.all cPasture (⟨0, 0, (Arr.mk' (Arr.mk' 0 : Arr 10 Int) : Arr 10 (Arr 10 Int)), (Arr.mk' 0 : Arr 10 Int), (Arr.mk' 0 : Arr 10 Int)⟩ : Pasture) (⟨IntKind.i8.wrap (IntKind.i64.wrap (1 + t2.1)), 0, (Arr.mk' (Arr.mk' 0 : Arr 10 Int) : Arr 10 (Arr 10 Int)), (Arr.mk' 0 : Arr 10 Int), (Arr.mk' 0 : Arr 10 Int)⟩ : Pasture)) (by (try simp only [add_lit, Nat.add_assoc, Nat.zero_add, Nat.add_zero]) <;> rfl)) ?_
 intro w1 hS
 refine OJ.nil (EJ.next ?_)
 refine CJ.seq (CJ.region ?_)
 refine OJ.pures oU 1 Z ?_
 obtain ⟨t4, ht4, H⟩ := pbind H
 refine OJ.callF Z Z Z Z Z hb30 Z (spec_l00Src_pick.c _ Aa0_0 ca0_0 (⟨a0.code, t2.2.at_, t2.2.seed⟩ : l00Src) ba0 5 ((hS.subs [0] [0] [] Z).pick [0] [0] Z) _ ht4) ?_
 rintro _ w1 ⟨rfl, hs⟩
 replace hS := hS.back [0] Z Z [box ba0 ([.slice Aa0_0 a0.code.length ca0_0, .int .i64 t4.2.at_, .int .u64 t4.2.seed]) 128] [] hs ⟨fun _ => Iff.rfl, trivial⟩
 refine OJ.pures oU 2 Z ?_
 refine OJ.st Z Z Z (SR.fieldAddr oU oI Z Z Z Z Z Z) ?_
 refine OJ.es rfl rfl (Es.put oI hS (i := 2) rfl rfl rfl rfl rfl (vs := (ci .i8).enc (IntKind.i8.wrap (IntKind.i64.wrap (1 + t4.1)))) rfl rfl (one1 rfl) (put_Pasture_1 (Put.all (ci .i8) 0 (IntKind.i8.wrap (IntKind.i64.wrap (1 + t4.1))))) (by (try simp only [add_lit, Nat.add_assoc, Nat.zero_add, Nat.add_zero]) <;> rfl)) ?_
 intro w1 hS
 refine OJ.nil (EJ.next ?_)
 refine CJ.seq (CJ.region ?_)
 refine OJ.pures oU 1 Z ?_
 obtain ⟨t5, ht5, H⟩ := pbind H
 refine OJ.callF Z Z Z Z Z hb30 Z (spec_l00Src_pick.c _ Aa0_0 ca0_0 (⟨a0.code, t4.2.at_, t4.2.seed⟩ : l00Src) ba0 5 ((hS.subs [0] [0] [] Z).pick [0] [0] Z) _ ht5) ?_
 rintro _ w1 ⟨rfl, hs⟩
 replace hS := hS.back [0] Z Z [box ba0 ([.slice Aa0_0 a0.code.length ca0_0, .int .i64 t5.2.at_, .int .u64 t5.2.seed]) 128] [] hs ⟨fun _ => Iff.rfl, trivial⟩
 refine OJ.pures oU 2 Z (OJ.nil (EJ.next ?_))
 refine CJ.seq ?_
 refine CJ.seq (CJ.region ?_)
 refine OJ.pures oU 1 Z (OJ.nil (EJ.next ?_))
 obtain ⟨j1, H, K1⟩ := pbind H
 refine CJ.cut1 (fun F w1 => ∃ (y6 : Pasture) (y7 : Int) (y8 : Int) , (some (y6, y7, y8) : Option (Pasture × Int × Int)) = some j1 ∧ F = [(2, .pointer (some ⟨b1, 0, none⟩)), (3, .pointer (some ⟨b3, 0, none⟩))] ∧ St w (fpU [box ba0 ([.slice Aa0_0 a0.code.length ca0_0, .int .i64 a0.at_, .int .u64 a0.seed]) 128]) w1 [box ba0 ([.slice Aa0_0 a0.code.length ca0_0, .int .i64 y7, .int .u64 y8]) 128, box b1 (cPasture.enc (⟨0, 0, (Arr.mk' (Arr.mk' 0 : Arr 10 Int) : Arr 10 (Arr 10 Int)), (Arr.mk' 0 : Arr 10 Int), (Arr.mk' 0 : Arr 10 Int)⟩ : Pasture)) 31, box b3 (cPasture.enc y6) 31] [roC (ci .u8) Aa0_0 ca0_0 a0.code]) ?_ ?_
 ·skip
  refine CJ.block ?_
  refine CJ.loop (fun k F w1 => ∃ (y9 : Pasture) (y10 : Int) (y11 : Int) (y12 : Int), F = [(0, .pointer (some ⟨ba0, 0, none⟩)), (2, .pointer (some ⟨b1, 0, none⟩)), (3, .pointer (some ⟨b3, 0, none⟩)), (4, .int .i64 (IntKind.i64.wrap (2 + t5.1))), (5, .int .i8 y10)] ∧ St w (fpU [box ba0 ([.slice Aa0_0 a0.code.length ca0_0, .int .i64 a0.at_, .int .u64 a0.seed]) 128]) w1 [box ba0 ([.slice Aa0_0 a0.code.length ca0_0, .int .i64 y11, .int .u64 y12]) 128, box b1 (cPasture.enc (⟨0, 0, (Arr.mk' (Arr.mk' 0 : Arr 10 Int) : Arr 10 (Arr 10 Int)), (Arr.mk' 0 : Arr 10 Int), (Arr.mk' 0 : Arr 10 Int)⟩ : Pasture)) 31, box b3 (cPasture.enc y9) 31] [roC (ci .u8) Aa0_0 ca0_0 a0.code] ∧ spec_l01Drawn.l1 a0 t5 k y9 y10 y11 y12 = some j1) k (F' := [(0, .pointer (some ⟨ba0, 0, none⟩)), (2, .pointer (some ⟨b1, 0, none⟩)), (3, .pointer (some ⟨b3, 0, none⟩)), (4, .int .i64 (IntKind.i64.wrap (2 + t5.1))), (5, .int .i8 0)]) ⟨Z, Z, Z, Z, Z, trivial⟩ ⟨(⟨IntKind.i8.wrap (IntKind.i64.wrap (1 + t2.1)), IntKind.i8.wrap (IntKind.i64.wrap (1 + t4.1)), (Arr.mk' (Arr.mk' 0 : Arr 10 Int) : Arr 10 (Arr 10 Int)), (Arr.mk' 0 : Arr 10 Int), (Arr.mk' 0 : Arr 10 Int)⟩ : Pasture), 0, t5.2.at_, t5.2.seed, Z, hS.pick [0, 1, 2] [0] Z, H⟩ ?_
  rintro k F w1 ⟨y9, y10, y11, y12, rfl, hS, H⟩
  cases k with
  | zero => rw [spec_l01Drawn.l1] at H; cases H
  | succ k =>
    rw [spec_l01Drawn.l1] at H
    refine CJ.seq ?_
    refine CJ.seq (CJ.region ?_)
    refine OJ.pures oU 1 Z ?_
    refine OJ.st Z Z Z (SR.fieldAddr oU oI Z Z Z Z Z Z) ?_
    refine OJ.st Z Z Z (SR.load Z Z (fun w' hx => ld1 oU Z Z (CA.ext (CA.fld (hS.cells (i := 2) Z) (mid_part (fe_Pasture_1 _) (fl_Pasture_1 _) ((ci .i8).len _))) hx) Z)) ?_
    refine OJ.pures oU 1 Z (OJ.nil (EJ.next ?_))
    refine CJ.cond Z (fun hb => ?_) (fun hb => ?_)
    · replace H := pif_t (of_decide_eq_true hb) H
      refine CJ.skip (EJ.next ?_)
      obtain ⟨j49, H, K49⟩ := pbind H
      refine CJ.cut (fun F w1 => ∃ (y13 : Pasture) (y14 : Int) (y15 : Int) , (some (y13, y14, y15) : Option (Pasture × Int × Int)) = some j49 ∧ F = [(0, .pointer (some ⟨ba0, 0, none⟩)), (2, .pointer (some ⟨b1, 0, none⟩)), (3, .pointer (some ⟨b3, 0, none⟩)), (4, .int .i64 (IntKind.i64.wrap (2 + t5.1))), (5, .int .i8 y10)] ∧ St w (fpU [box ba0 ([.slice Aa0_0 a0.code.length ca0_0, .int .i64 a0.at_, .int .u64 a0.seed]) 128]) w1 [box ba0 ([.slice Aa0_0 a0.code.length ca0_0, .int .i64 y14, .int .u64 y15]) 128, box b1 (cPasture.enc (⟨0, 0, (Arr.mk' (Arr.mk' 0 : Arr 10 Int) : Arr 10 (Arr 10 Int)), (Arr.mk' 0 : Arr 10 Int), (Arr.mk' 0 : Arr 10 Int)⟩ : Pasture)) 31, box b3 (cPasture.enc y13) 31] [roC (ci .u8) Aa0_0 ca0_0 a0.code]) ?_ ?_
      · skip
        refine CJ.block ?_
        refine CJ.seq (CJ.region ?_)
        refine OJ.pures oU 1 Z (OJ.nil (EJ.next ?_))
        obtain ⟨j60, H, K60⟩ := pbind H
        refine CJ.cut1 (fun F w1 => ∃ (y16 : Pasture) (y17 : Int) (y18 : Int) , (some (y16, y17, y18) : Option (Pasture × Int × Int)) = some j60 ∧ F = [(0, .pointer (some ⟨ba0, 0, none⟩)), (2, .pointer (some ⟨b1, 0, none⟩)), (3, .pointer (some ⟨b3, 0, none⟩)), (4, .int .i64 (IntKind.i64.wrap (2 + t5.1))), (5, .int .i8 y10)] ∧ St w (fpU [box ba0 ([.slice Aa0_0 a0.code.length ca0_0, .int .i64 a0.at_, .int .u64 a0.seed]) 128]) w1 [box ba0 ([.slice Aa0_0 a0.code.length ca0_0, .int .i64 y17, .int .u64 y18]) 128, box b1 (cPasture.enc (⟨0, 0, (Arr.mk' (Arr.mk' 0 : Arr 10 Int) : Arr 10 (Arr 10 Int)), (Arr.mk' 0 : Arr 10 Int), (Arr.mk' 0 : Arr 10 Int)⟩ : Pasture)) 31, box b3 (cPasture.enc y16) 31] [roC (ci .u8) Aa0_0 ca0_0 a0.code]) ?_ ?_
        · skip
          refine CJ.block ?_
          refine CJ.loop (fun k F w1 => ∃ (y19 : Pasture) (y20 : Int) (y21 : Int) (y22 : Int), F = [(0, .pointer (some ⟨ba0, 0, none⟩)), (2, .pointer (some ⟨b1, 0, none⟩)), (3, .pointer (some ⟨b3, 0, none⟩)), (4, .int .i64 (IntKind.i64.wrap (2 + t5.1))), (5, .int .i8 y10), (6, .int .i8 y20)] ∧ St w (fpU [box ba0 ([.slice Aa0_0 a0.code.length ca0_0, .int .i64 a0.at_, .int .u64 a0.seed]) 128]) w1 [box ba0 ([.slice Aa0_0 a0.code.length ca0_0, .int .i64 y21, .int .u64 y22]) 128, box b1 (cPasture.enc (⟨0, 0, (Arr.mk' (Arr.mk' 0 : Arr 10 Int) : Arr 10 (Arr 10 Int)), (Arr.mk' 0 : Arr 10 Int), (Arr.mk' 0 : Arr 10 Int)⟩ : Pasture)) 31, box b3 (cPasture.enc y19) 31] [roC (ci .u8) Aa0_0 ca0_0 a0.code] ∧ spec_l01Drawn.l2 a0 t5 y10 k y19 y20 y21 y22 = some j60) k (F' := [(0, .pointer (some ⟨ba0, 0, none⟩)), (2, .pointer (some ⟨b1, 0, none⟩)), (3, .pointer (some ⟨b3, 0, none⟩)), (4, .int .i64 (IntKind.i64.wrap (2 + t5.1))), (5, .int .i8 y10), (6, .int .i8 0)]) ⟨Z, Z, Z, Z, Z, Z, trivial⟩ ⟨y9, 0, y11, y12, Z, hS.pick [0, 1, 2] [0] Z, H⟩ ?_
          rintro k F w1 ⟨y19, y20, y21, y22, rfl, hS, H⟩
          cases k with
          | zero => rw [spec_l01Drawn.l2] at H; cases H
          | succ k =>
            rw [spec_l01Drawn.l2] at H
            refine CJ.seq ?_
            refine CJ.seq (CJ.region ?_)
            refine OJ.pures oU 1 Z ?_
            refine OJ.st Z Z Z (SR.fieldAddr oU oI Z Z Z Z Z Z) ?_
            refine OJ.st Z Z Z (SR.load Z Z (fun w' hx => ld1 oU Z Z (CA.ext (CA.fld (hS.cells (i := 2) Z) (mid_part (fe_Pasture_0 _) (fl_Pasture_0 _) ((ci .i8).len _))) hx) Z)) ?_
            refine OJ.pures oU 1 Z (OJ.nil (EJ.next ?_))
            refine CJ.cond Z (fun hb => ?_) (fun hb => ?_)
            · replace H := pif_t (of_decide_eq_true hb) H
              refine CJ.skip (EJ.next ?_)
              obtain ⟨j67, H, K67⟩ := pbind H
              refine CJ.cut (fun F w1 => ∃ (y23 : Pasture) (y24 : Int) (y25 : Int) , (some (y23, y24, y25) : Option (Pasture × Int × Int)) = some j67 ∧ F = [(0, .pointer (some ⟨ba0, 0, none⟩)), (2, .pointer (some ⟨b1, 0, none⟩)), (3, .pointer (some ⟨b3, 0, none⟩)), (4, .int .i64 (IntKind.i64.wrap (2 + t5.1))), (5, .int .i8 y10), (6, .int .i8 y20)] ∧ St w (fpU [box ba0 ([.slice Aa0_0 a0.code.length ca0_0, .int .i64 a0.at_, .int .u64 a0.seed]) 128]) w1 [box ba0 ([.slice Aa0_0 a0.code.length ca0_0, .int .i64 y24, .int .u64 y25]) 128, box b1 (cPasture.enc (⟨0, 0, (Arr.mk' (Arr.mk' 0 : Arr 10 Int) : Arr 10 (Arr 10 Int)), (Arr.mk' 0 : Arr 10 Int), (Arr.mk' 0 : Arr 10 Int)⟩ : Pasture)) 31, box b3 (cPasture.enc y23) 31] [roC (ci .u8) Aa0_0 ca0_0 a0.code]) ?_ ?_
              · skip
                refine CJ.block ?_
                refine CJ.seq ?_
                obtain ⟨t26, ht26, H⟩ := pbind H
                obtain ⟨t27, ht27, H⟩ := pbind H
                obtain ⟨t28, ht28, H⟩ := pbind H
                refine CJ.cut1 (fun F w1 => F = [(0, .pointer (some ⟨ba0, 0, none⟩)), (2, .pointer (some ⟨b1, 0, none⟩)), (3, .pointer (some ⟨b3, 0, none⟩)), (4, .int .i64 (IntKind.i64.wrap (2 + t5.1))), (5, .int .i8 y10), (6, .int .i8 y20)] ∧ St w (fpU [box ba0 ([.slice Aa0_0 a0.code.length ca0_0, .int .i64 a0.at_, .int .u64 a0.seed]) 128]) w1 [box ba0 ([.slice Aa0_0 a0.code.length ca0_0, .int .i64 t27.2.at_, .int .u64 t27.2.seed]) 128, box b1 (cPasture.enc (⟨0, 0, (Arr.mk' (Arr.mk' 0 : Arr 10 Int) : Arr 10 (Arr 10 Int)), (Arr.mk' 0 : Arr 10 Int), (Arr.mk' 0 : Arr 10 Int)⟩ : Pasture)) 31, box b3 (cPasture.enc (⟨y19.Wide, y19.High, (aset y19.Grass y10.toNat (aset t26 y20.toNat (IntKind.i16.wrap t27.1))), y19.East, y19.South⟩ : Pasture)) 31] [roC (ci .u8) Aa0_0 ca0_0 a0.code]) ?_ ?_
                · skip
                  refine CJ.drawT [] [3, 8] (.one 0 (.one 1 (.one 2 (.one 5 (.one 6 (.one 3 (.one 4 (.one 7 (.one 8 (.fin)))))))))) mixed (by kernel_rfl) hS [] fun w1 hS hY hV => ?_
                  refine TJ.pures oU 3 Z ?_
                  refine TJ.sp Z Z Z Z Z (fun w2 => SR.fieldAddr oU oI Z Z Z Z Z Z) ?_
                  refine TJ.sp Z Z Z Z Z (fun w2 => SR.idxA oU oI Z Z Z Z Z (Arr.lt ht26)) ?_
                  refine TJ.callFw rfl rfl rfl rfl rfl rfl rfl hb30 rfl (spec_l00Src_pick.c _ Aa0_0 ca0_0 (⟨a0.code, y21, y22⟩ : l00Src) ba0 12 ((hS.subs [0] [0] [] rfl).pick [0] [0] rfl) _ ht27) (by rintro _ w1 ⟨rfl, hs⟩; exact hY.wr (hS.inP [] 1 rfl rfl [0] rfl) hs.chg) ?_
                  rintro _ w1 hY ⟨rfl, hs⟩
                  replace hS := hS.back [0] Z Z [box ba0 ([.slice Aa0_0 a0.code.length ca0_0, .int .i64 t27.2.at_, .int .u64 t27.2.seed]) 128] [] hs ⟨fun _ => Iff.rfl, trivial⟩
                  refine TJ.pures oU 1 Z ?_
                  refine TJ.sp Z Z Z Z Z (fun w2 => SR.idxA oU oI Z Z Z Z Z (Arr.lt ht28)) ?_
                  have hO := hS
                  refine TJ.es rfl rfl rfl rfl (Es.put oI (hS.inn []) (i := 2) rfl rfl rfl rfl rfl (vs := (ci .i16).enc (IntKind.i16.wrap t27.1)) rfl rfl (one1 rfl) (put_Pasture_2 (Put.idx (Put.idx (Put.all (ci .i16) t28 (IntKind.i16.wrap t27.1)) ht28) ht26)) (by (try simp only [add_lit, Nat.add_assoc, Nat.zero_add, Nat.add_zero]) <;> rfl)) (by intro w1 hS; exact hY.wr (hO.inY [] 1 rfl rfl) hS.chg) ?_
                  intro w1 hY hS
                  have hS : St w (fpU [box ba0 ([.slice Aa0_0 a0.code.length ca0_0, .int .i64 a0.at_, .int .u64 a0.seed]) 128]) w1 [box ba0 ([.slice Aa0_0 a0.code.length ca0_0, .int .i64 t27.2.at_, .int .u64 t27.2.seed]) 128, box b1 (cPasture.enc (⟨0, 0, (Arr.mk' (Arr.mk' 0 : Arr 10 Int) : Arr 10 (Arr 10 Int)), (Arr.mk' 0 : Arr 10 Int), (Arr.mk' 0 : Arr 10 Int)⟩ : Pasture)) 31, box b3 (cPasture.enc (⟨y19.Wide, y19.High, (aset y19.Grass y10.toNat (aset t26 y20.toNat (IntKind.i16.wrap t27.1))), y19.East, y19.South⟩ : Pasture)) 31] [roC (ci .u8) Aa0_0 ca0_0 a0.code] := hO.out [] hS
                  refine TJ.nil ?_
                  exact EJ.meet (F' := [(0, .pointer (some ⟨ba0, 0, none⟩)), (2, .pointer (some ⟨b1, 0, none⟩)), (3, .pointer (some ⟨b3, 0, none⟩)), (4, .int .i64 (IntKind.i64.wrap (2 + t5.1))), (5, .int .i8 y10), (6, .int .i8 y20)]) ⟨Z, Z, Z, Z, Z, Z, trivial⟩ ⟨Z, hS.pick [0, 1, 2] [0] Z⟩
                · rintro F w1 ⟨rfl, hS⟩
                  refine EJ.next ?_
                  refine CJ.seq (CJ.region ?_)
                  refine OJ.pures oU 1 Z (OJ.nil (EJ.next ?_))
                  obtain ⟨j69, H, K69⟩ := pbind H
                  refine CJ.cut1 (fun F w1 => ∃ (y29 : Pasture) (y30 : Int) (y31 : Int) , (some (y29, y30, y31) : Option (Pasture × Int × Int)) = some j69 ∧ F = [(0, .pointer (some ⟨ba0, 0, none⟩)), (2, .pointer (some ⟨b1, 0, none⟩)), (3, .pointer (some ⟨b3, 0, none⟩)), (4, .int .i64 (IntKind.i64.wrap (2 + t5.1))), (5, .int .i8 y10), (6, .int .i8 y20)] ∧ St w (fpU [box ba0 ([.slice Aa0_0 a0.code.length ca0_0, .int .i64 a0.at_, .int .u64 a0.seed]) 128]) w1 [box ba0 ([.slice Aa0_0 a0.code.length ca0_0, .int .i64 y30, .int .u64 y31]) 128, box b1 (cPasture.enc (⟨0, 0, (Arr.mk' (Arr.mk' 0 : Arr 10 Int) : Arr 10 (Arr 10 Int)), (Arr.mk' 0 : Arr 10 Int), (Arr.mk' 0 : Arr 10 Int)⟩ : Pasture)) 31, box b3 (cPasture.enc y29) 31] [roC (ci .u8) Aa0_0 ca0_0 a0.code]) ?_ ?_
                  · skip
                    refine CJ.block ?_
                    refine CJ.loop (fun k F w1 => ∃ (y32 : Pasture) (y33 : Int) (y34 : Int) (y35 : Int), F = [(0, .pointer (some ⟨ba0, 0, none⟩)), (2, .pointer (some ⟨b1, 0, none⟩)), (3, .pointer (some ⟨b3, 0, none⟩)), (4, .int .i64 (IntKind.i64.wrap (2 + t5.1))), (5, .int .i8 y10), (6, .int .i8 y20), (7, .int .i64 y33)] ∧ St w (fpU [box ba0 ([.slice Aa0_0 a0.code.length ca0_0, .int .i64 a0.at_, .int .u64 a0.seed]) 128]) w1 [box ba0 ([.slice Aa0_0 a0.code.length ca0_0, .int .i64 y34, .int .u64 y35]) 128, box b1 (cPasture.enc (⟨0, 0, (Arr.mk' (Arr.mk' 0 : Arr 10 Int) : Arr 10 (Arr 10 Int)), (Arr.mk' 0 : Arr 10 Int), (Arr.mk' 0 : Arr 10 Int)⟩ : Pasture)) 31, box b3 (cPasture.enc y32) 31] [roC (ci .u8) Aa0_0 ca0_0 a0.code] ∧ spec_l01Drawn.l3 a0 t5 y10 y20 k y32 y33 y34 y35 = some j69) k (F' := [(0, .pointer (some ⟨ba0, 0, none⟩)), (2, .pointer (some ⟨b1, 0, none⟩)), (3, .pointer (some ⟨b3, 0, none⟩)), (4, .int .i64 (IntKind.i64.wrap (2 + t5.1))), (5, .int .i8 y10), (6, .int .i8 y20), (7, .int .i64 1)]) ⟨Z, Z, Z, Z, Z, Z, Z, trivial⟩ ⟨(⟨y19.Wide, y19.High, (aset y19.Grass y10.toNat (aset t26 y20.toNat (IntKind.i16.wrap t27.1))), y19.East, y19.South⟩ : Pasture), 1, t27.2.at_, t27.2.seed, Z, hS.pick [0, 1, 2] [0] Z, H⟩ ?_
                    rintro k F w1 ⟨y32, y33, y34, y35, rfl, hS, H⟩
                    cases k with
                    | zero => rw [spec_l01Drawn.l3] at H; cases H
                    | succ k =>
                      rw [spec_l01Drawn.l3] at H
                      refine CJ.seq ?_
                      refine CJ.seq (CJ.region ?_)
                      refine OJ.pures oU 2 Z (OJ.nil (EJ.next ?_))
                      refine CJ.cond Z (fun hb => ?_) (fun hb => ?_)
                      · replace H := pif_t (of_decide_eq_true hb) H
                        refine CJ.skip (EJ.next ?_)
                        refine CJ.seq ?_
                        refine CJ.block ?_
                        refine CJ.seq (CJ.region ?_)
                        refine OJ.pures oU 2 Z ?_
                        refine OJ.st Z Z Z (SR.build (C := cSpot) oU oI Z Z Z (zs := [.int .i8 0, .int .i8 0]) Z Z Z (⟨y20, y10⟩ : Spot) Z) ?_
                        refine OJ.ef Z Z Z (Ef.alloc hS oI Z Z (cSpot.enc (⟨0, 0⟩ : Spot)) Z) ?_
                        rintro _ w1 ⟨b36, rfl, hS⟩
                        refine OJ.es Z Z (Es.store oI hS (i := 3) Z Z Z Z Z Z (vs := cSpot.enc (⟨y20, y10⟩ : Spot)) Z (cSpot.len _) (cSpot.one _) (Nat.le_of_ble_eq_true Z) (cSpot.enc (⟨y20, y10⟩ : Spot)) Z) ?_
                        intro w1 hS
                        refine OJ.nil (EJ.next ?_)
                        refine CJ.seq (CJ.region ?_)
                        refine OJ.st Z Z Z (SR.load Z Z (fun w' hx => ldE oU oI Z Z Z (CA.ext (hS.cells (i := 3) Z) hx) Z)) ?_
                        refine OJ.pures oU 1 Z ?_
                        obtain ⟨t37, ht37, H⟩ := pbind H
                        refine OJ.callF Z Z Z Z Z hb75 Z (spec_l01Next.c _ (⟨y20, y10⟩ : Spot) y33 _ ht37) ?_
                        rintro _ w1 ⟨rfl, hs⟩
                        replace hS := hS.grow hs
                        obtain ⟨t38, ht38, H⟩ := pbind H
                        refine OJ.callF Z Z Z Z Z hb71 Z (spec_l01Is.c _ _ y32 (hS.cells (i := 2) Z) t37 _ ht38) ?_
                        rintro _ w1 ⟨rfl, hs⟩
                        replace hS := hS.grow hs
                        refine OJ.pures oU 1 Z ?_
                        refine OJ.split (t := 53) Z (fun hb => ?_) (fun hb => ?_)
                        · replace H := pif_t hb H
                          refine OJ.pures oU 2 Z ?_
                          obtain ⟨t39, ht39, H⟩ := pbind H
                          refine OJ.callF Z Z Z Z Z hb76 Z (spec_l00Src_one.c _ Aa0_0 ca0_0 (⟨a0.code, y34, y35⟩ : l00Src) ba0 (IntKind.i64.wrap (2 + t5.1)) ((hS.subs [0] [0] [] Z).pick [0] [0] Z) _ ht39) ?_
                          rintro _ w1 ⟨rfl, hs⟩
                          replace hS := hS.back [0] Z Z [box ba0 ([.slice Aa0_0 a0.code.length ca0_0, .int .i64 t39.2.at_, .int .u64 t39.2.seed]) 128] [] hs ⟨fun _ => Iff.rfl, trivial⟩
                          refine OJ.pures oU 1 Z (OJ.nil (EJ.next ?_))
                          refine CJ.cond Z (fun hb => ?_) (fun hb => ?_)
                          · replace H := pif_t hb H
                            refine CJ.region ?_
                            refine OJ.st Z Z Z (SR.load Z Z (fun w' hx => ldE oU oI Z Z Z (CA.ext (hS.cells (i := 3) Z) hx) Z)) ?_
                            refine OJ.pures oU 1 Z ?_
                            obtain ⟨t40, ht40, H⟩ := pbind H
                            refine OJ.callF Z Z Z Z Z hb77 Z (spec_l01Set.c _ b3 y32 (⟨y20, y10⟩ : Spot) y33 true ((hS.subs [2] [] [] Z).pick [0] [] Z) _ ht40) ?_
                            rintro _ w1 ⟨rfl, hs⟩
                            replace hS := hS.back [2] Z Z [box b3 (cPasture.enc t40) 31] [] hs ⟨fun _ => Iff.rfl, trivial⟩
                            refine OJ.nil (EJ.blk (EJ.next ?_))
                            refine CJ.region ?_
                            refine OJ.pures oU 3 Z ?_
                            refine OJ.nil ?_
                            exact EJ.round k (F' := [(0, .pointer (some ⟨ba0, 0, none⟩)), (2, .pointer (some ⟨b1, 0, none⟩)), (3, .pointer (some ⟨b3, 0, none⟩)), (4, .int .i64 (IntKind.i64.wrap (2 + t5.1))), (5, .int .i8 y10), (6, .int .i8 y20), (7, .int .i64 (IntKind.i64.wrap (y33 + 1)))]) ⟨Z, Z, Z, Z, Z, Z, Z, trivial⟩ (Nat.lt_succ_self _) ⟨t40, (IntKind.i64.wrap (y33 + 1)), t39.2.at_, t39.2.seed, Z, hS.pick [0, 1, 2] [0] Z, H⟩
                          · replace H := pifb_f hb H
                            refine CJ.skip (EJ.blk (EJ.next ?_))
                            refine CJ.region ?_
                            refine OJ.pures oU 3 Z ?_
                            refine OJ.nil ?_
                            exact EJ.round k (F' := [(0, .pointer (some ⟨ba0, 0, none⟩)), (2, .pointer (some ⟨b1, 0, none⟩)), (3, .pointer (some ⟨b3, 0, none⟩)), (4, .int .i64 (IntKind.i64.wrap (2 + t5.1))), (5, .int .i8 y10), (6, .int .i8 y20), (7, .int .i64 (IntKind.i64.wrap (y33 + 1)))]) ⟨Z, Z, Z, Z, Z, Z, Z, trivial⟩ (Nat.lt_succ_self _) ⟨y32, (IntKind.i64.wrap (y33 + 1)), t39.2.at_, t39.2.seed, Z, hS.pick [0, 1, 2] [0] Z, H⟩
                        · replace H := pifb_f hb H
                          refine OJ.pures oU 4 Z (OJ.nil (EJ.next ?_))
                          refine CJ.condF Z ?_
                          refine CJ.skip (EJ.blk (EJ.next ?_))
                          refine CJ.region ?_
                          refine OJ.pures oU 3 Z ?_
                          refine OJ.nil ?_
                          exact EJ.round k (F' := [(0, .pointer (some ⟨ba0, 0, none⟩)), (2, .pointer (some ⟨b1, 0, none⟩)), (3, .pointer (some ⟨b3, 0, none⟩)), (4, .int .i64 (IntKind.i64.wrap (2 + t5.1))), (5, .int .i8 y10), (6, .int .i8 y20), (7, .int .i64 (IntKind.i64.wrap (y33 + 1)))]) ⟨Z, Z, Z, Z, Z, Z, Z, trivial⟩ (Nat.lt_succ_self _) ⟨y32, (IntKind.i64.wrap (y33 + 1)), y34, y35, Z, hS.pick [0, 1, 2] [0] Z, H⟩
                      · replace H := pif_f (of_decide_eq_false hb) H
                        refine CJ.exit (EJ.skE (EJ.skE (EJ.hit (?_))))
                        exact EJ.meet (F' := [(0, .pointer (some ⟨ba0, 0, none⟩)), (2, .pointer (some ⟨b1, 0, none⟩)), (3, .pointer (some ⟨b3, 0, none⟩)), (4, .int .i64 (IntKind.i64.wrap (2 + t5.1))), (5, .int .i8 y10), (6, .int .i8 y20)]) ⟨Z, Z, Z, Z, Z, Z, trivial⟩ ⟨y32, y34, y35, H, Z, hS.pick [0, 1, 2] [0] Z⟩
                  · rintro F w1 ⟨y29, y30, y31, he, rfl, hS⟩
                    obtain rfl := Option.some.inj he
                    have H := K69
                    refine EJ.blk (?_)
                    exact EJ.meet (F' := [(0, .pointer (some ⟨ba0, 0, none⟩)), (2, .pointer (some ⟨b1, 0, none⟩)), (3, .pointer (some ⟨b3, 0, none⟩)), (4, .int .i64 (IntKind.i64.wrap (2 + t5.1))), (5, .int .i8 y10), (6, .int .i8 y20)]) ⟨Z, Z, Z, Z, Z, Z, trivial⟩ ⟨y29, y30, y31, H, Z, hS.pick [0, 1, 2] [0] Z⟩
              · rintro F w1 ⟨y23, y24, y25, he, rfl, hS⟩
                obtain rfl := Option.some.inj he
                have H := K67
                refine CJ.region ?_
                refine OJ.pures oU 3 Z ?_
                refine OJ.nil ?_
                exact EJ.round k (F' := [(0, .pointer (some ⟨ba0, 0, none⟩)), (2, .pointer (some ⟨b1, 0, none⟩)), (3, .pointer (some ⟨b3, 0, none⟩)), (4, .int .i64 (IntKind.i64.wrap (2 + t5.1))), (5, .int .i8 y10), (6, .int .i8 (IntKind.i8.wrap (y20 + 1)))]) ⟨Z, Z, Z, Z, Z, Z, trivial⟩ (Nat.lt_succ_self _) ⟨y23, (IntKind.i8.wrap (y20 + 1)), y24, y25, Z, hS.pick [0, 1, 2] [0] Z, H⟩
            · replace H := pif_f (of_decide_eq_false hb) H
              refine CJ.exit (EJ.skE (EJ.skE (EJ.hit (?_))))
              exact EJ.meet (F' := [(0, .pointer (some ⟨ba0, 0, none⟩)), (2, .pointer (some ⟨b1, 0, none⟩)), (3, .pointer (some ⟨b3, 0, none⟩)), (4, .int .i64 (IntKind.i64.wrap (2 + t5.1))), (5, .int .i8 y10)]) ⟨Z, Z, Z, Z, Z, trivial⟩ ⟨y19, y21, y22, H, Z, hS.pick [0, 1, 2] [0] Z⟩
        · rintro F w1 ⟨y16, y17, y18, he, rfl, hS⟩
          obtain rfl := Option.some.inj he
          have H := K60
          refine EJ.blk (?_)
          exact EJ.meet (F' := [(0, .pointer (some ⟨ba0, 0, none⟩)), (2, .pointer (some ⟨b1, 0, none⟩)), (3, .pointer (some ⟨b3, 0, none⟩)), (4, .int .i64 (IntKind.i64.wrap (2 + t5.1))), (5, .int .i8 y10)]) ⟨Z, Z, Z, Z, Z, trivial⟩ ⟨y16, y17, y18, H, Z, hS.pick [0, 1, 2] [0] Z⟩
      · rintro F w1 ⟨y13, y14, y15, he, rfl, hS⟩
        obtain rfl := Option.some.inj he
        have H := K49
        refine CJ.region ?_
        refine OJ.pures oU 3 Z ?_
        refine OJ.nil ?_
        exact EJ.round k (F' := [(0, .pointer (some ⟨ba0, 0, none⟩)), (2, .pointer (some ⟨b1, 0, none⟩)), (3, .pointer (some ⟨b3, 0, none⟩)), (4, .int .i64 (IntKind.i64.wrap (2 + t5.1))), (5, .int .i8 (IntKind.i8.wrap (y10 + 1)))]) ⟨Z, Z, Z, Z, Z, trivial⟩ (Nat.lt_succ_self _) ⟨y13, (IntKind.i8.wrap (y10 + 1)), y14, y15, Z, hS.pick [0, 1, 2] [0] Z, H⟩
    · replace H := pif_f (of_decide_eq_false hb) H
      refine CJ.exit (EJ.skE (EJ.skE (EJ.hit (?_))))
      exact EJ.meet (F' := [(2, .pointer (some ⟨b1, 0, none⟩)), (3, .pointer (some ⟨b3, 0, none⟩))]) ⟨Z, Z, trivial⟩ ⟨y9, y11, y12, H, Z, hS.pick [0, 1, 2] [0] Z⟩
 rintro F w1 ⟨y6, y7, y8, he, rfl, hS⟩
 obtain rfl := Option.some.inj he
 have H := K1
 refine EJ.next ?_
 refine CJ.seq (CJ.region ?_)
 refine OJ.st Z Z Z (SR.load Z Z (fun w' hx => ldE oU oI Z Z Z (CA.ext (hS.cells (i := 2) Z) hx) Z)) ?_
 refine OJ.es rfl rfl (Es.put oI hS (i := 1) rfl rfl rfl rfl rfl (vs := cPasture.enc y6) rfl (cPasture.len _) (cPasture.one _) (Put.all cPasture (⟨0, 0, (Arr.mk' (Arr.mk' 0 : Arr 10 Int) : Arr 10 (Arr 10 Int)), (Arr.mk' 0 : Arr 10 Int), (Arr.mk' 0 : Arr 10 Int)⟩ : Pasture) y6) (by (try simp only [add_lit, Nat.add_assoc, Nat.zero_add, Nat.add_zero]) <;> rfl)) ?_
 intro w1 hS
 refine OJ.nil (EJ.next ?_)
 refine CJ.ret (?_)
 obtain rfl := Option.some.inj H
 exact EJ.fin Z (.cell Z (ldE oU oI Z Z Z (hS.cells (i := 1) Z) Z) .nil) ⟨Z, hS.pick [0] [] Z⟩

def spec_A2Pasture.f (k : Nat) (a0 : List Int) : Option Pasture := (spec_l00From.f a0).bind fun t2 => (spec_l01Drawn.f k (⟨a0, t2.at_, t2.seed⟩ : l00Src)).bind fun t4 => some t4.1
theorem spec_A2Pasture.c (k : Nat) (w : World) (Aa0 : Option Addr) (ca0 : Nat) (a0 : List Int) (hr0 : Rd (ci .u8) w Aa0 a0) (hc0 : a0.length ≤ ca0) (r : Pasture) (H : spec_A2Pasture.f k a0 = some r) :
 CV Tryz.prog 5 [.slice Aa0 a0.length ca0].toArray w fun v w' => v = .agg (cPasture.enc r).toArray ∧ Ext w w' := by
 have hS := ((St.init w no).param (ci .u8) Aa0 ca0 a0 hr0 hc0)
 unfold spec_A2Pasture.f at H
 refine CV.body Tryz.func5 Z Tryz.ntmps5 Z ?_
 refine CJ.seq (CJ.region ?_)
 refine OJ.ef rfl rfl rfl (Ef.alloc hS oI rfl rfl (cPasture.enc (⟨0, 0, (Arr.mk' (Arr.mk' 0 : Arr 10 Int) : Arr 10 (Arr 10 Int)), (Arr.mk' 0 : Arr 10 Int), (Arr.mk' 0 : Arr 10 Int)⟩ : Pasture)) (by kernel_rfl)) ?_
 rintro _ w1 ⟨b1, rfl, hS⟩
 refine OJ.nil (EJ.next ?_)
 refine CJ.seq (CJ.region ?_)
 refine OJ.pures oU 1 Z ?_
 obtain ⟨t2, ht2, H⟩ := pbind H
 refine OJ.callF Z Z Z Z Z hb28 Z (spec_l00From.c _ Aa0 ca0 a0 (hS.rd' (i := 0) Z) (hS.le' (i := 0) Z) _ ht2) ?_
 rintro _ w1 ⟨b3, rfl, hs⟩
 replace hS := hS.addN hs
 obtain ⟨t4, ht4, H⟩ := pbind H
 refine OJ.callF Z Z Z Z Z hb27 Z (spec_l01Drawn.c k _ Aa0 ca0 (⟨a0, t2.at_, t2.seed⟩ : l00Src) b3 ((hS.subs [1] [0] [] Z).pick [0] [0] Z) _ ht4) ?_
 rintro _ w1 ⟨rfl, hs⟩
 replace hS := hS.back [1] Z Z [box b3 ([.slice Aa0 a0.length ca0, .int .i64 t4.2.at_, .int .u64 t4.2.seed]) 128] [] hs ⟨fun _ => Iff.rfl, trivial⟩
 refine OJ.es rfl rfl (Es.put oI hS (i := 0) rfl rfl rfl rfl rfl (vs := cPasture.enc t4.1) rfl (cPasture.len _) (cPasture.one _) (Put.all cPasture (⟨0, 0, (Arr.mk' (Arr.mk' 0 : Arr 10 Int) : Arr 10 (Arr 10 Int)), (Arr.mk' 0 : Arr 10 Int), (Arr.mk' 0 : Arr 10 Int)⟩ : Pasture) t4.1) (by (try simp only [add_lit, Nat.add_assoc, Nat.zero_add, Nat.add_zero]) <;> rfl)) ?_
 intro w1 hS
 refine OJ.nil (EJ.next ?_)
 refine CJ.ret (?_)
 obtain rfl := Option.some.inj H
 exact EJ.fin Z (.cell Z (ldE oU oI Z Z Z (hS.cells (i := 0) Z) Z) .nil) ⟨Z, hS.ext⟩

def spec_l00Src_among.f (a0 : l00Src) (a1 : List Int) : Option (Int × l00Src) := (spec_l00Src_pick.f a0 (a1.length : Int)).bind fun t1 => (getI a1 t1.1).bind fun t2 => some (t2, (⟨a0.code, t1.2.at_, t1.2.seed⟩ : l00Src))
theorem spec_l00Src_among.c (w : World) (Aa0_0 : Option Addr) (ca0_0 : Nat) (a0 : l00Src) (ba0 : Nat) (Aa1 : Option Addr) (ca1 : Nat) (a1 : List Int) (hin : St w (fpU [box ba0 ([.slice Aa0_0 a0.code.length ca0_0, .int .i64 a0.at_, .int .u64 a0.seed]) 128]) w [box ba0 ([.slice Aa0_0 a0.code.length ca0_0, .int .i64 a0.at_, .int .u64 a0.seed]) 128] [roC (ci .u8) Aa0_0 ca0_0 a0.code, roC (ci .i64) Aa1 ca1 a1]) (r : Int × l00Src) (H : spec_l00Src_among.f a0 a1 = some r) :
 CV Tryz.prog 78 [.pointer (some ⟨ba0, 0, none⟩), .slice Aa1 a1.length ca1].toArray w fun v w' => v = .int .i64 r.1 ∧ St w (fpU [box ba0 ([.slice Aa0_0 a0.code.length ca0_0, .int .i64 a0.at_, .int .u64 a0.seed]) 128]) w' [box ba0 ([.slice Aa0_0 a0.code.length ca0_0, .int .i64 r.2.at_, .int .u64 r.2.seed]) 128] [] := by
 have hS := hin
 unfold spec_l00Src_among.f at H
 refine CV.body Tryz.func78 Z Tryz.ntmps78 Z ?_
 refine CJ.seq (CJ.region ?_)
 refine OJ.pures oU 1 Z (OJ.nil (EJ.next ?_))
 refine CJ.seq (CJ.region ?_)
 refine OJ.pures oU 4 Z ?_
 obtain ⟨t1, ht1, H⟩ := pbind H
 refine OJ.callF Z Z Z Z Z hb30 Z (spec_l00Src_pick.c _ Aa0_0 ca0_0 a0 ba0 (a1.length : Int) ((hS.subs [0] [0] [] Z).pick [0] [0] Z) _ ht1) ?_
 rintro _ w1 ⟨rfl, hs⟩
 replace hS := hS.back [0] Z Z [box ba0 ([.slice Aa0_0 a0.code.length ca0_0, .int .i64 t1.2.at_, .int .u64 t1.2.seed]) 128] [] hs ⟨fun _ => Iff.rfl, trivial⟩
 obtain ⟨t2, ht2, H⟩ := pbind H
 obtain ⟨ad2, e2⟩ := (hS.rd' (i := 1) rfl).some' ht2
 refine OJ.st Z Z Z (SR.idxS oU oI Z Z Z Z e2 Z (getI_some ht2).1) ?_
 refine OJ.st Z Z Z (SR.load Z Z (fun w' hx => ld1 oU Z Z (CA.ext ((hS.rd' (i := 1) Z).at_ e2 ht2) hx) Z)) ?_
 refine OJ.pures oU 1 Z (OJ.nil (EJ.next ?_))
 refine CJ.ret (?_)
 obtain rfl := Option.some.inj H
 exact EJ.fin Z (.tmp Z .nil) ⟨Z, hS.pick [0] [] Z⟩

def spec_l02Square.f (a0 : Spot) (a1 : Spot) : Option Int := some (IntKind.i64.wrap ((IntKind.i64.wrap ((IntKind.i64.wrap ((IntKind.i64.wrap a0.X) - (IntKind.i64.wrap a1.X))) * (IntKind.i64.wrap ((IntKind.i64.wrap a0.X) - (IntKind.i64.wrap a1.X))))) + (IntKind.i64.wrap ((IntKind.i64.wrap ((IntKind.i64.wrap a0.Y) - (IntKind.i64.wrap a1.Y))) * (IntKind.i64.wrap ((IntKind.i64.wrap a0.Y) - (IntKind.i64.wrap a1.Y)))))))
theorem spec_l02Square.c (w : World) (a0 : Spot) (a1 : Spot) (r : Int) (H : spec_l02Square.f a0 a1 = some r) :
 CV Tryz.prog 80 [.agg (cSpot.enc a0).toArray, .agg (cSpot.enc a1).toArray].toArray w fun v w' => v = .int .i64 r ∧ Ext w w' := by
 have hS := (St.init w no)
 unfold spec_l02Square.f at H
 refine CV.body Tryz.func80 Z Tryz.ntmps80 Z ?_
 refine CJ.seq (CJ.region ?_)
 refine OJ.ef Z Z Z (Ef.box hS Z Z (cSpot.enc a0) Z) ?_
 rintro _ w1 ⟨b1, rfl, hS⟩
 refine OJ.ef Z Z Z (Ef.box hS Z Z (cSpot.enc a1) Z) ?_
 rintro _ w1 ⟨b2, rfl, hS⟩
 refine OJ.pures oU 1 Z (OJ.nil (EJ.next ?_))
 refine CJ.seq (CJ.region ?_)
 refine OJ.st Z Z Z (SR.fieldAddr oU oI Z Z Z Z Z Z) ?_
 refine OJ.st Z Z Z (SR.load Z Z (fun w' hx => ld1 oU Z Z (CA.ext (CA.sub (hS.cells (i := 0) Z) 0) hx) Z)) ?_
 refine OJ.pures oU 1 Z ?_
 refine OJ.st Z Z Z (SR.fieldAddr oU oI Z Z Z Z Z Z) ?_
 refine OJ.st Z Z Z (SR.load Z Z (fun w' hx => ld1 oU Z Z (CA.ext (CA.sub (hS.cells (i := 1) Z) 0) hx) Z)) ?_
 refine OJ.pures oU 3 Z (OJ.nil (EJ.next ?_))
 refine CJ.seq (CJ.region ?_)
 refine OJ.st Z Z Z (SR.fieldAddr oU oI Z Z Z Z Z Z) ?_
 refine OJ.st Z Z Z (SR.load Z Z (fun w' hx => ld1 oU Z Z (CA.ext (CA.sub (hS.cells (i := 0) Z) 1) hx) Z)) ?_
 refine OJ.pures oU 1 Z ?_
 refine OJ.st Z Z Z (SR.fieldAddr oU oI Z Z Z Z Z Z) ?_
 refine OJ.st Z Z Z (SR.load Z Z (fun w' hx => ld1 oU Z Z (CA.ext (CA.sub (hS.cells (i := 1) Z) 1) hx) Z)) ?_
 refine OJ.pures oU 3 Z (OJ.nil (EJ.next ?_))
 refine CJ.seq (CJ.region ?_)
 refine OJ.pures oU 8 Z (OJ.nil (EJ.next ?_))
 refine CJ.ret (?_)
 obtain rfl := Option.some.inj H
 exact EJ.fin Z (.tmp Z .nil) ⟨Z, hS.ext⟩

def spec_l00Max.f (a0 : Int) (a1 : Int) : Option Int := if a1 < a0 then (some a0) else (some a1)
theorem spec_l00Max.c (w : World) (a0 : Int) (a1 : Int) (r : Int) (H : spec_l00Max.f a0 a1 = some r) :
 CV Tryz.prog 79 [.int .i64 a0, .int .i64 a1].toArray w fun v w' => v = .int .i64 r ∧ Ext w w' := by
 have hS := (St.init w no)
 unfold spec_l00Max.f at H
 refine CV.body Tryz.func79 Z Tryz.ntmps79 Z ?_
 refine CJ.seq (CJ.region ?_)
 refine OJ.pures oU 1 Z (OJ.nil (EJ.next ?_))
 refine CJ.seq ?_
 refine CJ.seq (CJ.region ?_)
 refine OJ.pures oU 3 Z (OJ.nil (EJ.next ?_))
 refine CJ.cond Z (fun hb => ?_) (fun hb => ?_)
 ·replace H := pif_t (of_decide_eq_true hb) H
  refine CJ.seq (CJ.region ?_)
  refine OJ.pures oU 2 Z (OJ.nil (EJ.next ?_))
  refine CJ.ret (EJ.skR (?_))
  obtain rfl := Option.some.inj H
  exact EJ.fin Z (.tmp Z .nil) ⟨Z, hS.ext⟩
 replace H := pif_f (of_decide_eq_false hb) H
 refine CJ.skip (EJ.next ?_)
 refine CJ.seq (CJ.region ?_)
 refine OJ.pures oU 2 Z (OJ.nil (EJ.next ?_))
 refine CJ.ret (?_)
 obtain rfl := Option.some.inj H
 exact EJ.fin Z (.tmp Z .nil) ⟨Z, hS.ext⟩

def spec_l02Drawn.f (a0 : l00Src) (a1 : Pasture) : Option (Goat × l00Src) := (spec_l00Src_pick.f a0 (IntKind.i64.wrap a1.Wide)).bind fun t2 => (spec_l00Src_pick.f (⟨a0.code, t2.2.at_, t2.2.seed⟩ : l00Src) (IntKind.i64.wrap a1.High)).bind fun t3 => (spec_l00Src_among.f (⟨a0.code, t3.2.at_, t3.2.seed⟩ : l00Src) ([0, 3, 5, 7, 12, 30, 100] : List Int)).bind fun t6 => (spec_l00Src_pick.f (⟨a0.code, t6.2.at_, t6.2.seed⟩ : l00Src) 2).bind fun t7 => (spec_l00Src_one.f (⟨a0.code, t7.2.at_, t7.2.seed⟩ : l00Src) 2).bind fun t8 => if t8.1 = true then ((spec_l00Src_among.f (⟨a0.code, t8.2.at_, t8.2.seed⟩ : l00Src) ([0, 1, 2, 4, 9, 200] : List Int)).bind fun t10 => (spec_l00Src_one.f (⟨a0.code, t10.2.at_, t10.2.seed⟩ : l00Src) 2).bind fun t11 => if t11.1 = true then ((spec_l00Src_pick.f (⟨a0.code, t11.2.at_, t11.2.seed⟩ : l00Src) (IntKind.i64.wrap a1.Wide)).bind fun t12 => (spec_l00Src_pick.f (⟨a0.code, t12.2.at_, t12.2.seed⟩ : l00Src) (IntKind.i64.wrap a1.High)).bind fun t13 => (spec_l02Square.f (⟨IntKind.i8.wrap t2.1, IntKind.i8.wrap t3.1⟩ : Spot) (⟨IntKind.i8.wrap t12.1, IntKind.i8.wrap t13.1⟩ : Spot)).bind fun t15 => (spec_l00Max.f (IntKind.i64.wrap (IntKind.i16.wrap t10.1)) t15).bind fun t16 => some ((⟨(⟨IntKind.i8.wrap t2.1, IntKind.i8.wrap t3.1⟩ : Spot), (⟨IntKind.i8.wrap t12.1, IntKind.i8.wrap t13.1⟩ : Spot), IntKind.i16.wrap t16, IntKind.i16.wrap t6.1, IntKind.i8.wrap t7.1⟩ : Goat), (⟨a0.code, t13.2.at_, t13.2.seed⟩ : l00Src))) else (some ((⟨(⟨IntKind.i8.wrap t2.1, IntKind.i8.wrap t3.1⟩ : Spot), (⟨IntKind.i8.wrap t2.1, IntKind.i8.wrap t3.1⟩ : Spot), IntKind.i16.wrap t10.1, IntKind.i16.wrap t6.1, IntKind.i8.wrap t7.1⟩ : Goat), (⟨a0.code, t11.2.at_, t11.2.seed⟩ : l00Src)))) else (some ((⟨(⟨IntKind.i8.wrap t2.1, IntKind.i8.wrap t3.1⟩ : Spot), (⟨0, 0⟩ : Spot), (-1), IntKind.i16.wrap t6.1, IntKind.i8.wrap t7.1⟩ : Goat), (⟨a0.code, t8.2.at_, t8.2.seed⟩ : l00Src)))
theorem spec_l02Drawn.c (w : World) (Aa0_0 : Option Addr) (ca0_0 : Nat) (a0 : l00Src) (ba0 : Nat) (pa1 : Addr) (a1 : Pasture) (hin : St w (fpU [box ba0 ([.slice Aa0_0 a0.code.length ca0_0, .int .i64 a0.at_, .int .u64 a0.seed]) 128]) w [box ba0 ([.slice Aa0_0 a0.code.length ca0_0, .int .i64 a0.at_, .int .u64 a0.seed]) 128] [roC (ci .u8) Aa0_0 ca0_0 a0.code, roP pa1 (cPasture.enc a1)]) (r : Goat × l00Src) (H : spec_l02Drawn.f a0 a1 = some r) :
 CV Tryz.prog 29 [.pointer (some ⟨ba0, 0, none⟩), .pointer (some pa1)].toArray w fun v w' => v = .agg (cGoat.enc r.1).toArray ∧ St w (fpU [box ba0 ([.slice Aa0_0 a0.code.length ca0_0, .int .i64 a0.at_, .int .u64 a0.seed]) 128]) w' [box ba0 ([.slice Aa0_0 a0.code.length ca0_0, .int .i64 r.2.at_, .int .u64 r.2.seed]) 128] [] := by
 have hS := hin
 unfold spec_l02Drawn.f at H
 refine CV.body Tryz.func29 Z Tryz.ntmps29 Z ?_
 refine CJ.seq (CJ.region ?_)
 refine OJ.ef Z Z Z (Ef.alloc hS oI Z Z (cGoat.enc (⟨(⟨0, 0⟩ : Spot), (⟨0, 0⟩ : Spot), 0, 0, 0⟩ : Goat)) Z) ?_
 rintro _ w1 ⟨b1, rfl, hS⟩
 refine OJ.nil (EJ.next ?_)
 refine CJ.seq (CJ.region ?_)
 refine OJ.pures oU 3 Z ?_
 refine OJ.st Z Z Z (SR.fieldAddr oU oI Z Z Z Z Z Z) ?_
 refine OJ.st Z Z Z (SR.load Z Z (fun w' hx => ld1 oU Z Z (CA.ext (CA.fld (hS.ca (i := 1) Z) (mid_part (fe_Pasture_0 _) (fl_Pasture_0 _) ((ci .i8).len _))) hx) Z)) ?_
 refine OJ.pures oU 1 Z ?_
 obtain ⟨t2, ht2, H⟩ := pbind H
 refine OJ.callF Z Z Z Z Z hb30 Z (spec_l00Src_pick.c _ Aa0_0 ca0_0 a0 ba0 (IntKind.i64.wrap a1.Wide) ((hS.subs [0] [0] [] Z).pick [0] [0] Z) _ ht2) ?_
 rintro _ w1 ⟨rfl, hs⟩
 replace hS := hS.back [0] Z Z [box ba0 ([.slice Aa0_0 a0.code.length ca0_0, .int .i64 t2.2.at_, .int .u64 t2.2.seed]) 128] [] hs ⟨fun _ => Iff.rfl, trivial⟩
 have hS : St w (fpU [box ba0 ([.slice Aa0_0 a0.code.length ca0_0, .int .i64 a0.at_, .int .u64 a0.seed]) 128]) w1 [box ba0 ([.slice Aa0_0 a0.code.length ca0_0, .int .i64 t2.2.at_, .int .u64 t2.2.seed]) 128, box b1 (cGoat.enc (⟨(⟨0, 0⟩ : Spot), (⟨0, 0⟩ : Spot), 0, 0, 0⟩ : Goat)) 50] [roC (ci .u8) Aa0_0 ca0_0 a0.code, roP pa1 (cPasture.enc a1)] := hS
 have hS : St w (fpU [box ba0 ([.slice Aa0_0 a0.code.length ca0_0, .int .i64 a0.at_, .int .u64 a0.seed]) 128]) w1 [box ba0 ([.slice Aa0_0 a0.code.length ca0_0, .int .i64 t2.2.at_, .int .u64 t2.2.seed]) 128, box b1 (cGoat.enc (⟨(⟨0, 0⟩ : Spot), (⟨0, 0⟩ : Spot), 0, 0, 0⟩ : Goat)) 50] [roC (ci .u8) Aa0_0 ca0_0 a0.code, roP pa1 (cPasture.enc a1)] := hS
 refine OJ.pures oU 1 Z (OJ.nil (EJ.next ?_))
 refine CJ.seq (CJ.region ?_)
 refine OJ.pures oU 5 Z ?_
 refine OJ.st Z Z Z (SR.fieldAddr oU oI Z Z Z Z Z Z) ?_
 refine OJ.st Z Z Z (SR.load Z Z (fun w' hx => ld1 oU Z Z (CA.ext (CA.fld (hS.ca (i := 1) Z) (mid_part (fe_Pasture_1 _) (fl_Pasture_1 _) ((ci .i8).len _))) hx) Z)) ?_
 refine OJ.pures oU 1 Z ?_
 obtain ⟨t3, ht3, H⟩ := pbind H
 refine OJ.callF Z Z Z Z Z hb30 Z (spec_l00Src_pick.c _ Aa0_0 ca0_0 (⟨a0.code, t2.2.at_, t2.2.seed⟩ : l00Src) ba0 (IntKind.i64.wrap a1.High) ((hS.subs [0] [0] [] Z).pick [0] [0] Z) _ ht3) ?_
 rintro _ w1 ⟨rfl, hs⟩
 replace hS := hS.back [0] Z Z [box ba0 ([.slice Aa0_0 a0.code.length ca0_0, .int .i64 t3.2.at_, .int .u64 t3.2.seed]) 128] [] hs ⟨fun _ => Iff.rfl, trivial⟩
 have hS : St w (fpU [box ba0 ([.slice Aa0_0 a0.code.length ca0_0, .int .i64 a0.at_, .int .u64 a0.seed]) 128]) w1 [box ba0 ([.slice Aa0_0 a0.code.length ca0_0, .int .i64 t3.2.at_, .int .u64 t3.2.seed]) 128, box b1 (cGoat.enc (⟨(⟨0, 0⟩ : Spot), (⟨0, 0⟩ : Spot), 0, 0, 0⟩ : Goat)) 50] [roC (ci .u8) Aa0_0 ca0_0 a0.code, roP pa1 (cPasture.enc a1)] := hS
 have hS : St w (fpU [box ba0 ([.slice Aa0_0 a0.code.length ca0_0, .int .i64 a0.at_, .int .u64 a0.seed]) 128]) w1 [box ba0 ([.slice Aa0_0 a0.code.length ca0_0, .int .i64 t3.2.at_, .int .u64 t3.2.seed]) 128, box b1 (cGoat.enc (⟨(⟨0, 0⟩ : Spot), (⟨0, 0⟩ : Spot), 0, 0, 0⟩ : Goat)) 50] [roC (ci .u8) Aa0_0 ca0_0 a0.code, roP pa1 (cPasture.enc a1)] := hS
 refine OJ.pures oU 1 Z ?_
 refine OJ.st Z Z Z (SR.build (C := cSpot) oU oI Z Z Z (zs := [.int .i8 0, .int .i8 0]) Z Z Z (⟨IntKind.i8.wrap t2.1, IntKind.i8.wrap t3.1⟩ : Spot) Z) ?_
 refine OJ.st Z Z Z (SR.build (C := cGoat) oU oI Z Z Z (zs := [.int .i8 0, .int .i8 0, .int .i8 0, .int .i8 0, .int .i16 0, .int .i16 0, .int .i8 0]) Z Z Z (⟨(⟨IntKind.i8.wrap t2.1, IntKind.i8.wrap t3.1⟩ : Spot), (⟨0, 0⟩ : Spot), (-1), 0, 0⟩ : Goat) Z) ?_
 refine OJ.ef Z Z Z (Ef.alloc hS oI Z Z (cGoat.enc (⟨(⟨0, 0⟩ : Spot), (⟨0, 0⟩ : Spot), 0, 0, 0⟩ : Goat)) Z) ?_
 rintro _ w1 ⟨b4, rfl, hS⟩
 refine OJ.es Z Z (Es.store oI hS (i := 2) Z Z Z Z Z Z (vs := cGoat.enc (⟨(⟨IntKind.i8.wrap t2.1, IntKind.i8.wrap t3.1⟩ : Spot), (⟨0, 0⟩ : Spot), (-1), 0, 0⟩ : Goat)) Z (cGoat.len _) (cGoat.one _) (Nat.le_of_ble_eq_true Z) (cGoat.enc (⟨(⟨IntKind.i8.wrap t2.1, IntKind.i8.wrap t3.1⟩ : Spot), (⟨0, 0⟩ : Spot), (-1), 0, 0⟩ : Goat)) Z) ?_
 intro w1 hS
 refine OJ.nil (EJ.next ?_)
 refine CJ.seq (CJ.region ?_)
 refine OJ.pures oU 1 Z ?_
 refine OJ.ef Z Z Z (Ef.lit oU oI hS (C := (ci .i64)) Z Z Z Z Z Z ([0, 3, 5, 7, 12, 30, 100] : List Int) Z Z Z Z) ?_
 rintro _ w1 ⟨A5, rfl, hS⟩
 obtain ⟨t6, ht6, H⟩ := pbind H
 refine OJ.callF Z Z Z Z Z hb78 Z (spec_l00Src_among.c _ Aa0_0 ca0_0 (⟨a0.code, t3.2.at_, t3.2.seed⟩ : l00Src) ba0 A5 (([0, 3, 5, 7, 12, 30, 100] : List Int).length) ([0, 3, 5, 7, 12, 30, 100] : List Int) (((hS.subs [0] [0] [3] Z).rToRo (i := 1) Z).pick [0] [0, 1] Z) _ ht6) ?_
 rintro _ w1 ⟨rfl, hs⟩
 replace hS := hS.back [0] Z Z [box ba0 ([.slice Aa0_0 a0.code.length ca0_0, .int .i64 t6.2.at_, .int .u64 t6.2.seed]) 128] [] hs ⟨fun _ => Iff.rfl, trivial⟩
 have hS : St w (fpU [box ba0 ([.slice Aa0_0 a0.code.length ca0_0, .int .i64 a0.at_, .int .u64 a0.seed]) 128]) w1 [box ba0 ([.slice Aa0_0 a0.code.length ca0_0, .int .i64 t6.2.at_, .int .u64 t6.2.seed]) 128, box b1 (cGoat.enc (⟨(⟨0, 0⟩ : Spot), (⟨0, 0⟩ : Spot), 0, 0, 0⟩ : Goat)) 50, box b4 (cGoat.enc (⟨(⟨IntKind.i8.wrap t2.1, IntKind.i8.wrap t3.1⟩ : Spot), (⟨0, 0⟩ : Spot), (-1), 0, 0⟩ : Goat)) 50, rowC (ci .i64) A5 (([0, 3, 5, 7, 12, 30, 100] : List Int).length) 2 ([0, 3, 5, 7, 12, 30, 100] : List Int)] [roC (ci .u8) Aa0_0 ca0_0 a0.code, roP pa1 (cPasture.enc a1)] := hS
 have hS : St w (fpU [box ba0 ([.slice Aa0_0 a0.code.length ca0_0, .int .i64 a0.at_, .int .u64 a0.seed]) 128]) w1 [box ba0 ([.slice Aa0_0 a0.code.length ca0_0, .int .i64 t6.2.at_, .int .u64 t6.2.seed]) 128, box b1 (cGoat.enc (⟨(⟨0, 0⟩ : Spot), (⟨0, 0⟩ : Spot), 0, 0, 0⟩ : Goat)) 50, box b4 (cGoat.enc (⟨(⟨IntKind.i8.wrap t2.1, IntKind.i8.wrap t3.1⟩ : Spot), (⟨0, 0⟩ : Spot), (-1), 0, 0⟩ : Goat)) 50, rowC (ci .i64) A5 (([0, 3, 5, 7, 12, 30, 100] : List Int).length) 2 ([0, 3, 5, 7, 12, 30, 100] : List Int)] [roC (ci .u8) Aa0_0 ca0_0 a0.code, roP pa1 (cPasture.enc a1)] := hS
 refine OJ.pures oU 1 Z ?_
 refine OJ.st Z Z Z (SR.fieldAddr oU oI Z Z Z Z Z Z) ?_
 refine OJ.es Z Z (Es.store oI hS (i := 2) Z Z Z (G.ad1 _ _) Z Z (vs := (ci .i16).enc (IntKind.i16.wrap t6.1)) Z Z (one1 Z) (Nat.le_of_ble_eq_true Z) (cGoat.enc (⟨(⟨IntKind.i8.wrap t2.1, IntKind.i8.wrap t3.1⟩ : Spot), (⟨0, 0⟩ : Spot), (-1), IntKind.i16.wrap t6.1, 0⟩ : Goat)) Z) ?_
 intro w1 hS
 refine OJ.nil (EJ.next ?_)
 refine CJ.seq (CJ.region ?_)
 refine OJ.pures oU 1 Z ?_
 obtain ⟨t7, ht7, H⟩ := pbind H
 refine OJ.callF Z Z Z Z Z hb30 Z (spec_l00Src_pick.c _ Aa0_0 ca0_0 (⟨a0.code, t6.2.at_, t6.2.seed⟩ : l00Src) ba0 2 ((hS.subs [0] [0] [] Z).pick [0] [0] Z) _ ht7) ?_
 rintro _ w1 ⟨rfl, hs⟩
 replace hS := hS.back [0] Z Z [box ba0 ([.slice Aa0_0 a0.code.length ca0_0, .int .i64 t7.2.at_, .int .u64 t7.2.seed]) 128] [] hs ⟨fun _ => Iff.rfl, trivial⟩
 have hS : St w (fpU [box ba0 ([.slice Aa0_0 a0.code.length ca0_0, .int .i64 a0.at_, .int .u64 a0.seed]) 128]) w1 [box ba0 ([.slice Aa0_0 a0.code.length ca0_0, .int .i64 t7.2.at_, .int .u64 t7.2.seed]) 128, box b1 (cGoat.enc (⟨(⟨0, 0⟩ : Spot), (⟨0, 0⟩ : Spot), 0, 0, 0⟩ : Goat)) 50, box b4 (cGoat.enc (⟨(⟨IntKind.i8.wrap t2.1, IntKind.i8.wrap t3.1⟩ : Spot), (⟨0, 0⟩ : Spot), (-1), IntKind.i16.wrap t6.1, 0⟩ : Goat)) 50, rowC (ci .i64) A5 (([0, 3, 5, 7, 12, 30, 100] : List Int).length) 2 ([0, 3, 5, 7, 12, 30, 100] : List Int)] [roC (ci .u8) Aa0_0 ca0_0 a0.code, roP pa1 (cPasture.enc a1)] := hS
 have hS : St w (fpU [box ba0 ([.slice Aa0_0 a0.code.length ca0_0, .int .i64 a0.at_, .int .u64 a0.seed]) 128]) w1 [box ba0 ([.slice Aa0_0 a0.code.length ca0_0, .int .i64 t7.2.at_, .int .u64 t7.2.seed]) 128, box b1 (cGoat.enc (⟨(⟨0, 0⟩ : Spot), (⟨0, 0⟩ : Spot), 0, 0, 0⟩ : Goat)) 50, box b4 (cGoat.enc (⟨(⟨IntKind.i8.wrap t2.1, IntKind.i8.wrap t3.1⟩ : Spot), (⟨0, 0⟩ : Spot), (-1), IntKind.i16.wrap t6.1, 0⟩ : Goat)) 50, rowC (ci .i64) A5 (([0, 3, 5, 7, 12, 30, 100] : List Int).length) 2 ([0, 3, 5, 7, 12, 30, 100] : List Int)] [roC (ci .u8) Aa0_0 ca0_0 a0.code, roP pa1 (cPasture.enc a1)] := hS
 refine OJ.pures oU 1 Z ?_
 refine OJ.st Z Z Z (SR.fieldAddr oU oI Z Z Z Z Z Z) ?_
 refine OJ.es Z Z (Es.store oI hS (i := 2) Z Z Z (G.ad1 _ _) Z Z (vs := (ci .i8).enc (IntKind.i8.wrap t7.1)) Z Z (one1 Z) (Nat.le_of_ble_eq_true Z) (cGoat.enc (⟨(⟨IntKind.i8.wrap t2.1, IntKind.i8.wrap t3.1⟩ : Spot), (⟨0, 0⟩ : Spot), (-1), IntKind.i16.wrap t6.1, IntKind.i8.wrap t7.1⟩ : Goat)) Z) ?_
 intro w1 hS
 refine OJ.nil (EJ.next ?_)
 refine CJ.seq ?_
 refine CJ.seq (CJ.region ?_)
 refine OJ.pures oU 1 Z ?_
 obtain ⟨t8, ht8, H⟩ := pbind H
 refine OJ.callF Z Z Z Z Z hb76 Z (spec_l00Src_one.c _ Aa0_0 ca0_0 (⟨a0.code, t7.2.at_, t7.2.seed⟩ : l00Src) ba0 2 ((hS.subs [0] [0] [] Z).pick [0] [0] Z) _ ht8) ?_
 rintro _ w1 ⟨rfl, hs⟩
 replace hS := hS.back [0] Z Z [box ba0 ([.slice Aa0_0 a0.code.length ca0_0, .int .i64 t8.2.at_, .int .u64 t8.2.seed]) 128] [] hs ⟨fun _ => Iff.rfl, trivial⟩
 have hS : St w (fpU [box ba0 ([.slice Aa0_0 a0.code.length ca0_0, .int .i64 a0.at_, .int .u64 a0.seed]) 128]) w1 [box ba0 ([.slice Aa0_0 a0.code.length ca0_0, .int .i64 t8.2.at_, .int .u64 t8.2.seed]) 128, box b1 (cGoat.enc (⟨(⟨0, 0⟩ : Spot), (⟨0, 0⟩ : Spot), 0, 0, 0⟩ : Goat)) 50, box b4 (cGoat.enc (⟨(⟨IntKind.i8.wrap t2.1, IntKind.i8.wrap t3.1⟩ : Spot), (⟨0, 0⟩ : Spot), (-1), IntKind.i16.wrap t6.1, IntKind.i8.wrap t7.1⟩ : Goat)) 50, rowC (ci .i64) A5 (([0, 3, 5, 7, 12, 30, 100] : List Int).length) 2 ([0, 3, 5, 7, 12, 30, 100] : List Int)] [roC (ci .u8) Aa0_0 ca0_0 a0.code, roP pa1 (cPasture.enc a1)] := hS
 have hS : St w (fpU [box ba0 ([.slice Aa0_0 a0.code.length ca0_0, .int .i64 a0.at_, .int .u64 a0.seed]) 128]) w1 [box ba0 ([.slice Aa0_0 a0.code.length ca0_0, .int .i64 t8.2.at_, .int .u64 t8.2.seed]) 128, box b1 (cGoat.enc (⟨(⟨0, 0⟩ : Spot), (⟨0, 0⟩ : Spot), 0, 0, 0⟩ : Goat)) 50, box b4 (cGoat.enc (⟨(⟨IntKind.i8.wrap t2.1, IntKind.i8.wrap t3.1⟩ : Spot), (⟨0, 0⟩ : Spot), (-1), IntKind.i16.wrap t6.1, IntKind.i8.wrap t7.1⟩ : Goat)) 50, rowC (ci .i64) A5 (([0, 3, 5, 7, 12, 30, 100] : List Int).length) 2 ([0, 3, 5, 7, 12, 30, 100] : List Int)] [roC (ci .u8) Aa0_0 ca0_0 a0.code, roP pa1 (cPasture.enc a1)] := hS
 refine OJ.nil (EJ.next ?_)
 refine CJ.cond Z (fun hb => ?_) (fun hb => ?_)
 ·replace H := pif_t hb H
  refine CJ.seq (CJ.region ?_)
  refine OJ.st Z Z Z (SR.fieldAddr oU oI Z Z Z Z Z Z) ?_
  refine OJ.st Z Z Z (SR.load Z Z (fun w' hx => ldN oU oI Z Z Z (CA.ext (CA.sub (hS.cells (i := 2) Z) 0) hx) (cSpot.len _) Z)) ?_
  refine OJ.st Z Z Z (SR.fieldAddr oU oI Z Z Z Z Z Z) ?_
  refine OJ.es Z Z (Es.store oI hS (i := 2) Z Z Z (G.ad1 _ _) Z Z (vs := cSpot.enc (⟨IntKind.i8.wrap t2.1, IntKind.i8.wrap t3.1⟩ : Spot)) Z (cSpot.len _) (cSpot.one _) (Nat.le_of_ble_eq_true Z) (cGoat.enc (⟨(⟨IntKind.i8.wrap t2.1, IntKind.i8.wrap t3.1⟩ : Spot), (⟨IntKind.i8.wrap t2.1, IntKind.i8.wrap t3.1⟩ : Spot), (-1), IntKind.i16.wrap t6.1, IntKind.i8.wrap t7.1⟩ : Goat)) Z) ?_
  intro w1 hS
  refine OJ.nil (EJ.next ?_)
  refine CJ.seq (CJ.region ?_)
  refine OJ.pures oU 1 Z ?_
  refine OJ.ef Z Z Z (Ef.lit oU oI hS (C := (ci .i64)) Z Z Z Z Z Z ([0, 1, 2, 4, 9, 200] : List Int) Z Z Z Z) ?_
  rintro _ w1 ⟨A9, rfl, hS⟩
  obtain ⟨t10, ht10, H⟩ := pbind H
  refine OJ.callF Z Z Z Z Z hb78 Z (spec_l00Src_among.c _ Aa0_0 ca0_0 (⟨a0.code, t8.2.at_, t8.2.seed⟩ : l00Src) ba0 A9 (([0, 1, 2, 4, 9, 200] : List Int).length) ([0, 1, 2, 4, 9, 200] : List Int) (((hS.subs [0] [0] [4] Z).rToRo (i := 1) Z).pick [0] [0, 1] Z) _ ht10) ?_
  rintro _ w1 ⟨rfl, hs⟩
  replace hS := hS.back [0] Z Z [box ba0 ([.slice Aa0_0 a0.code.length ca0_0, .int .i64 t10.2.at_, .int .u64 t10.2.seed]) 128] [] hs ⟨fun _ => Iff.rfl, trivial⟩
  have hS : St w (fpU [box ba0 ([.slice Aa0_0 a0.code.length ca0_0, .int .i64 a0.at_, .int .u64 a0.seed]) 128]) w1 [box ba0 ([.slice Aa0_0 a0.code.length ca0_0, .int .i64 t10.2.at_, .int .u64 t10.2.seed]) 128, box b1 (cGoat.enc (⟨(⟨0, 0⟩ : Spot), (⟨0, 0⟩ : Spot), 0, 0, 0⟩ : Goat)) 50, box b4 (cGoat.enc (⟨(⟨IntKind.i8.wrap t2.1, IntKind.i8.wrap t3.1⟩ : Spot), (⟨IntKind.i8.wrap t2.1, IntKind.i8.wrap t3.1⟩ : Spot), (-1), IntKind.i16.wrap t6.1, IntKind.i8.wrap t7.1⟩ : Goat)) 50, rowC (ci .i64) A5 (([0, 3, 5, 7, 12, 30, 100] : List Int).length) 2 ([0, 3, 5, 7, 12, 30, 100] : List Int), rowC (ci .i64) A9 (([0, 1, 2, 4, 9, 200] : List Int).length) 2 ([0, 1, 2, 4, 9, 200] : List Int)] [roC (ci .u8) Aa0_0 ca0_0 a0.code, roP pa1 (cPasture.enc a1)] := hS
  have hS : St w (fpU [box ba0 ([.slice Aa0_0 a0.code.length ca0_0, .int .i64 a0.at_, .int .u64 a0.seed]) 128]) w1 [box ba0 ([.slice Aa0_0 a0.code.length ca0_0, .int .i64 t10.2.at_, .int .u64 t10.2.seed]) 128, box b1 (cGoat.enc (⟨(⟨0, 0⟩ : Spot), (⟨0, 0⟩ : Spot), 0, 0, 0⟩ : Goat)) 50, box b4 (cGoat.enc (⟨(⟨IntKind.i8.wrap t2.1, IntKind.i8.wrap t3.1⟩ : Spot), (⟨IntKind.i8.wrap t2.1, IntKind.i8.wrap t3.1⟩ : Spot), (-1), IntKind.i16.wrap t6.1, IntKind.i8.wrap t7.1⟩ : Goat)) 50, rowC (ci .i64) A5 (([0, 3, 5, 7, 12, 30, 100] : List Int).length) 2 ([0, 3, 5, 7, 12, 30, 100] : List Int), rowC (ci .i64) A9 (([0, 1, 2, 4, 9, 200] : List Int).length) 2 ([0, 1, 2, 4, 9, 200] : List Int)] [roC (ci .u8) Aa0_0 ca0_0 a0.code, roP pa1 (cPasture.enc a1)] := hS
  refine OJ.pures oU 1 Z ?_
  refine OJ.st Z Z Z (SR.fieldAddr oU oI Z Z Z Z Z Z) ?_
  refine OJ.es Z Z (Es.store oI hS (i := 2) Z Z Z (G.ad1 _ _) Z Z (vs := (ci .i16).enc (IntKind.i16.wrap t10.1)) Z Z (one1 Z) (Nat.le_of_ble_eq_true Z) (cGoat.enc (⟨(⟨IntKind.i8.wrap t2.1, IntKind.i8.wrap t3.1⟩ : Spot), (⟨IntKind.i8.wrap t2.1, IntKind.i8.wrap t3.1⟩ : Spot), IntKind.i16.wrap t10.1, IntKind.i16.wrap t6.1, IntKind.i8.wrap t7.1⟩ : Goat)) Z) ?_
  intro w1 hS
  refine OJ.nil (EJ.next ?_)
  refine CJ.seq (CJ.region ?_)
  refine OJ.pures oU 1 Z ?_
  obtain ⟨t11, ht11, H⟩ := pbind H
  refine OJ.callF Z Z Z Z Z hb76 Z (spec_l00Src_one.c _ Aa0_0 ca0_0 (⟨a0.code, t10.2.at_, t10.2.seed⟩ : l00Src) ba0 2 ((hS.subs [0] [0] [] Z).pick [0] [0] Z) _ ht11) ?_
  rintro _ w1 ⟨rfl, hs⟩
  replace hS := hS.back [0] Z Z [box ba0 ([.slice Aa0_0 a0.code.length ca0_0, .int .i64 t11.2.at_, .int .u64 t11.2.seed]) 128] [] hs ⟨fun _ => Iff.rfl, trivial⟩
  have hS : St w (fpU [box ba0 ([.slice Aa0_0 a0.code.length ca0_0, .int .i64 a0.at_, .int .u64 a0.seed]) 128]) w1 [box ba0 ([.slice Aa0_0 a0.code.length ca0_0, .int .i64 t11.2.at_, .int .u64 t11.2.seed]) 128, box b1 (cGoat.enc (⟨(⟨0, 0⟩ : Spot), (⟨0, 0⟩ : Spot), 0, 0, 0⟩ : Goat)) 50, box b4 (cGoat.enc (⟨(⟨IntKind.i8.wrap t2.1, IntKind.i8.wrap t3.1⟩ : Spot), (⟨IntKind.i8.wrap t2.1, IntKind.i8.wrap t3.1⟩ : Spot), IntKind.i16.wrap t10.1, IntKind.i16.wrap t6.1, IntKind.i8.wrap t7.1⟩ : Goat)) 50, rowC (ci .i64) A5 (([0, 3, 5, 7, 12, 30, 100] : List Int).length) 2 ([0, 3, 5, 7, 12, 30, 100] : List Int), rowC (ci .i64) A9 (([0, 1, 2, 4, 9, 200] : List Int).length) 2 ([0, 1, 2, 4, 9, 200] : List Int)] [roC (ci .u8) Aa0_0 ca0_0 a0.code, roP pa1 (cPasture.enc a1)] := hS
  have hS : St w (fpU [box ba0 ([.slice Aa0_0 a0.code.length ca0_0, .int .i64 a0.at_, .int .u64 a0.seed]) 128]) w1 [box ba0 ([.slice Aa0_0 a0.code.length ca0_0, .int .i64 t11.2.at_, .int .u64 t11.2.seed]) 128, box b1 (cGoat.enc (⟨(⟨0, 0⟩ : Spot), (⟨0, 0⟩ : Spot), 0, 0, 0⟩ : Goat)) 50, box b4 (cGoat.enc (⟨(⟨IntKind.i8.wrap t2.1, IntKind.i8.wrap t3.1⟩ : Spot), (⟨IntKind.i8.wrap t2.1, IntKind.i8.wrap t3.1⟩ : Spot), IntKind.i16.wrap t10.1, IntKind.i16.wrap t6.1, IntKind.i8.wrap t7.1⟩ : Goat)) 50, rowC (ci .i64) A5 (([0, 3, 5, 7, 12, 30, 100] : List Int).length) 2 ([0, 3, 5, 7, 12, 30, 100] : List Int), rowC (ci .i64) A9 (([0, 1, 2, 4, 9, 200] : List Int).length) 2 ([0, 1, 2, 4, 9, 200] : List Int)] [roC (ci .u8) Aa0_0 ca0_0 a0.code, roP pa1 (cPasture.enc a1)] := hS
  refine OJ.nil (EJ.next ?_)
  refine CJ.cond Z (fun hb => ?_) (fun hb => ?_)
  ·replace H := pif_t hb H
   refine CJ.seq (CJ.region ?_)
   refine OJ.pures oU 3 Z ?_
   refine OJ.st Z Z Z (SR.fieldAddr oU oI Z Z Z Z Z Z) ?_
   refine OJ.st Z Z Z (SR.load Z Z (fun w' hx => ld1 oU Z Z (CA.ext (CA.fld (hS.ca (i := 1) Z) (mid_part (fe_Pasture_0 _) (fl_Pasture_0 _) ((ci .i8).len _))) hx) Z)) ?_
   refine OJ.pures oU 1 Z ?_
   obtain ⟨t12, ht12, H⟩ := pbind H
   refine OJ.callF Z Z Z Z Z hb30 Z (spec_l00Src_pick.c _ Aa0_0 ca0_0 (⟨a0.code, t11.2.at_, t11.2.seed⟩ : l00Src) ba0 (IntKind.i64.wrap a1.Wide) ((hS.subs [0] [0] [] Z).pick [0] [0] Z) _ ht12) ?_
   rintro _ w1 ⟨rfl, hs⟩
   replace hS := hS.back [0] Z Z [box ba0 ([.slice Aa0_0 a0.code.length ca0_0, .int .i64 t12.2.at_, .int .u64 t12.2.seed]) 128] [] hs ⟨fun _ => Iff.rfl, trivial⟩
   have hS : St w (fpU [box ba0 ([.slice Aa0_0 a0.code.length ca0_0, .int .i64 a0.at_, .int .u64 a0.seed]) 128]) w1 [box ba0 ([.slice Aa0_0 a0.code.length ca0_0, .int .i64 t12.2.at_, .int .u64 t12.2.seed]) 128, box b1 (cGoat.enc (⟨(⟨0, 0⟩ : Spot), (⟨0, 0⟩ : Spot), 0, 0, 0⟩ : Goat)) 50, box b4 (cGoat.enc (⟨(⟨IntKind.i8.wrap t2.1, IntKind.i8.wrap t3.1⟩ : Spot), (⟨IntKind.i8.wrap t2.1, IntKind.i8.wrap t3.1⟩ : Spot), IntKind.i16.wrap t10.1, IntKind.i16.wrap t6.1, IntKind.i8.wrap t7.1⟩ : Goat)) 50, rowC (ci .i64) A5 (([0, 3, 5, 7, 12, 30, 100] : List Int).length) 2 ([0, 3, 5, 7, 12, 30, 100] : List Int), rowC (ci .i64) A9 (([0, 1, 2, 4, 9, 200] : List Int).length) 2 ([0, 1, 2, 4, 9, 200] : List Int)] [roC (ci .u8) Aa0_0 ca0_0 a0.code, roP pa1 (cPasture.enc a1)] := hS
   have hS : St w (fpU [box ba0 ([.slice Aa0_0 a0.code.length ca0_0, .int .i64 a0.at_, .int .u64 a0.seed]) 128]) w1 [box ba0 ([.slice Aa0_0 a0.code.length ca0_0, .int .i64 t12.2.at_, .int .u64 t12.2.seed]) 128, box b1 (cGoat.enc (⟨(⟨0, 0⟩ : Spot), (⟨0, 0⟩ : Spot), 0, 0, 0⟩ : Goat)) 50, box b4 (cGoat.enc (⟨(⟨IntKind.i8.wrap t2.1, IntKind.i8.wrap t3.1⟩ : Spot), (⟨IntKind.i8.wrap t2.1, IntKind.i8.wrap t3.1⟩ : Spot), IntKind.i16.wrap t10.1, IntKind.i16.wrap t6.1, IntKind.i8.wrap t7.1⟩ : Goat)) 50, rowC (ci .i64) A5 (([0, 3, 5, 7, 12, 30, 100] : List Int).length) 2 ([0, 3, 5, 7, 12, 30, 100] : List Int), rowC (ci .i64) A9 (([0, 1, 2, 4, 9, 200] : List Int).length) 2 ([0, 1, 2, 4, 9, 200] : List Int)] [roC (ci .u8) Aa0_0 ca0_0 a0.code, roP pa1 (cPasture.enc a1)] := hS
   refine OJ.pures oU 1 Z (OJ.nil (EJ.next ?_))
   refine CJ.seq (CJ.region ?_)
   refine OJ.pures oU 5 Z ?_
   refine OJ.st Z Z Z (SR.fieldAddr oU oI Z Z Z Z Z Z) ?_
   refine OJ.st Z Z Z (SR.load Z Z (fun w' hx => ld1 oU Z Z (CA.ext (CA.fld (hS.ca (i := 1) Z) (mid_part (fe_Pasture_1 _) (fl_Pasture_1 _) ((ci .i8).len _))) hx) Z)) ?_
   refine OJ.pures oU 1 Z ?_
   obtain ⟨t13, ht13, H⟩ := pbind H
   refine OJ.callF Z Z Z Z Z hb30 Z (spec_l00Src_pick.c _ Aa0_0 ca0_0 (⟨a0.code, t12.2.at_, t12.2.seed⟩ : l00Src) ba0 (IntKind.i64.wrap a1.High) ((hS.subs [0] [0] [] Z).pick [0] [0] Z) _ ht13) ?_
   rintro _ w1 ⟨rfl, hs⟩
   replace hS := hS.back [0] Z Z [box ba0 ([.slice Aa0_0 a0.code.length ca0_0, .int .i64 t13.2.at_, .int .u64 t13.2.seed]) 128] [] hs ⟨fun _ => Iff.rfl, trivial⟩
   have hS : St w (fpU [box ba0 ([.slice Aa0_0 a0.code.length ca0_0, .int .i64 a0.at_, .int .u64 a0.seed]) 128]) w1 [box ba0 ([.slice Aa0_0 a0.code.length ca0_0, .int .i64 t13.2.at_, .int .u64 t13.2.seed]) 128, box b1 (cGoat.enc (⟨(⟨0, 0⟩ : Spot), (⟨0, 0⟩ : Spot), 0, 0, 0⟩ : Goat)) 50, box b4 (cGoat.enc (⟨(⟨IntKind.i8.wrap t2.1, IntKind.i8.wrap t3.1⟩ : Spot), (⟨IntKind.i8.wrap t2.1, IntKind.i8.wrap t3.1⟩ : Spot), IntKind.i16.wrap t10.1, IntKind.i16.wrap t6.1, IntKind.i8.wrap t7.1⟩ : Goat)) 50, rowC (ci .i64) A5 (([0, 3, 5, 7, 12, 30, 100] : List Int).length) 2 ([0, 3, 5, 7, 12, 30, 100] : List Int), rowC (ci .i64) A9 (([0, 1, 2, 4, 9, 200] : List Int).length) 2 ([0, 1, 2, 4, 9, 200] : List Int)] [roC (ci .u8) Aa0_0 ca0_0 a0.code, roP pa1 (cPasture.enc a1)] := hS
   have hS : St w (fpU [box ba0 ([.slice Aa0_0 a0.code.length ca0_0, .int .i64 a0.at_, .int .u64 a0.seed]) 128]) w1 [box ba0 ([.slice Aa0_0 a0.code.length ca0_0, .int .i64 t13.2.at_, .int .u64 t13.2.seed]) 128, box b1 (cGoat.enc (⟨(⟨0, 0⟩ : Spot), (⟨0, 0⟩ : Spot), 0, 0, 0⟩ : Goat)) 50, box b4 (cGoat.enc (⟨(⟨IntKind.i8.wrap t2.1, IntKind.i8.wrap t3.1⟩ : Spot), (⟨IntKind.i8.wrap t2.1, IntKind.i8.wrap t3.1⟩ : Spot), IntKind.i16.wrap t10.1, IntKind.i16.wrap t6.1, IntKind.i8.wrap t7.1⟩ : Goat)) 50, rowC (ci .i64) A5 (([0, 3, 5, 7, 12, 30, 100] : List Int).length) 2 ([0, 3, 5, 7, 12, 30, 100] : List Int), rowC (ci .i64) A9 (([0, 1, 2, 4, 9, 200] : List Int).length) 2 ([0, 1, 2, 4, 9, 200] : List Int)] [roC (ci .u8) Aa0_0 ca0_0 a0.code, roP pa1 (cPasture.enc a1)] := hS
   refine OJ.pures oU 1 Z ?_
   refine OJ.st Z Z Z (SR.build (C := cSpot) oU oI Z Z Z (zs := [.int .i8 0, .int .i8 0]) Z Z Z (⟨IntKind.i8.wrap t12.1, IntKind.i8.wrap t13.1⟩ : Spot) Z) ?_
   refine OJ.ef Z Z Z (Ef.alloc hS oI Z Z (cSpot.enc (⟨0, 0⟩ : Spot)) Z) ?_
   rintro _ w1 ⟨b14, rfl, hS⟩
   refine OJ.es Z Z (Es.store oI hS (i := 5) Z Z Z Z Z Z (vs := cSpot.enc (⟨IntKind.i8.wrap t12.1, IntKind.i8.wrap t13.1⟩ : Spot)) Z (cSpot.len _) (cSpot.one _) (Nat.le_of_ble_eq_true Z) (cSpot.enc (⟨IntKind.i8.wrap t12.1, IntKind.i8.wrap t13.1⟩ : Spot)) Z) ?_
   intro w1 hS
   refine OJ.nil (EJ.next ?_)
   refine CJ.seq (CJ.region ?_)
   refine OJ.st Z Z Z (SR.load Z Z (fun w' hx => ldE oU oI Z Z Z (CA.ext (hS.cells (i := 5) Z) hx) Z)) ?_
   refine OJ.st Z Z Z (SR.fieldAddr oU oI Z Z Z Z Z Z) ?_
   refine OJ.es Z Z (Es.store oI hS (i := 2) Z Z Z (G.ad1 _ _) Z Z (vs := cSpot.enc (⟨IntKind.i8.wrap t12.1, IntKind.i8.wrap t13.1⟩ : Spot)) Z (cSpot.len _) (cSpot.one _) (Nat.le_of_ble_eq_true Z) (cGoat.enc (⟨(⟨IntKind.i8.wrap t2.1, IntKind.i8.wrap t3.1⟩ : Spot), (⟨IntKind.i8.wrap t12.1, IntKind.i8.wrap t13.1⟩ : Spot), IntKind.i16.wrap t10.1, IntKind.i16.wrap t6.1, IntKind.i8.wrap t7.1⟩ : Goat)) Z) ?_
   intro w1 hS
   refine OJ.nil (EJ.next ?_)
   refine CJ.draw [] [0, 1, 2, 3, 4, 5, 6, 7, 8, 9, 10] mixed (by kernel_rfl) hS fun w1 hS => ?_
   refine DJ.st Z Z Z Z Z (SR.fieldAddr oU oI Z Z Z Z Z Z) ?_
   refine DJ.st Z Z Z Z Z (SR.load Z Z (fun w' hx => ld1 oU Z Z (CA.ext (CA.sub (hS.cells (i := 2) Z) 4) hx) Z)) ?_
   refine DJ.pures oU 1 Z ?_
   refine DJ.st Z Z Z Z Z (SR.fieldAddr oU oI Z Z Z Z Z Z) ?_
   refine DJ.st Z Z Z Z Z (SR.load Z Z (fun w' hx => ldN oU oI Z Z Z (CA.ext (CA.sub (hS.cells (i := 2) Z) 0) hx) (cSpot.len _) Z)) ?_
   refine DJ.st Z Z Z Z Z (SR.load Z Z (fun w' hx => ldE oU oI Z Z Z (CA.ext (hS.cells (i := 5) Z) hx) Z)) ?_
   obtain ⟨t15, ht15, H⟩ := pbind H
   refine DJ.callF rfl rfl rfl rfl rfl rfl rfl hb80 rfl (spec_l02Square.c _ (⟨IntKind.i8.wrap t2.1, IntKind.i8.wrap t3.1⟩ : Spot) (⟨IntKind.i8.wrap t12.1, IntKind.i8.wrap t13.1⟩ : Spot) _ ht15) (by rintro v w' ⟨rfl, hs⟩; exact hs) ?_
   rintro _ w1 ⟨rfl, hs⟩
   replace hS := hS.grow hs
   obtain ⟨t16, ht16, H⟩ := pbind H
   refine DJ.callF rfl rfl rfl rfl rfl rfl rfl hb79 rfl (spec_l00Max.c _ (IntKind.i64.wrap (IntKind.i16.wrap t10.1)) t15 _ ht16) (by rintro v w' ⟨rfl, hs⟩; exact hs) ?_
   rintro _ w1 ⟨rfl, hs⟩
   replace hS := hS.grow hs
   refine DJ.pures oU 1 Z ?_
   refine DJ.st Z Z Z Z Z (SR.fieldAddr oU oI Z Z Z Z Z Z) ?_
   refine DJ.es Z Z Z Z (Es.store oI hS (i := 2) Z Z Z (G.ad1 _ _) Z Z (vs := (ci .i16).enc (IntKind.i16.wrap t16)) Z Z (one1 Z) (Nat.le_of_ble_eq_true Z) (cGoat.enc (⟨(⟨IntKind.i8.wrap t2.1, IntKind.i8.wrap t3.1⟩ : Spot), (⟨IntKind.i8.wrap t12.1, IntKind.i8.wrap t13.1⟩ : Spot), IntKind.i16.wrap t16, IntKind.i16.wrap t6.1, IntKind.i8.wrap t7.1⟩ : Goat)) Z) ?_
   intro w1 hS
   refine DJ.nil (EJ.next ?_)
   refine CJ.seq (CJ.region ?_)
   refine OJ.st Z Z Z (SR.load Z Z (fun w' hx => ldE oU oI Z Z Z (CA.ext (hS.cells (i := 2) Z) hx) Z)) ?_
   refine OJ.es Z Z (Es.store oI hS (i := 1) Z Z Z Z Z Z (vs := cGoat.enc (⟨(⟨IntKind.i8.wrap t2.1, IntKind.i8.wrap t3.1⟩ : Spot), (⟨IntKind.i8.wrap t12.1, IntKind.i8.wrap t13.1⟩ : Spot), IntKind.i16.wrap t16, IntKind.i16.wrap t6.1, IntKind.i8.wrap t7.1⟩ : Goat)) Z (cGoat.len _) (cGoat.one _) (Nat.le_of_ble_eq_true Z) (cGoat.enc (⟨(⟨IntKind.i8.wrap t2.1, IntKind.i8.wrap t3.1⟩ : Spot), (⟨IntKind.i8.wrap t12.1, IntKind.i8.wrap t13.1⟩ : Spot), IntKind.i16.wrap t16, IntKind.i16.wrap t6.1, IntKind.i8.wrap t7.1⟩ : Goat)) Z) ?_
   intro w1 hS
   refine OJ.nil (EJ.next ?_)
   refine CJ.ret (?_)
   obtain rfl := Option.some.inj H
   exact EJ.fin Z (.cell Z (ldE oU oI Z Z Z (hS.cells (i := 1) Z) Z) .nil) ⟨Z, hS.pick [0] [] Z⟩
  replace H := pifb_f hb H
  refine CJ.skip (EJ.next ?_)
  refine CJ.seq (CJ.region ?_)
  refine OJ.st Z Z Z (SR.load Z Z (fun w' hx => ldE oU oI Z Z Z (CA.ext (hS.cells (i := 2) Z) hx) Z)) ?_
  refine OJ.es Z Z (Es.store oI hS (i := 1) Z Z Z Z Z Z (vs := cGoat.enc (⟨(⟨IntKind.i8.wrap t2.1, IntKind.i8.wrap t3.1⟩ : Spot), (⟨IntKind.i8.wrap t2.1, IntKind.i8.wrap t3.1⟩ : Spot), IntKind.i16.wrap t10.1, IntKind.i16.wrap t6.1, IntKind.i8.wrap t7.1⟩ : Goat)) Z (cGoat.len _) (cGoat.one _) (Nat.le_of_ble_eq_true Z) (cGoat.enc (⟨(⟨IntKind.i8.wrap t2.1, IntKind.i8.wrap t3.1⟩ : Spot), (⟨IntKind.i8.wrap t2.1, IntKind.i8.wrap t3.1⟩ : Spot), IntKind.i16.wrap t10.1, IntKind.i16.wrap t6.1, IntKind.i8.wrap t7.1⟩ : Goat)) Z) ?_
  intro w1 hS
  refine OJ.nil (EJ.next ?_)
  refine CJ.ret (?_)
  obtain rfl := Option.some.inj H
  exact EJ.fin Z (.cell Z (ldE oU oI Z Z Z (hS.cells (i := 1) Z) Z) .nil) ⟨Z, hS.pick [0] [] Z⟩
 replace H := pifb_f hb H
 refine CJ.skip (EJ.next ?_)
 refine CJ.seq (CJ.region ?_)
 refine OJ.st Z Z Z (SR.load Z Z (fun w' hx => ldE oU oI Z Z Z (CA.ext (hS.cells (i := 2) Z) hx) Z)) ?_
 refine OJ.es Z Z (Es.store oI hS (i := 1) Z Z Z Z Z Z (vs := cGoat.enc (⟨(⟨IntKind.i8.wrap t2.1, IntKind.i8.wrap t3.1⟩ : Spot), (⟨0, 0⟩ : Spot), (-1), IntKind.i16.wrap t6.1, IntKind.i8.wrap t7.1⟩ : Goat)) Z (cGoat.len _) (cGoat.one _) (Nat.le_of_ble_eq_true Z) (cGoat.enc (⟨(⟨IntKind.i8.wrap t2.1, IntKind.i8.wrap t3.1⟩ : Spot), (⟨0, 0⟩ : Spot), (-1), IntKind.i16.wrap t6.1, IntKind.i8.wrap t7.1⟩ : Goat)) Z) ?_
 intro w1 hS
 refine OJ.nil (EJ.next ?_)
 refine CJ.ret (?_)
 obtain rfl := Option.some.inj H
 exact EJ.fin Z (.cell Z (ldE oU oI Z Z Z (hS.cells (i := 1) Z) Z) .nil) ⟨Z, hS.pick [0] [] Z⟩

def spec_A2Goats.l1 (a0 : List Int) (a1 : Pasture) : Nat → (List Goat) → Int → Int → Int → Option (List Goat)
  | 0, _, _, _, _ => none
  | k + 1, y10, y13, y14, y15 => if 0 < y13 then ((spec_l02Drawn.f (⟨a0, y14, y15⟩ : l00Src) a1).bind fun t16 => (chk (y10.length + ([t16.1] : List Goat).length ≤ 4294967296)).bind fun u18 => spec_A2Goats.l1 a0 a1 k (y10 ++ ([t16.1] : List Goat)) (IntKind.i64.wrap (y13 - 1)) t16.2.at_ t16.2.seed) else (some y10)
def spec_A2Goats.f (k : Nat) (a0 : List Int) (a1 : Pasture) : Option (List Goat) := (spec_l00From.f a0).bind fun t2 => (spec_l02Drawn.f (⟨a0, t2.at_, t2.seed⟩ : l00Src) a1).bind fun t4 => (spec_l00Src_pick.f (⟨a0, t4.2.at_, t4.2.seed⟩ : l00Src) 4).bind fun t6 => (spec_A2Goats.l1 a0 a1 k ([t4.1] : List Goat) t6.1 t6.2.at_ t6.2.seed).bind fun y7 => some y7
theorem spec_A2Goats.c (k : Nat) (w : World) (Aa0 : Option Addr) (ca0 : Nat) (a0 : List Int) (hr0 : Rd (ci .u8) w Aa0 a0) (hc0 : a0.length ≤ ca0) (a1 : Pasture) (r : List Goat) (H : spec_A2Goats.f k a0 a1 = some r) :
 CV Tryz.prog 6 [.slice Aa0 a0.length ca0, .agg (cPasture.enc a1).toArray].toArray w fun v w' => ∃ (A0 : Option Addr) (c0 : Nat), v = .slice A0 r.length c0 ∧ St w no w' [rowC cGoat A0 c0 50 r] [] := by
 have hS := ((St.init w no).param (ci .u8) Aa0 ca0 a0 hr0 hc0)
 unfold spec_A2Goats.f at H
 refine CV.body Tryz.func6 Z Tryz.ntmps6 Z ?_
 refine CJ.seq (CJ.region ?_)
 refine OJ.ef Z Z Z (Ef.box hS Z Z (cPasture.enc a1) Z) ?_
 rintro _ w1 ⟨b1, rfl, hS⟩
 refine OJ.pures oU 1 Z (OJ.nil (EJ.next ?_))
 refine CJ.seq (CJ.region ?_)
 refine OJ.pures oU 1 Z ?_
 obtain ⟨t2, ht2, H⟩ := pbind H
 refine OJ.callF Z Z Z Z Z hb28 Z (spec_l00From.c _ Aa0 ca0 a0 (hS.rd' (i := 0) Z) (hS.le' (i := 0) Z) _ ht2) ?_
 rintro _ w1 ⟨b3, rfl, hs⟩
 replace hS := hS.addN hs
 refine OJ.pures oU 1 Z (OJ.nil (EJ.next ?_))
 refine CJ.seq (CJ.region ?_)
 refine OJ.pures oU 1 Z ?_
 obtain ⟨t4, ht4, H⟩ := pbind H
 refine OJ.callF Z Z Z Z Z hb29 Z (spec_l02Drawn.c _ Aa0 ca0 (⟨a0, t2.at_, t2.seed⟩ : l00Src) b3 ⟨b1, 0, none⟩ a1 (((hS.subs [1] [0] [0] Z).rToRoP (i := 1) Z).pick [0] [0, 1] Z) _ ht4) ?_
 rintro _ w1 ⟨rfl, hs⟩
 replace hS := hS.back [1] Z Z [box b3 ([.slice Aa0 a0.length ca0, .int .i64 t4.2.at_, .int .u64 t4.2.seed]) 128] [] hs ⟨fun _ => Iff.rfl, trivial⟩
 refine OJ.ef Z Z Z (Ef.lit oU oI hS (C := cGoat) Z Z Z Z Z Z ([t4.1] : List Goat) Z Z Z Z) ?_
 rintro _ w1 ⟨A5, rfl, hS⟩
 refine OJ.pures oU 1 Z (OJ.nil (EJ.next ?_))
 refine CJ.seq ?_
 refine CJ.seq (CJ.region ?_)
 refine OJ.pures oU 1 Z ?_
 obtain ⟨t6, ht6, H⟩ := pbind H
 refine OJ.callF Z Z Z Z Z hb30 Z (spec_l00Src_pick.c _ Aa0 ca0 (⟨a0, t4.2.at_, t4.2.seed⟩ : l00Src) b3 4 ((hS.subs [1] [0] [] Z).pick [0] [0] Z) _ ht6) ?_
 rintro _ w1 ⟨rfl, hs⟩
 replace hS := hS.back [1] Z Z [box b3 ([.slice Aa0 a0.length ca0, .int .i64 t6.2.at_, .int .u64 t6.2.seed]) 128] [] hs ⟨fun _ => Iff.rfl, trivial⟩
 refine OJ.pures oU 1 Z (OJ.nil (EJ.next ?_))
 obtain ⟨j70, H, K70⟩ := pbind H
 refine CJ.cut1 (fun F w1 => ∃ (y7 : List Goat) (A8 : Option Addr) (c9 : Nat), (some y7 : Option (List Goat)) = some j70 ∧ F = [(6, .slice A8 y7.length c9)] ∧ St w no w1 [rowC cGoat A8 c9 50 y7] [roC (ci .u8) Aa0 ca0 a0]) ?_ ?_
 ·skip
  refine CJ.block ?_
  refine CJ.loop (fun k F w1 => ∃ (y10 : List Goat) (y13 : Int) (y14 : Int) (y15 : Int) (A11 : Option Addr) (c12 : Nat), F = [(3, .pointer (some ⟨b1, 0, none⟩)), (5, .pointer (some ⟨b3, 0, none⟩)), (6, .slice A11 y10.length c12), (7, .int .i64 y13)] ∧ St w no w1 [box b1 (cPasture.enc a1) 31, box b3 ([.slice Aa0 a0.length ca0, .int .i64 y14, .int .u64 y15]) 128, rowC cGoat A11 c12 50 y10] [roC (ci .u8) Aa0 ca0 a0] ∧ spec_A2Goats.l1 a0 a1 k y10 y13 y14 y15 = some j70) k (F' := [(3, .pointer (some ⟨b1, 0, none⟩)), (5, .pointer (some ⟨b3, 0, none⟩)), (6, .slice A5 ([t4.1] : List Goat).length (([t4.1] : List Goat).length)), (7, .int .i64 t6.1)]) ⟨Z, Z, Z, Z, trivial⟩ ⟨([t4.1] : List Goat), t6.1, t6.2.at_, t6.2.seed, A5, (([t4.1] : List Goat).length), Z, hS.pick [0, 1, 2] [0] Z, H⟩ ?_
  rintro k F w1 ⟨y10, y13, y14, y15, A11, c12, rfl, hS, H⟩
  cases k with
  | zero => rw [spec_A2Goats.l1] at H; cases H
  | succ k =>
    rw [spec_A2Goats.l1] at H
    refine CJ.seq ?_
    refine CJ.seq (CJ.region ?_)
    refine OJ.pures oU 2 Z (OJ.nil (EJ.next ?_))
    refine CJ.cond Z (fun hb => ?_) (fun hb => ?_)
    · replace H := pif_t (of_decide_eq_true hb) H
      refine CJ.skip (EJ.next ?_)
      refine CJ.seq ?_
      refine CJ.block ?_
      refine CJ.region ?_
      refine OJ.pures oU 2 Z ?_
      obtain ⟨t16, ht16, H⟩ := pbind H
      refine OJ.callF Z Z Z Z Z hb29 Z (spec_l02Drawn.c _ Aa0 ca0 (⟨a0, y14, y15⟩ : l00Src) b3 ⟨b1, 0, none⟩ a1 (((hS.subs [1] [0] [0] Z).rToRoP (i := 1) Z).pick [0] [0, 1] Z) _ ht16) ?_
      rintro _ w1 ⟨rfl, hs⟩
      replace hS := hS.back [1] Z Z [box b3 ([.slice Aa0 a0.length ca0, .int .i64 t16.2.at_, .int .u64 t16.2.seed]) 128] [] hs ⟨fun _ => Iff.rfl, trivial⟩
      refine OJ.ef Z Z Z (Ef.lit oU oI hS (C := cGoat) Z Z Z Z Z Z ([t16.1] : List Goat) Z Z Z Z) ?_
      rintro _ w1 ⟨A17, rfl, hS⟩
      obtain ⟨u18, hu18, H⟩ := pbind H
      refine OJ.ew Z Z Z (Ew.append oU oI (C := cGoat) (xs := y10) (ys := ([t16.1] : List Goat)) hS (i := 2) Z Z Z Z Z Z Z Z Z Z Z Z Z (hS.rd (i := 3) Z) (chk_some hu18)) ?_
      rintro _ w1 ⟨A19, c20, rfl, hS⟩
      refine OJ.pures oU 1 Z ?_
      refine OJ.nil (EJ.blk (EJ.next ?_))
      refine CJ.region ?_
      refine OJ.pures oU 3 Z ?_
      refine OJ.nil ?_
      exact EJ.round k (F' := [(3, .pointer (some ⟨b1, 0, none⟩)), (5, .pointer (some ⟨b3, 0, none⟩)), (6, .slice A19 (y10 ++ ([t16.1] : List Goat)).length c20), (7, .int .i64 (IntKind.i64.wrap (y13 - 1)))]) ⟨Z, Z, Z, Z, trivial⟩ (Nat.lt_succ_self _) ⟨(y10 ++ ([t16.1] : List Goat)), (IntKind.i64.wrap (y13 - 1)), t16.2.at_, t16.2.seed, A19, c20, Z, hS.pick [0, 1, 2] [0] Z, H⟩
    · replace H := pif_f (of_decide_eq_false hb) H
      refine CJ.exit (EJ.skE (EJ.skE (EJ.hit (?_))))
      exact EJ.meet (F' := [(6, .slice A11 y10.length c12)]) ⟨Z, trivial⟩ ⟨y10, A11, c12, H, Z, hS.pick [2] [0] Z⟩
 rintro F w1 ⟨y7, A8, c9, he, rfl, hS⟩
 obtain rfl := Option.some.inj he
 have H := K70
 refine EJ.next ?_
 refine CJ.seq (CJ.region ?_)
 refine OJ.pures oU 2 Z (OJ.nil (EJ.next ?_))
 refine CJ.ret (?_)
 obtain rfl := Option.some.inj H
 exact EJ.fin Z (.tmp Z .nil) ⟨A8, c9, Z, hS.pick [0] [] Z⟩

def slices_IndexFunc_impl_Goat_impl_Goat.l1 (a0 : List Goat) (a1 : Goat → Option Bool) : Nat → Int → Option (Int ⊕ Unit)
  | 0, _ => none
  | k + 1, y1 => if y1 < (a0.length : Int) then ((getI a0 y1).bind fun t2 => (a1 t2).bind fun t3 => if t3 = true then (some (Sum.inl y1)) else (slices_IndexFunc_impl_Goat_impl_Goat.l1 a0 a1 k (IntKind.i64.wrap (y1 + 1)))) else (some (Sum.inr ()))
def slices_IndexFunc_impl_Goat_impl_Goat.f (k : Nat) (a0 : List Goat) (a1 : Goat → Option Bool) : Option Int := (slices_IndexFunc_impl_Goat_impl_Goat.l1 a0 a1 k 0).bind fun s72 => match s72 with | .inl r => some r | .inr _ => some (-1)
theorem slices_IndexFunc_impl_Goat_impl_Goat.c (k : Nat) (w : World) (Aa0 : Option Addr) (ca0 : Nat) (a0 : List Goat) (hr0 : Rd cGoat w Aa0 a0) (hc0 : a0.length ≤ ca0) (na1 : Nat) (fsa1 capa1 : Array Value) (hb1 : hasBody Tryz.prog na1) (a1 : Goat → Option Bool) (hf1 : ∀ (z0 : Goat) (r : Bool), a1 z0 = some r → ∀ w', Chg no w w' → CV Tryz.prog na1 (fsa1 ++ [.agg (cGoat.enc z0).toArray].toArray ++ capa1) w' fun v w'' => v = .bool r ∧ Ext w' w'') (r : Int) (H : slices_IndexFunc_impl_Goat_impl_Goat.f k a0 a1 = some r) :
 CV Tryz.prog 90 [.slice Aa0 a0.length ca0, .func (.func na1) fsa1 capa1].toArray w fun v w' => v = .int .i64 r ∧ Ext w w' := by
 have hS := ((St.init w no).param cGoat Aa0 ca0 a0 hr0 hc0)
 unfold slices_IndexFunc_impl_Goat_impl_Goat.f at H
 refine CV.body Tryz.func90 Z Tryz.ntmps90 Z ?_
 refine CJ.seq (CJ.region ?_)
 refine OJ.pures oU 1 Z (OJ.nil (EJ.next ?_))
 refine CJ.seq ?_
 refine CJ.seq (CJ.region ?_)
 refine OJ.pures oU 3 Z (OJ.nil (EJ.next ?_))
 obtain ⟨j72, H, K72⟩ := pbind H
 refine CJ.cut1 (fun F w1 => (some (Sum.inr ()) : Option (Int ⊕ Unit)) = some j72 ∧ F = [] ∧ St w no w1 [] [roC cGoat Aa0 ca0 a0]) ?_ ?_
 ·skip
  refine CJ.block ?_
  refine CJ.loop (fun k F w1 => ∃ (y1 : Int), F = [(0, .slice Aa0 a0.length ca0), (1, .func (.func na1) fsa1 capa1), (7, .int .i64 (a0.length : Int)), (8, .int .i64 y1)] ∧ St w no w1 [] [roC cGoat Aa0 ca0 a0] ∧ slices_IndexFunc_impl_Goat_impl_Goat.l1 a0 a1 k y1 = some j72) k (F' := [(0, .slice Aa0 a0.length ca0), (1, .func (.func na1) fsa1 capa1), (7, .int .i64 (a0.length : Int)), (8, .int .i64 0)]) ⟨Z, Z, Z, Z, trivial⟩ ⟨0, Z, hS.pick [] [0] Z, H⟩ ?_
  rintro k F w1 ⟨y1, rfl, hS, H⟩
  cases k with
  | zero => rw [slices_IndexFunc_impl_Goat_impl_Goat.l1] at H; cases H
  | succ k =>
    rw [slices_IndexFunc_impl_Goat_impl_Goat.l1] at H
    refine CJ.seq (CJ.region ?_)
    refine OJ.pures oU 1 Z (OJ.nil (EJ.next ?_))
    refine CJ.seq ?_
    refine CJ.cond Z (fun hb => ?_) (fun hb => ?_)
    · replace H := pif_t (of_decide_eq_true hb) H
      refine CJ.skip (EJ.next ?_)
      refine CJ.seq ?_
      refine CJ.block ?_
      refine CJ.seq (CJ.region ?_)
      refine OJ.pures oU 2 Z (OJ.nil (EJ.next ?_))
      refine CJ.seq (CJ.region ?_)
      refine OJ.pures oU 3 Z ?_
      obtain ⟨t2, ht2, H⟩ := pbind H
      obtain ⟨ad2, e2⟩ := (hS.rd' (i := 0) rfl).some' ht2
      refine OJ.st Z Z Z (SR.idxS oU oI Z Z Z Z e2 Z (getI_some ht2).1) ?_
      refine OJ.st Z Z Z (SR.load Z Z (fun w' hx => ldE oU oI Z Z Z (CA.ext ((hS.rd' (i := 0) Z).at_ e2 ht2) hx) Z)) ?_
      obtain ⟨t3, ht3, H⟩ := pbind H
      refine OJ.call Z Z (Nat.le_of_ble_eq_true Z) Z Z Z hb1 Z (hf1 t2 _ ht3 _ hS.chg) ?_
      rintro _ w1 ⟨rfl, hs⟩
      replace hS := hS.grow hs
      refine OJ.nil (EJ.next ?_)
      refine CJ.cond Z (fun hb => ?_) (fun hb => ?_)
      · replace H := pif_t hb H
        refine CJ.seq (CJ.region ?_)
        refine OJ.pures oU 2 Z (OJ.nil (EJ.next ?_))
        refine CJ.ret (EJ.bkR (EJ.skR (EJ.skR (EJ.bkR (EJ.skR (EJ.skR (?_)))))))
        first | (obtain rfl := Option.some.inj H; have H := K72) | (obtain ⟨q72, H2, e72⟩ := pbind H; obtain rfl := Option.some.inj e72; obtain rfl := Option.some.inj K72; have H := H2)
        obtain rfl := Option.some.inj H
        exact EJ.fin Z (.tmp Z .nil) ⟨Z, hS.ext⟩
      · replace H := pifb_f hb H
        refine CJ.skip (EJ.blk (EJ.next ?_))
        refine CJ.region ?_
        refine OJ.pures oU 2 Z ?_
        refine OJ.nil ?_
        exact EJ.round k (F' := [(0, .slice Aa0 a0.length ca0), (1, .func (.func na1) fsa1 capa1), (7, .int .i64 (a0.length : Int)), (8, .int .i64 (IntKind.i64.wrap (y1 + 1)))]) ⟨Z, Z, Z, Z, trivial⟩ (Nat.lt_succ_self _) ⟨(IntKind.i64.wrap (y1 + 1)), Z, hS.pick [] [0] Z, H⟩
    · replace H := pif_f (of_decide_eq_false hb) H
      refine CJ.exit (EJ.skE (EJ.skE (EJ.hit (?_))))
      exact EJ.meet (F' := []) trivial ⟨H, Z, hS.pick [] [0] Z⟩
 rintro F w1 ⟨he, rfl, hS⟩
 obtain rfl := Option.some.inj he
 have H := K72
 refine EJ.next ?_
 refine CJ.seq (CJ.region ?_)
 refine OJ.pures oU 1 Z (OJ.nil (EJ.next ?_))
 refine CJ.ret (?_)
 obtain rfl := Option.some.inj H
 exact EJ.fin Z (.tmp Z .nil) ⟨Z, hS.ext⟩

def slices_ContainsFunc_impl_Goat_impl_Goat.f (k : Nat) (a0 : List Goat) (a1 : Goat → Option Bool) : Option Bool := (slices_IndexFunc_impl_Goat_impl_Goat.f k a0 a1).bind fun t1 => some (decide (0 ≤ t1))
theorem slices_ContainsFunc_impl_Goat_impl_Goat.c (k : Nat) (w : World) (Aa0 : Option Addr) (ca0 : Nat) (a0 : List Goat) (hr0 : Rd cGoat w Aa0 a0) (hc0 : a0.length ≤ ca0) (na1 : Nat) (fsa1 capa1 : Array Value) (hb1 : hasBody Tryz.prog na1) (a1 : Goat → Option Bool) (hf1 : ∀ (z0 : Goat) (r : Bool), a1 z0 = some r → ∀ w', Chg no w w' → CV Tryz.prog na1 (fsa1 ++ [.agg (cGoat.enc z0).toArray].toArray ++ capa1) w' fun v w'' => v = .bool r ∧ Ext w' w'') (r : Bool) (H : slices_ContainsFunc_impl_Goat_impl_Goat.f k a0 a1 = some r) :
 CV Tryz.prog 35 [.slice Aa0 a0.length ca0, .func (.func na1) fsa1 capa1].toArray w fun v w' => v = .bool r ∧ Ext w w' := by
 have hS := ((St.init w no).param cGoat Aa0 ca0 a0 hr0 hc0)
 unfold slices_ContainsFunc_impl_Goat_impl_Goat.f at H
 refine CV.body Tryz.func35 Z Tryz.ntmps35 Z ?_
 refine CJ.seq (CJ.region ?_)
 refine OJ.pures oU 1 Z (OJ.nil (EJ.next ?_))
 refine CJ.seq (CJ.region ?_)
 refine OJ.pures oU 2 Z ?_
 obtain ⟨t1, ht1, H⟩ := pbind H
 refine OJ.callF Z Z Z Z Z hb90 Z (slices_IndexFunc_impl_Goat_impl_Goat.c k _ Aa0 ca0 a0 (hS.rd' (i := 0) Z) (hS.le' (i := 0) Z) na1 fsa1 capa1 hb1 a1 (fun z0 r h w' hx => hf1 z0 r h w' (hS.chg.then hx (fun _ _ e => e.elim))) _ ht1) ?_
 rintro _ w1 ⟨rfl, hs⟩
 replace hS := hS.grow hs
 refine OJ.pures oU 2 Z (OJ.nil (EJ.next ?_))
 refine CJ.ret (?_)
 obtain rfl := Option.some.inj H
 exact EJ.fin Z (.tmp Z .nil) ⟨Z, hS.ext⟩

def impl_within.f (a0 : Int) (a1 : Int) (a2 : Int) : Option Bool := if a1 ≤ a0 then (some (decide (a0 ≤ a2))) else (some false)
theorem impl_within.c (w : World) (a0 : Int) (a1 : Int) (a2 : Int) (r : Bool) (H : impl_within.f a0 a1 a2 = some r) :
 CV Tryz.prog 74 [.int .i64 a0, .int .i64 a1, .int .i64 a2].toArray w fun v w' => v = .bool r ∧ Ext w w' := by
 have hS := (St.init w no)
 unfold impl_within.f at H
 refine CV.body Tryz.func74 Z Tryz.ntmps74 Z ?_
 refine CJ.seq (CJ.region ?_)
 refine OJ.pures oU 1 Z (OJ.nil (EJ.next ?_))
 refine CJ.seq (CJ.region ?_)
 refine OJ.pures oU 4 Z ?_
 refine OJ.split (t := 10) Z (fun hb => ?_) (fun hb => ?_)
 ·replace H := pif_t (of_decide_eq_true hb) H
  refine OJ.pures oU 5 Z (OJ.nil (EJ.next ?_))
  refine CJ.ret (?_)
  obtain rfl := Option.some.inj H
  exact EJ.fin Z (.tmp Z .nil) ⟨Z, hS.ext⟩
 replace H := pif_f (of_decide_eq_false hb) H
 refine OJ.pures oU 5 Z (OJ.nil (EJ.next ?_))
 refine CJ.ret (?_)
 obtain rfl := Option.some.inj H
 exact EJ.fin Z (.tmp Z .nil) ⟨Z, hS.ext⟩

def impl_Pasture_isCell.f (a0 : Pasture) (a1 : Spot) : Option Bool := (impl_within.f (IntKind.i64.wrap a1.X) 0 (IntKind.i64.wrap ((if 10 < (IntKind.i64.wrap a0.Wide) then 10 else (IntKind.i64.wrap a0.Wide)) - 1))).bind fun t3 => if t3 = true then ((impl_within.f (IntKind.i64.wrap a1.Y) 0 (IntKind.i64.wrap ((if 10 < (IntKind.i64.wrap a0.High) then 10 else (IntKind.i64.wrap a0.High)) - 1))).bind fun t4 => some t4) else (some false)
theorem impl_Pasture_isCell.c (w : World) (a0 : Pasture) (a1 : Spot) (r : Bool) (H : impl_Pasture_isCell.f a0 a1 = some r) :
 CV Tryz.prog 56 [.agg (cPasture.enc a0).toArray, .agg (cSpot.enc a1).toArray].toArray w fun v w' => v = .bool r ∧ Ext w w' := by
 have hS := (St.init w no)
 unfold impl_Pasture_isCell.f at H
 refine CV.body Tryz.func56 Z Tryz.ntmps56 Z ?_
 refine CJ.seq (CJ.region ?_)
 refine OJ.ef Z Z Z (Ef.box hS Z Z (cPasture.enc a0) Z) ?_
 rintro _ w1 ⟨b1, rfl, hS⟩
 refine OJ.ef Z Z Z (Ef.box hS Z Z (cSpot.enc a1) Z) ?_
 rintro _ w1 ⟨b2, rfl, hS⟩
 refine OJ.pures oU 1 Z (OJ.nil (EJ.next ?_))
 refine CJ.seq (CJ.region ?_)
 refine OJ.st Z Z Z (SR.fieldAddr oU oI Z Z Z Z Z Z) ?_
 refine OJ.st Z Z Z (SR.load Z Z (fun w' hx => ld1 oU Z Z (CA.ext (CA.sub (hS.cells (i := 1) Z) 0) hx) Z)) ?_
 refine OJ.pures oU 1 Z ?_
 refine OJ.st Z Z Z (SR.fieldAddr oU oI Z Z Z Z Z Z) ?_
 refine OJ.st Z Z Z (SR.load Z Z (fun w' hx => ld1 oU Z Z (CA.ext (CA.fld (hS.cells (i := 0) Z) (mid_part (fe_Pasture_0 _) (fl_Pasture_0 _) ((ci .i8).len _))) hx) Z)) ?_
 refine OJ.pures oU 3 Z ?_
 obtain ⟨t3, ht3, H⟩ := pbind H
 refine OJ.callF Z Z Z Z Z hb74 Z (impl_within.c _ (IntKind.i64.wrap a1.X) 0 (IntKind.i64.wrap ((if 10 < (IntKind.i64.wrap a0.Wide) then 10 else (IntKind.i64.wrap a0.Wide)) - 1)) _ ht3) ?_
 rintro _ w1 ⟨rfl, hs⟩
 replace hS := hS.grow hs
 refine OJ.pures oU 1 Z ?_
 refine OJ.split (t := 14) Z (fun hb => ?_) (fun hb => ?_)
 ·replace H := pif_t hb H
  refine OJ.st Z Z Z (SR.fieldAddr oU oI Z Z Z Z Z Z) ?_
  refine OJ.st Z Z Z (SR.load Z Z (fun w' hx => ld1 oU Z Z (CA.ext (CA.sub (hS.cells (i := 1) Z) 1) hx) Z)) ?_
  refine OJ.pures oU 1 Z ?_
  refine OJ.st Z Z Z (SR.fieldAddr oU oI Z Z Z Z Z Z) ?_
  refine OJ.st Z Z Z (SR.load Z Z (fun w' hx => ld1 oU Z Z (CA.ext (CA.fld (hS.cells (i := 0) Z) (mid_part (fe_Pasture_1 _) (fl_Pasture_1 _) ((ci .i8).len _))) hx) Z)) ?_
  refine OJ.pures oU 3 Z ?_
  obtain ⟨t4, ht4, H⟩ := pbind H
  refine OJ.callF Z Z Z Z Z hb74 Z (impl_within.c _ (IntKind.i64.wrap a1.Y) 0 (IntKind.i64.wrap ((if 10 < (IntKind.i64.wrap a0.High) then 10 else (IntKind.i64.wrap a0.High)) - 1)) _ ht4) ?_
  rintro _ w1 ⟨rfl, hs⟩
  replace hS := hS.grow hs
  refine OJ.pures oU 2 Z (OJ.nil (EJ.next ?_))
  refine CJ.ret (?_)
  obtain rfl := Option.some.inj H
  exact EJ.fin Z (.tmp Z .nil) ⟨Z, hS.ext⟩
 replace H := pifb_f hb H
 refine OJ.pures oU 11 Z (OJ.nil (EJ.next ?_))
 refine CJ.ret (?_)
 obtain rfl := Option.some.inj H
 exact EJ.fin Z (.tmp Z .nil) ⟨Z, hS.ext⟩

def impl_isSpot.f (a0 : Spot) : Option Bool := (impl_Pasture_isCell.f (⟨10, 10, (Arr.mk' (Arr.mk' 0 : Arr 10 Int) : Arr 10 (Arr 10 Int)), (Arr.mk' 0 : Arr 10 Int), (Arr.mk' 0 : Arr 10 Int)⟩ : Pasture) a0).bind fun t2 => some t2
theorem impl_isSpot.c (w : World) (a0 : Spot) (r : Bool) (H : impl_isSpot.f a0 = some r) :
 CV Tryz.prog 37 [.agg (cSpot.enc a0).toArray].toArray w fun v w' => v = .bool r ∧ Ext w w' := by
 have hS := (St.init w no)
 unfold impl_isSpot.f at H
 refine CV.body Tryz.func37 Z Tryz.ntmps37 Z ?_
 refine CJ.seq (CJ.region ?_)
 refine OJ.ef Z Z Z (Ef.box hS Z Z (cSpot.enc a0) Z) ?_
 rintro _ w1 ⟨b1, rfl, hS⟩
 refine OJ.pures oU 1 Z (OJ.nil (EJ.next ?_))
 refine CJ.seq (CJ.region ?_)
 refine OJ.st Z Z Z (SR.build (C := cPasture) oU oI Z Z Z (zs := [.int .i8 0, .int .i8 0, .int .i16 0, .int .i16 0, .int .i16 0, .int .i16 0, .int .i16 0, .int .i16 0, .int .i16 0, .int .i16 0, .int .i16 0, .int .i16 0, .int .i16 0, .int .i16 0, .int .i16 0, .int .i16 0, .int .i16 0, .int .i16 0, .int .i16 0, .int .i16 0, .int .i16 0, .int .i16 0, .int .i16 0, .int .i16 0, .int .i16 0, .int .i16 0, .int .i16 0, .int .i16 0, .int .i16 0, .int .i16 0, .int .i16 0, .int .i16 0, .int .i16 0, .int .i16 0, .int .i16 0, .int .i16 0, .int .i16 0, .int .i16 0, .int .i16 0, .int .i16 0, .int .i16 0, .int .i16 0, .int .i16 0, .int .i16 0, .int .i16 0, .int .i16 0, .int .i16 0, .int .i16 0, .int .i16 0, .int .i16 0, .int .i16 0, .int .i16 0, .int .i16 0, .int .i16 0, .int .i16 0, .int .i16 0, .int .i16 0, .int .i16 0, .int .i16 0, .int .i16 0, .int .i16 0, .int .i16 0, .int .i16 0, .int .i16 0, .int .i16 0, .int .i16 0, .int .i16 0, .int .i16 0, .int .i16 0, .int .i16 0, .int .i16 0, .int .i16 0, .int .i16 0, .int .i16 0, .int .i16 0, .int .i16 0, .int .i16 0, .int .i16 0, .int .i16 0, .int .i16 0, .int .i16 0, .int .i16 0, .int .i16 0, .int .i16 0, .int .i16 0, .int .i16 0, .int .i16 0, .int .i16 0, .int .i16 0, .int .i16 0, .int .i16 0, .int .i16 0, .int .i16 0, .int .i16 0, .int .i16 0, .int .i16 0, .int .i16 0, .int .i16 0, .int .i16 0, .int .i16 0, .int .i16 0, .int .i16 0, .int .u16 0, .int .u16 0, .int .u16 0, .int .u16 0, .int .u16 0, .int .u16 0, .int .u16 0, .int .u16 0, .int .u16 0, .int .u16 0, .int .u16 0, .int .u16 0, .int .u16 0, .int .u16 0, .int .u16 0, .int .u16 0, .int .u16 0, .int .u16 0, .int .u16 0, .int .u16 0]) Z Z Z (⟨10, 10, (Arr.mk' (Arr.mk' 0 : Arr 10 Int) : Arr 10 (Arr 10 Int)), (Arr.mk' 0 : Arr 10 Int), (Arr.mk' 0 : Arr 10 Int)⟩ : Pasture) Z) ?_
 refine OJ.st Z Z Z (SR.load Z Z (fun w' hx => ldE oU oI Z Z Z (CA.ext (hS.cells (i := 0) Z) hx) Z)) ?_
 obtain ⟨t2, ht2, H⟩ := pbind H
 refine OJ.callF Z Z Z Z Z hb56 Z (impl_Pasture_isCell.c _ (⟨10, 10, (Arr.mk' (Arr.mk' 0 : Arr 10 Int) : Arr 10 (Arr 10 Int)), (Arr.mk' 0 : Arr 10 Int), (Arr.mk' 0 : Arr 10 Int)⟩ : Pasture) a0 _ ht2) ?_
 rintro _ w1 ⟨rfl, hs⟩
 replace hS := hS.grow hs
 refine OJ.pures oU 1 Z (OJ.nil (EJ.next ?_))
 refine CJ.ret (?_)
 obtain rfl := Option.some.inj H
 exact EJ.fin Z (.tmp Z .nil) ⟨Z, hS.ext⟩

def impl_isGoat.f (a0 : Goat) : Option Bool := (if a0.Rope ≠ (-1) then (some true) else (some (decide (a0.Stake = (⟨0, 0⟩ : Spot))))).bind fun y2 => (impl_within.f (IntKind.i64.wrap a0.Rope) (-1) 200).bind fun t3 => if t3 = true then ((impl_within.f (IntKind.i64.wrap a0.Eats) 0 100).bind fun t4 => if t4 = true then ((impl_within.f (IntKind.i64.wrap a0.Likes) 0 1).bind fun t5 => if t5 = true then (some y2) else (some false)) else (some false)) else (some false)
theorem impl_isGoat.c (w : World) (a0 : Goat) (r : Bool) (H : impl_isGoat.f a0 = some r) :
 CV Tryz.prog 38 [.agg (cGoat.enc a0).toArray].toArray w fun v w' => v = .bool r ∧ Ext w w' := by
 have hS := (St.init w no)
 unfold impl_isGoat.f at H
 refine CV.body Tryz.func38 Z Tryz.ntmps38 Z ?_
 refine CJ.seq (CJ.region ?_)
 refine OJ.ef Z Z Z (Ef.box hS Z Z (cGoat.enc a0) Z) ?_
 rintro _ w1 ⟨b1, rfl, hS⟩
 refine OJ.pures oU 1 Z (OJ.nil (EJ.next ?_))
 obtain ⟨j73, H, K73⟩ := pbind H
 refine CJ.cut (fun F w1 => ∃ (y2 : Bool) , (some y2 : Option Bool) = some j73 ∧ F = [(1, .pointer (some ⟨b1, 0, none⟩)), (3, .bool y2)] ∧ St w no w1 [box b1 (cGoat.enc a0) 50] []) ?_ ?_
 ·skip
  refine CJ.region ?_
  refine OJ.st Z Z Z (SR.fieldAddr oU oI Z Z Z Z Z Z) ?_
  refine OJ.st Z Z Z (SR.load Z Z (fun w' hx => ld1 oU Z Z (CA.ext (CA.sub (hS.cells (i := 0) Z) 4) hx) Z)) ?_
  refine OJ.pures oU 2 Z ?_
  refine OJ.split (t := 7) Z (fun hb => ?_) (fun hb => ?_)
  ·replace H := pif_t (of_decide_eq_true hb) H
   refine OJ.pures oU 6 Z ?_
   refine OJ.nil ?_
   exact EJ.meet (F' := [(1, .pointer (some ⟨b1, 0, none⟩)), (3, .bool true)]) ⟨Z, Z, trivial⟩ ⟨true, H, Z, hS.pick [0] [] Z⟩
  replace H := pif_f (of_decide_eq_false hb) H
  refine OJ.st Z Z Z (SR.fieldAddr oU oI Z Z Z Z Z Z) ?_
  refine OJ.st Z Z Z (SR.load Z Z (fun w' hx => ldN oU oI Z Z Z (CA.ext (CA.sub (hS.cells (i := 0) Z) 2) hx) (cSpot.len _) Z)) ?_
  refine OJ.st Z Z Z (SR.build (C := cSpot) oU oI Z Z Z (zs := [.int .i8 0, .int .i8 0]) Z Z Z (⟨0, 0⟩ : Spot) Z) ?_
  refine OJ.st Z Z Z (SR.eqS eqT48 eqG48 Z Z Z (Z : _ = (cSpot.enc a0.Stake).toArray) (Z : _ = (cSpot.enc (⟨0, 0⟩ : Spot)).toArray)) ?_
  refine OJ.pures oU 2 Z ?_
  refine OJ.nil ?_
  exact EJ.meet (F' := [(1, .pointer (some ⟨b1, 0, none⟩)), (3, .bool (decide (a0.Stake = (⟨0, 0⟩ : Spot))))]) ⟨Z, Z, trivial⟩ ⟨(decide (a0.Stake = (⟨0, 0⟩ : Spot))), H, Z, hS.pick [0] [] Z⟩
 rintro F w1 ⟨y2, he, rfl, hS⟩
 obtain rfl := Option.some.inj he
 have H := K73
 refine CJ.seq (CJ.region ?_)
 refine OJ.st Z Z Z (SR.fieldAddr oU oI Z Z Z Z Z Z) ?_
 refine OJ.st Z Z Z (SR.load Z Z (fun w' hx => ld1 oU Z Z (CA.ext (CA.sub (hS.cells (i := 0) Z) 4) hx) Z)) ?_
 refine OJ.pures oU 1 Z ?_
 obtain ⟨t3, ht3, H⟩ := pbind H
 refine OJ.callF Z Z Z Z Z hb74 Z (impl_within.c _ (IntKind.i64.wrap a0.Rope) (-1) 200 _ ht3) ?_
 rintro _ w1 ⟨rfl, hs⟩
 replace hS := hS.grow hs
 refine OJ.pures oU 1 Z ?_
 refine OJ.split (t := 17) Z (fun hb => ?_) (fun hb => ?_)
 ·replace H := pif_t hb H
  refine OJ.st Z Z Z (SR.fieldAddr oU oI Z Z Z Z Z Z) ?_
  refine OJ.st Z Z Z (SR.load Z Z (fun w' hx => ld1 oU Z Z (CA.ext (CA.sub (hS.cells (i := 0) Z) 5) hx) Z)) ?_
  refine OJ.pures oU 1 Z ?_
  obtain ⟨t4, ht4, H⟩ := pbind H
  refine OJ.callF Z Z Z Z Z hb74 Z (impl_within.c _ (IntKind.i64.wrap a0.Eats) 0 100 _ ht4) ?_
  rintro _ w1 ⟨rfl, hs⟩
  replace hS := hS.grow hs
  refine OJ.pures oU 2 Z ?_
  refine OJ.split (t := 23) Z (fun hb => ?_) (fun hb => ?_)
  ·replace H := pif_t hb H
   refine OJ.st Z Z Z (SR.fieldAddr oU oI Z Z Z Z Z Z) ?_
   refine OJ.st Z Z Z (SR.load Z Z (fun w' hx => ld1 oU Z Z (CA.ext (CA.sub (hS.cells (i := 0) Z) 6) hx) Z)) ?_
   refine OJ.pures oU 1 Z ?_
   obtain ⟨t5, ht5, H⟩ := pbind H
   refine OJ.callF Z Z Z Z Z hb74 Z (impl_within.c _ (IntKind.i64.wrap a0.Likes) 0 1 _ ht5) ?_
   rintro _ w1 ⟨rfl, hs⟩
   replace hS := hS.grow hs
   refine OJ.pures oU 2 Z ?_
   refine OJ.split (t := 29) Z (fun hb => ?_) (fun hb => ?_)
   ·replace H := pif_t hb H
    refine OJ.pures oU 3 Z (OJ.nil (EJ.next ?_))
    refine CJ.ret (?_)
    obtain rfl := Option.some.inj H
    exact EJ.fin Z (.tmp Z .nil) ⟨Z, hS.ext⟩
   replace H := pifb_f hb H
   refine OJ.pures oU 3 Z (OJ.nil (EJ.next ?_))
   refine CJ.ret (?_)
   obtain rfl := Option.some.inj H
   exact EJ.fin Z (.tmp Z .nil) ⟨Z, hS.ext⟩
  replace H := pifb_f hb H
  refine OJ.pures oU 9 Z (OJ.nil (EJ.next ?_))
  refine CJ.ret (?_)
  obtain rfl := Option.some.inj H
  exact EJ.fin Z (.tmp Z .nil) ⟨Z, hS.ext⟩
 replace H := pifb_f hb H
 refine OJ.pures oU 15 Z (OJ.nil (EJ.next ?_))
 refine CJ.ret (?_)
 obtain rfl := Option.some.inj H
 exact EJ.fin Z (.tmp Z .nil) ⟨Z, hS.ext⟩

def impl_GoatsText_1.f (a0 : Goat) : Option Bool := (impl_isSpot.f a0.At).bind fun t2 => if (!t2) = true then (some true) else ((impl_isSpot.f a0.Stake).bind fun t3 => if (!t3) = true then (some true) else ((impl_isGoat.f a0).bind fun t4 => some (!t4)))
theorem impl_GoatsText_1.c (w : World) (a0 : Goat) (r : Bool) (H : impl_GoatsText_1.f a0 = some r) :
 CV Tryz.prog 36 [.agg (cGoat.enc a0).toArray].toArray w fun v w' => v = .bool r ∧ Ext w w' := by
 have hS := (St.init w no)
 unfold impl_GoatsText_1.f at H
 refine CV.body Tryz.func36 Z Tryz.ntmps36 Z ?_
 refine CJ.seq (CJ.region ?_)
 refine OJ.ef Z Z Z (Ef.box hS Z Z (cGoat.enc a0) Z) ?_
 rintro _ w1 ⟨b1, rfl, hS⟩
 refine OJ.pures oU 1 Z (OJ.nil (EJ.next ?_))
 refine CJ.seq (CJ.region ?_)
 refine OJ.st Z Z Z (SR.fieldAddr oU oI Z Z Z Z Z Z) ?_
 refine OJ.st Z Z Z (SR.load Z Z (fun w' hx => ldN oU oI Z Z Z (CA.ext (CA.sub (hS.cells (i := 0) Z) 0) hx) (cSpot.len _) Z)) ?_
 obtain ⟨t2, ht2, H⟩ := pbind H
 refine OJ.callF Z Z Z Z Z hb37 Z (impl_isSpot.c _ a0.At _ ht2) ?_
 rintro _ w1 ⟨rfl, hs⟩
 replace hS := hS.grow hs
 refine OJ.pures oU 2 Z ?_
 refine OJ.split (t := 7) Z (fun hb => ?_) (fun hb => ?_)
 ·replace H := pif_t hb H
  refine OJ.pures oU 11 Z (OJ.nil (EJ.next ?_))
  refine CJ.ret (?_)
  obtain rfl := Option.some.inj H
  exact EJ.fin Z (.tmp Z .nil) ⟨Z, hS.ext⟩
 replace H := pifb_f hb H
 refine OJ.st Z Z Z (SR.fieldAddr oU oI Z Z Z Z Z Z) ?_
 refine OJ.st Z Z Z (SR.load Z Z (fun w' hx => ldN oU oI Z Z Z (CA.ext (CA.sub (hS.cells (i := 0) Z) 2) hx) (cSpot.len _) Z)) ?_
 obtain ⟨t3, ht3, H⟩ := pbind H
 refine OJ.callF Z Z Z Z Z hb37 Z (impl_isSpot.c _ a0.Stake _ ht3) ?_
 rintro _ w1 ⟨rfl, hs⟩
 replace hS := hS.grow hs
 refine OJ.pures oU 3 Z ?_
 refine OJ.split (t := 13) Z (fun hb => ?_) (fun hb => ?_)
 ·replace H := pif_t hb H
  refine OJ.pures oU 5 Z (OJ.nil (EJ.next ?_))
  refine CJ.ret (?_)
  obtain rfl := Option.some.inj H
  exact EJ.fin Z (.tmp Z .nil) ⟨Z, hS.ext⟩
 replace H := pifb_f hb H
 refine OJ.st Z Z Z (SR.load Z Z (fun w' hx => ldE oU oI Z Z Z (CA.ext (hS.cells (i := 0) Z) hx) Z)) ?_
 obtain ⟨t4, ht4, H⟩ := pbind H
 refine OJ.callF Z Z Z Z Z hb38 Z (impl_isGoat.c _ a0 _ ht4) ?_
 rintro _ w1 ⟨rfl, hs⟩
 replace hS := hS.grow hs
 refine OJ.pures oU 3 Z (OJ.nil (EJ.next ?_))
 refine CJ.ret (?_)
 obtain rfl := Option.some.inj H
 exact EJ.fin Z (.tmp Z .nil) ⟨Z, hS.ext⟩

def strconv_FormatInt.f (a0 : Int) (a1 : Int) : Option ByteArray := (chk (a1 = 10 ∧ -9223372036854775808 ≤ a0 ∧ a0 ≤ 9223372036854775807)).bind fun _ => some (itoaB a0)
theorem strconv_FormatInt.c (w : World) (a0 : Int) (a1 : Int) (hT : (envC Tryz.prog 0).holds w) (r : ByteArray) (H : strconv_FormatInt.f a0 a1 = some r) :
 CV Tryz.prog 91 [.int .i64 a0, .int .i64 a1].toArray w fun v w' => v = .string r ∧ Ext w w' := by
 unfold strconv_FormatInt.f at H
 obtain ⟨u, hu, H⟩ := pbind H
 have h := chk_some hu
 obtain rfl := Option.some.inj H
 obtain ⟨rfl, h0, h1⟩ := h
 exact fmt_cv hT.1 h0 h1 (fun n h0 h1 w ht => Any.strconv_FormatInt_10 layFmt n h0 h1 w ht)

def impl_decimal.f (a0 : Int) : Option ByteArray := (strconv_FormatInt.f a0 10).bind fun t1 => some t1
theorem impl_decimal.c (w : World) (a0 : Int) (hT : (envC Tryz.prog 0).holds w) (r : ByteArray) (H : impl_decimal.f a0 = some r) :
 CV Tryz.prog 40 [.int .i64 a0].toArray w fun v w' => v = .string r ∧ Ext w w' := by
 have hS := ((St.init w no).paramT (envC Tryz.prog 0) hT)
 unfold impl_decimal.f at H
 refine CV.body Tryz.func40 Z Tryz.ntmps40 Z ?_
 refine CJ.seq (CJ.region ?_)
 refine OJ.pures oU 1 Z (OJ.nil (EJ.next ?_))
 refine CJ.seq (CJ.region ?_)
 refine OJ.pures oU 1 Z ?_
 obtain ⟨t1, ht1, H⟩ := pbind H
 refine OJ.callF Z Z Z Z Z hb91 Z (strconv_FormatInt.c _ a0 10 (hS.ro (i := 0) Z) _ ht1) ?_
 rintro _ w1 ⟨rfl, hs⟩
 replace hS := hS.grow hs
 refine OJ.pures oU 1 Z (OJ.nil (EJ.next ?_))
 refine CJ.ret (?_)
 obtain rfl := Option.some.inj H
 exact EJ.fin Z (.tmp Z .nil) ⟨Z, hS.ext⟩

def impl_Spot_text.f (a0 : Spot) : Option ByteArray := (impl_decimal.f (IntKind.i64.wrap a0.X)).bind fun t2 => (chk (t2.size + (⟨#[44]⟩ : ByteArray).size ≤ 4294967296)).bind fun u3 => (impl_decimal.f (IntKind.i64.wrap a0.Y)).bind fun t4 => (chk ((t2 ++ (⟨#[44]⟩ : ByteArray)).size + t4.size ≤ 4294967296)).bind fun u5 => some ((t2 ++ (⟨#[44]⟩ : ByteArray)) ++ t4)
theorem impl_Spot_text.c (w : World) (a0 : Spot) (hT : (envC Tryz.prog 0).holds w) (r : ByteArray) (H : impl_Spot_text.f a0 = some r) :
 CV Tryz.prog 39 [.agg (cSpot.enc a0).toArray].toArray w fun v w' => v = .string r ∧ Ext w w' := by
 have hS := ((St.init w no).paramT (envC Tryz.prog 0) hT)
 unfold impl_Spot_text.f at H
 refine CV.body Tryz.func39 Z Tryz.ntmps39 Z ?_
 refine CJ.seq (CJ.region ?_)
 refine OJ.ef Z Z Z (Ef.box hS Z Z (cSpot.enc a0) Z) ?_
 rintro _ w1 ⟨b1, rfl, hS⟩
 refine OJ.pures oU 1 Z (OJ.nil (EJ.next ?_))
 refine CJ.seq ?_
 refine CJ.draw [] [0, 1, 2, 5, 6, 7, 3, 4, 8, 9, 10] mixed (by kernel_rfl) hS fun w1 hS => ?_
 refine DJ.st Z Z Z Z Z (SR.fieldAddr oU oI Z Z Z Z Z Z) ?_
 refine DJ.st Z Z Z Z Z (SR.load Z Z (fun w' hx => ld1 oU Z Z (CA.ext (CA.sub (hS.cells (i := 0) Z) 0) hx) Z)) ?_
 refine DJ.pures oU 1 Z ?_
 refine DJ.st Z Z Z Z Z (SR.fieldAddr oU oI Z Z Z Z Z Z) ?_
 refine DJ.st Z Z Z Z Z (SR.load Z Z (fun w' hx => ld1 oU Z Z (CA.ext (CA.sub (hS.cells (i := 0) Z) 1) hx) Z)) ?_
 refine DJ.pures oU 1 Z ?_
 obtain ⟨t2, ht2, H⟩ := pbind H
 refine DJ.callF rfl rfl rfl rfl rfl rfl rfl hb40 rfl (impl_decimal.c _ (IntKind.i64.wrap a0.X) (hS.ro (i := 0) rfl) _ ht2) (by rintro v w' ⟨rfl, hs⟩; exact hs) ?_
 rintro _ w1 ⟨rfl, hs⟩
 replace hS := hS.grow hs
 obtain ⟨u3, hu3, H⟩ := pbind H
 refine DJ.st Z Z Z Z Z (SR.concat Z Z Z (chk_some hu3)) ?_
 obtain ⟨t4, ht4, H⟩ := pbind H
 refine DJ.callF rfl rfl rfl rfl rfl rfl rfl hb40 rfl (impl_decimal.c _ (IntKind.i64.wrap a0.Y) (hS.ro (i := 0) rfl) _ ht4) (by rintro v w' ⟨rfl, hs⟩; exact hs) ?_
 rintro _ w1 ⟨rfl, hs⟩
 replace hS := hS.grow hs
 obtain ⟨u5, hu5, H⟩ := pbind H
 refine DJ.st Z Z Z Z Z (SR.concat Z Z Z (chk_some hu5)) ?_
 refine DJ.pures oU 1 Z ?_
 refine DJ.nil (EJ.next ?_)
 refine CJ.ret (?_)
 obtain rfl := Option.some.inj H
 exact EJ.fin Z (.tmp Z .nil) ⟨Z, hS.ext⟩

def impl_likings.f : Option (List ByteArray) := some ([(⟨#[114, 105, 99, 104]⟩ : ByteArray), (⟨#[110, 101, 97, 114]⟩ : ByteArray)] : List ByteArray)
theorem impl_likings.c (w : World)  (r : List ByteArray) (H : impl_likings.f = some r) :
 CV Tryz.prog 42 [].toArray w fun v w' => ∃ (A0 : Option Addr) (c0 : Nat), v = .slice A0 r.length c0 ∧ St w no w' [rowC G.cs A0 c0 9 r] [] := by
 have hS := (St.init w no)
 unfold impl_likings.f at H
 refine CV.body Tryz.func42 Z Tryz.ntmps42 Z ?_
 refine CJ.seq (CJ.region ?_)
 refine OJ.pures oU 1 Z (OJ.nil (EJ.next ?_))
 refine CJ.seq (CJ.region ?_)
 refine OJ.ef Z Z Z (Ef.lit oU oI hS (C := G.cs) Z Z Z Z Z Z ([(⟨#[114, 105, 99, 104]⟩ : ByteArray), (⟨#[110, 101, 97, 114]⟩ : ByteArray)] : List ByteArray) Z Z Z Z) ?_
 rintro _ w1 ⟨A1, rfl, hS⟩
 refine OJ.pures oU 1 Z (OJ.nil (EJ.next ?_))
 refine CJ.ret (?_)
 obtain rfl := Option.some.inj H
 exact EJ.fin Z (.tmp Z .nil) ⟨A1, (([(⟨#[114, 105, 99, 104]⟩ : ByteArray), (⟨#[110, 101, 97, 114]⟩ : ByteArray)] : List ByteArray).length), Z, hS.pick [0] [] Z⟩

def impl_GoatsText.l1 (a0 : List Goat) : Nat → ByteArray → Int → Option ByteArray
  | 0, _, _ => none
  | k + 1, y7, y10 => if y10 < (a0.length : Int) then ((getI a0 y10).bind fun t11 => if 0 ≤ t11.Rope then ((impl_Spot_text.f t11.Stake).bind fun t13 => (chk (t13.size + (⟨#[126]⟩ : ByteArray).size ≤ 4294967296)).bind fun u14 => (impl_decimal.f (IntKind.i64.wrap t11.Rope)).bind fun t15 => (chk ((t13 ++ (⟨#[126]⟩ : ByteArray)).size + t15.size ≤ 4294967296)).bind fun u16 => (impl_Spot_text.f t11.At).bind fun t17 => (chk (t17.size + (⟨#[32]⟩ : ByteArray).size ≤ 4294967296)).bind fun u18 => (chk ((t17 ++ (⟨#[32]⟩ : ByteArray)).size + ((t13 ++ (⟨#[126]⟩ : ByteArray)) ++ t15).size ≤ 4294967296)).bind fun u19 => (chk (((t17 ++ (⟨#[32]⟩ : ByteArray)) ++ ((t13 ++ (⟨#[126]⟩ : ByteArray)) ++ t15)).size + (⟨#[32]⟩ : ByteArray).size ≤ 4294967296)).bind fun u20 => (impl_decimal.f (IntKind.i64.wrap t11.Eats)).bind fun t21 => (chk ((((t17 ++ (⟨#[32]⟩ : ByteArray)) ++ ((t13 ++ (⟨#[126]⟩ : ByteArray)) ++ t15)) ++ (⟨#[32]⟩ : ByteArray)).size + t21.size ≤ 4294967296)).bind fun u22 => (chk (((((t17 ++ (⟨#[32]⟩ : ByteArray)) ++ ((t13 ++ (⟨#[126]⟩ : ByteArray)) ++ t15)) ++ (⟨#[32]⟩ : ByteArray)) ++ t21).size + (⟨#[32]⟩ : ByteArray).size ≤ 4294967296)).bind fun u23 => (impl_likings.f).bind fun t24 => (getI t24 t11.Likes).bind fun t27 => (chk ((((((t17 ++ (⟨#[32]⟩ : ByteArray)) ++ ((t13 ++ (⟨#[126]⟩ : ByteArray)) ++ t15)) ++ (⟨#[32]⟩ : ByteArray)) ++ t21) ++ (⟨#[32]⟩ : ByteArray)).size + t27.size ≤ 4294967296)).bind fun u28 => (chk (((((((t17 ++ (⟨#[32]⟩ : ByteArray)) ++ ((t13 ++ (⟨#[126]⟩ : ByteArray)) ++ t15)) ++ (⟨#[32]⟩ : ByteArray)) ++ t21) ++ (⟨#[32]⟩ : ByteArray)) ++ t27).size + (⟨#[10]⟩ : ByteArray).size ≤ 4294967296)).bind fun u29 => (chk (y7.size + (((((((t17 ++ (⟨#[32]⟩ : ByteArray)) ++ ((t13 ++ (⟨#[126]⟩ : ByteArray)) ++ t15)) ++ (⟨#[32]⟩ : ByteArray)) ++ t21) ++ (⟨#[32]⟩ : ByteArray)) ++ t27) ++ (⟨#[10]⟩ : ByteArray)).size ≤ 4294967296)).bind fun u32 => impl_GoatsText.l1 a0 k (y7 ++ (((((((t17 ++ (⟨#[32]⟩ : ByteArray)) ++ ((t13 ++ (⟨#[126]⟩ : ByteArray)) ++ t15)) ++ (⟨#[32]⟩ : ByteArray)) ++ t21) ++ (⟨#[32]⟩ : ByteArray)) ++ t27) ++ (⟨#[10]⟩ : ByteArray))) (IntKind.i64.wrap (y10 + 1))) else ((impl_Spot_text.f t11.At).bind fun t33 => (chk (t33.size + (⟨#[32]⟩ : ByteArray).size ≤ 4294967296)).bind fun u34 => (chk ((t33 ++ (⟨#[32]⟩ : ByteArray)).size + (⟨#[102, 114, 101, 101]⟩ : ByteArray).size ≤ 4294967296)).bind fun u35 => (chk (((t33 ++ (⟨#[32]⟩ : ByteArray)) ++ (⟨#[102, 114, 101, 101]⟩ : ByteArray)).size + (⟨#[32]⟩ : ByteArray).size ≤ 4294967296)).bind fun u36 => (impl_decimal.f (IntKind.i64.wrap t11.Eats)).bind fun t37 => (chk ((((t33 ++ (⟨#[32]⟩ : ByteArray)) ++ (⟨#[102, 114, 101, 101]⟩ : ByteArray)) ++ (⟨#[32]⟩ : ByteArray)).size + t37.size ≤ 4294967296)).bind fun u38 => (chk (((((t33 ++ (⟨#[32]⟩ : ByteArray)) ++ (⟨#[102, 114, 101, 101]⟩ : ByteArray)) ++ (⟨#[32]⟩ : ByteArray)) ++ t37).size + (⟨#[32]⟩ : ByteArray).size ≤ 4294967296)).bind fun u39 => (impl_likings.f).bind fun t40 => (getI t40 t11.Likes).bind fun t43 => (chk ((((((t33 ++ (⟨#[32]⟩ : ByteArray)) ++ (⟨#[102, 114, 101, 101]⟩ : ByteArray)) ++ (⟨#[32]⟩ : ByteArray)) ++ t37) ++ (⟨#[32]⟩ : ByteArray)).size + t43.size ≤ 4294967296)).bind fun u44 => (chk (((((((t33 ++ (⟨#[32]⟩ : ByteArray)) ++ (⟨#[102, 114, 101, 101]⟩ : ByteArray)) ++ (⟨#[32]⟩ : ByteArray)) ++ t37) ++ (⟨#[32]⟩ : ByteArray)) ++ t43).size + (⟨#[10]⟩ : ByteArray).size ≤ 4294967296)).bind fun u45 => (chk (y7.size + (((((((t33 ++ (⟨#[32]⟩ : ByteArray)) ++ (⟨#[102, 114, 101, 101]⟩ : ByteArray)) ++ (⟨#[32]⟩ : ByteArray)) ++ t37) ++ (⟨#[32]⟩ : ByteArray)) ++ t43) ++ (⟨#[10]⟩ : ByteArray)).size ≤ 4294967296)).bind fun u48 => impl_GoatsText.l1 a0 k (y7 ++ (((((((t33 ++ (⟨#[32]⟩ : ByteArray)) ++ (⟨#[102, 114, 101, 101]⟩ : ByteArray)) ++ (⟨#[32]⟩ : ByteArray)) ++ t37) ++ (⟨#[32]⟩ : ByteArray)) ++ t43) ++ (⟨#[10]⟩ : ByteArray))) (IntKind.i64.wrap (y10 + 1)))) else (some y7)
def impl_GoatsText.f (k : Nat) (a0 : List Goat) : Option ByteArray := (if 20 < (a0.length : Int) then (some true) else ((slices_ContainsFunc_impl_Goat_impl_Goat.f k a0 impl_GoatsText_1.f).bind fun t2 => some t2)).bind fun y1 => if y1 = true then (some ByteArray.empty) else ((impl_GoatsText.l1 a0 k ByteArray.empty 0).bind fun y4 => some y4)
theorem impl_GoatsText.c (k : Nat) (w : World) (Aa0 : Option Addr) (ca0 : Nat) (a0 : List Goat) (hr0 : Rd cGoat w Aa0 a0) (hc0 : a0.length ≤ ca0) (hT : (envC Tryz.prog 0).holds w) (r : ByteArray) (H : impl_GoatsText.f k a0 = some r) :
 CV Tryz.prog 8 [.slice Aa0 a0.length ca0].toArray w fun v w' => v = .string r ∧ Ext w w' := by
 have hS := (((St.init w no).param cGoat Aa0 ca0 a0 hr0 hc0).paramT (envC Tryz.prog 0) hT)
 unfold impl_GoatsText.f at H
 refine CV.body Tryz.func8 Z Tryz.ntmps8 Z ?_
 refine CJ.seq (CJ.region ?_)
 refine OJ.pures oU 1 Z (OJ.nil (EJ.next ?_))
 refine CJ.seq ?_
 obtain ⟨j75, H, K75⟩ := pbind H
 refine CJ.cut (fun F w1 => ∃ (y1 : Bool) , (some y1 : Option Bool) = some j75 ∧ F = [(0, .slice Aa0 a0.length ca0), (13, .bool y1)] ∧ St w no w1 [] [roC cGoat Aa0 ca0 a0, envC Tryz.prog 0]) ?_ ?_
 ·skip
  refine CJ.region ?_
  refine OJ.pures oU 4 Z ?_
  refine OJ.split (t := 10) Z (fun hb => ?_) (fun hb => ?_)
  ·replace H := pif_t (of_decide_eq_true hb) H
   refine OJ.pures oU 3 Z ?_
   refine OJ.nil ?_
   exact EJ.meet (F' := [(0, .slice Aa0 a0.length ca0), (13, .bool true)]) ⟨Z, Z, trivial⟩ ⟨true, H, Z, hS.pick [] [0, 1] Z⟩
  replace H := pif_f (of_decide_eq_false hb) H
  refine OJ.pures oU 1 Z ?_
  obtain ⟨t2, ht2, H⟩ := pbind H
  refine OJ.callF rfl rfl rfl rfl rfl hb35 rfl (slices_ContainsFunc_impl_Goat_impl_Goat.c k _ Aa0 ca0 a0 (hS.rd' (i := 0) rfl) (hS.le' (i := 0) rfl) 36 #[] #[] hb36 impl_GoatsText_1.f (fun z0 r h w' hx => CV.cast (impl_GoatsText_1.c w'   z0 r h) (by simp)) _ ht2) ?_
  rintro _ w1 ⟨rfl, hs⟩
  replace hS := hS.grow hs
  refine OJ.pures oU 1 Z ?_
  refine OJ.nil ?_
  exact EJ.meet (F' := [(0, .slice Aa0 a0.length ca0), (13, .bool t2)]) ⟨Z, Z, trivial⟩ ⟨t2, H, Z, hS.pick [] [0, 1] Z⟩
 rintro F w1 ⟨y1, he, rfl, hS⟩
 obtain rfl := Option.some.inj he
 have H := K75
 refine CJ.cond Z (fun hb => ?_) (fun hb => ?_)
 ·replace H := pif_t hb H
  refine CJ.seq (CJ.region ?_)
  refine OJ.pures oU 1 Z (OJ.nil (EJ.next ?_))
  refine CJ.ret (EJ.skR (?_))
  obtain rfl := Option.some.inj H
  exact EJ.fin Z (.tmp Z .nil) ⟨Z, hS.ext⟩
 replace H := pifb_f hb H
 refine CJ.skip (EJ.next ?_)
 refine CJ.seq (CJ.region ?_)
 refine OJ.st Z Z Z (SR.build' oU oI Z Z Z (zs := [.pointer none, .slice none 0 0]) Z Z Z [.pointer none, .slice none 0 0] Z) ?_
 refine OJ.ef Z Z Z (Ef.bld (e := 5) hS oI Z Z Z) ?_
 rintro _ w1 ⟨b3, rfl, hS, hlow⟩
 refine OJ.es Z Z (Es.bldZero oI hS (i := 0) Z Z Z Z Z Z Z) ?_
 intro w1 hS
 refine OJ.nil (EJ.next ?_)
 refine CJ.seq ?_
 refine CJ.seq (CJ.region ?_)
 refine OJ.pures oU 3 Z (OJ.nil (EJ.next ?_))
 obtain ⟨j76, H, K76⟩ := pbind H
 refine CJ.cut1 (fun F w1 => ∃ (y4 : ByteArray) (A5 : Option Addr) (c6 : Nat), (some y4 : Option ByteArray) = some j76 ∧ F = [(3, .pointer (some ⟨b3, 0, none⟩))] ∧ St w no w1 [bldC 83 5 b3 A5 c6 y4] [roC cGoat Aa0 ca0 a0, envC Tryz.prog 0]) ?_ ?_
 ·skip
  refine CJ.block ?_
  refine CJ.loop (fun k F w1 => ∃ (y7 : ByteArray) (y10 : Int) (A8 : Option Addr) (c9 : Nat), F = [(3, .pointer (some ⟨b3, 0, none⟩)), (15, .slice Aa0 a0.length ca0), (16, .int .i64 (a0.length : Int)), (17, .int .i64 y10)] ∧ St w no w1 [bldC 83 5 b3 A8 c9 y7] [roC cGoat Aa0 ca0 a0, envC Tryz.prog 0] ∧ impl_GoatsText.l1 a0 k y7 y10 = some j76) k (F' := [(3, .pointer (some ⟨b3, 0, none⟩)), (15, .slice Aa0 a0.length ca0), (16, .int .i64 (a0.length : Int)), (17, .int .i64 0)]) ⟨Z, Z, Z, Z, trivial⟩ ⟨ByteArray.empty, 0, none, 0, Z, hS.pick [0] [0, 1] Z, H⟩ ?_
  rintro k F w1 ⟨y7, y10, A8, c9, rfl, hS, H⟩
  cases k with
  | zero => rw [impl_GoatsText.l1] at H; cases H
  | succ k =>
    rw [impl_GoatsText.l1] at H
    refine CJ.seq (CJ.region ?_)
    refine OJ.pures oU 1 Z (OJ.nil (EJ.next ?_))
    refine CJ.seq ?_
    refine CJ.cond Z (fun hb => ?_) (fun hb => ?_)
    · replace H := pif_t (of_decide_eq_true hb) H
      refine CJ.skip (EJ.next ?_)
      refine CJ.seq ?_
      refine CJ.block ?_
      refine CJ.seq (CJ.region ?_)
      obtain ⟨t11, ht11, H⟩ := pbind H
      obtain ⟨ad11, e11⟩ := (hS.rd' (i := 0) rfl).some' ht11
      refine OJ.st Z Z Z (SR.idxS oU oI Z Z Z Z e11 Z (getI_some ht11).1) ?_
      refine OJ.st Z Z Z (SR.load Z Z (fun w' hx => ldE oU oI Z Z Z (CA.ext ((hS.rd' (i := 0) Z).at_ e11 ht11) hx) Z)) ?_
      refine OJ.ef Z Z Z (Ef.alloc hS oI Z Z (cGoat.enc (⟨(⟨0, 0⟩ : Spot), (⟨0, 0⟩ : Spot), 0, 0, 0⟩ : Goat)) Z) ?_
      rintro _ w1 ⟨b12, rfl, hS⟩
      refine OJ.es Z Z (Es.store oI hS (i := 1) Z Z Z Z Z Z (vs := cGoat.enc t11) Z (cGoat.len _) (cGoat.one _) (Nat.le_of_ble_eq_true Z) (cGoat.enc t11) Z) ?_
      intro w1 hS
      refine OJ.nil (EJ.next ?_)
      refine CJ.seq (CJ.region ?_)
      refine OJ.pures oU 1 Z (OJ.nil (EJ.next ?_))
      refine CJ.seq ?_
      refine CJ.seq (CJ.region ?_)
      refine OJ.st Z Z Z (SR.fieldAddr oU oI Z Z Z Z Z Z) ?_
      refine OJ.st Z Z Z (SR.load Z Z (fun w' hx => ld1 oU Z Z (CA.ext (CA.sub (hS.cells (i := 1) Z) 4) hx) Z)) ?_
      refine OJ.pures oU 1 Z (OJ.nil (EJ.next ?_))
      refine CJ.cond Z (fun hb => ?_) (fun hb => ?_)
      · replace H := pif_t (of_decide_eq_true hb) H
        refine CJ.draw [] [0, 1, 4, 5, 6, 2, 3, 7, 8, 9] mixed (by kernel_rfl) hS fun w1 hS => ?_
        refine DJ.st Z Z Z Z Z (SR.fieldAddr oU oI Z Z Z Z Z Z) ?_
        refine DJ.st Z Z Z Z Z (SR.load Z Z (fun w' hx => ldN oU oI Z Z Z (CA.ext (CA.sub (hS.cells (i := 1) Z) 2) hx) (cSpot.len _) Z)) ?_
        refine DJ.st Z Z Z Z Z (SR.fieldAddr oU oI Z Z Z Z Z Z) ?_
        refine DJ.st Z Z Z Z Z (SR.load Z Z (fun w' hx => ld1 oU Z Z (CA.ext (CA.sub (hS.cells (i := 1) Z) 4) hx) Z)) ?_
        refine DJ.pures oU 1 Z ?_
        obtain ⟨t13, ht13, H⟩ := pbind H
        refine DJ.callF rfl rfl rfl rfl rfl rfl rfl hb39 rfl (impl_Spot_text.c _ t11.Stake (hS.ro (i := 1) rfl) _ ht13) (by rintro v w' ⟨rfl, hs⟩; exact hs) ?_
        rintro _ w1 ⟨rfl, hs⟩
        replace hS := hS.grow hs
        obtain ⟨u14, hu14, H⟩ := pbind H
        refine DJ.st Z Z Z Z Z (SR.concat Z Z Z (chk_some hu14)) ?_
        obtain ⟨t15, ht15, H⟩ := pbind H
        refine DJ.callF rfl rfl rfl rfl rfl rfl rfl hb40 rfl (impl_decimal.c _ (IntKind.i64.wrap t11.Rope) (hS.ro (i := 1) rfl) _ ht15) (by rintro v w' ⟨rfl, hs⟩; exact hs) ?_
        rintro _ w1 ⟨rfl, hs⟩
        replace hS := hS.grow hs
        obtain ⟨u16, hu16, H⟩ := pbind H
        refine DJ.st Z Z Z Z Z (SR.concat Z Z Z (chk_some hu16)) ?_
        refine DJ.pures oU 1 Z ?_
        refine DJ.nil (EJ.next ?_)
        refine CJ.draw [20] [0, 1, 4, 7, 8, 9, 14, 15, 2, 3, 5, 6, 10, 11, 12, 13, 16, 17, 18, 19, 20] mixed (by kernel_rfl) hS fun w1 hS => ?_
        refine DJ.st Z Z Z Z Z (SR.fieldAddr oU oI Z Z Z Z Z Z) ?_
        refine DJ.st Z Z Z Z Z (SR.load Z Z (fun w' hx => ldN oU oI Z Z Z (CA.ext (CA.sub (hS.cells (i := 1) Z) 0) hx) (cSpot.len _) Z)) ?_
        refine DJ.pures oU 1 Z ?_
        refine DJ.st Z Z Z Z Z (SR.fieldAddr oU oI Z Z Z Z Z Z) ?_
        refine DJ.st Z Z Z Z Z (SR.load Z Z (fun w' hx => ld1 oU Z Z (CA.ext (CA.sub (hS.cells (i := 1) Z) 5) hx) Z)) ?_
        refine DJ.pures oU 1 Z ?_
        refine DJ.st Z Z Z Z Z (SR.fieldAddr oU oI Z Z Z Z Z Z) ?_
        refine DJ.st Z Z Z Z Z (SR.load Z Z (fun w' hx => ld1 oU Z Z (CA.ext (CA.sub (hS.cells (i := 1) Z) 6) hx) Z)) ?_
        obtain ⟨t17, ht17, H⟩ := pbind H
        refine DJ.callF rfl rfl rfl rfl rfl rfl rfl hb39 rfl (impl_Spot_text.c _ t11.At (hS.ro (i := 1) rfl) _ ht17) (by rintro v w' ⟨rfl, hs⟩; exact hs) ?_
        rintro _ w1 ⟨rfl, hs⟩
        replace hS := hS.grow hs
        obtain ⟨u18, hu18, H⟩ := pbind H
        refine DJ.st Z Z Z Z Z (SR.concat Z Z Z (chk_some hu18)) ?_
        obtain ⟨u19, hu19, H⟩ := pbind H
        refine DJ.st Z Z Z Z Z (SR.concat Z Z Z (chk_some hu19)) ?_
        obtain ⟨u20, hu20, H⟩ := pbind H
        refine DJ.st Z Z Z Z Z (SR.concat Z Z Z (chk_some hu20)) ?_
        obtain ⟨t21, ht21, H⟩ := pbind H
        refine DJ.callF rfl rfl rfl rfl rfl rfl rfl hb40 rfl (impl_decimal.c _ (IntKind.i64.wrap t11.Eats) (hS.ro (i := 1) rfl) _ ht21) (by rintro v w' ⟨rfl, hs⟩; exact hs) ?_
        rintro _ w1 ⟨rfl, hs⟩
        replace hS := hS.grow hs
        obtain ⟨u22, hu22, H⟩ := pbind H
        refine DJ.st Z Z Z Z Z (SR.concat Z Z Z (chk_some hu22)) ?_
        obtain ⟨u23, hu23, H⟩ := pbind H
        refine DJ.st Z Z Z Z Z (SR.concat Z Z Z (chk_some hu23)) ?_
        obtain ⟨t24, ht24, H⟩ := pbind H
        refine DJ.callF rfl rfl rfl rfl rfl rfl rfl hb42 rfl (impl_likings.c _  _ ht24) (by rintro v w' ⟨A25, c26, rfl, hs⟩; exact hs.ext) ?_
        rintro _ w1 ⟨A25, c26, rfl, hs⟩
        replace hS := hS.addN hs
        obtain ⟨t27, ht27, H⟩ := pbind H
        obtain ⟨ad27, e27⟩ := (hS.rd (i := 2) rfl).some' ht27
        refine DJ.st Z Z Z Z Z (SR.idxS oU oI Z Z Z Z e27 Z (getI_some ht27).1) ?_
        refine DJ.st Z Z Z Z Z (SR.load Z Z (fun w' hx => ld1 oU Z Z (CA.ext ((hS.rd (i := 2) Z).at_ e27 ht27) hx) Z)) ?_
        obtain ⟨u28, hu28, H⟩ := pbind H
        refine DJ.st Z Z Z Z Z (SR.concat Z Z Z (chk_some hu28)) ?_
        obtain ⟨u29, hu29, H⟩ := pbind H
        refine DJ.st Z Z Z Z Z (SR.concat Z Z Z (chk_some hu29)) ?_
        obtain ⟨u32, hu32, H⟩ := pbind H
        refine DJ.callFw rfl rfl rfl rfl rfl rfl rfl hb41 rfl (bldWrite_cv hS (i := 0) rfl (NotEs.cons (notE_box (by decide)) (NotEs.cons (notE_row (by decide)) (NotEs.nil))) (NotEs.cons (notE_low (hlow _ (List.mem_of_getElem? (i := 0) rfl))) (NotEs.cons (notE_low (hlow _ (List.mem_of_getElem? (i := 1) rfl))) (NotEs.nil))) (fun B b bs s w h1 h2 h3 => Any.Builder_WriteString_k { layBw with } layBwX B b bs s w h1 h2 h3) (chk_some hu32)) ?_
        rintro _ w1 ⟨rfl, A30, c31, hS⟩
        refine DJ.nil (EJ.blk (EJ.next ?_))
        refine CJ.region ?_
        refine OJ.pures oU 2 Z ?_
        refine OJ.nil ?_
        exact EJ.round k (F' := [(3, .pointer (some ⟨b3, 0, none⟩)), (15, .slice Aa0 a0.length ca0), (16, .int .i64 (a0.length : Int)), (17, .int .i64 (IntKind.i64.wrap (y10 + 1)))]) ⟨Z, Z, Z, Z, trivial⟩ (Nat.lt_succ_self _) ⟨(y7 ++ (((((((t17 ++ (⟨#[32]⟩ : ByteArray)) ++ ((t13 ++ (⟨#[126]⟩ : ByteArray)) ++ t15)) ++ (⟨#[32]⟩ : ByteArray)) ++ t21) ++ (⟨#[32]⟩ : ByteArray)) ++ t27) ++ (⟨#[10]⟩ : ByteArray))), (IntKind.i64.wrap (y10 + 1)), A30, c31, Z, hS.pick [0] [0, 1] Z, H⟩
      · replace H := pif_f (of_decide_eq_false hb) H
        refine CJ.skip (EJ.next ?_)
        refine CJ.draw [20] [0, 1, 4, 7, 8, 9, 14, 15, 2, 3, 5, 6, 10, 11, 12, 13, 16, 17, 18, 19, 20] mixed (by kernel_rfl) hS fun w1 hS => ?_
        refine DJ.st Z Z Z Z Z (SR.fieldAddr oU oI Z Z Z Z Z Z) ?_
        refine DJ.st Z Z Z Z Z (SR.load Z Z (fun w' hx => ldN oU oI Z Z Z (CA.ext (CA.sub (hS.cells (i := 1) Z) 0) hx) (cSpot.len _) Z)) ?_
        refine DJ.pures oU 1 Z ?_
        refine DJ.st Z Z Z Z Z (SR.fieldAddr oU oI Z Z Z Z Z Z) ?_
        refine DJ.st Z Z Z Z Z (SR.load Z Z (fun w' hx => ld1 oU Z Z (CA.ext (CA.sub (hS.cells (i := 1) Z) 5) hx) Z)) ?_
        refine DJ.pures oU 1 Z ?_
        refine DJ.st Z Z Z Z Z (SR.fieldAddr oU oI Z Z Z Z Z Z) ?_
        refine DJ.st Z Z Z Z Z (SR.load Z Z (fun w' hx => ld1 oU Z Z (CA.ext (CA.sub (hS.cells (i := 1) Z) 6) hx) Z)) ?_
        obtain ⟨t33, ht33, H⟩ := pbind H
        refine DJ.callF rfl rfl rfl rfl rfl rfl rfl hb39 rfl (impl_Spot_text.c _ t11.At (hS.ro (i := 1) rfl) _ ht33) (by rintro v w' ⟨rfl, hs⟩; exact hs) ?_
        rintro _ w1 ⟨rfl, hs⟩
        replace hS := hS.grow hs
        obtain ⟨u34, hu34, H⟩ := pbind H
        refine DJ.st Z Z Z Z Z (SR.concat Z Z Z (chk_some hu34)) ?_
        obtain ⟨u35, hu35, H⟩ := pbind H
        refine DJ.st Z Z Z Z Z (SR.concat Z Z Z (chk_some hu35)) ?_
        obtain ⟨u36, hu36, H⟩ := pbind H
        refine DJ.st Z Z Z Z Z (SR.concat Z Z Z (chk_some hu36)) ?_
        obtain ⟨t37, ht37, H⟩ := pbind H
        refine DJ.callF rfl rfl rfl rfl rfl rfl rfl hb40 rfl (impl_decimal.c _ (IntKind.i64.wrap t11.Eats) (hS.ro (i := 1) rfl) _ ht37) (by rintro v w' ⟨rfl, hs⟩; exact hs) ?_
        rintro _ w1 ⟨rfl, hs⟩
        replace hS := hS.grow hs
        obtain ⟨u38, hu38, H⟩ := pbind H
        refine DJ.st Z Z Z Z Z (SR.concat Z Z Z (chk_some hu38)) ?_
        obtain ⟨u39, hu39, H⟩ := pbind H
        refine DJ.st Z Z Z Z Z (SR.concat Z Z Z (chk_some hu39)) ?_
        obtain ⟨t40, ht40, H⟩ := pbind H
        refine DJ.callF rfl rfl rfl rfl rfl rfl rfl hb42 rfl (impl_likings.c _  _ ht40) (by rintro v w' ⟨A41, c42, rfl, hs⟩; exact hs.ext) ?_
        rintro _ w1 ⟨A41, c42, rfl, hs⟩
        replace hS := hS.addN hs
        obtain ⟨t43, ht43, H⟩ := pbind H
        obtain ⟨ad43, e43⟩ := (hS.rd (i := 2) rfl).some' ht43
        refine DJ.st Z Z Z Z Z (SR.idxS oU oI Z Z Z Z e43 Z (getI_some ht43).1) ?_
        refine DJ.st Z Z Z Z Z (SR.load Z Z (fun w' hx => ld1 oU Z Z (CA.ext ((hS.rd (i := 2) Z).at_ e43 ht43) hx) Z)) ?_
        obtain ⟨u44, hu44, H⟩ := pbind H
        refine DJ.st Z Z Z Z Z (SR.concat Z Z Z (chk_some hu44)) ?_
        obtain ⟨u45, hu45, H⟩ := pbind H
        refine DJ.st Z Z Z Z Z (SR.concat Z Z Z (chk_some hu45)) ?_
        obtain ⟨u48, hu48, H⟩ := pbind H
        refine DJ.callFw rfl rfl rfl rfl rfl rfl rfl hb41 rfl (bldWrite_cv hS (i := 0) rfl (NotEs.cons (notE_box (by decide)) (NotEs.cons (notE_row (by decide)) (NotEs.nil))) (NotEs.cons (notE_low (hlow _ (List.mem_of_getElem? (i := 0) rfl))) (NotEs.cons (notE_low (hlow _ (List.mem_of_getElem? (i := 1) rfl))) (NotEs.nil))) (fun B b bs s w h1 h2 h3 => Any.Builder_WriteString_k { layBw with } layBwX B b bs s w h1 h2 h3) (chk_some hu48)) ?_
        rintro _ w1 ⟨rfl, A46, c47, hS⟩
        refine DJ.nil (EJ.blk (EJ.next ?_))
        refine CJ.region ?_
        refine OJ.pures oU 2 Z ?_
        refine OJ.nil ?_
        exact EJ.round k (F' := [(3, .pointer (some ⟨b3, 0, none⟩)), (15, .slice Aa0 a0.length ca0), (16, .int .i64 (a0.length : Int)), (17, .int .i64 (IntKind.i64.wrap (y10 + 1)))]) ⟨Z, Z, Z, Z, trivial⟩ (Nat.lt_succ_self _) ⟨(y7 ++ (((((((t33 ++ (⟨#[32]⟩ : ByteArray)) ++ (⟨#[102, 114, 101, 101]⟩ : ByteArray)) ++ (⟨#[32]⟩ : ByteArray)) ++ t37) ++ (⟨#[32]⟩ : ByteArray)) ++ t43) ++ (⟨#[10]⟩ : ByteArray))), (IntKind.i64.wrap (y10 + 1)), A46, c47, Z, hS.pick [0] [0, 1] Z, H⟩
    · replace H := pif_f (of_decide_eq_false hb) H
      refine CJ.exit (EJ.skE (EJ.skE (EJ.hit (?_))))
      exact EJ.meet (F' := [(3, .pointer (some ⟨b3, 0, none⟩))]) ⟨Z, trivial⟩ ⟨y7, A8, c9, H, Z, hS.pick [0] [0, 1] Z⟩
 rintro F w1 ⟨y4, A5, c6, he, rfl, hS⟩
 obtain rfl := Option.some.inj he
 have H := K76
 refine EJ.next ?_
 refine CJ.seq (CJ.region ?_)
 refine OJ.callF Z Z Z Z Z hb43 Z (bldText_cv hS (i := 0) Z (NotEs.nil) (NotEs.cons (notE_low (hlow _ (List.mem_of_getElem? (i := 0) Z))) (NotEs.cons (notE_low (hlow _ (List.mem_of_getElem? (i := 1) Z))) (NotEs.nil))) (fun B b l w h1 h2 => Any.Builder_String_any_k { layBs with } layBsX B b l w h1 h2)) ?_
 rintro _ w1 ⟨rfl, A49, c50, hS⟩
 refine OJ.pures oU 1 Z (OJ.nil (EJ.next ?_))
 refine CJ.ret (?_)
 obtain rfl := Option.some.inj H
 exact EJ.fin Z (.tmp Z .nil) ⟨Z, hS.ext⟩

def strings_Cut.f (a0 : ByteArray) (a1 : ByteArray) : Option (ByteArray × ByteArray × Bool) := (chk (a0.size < 4294967281)).bind fun _ => some (cutS a0 a1)
theorem strings_Cut.c (w : World) (a0 : ByteArray) (a1 : ByteArray) (hT : (envC Tryz.prog 0).holds w) (r : ByteArray × ByteArray × Bool) (H : strings_Cut.f a0 a1 = some r) :
 CV Tryz.prog 87 [.string a0, .string a1].toArray w fun v w' => v = .tuple #[.string r.1, .string r.2.1, .bool r.2.2] ∧ Ext w w' := by
 unfold strings_Cut.f at H
 obtain ⟨u, hu, H⟩ := pbind H
 obtain rfl := Option.some.inj H
 exact cut_cv hT (fun s sep m w h1 h2 => Any.strings_Cut layCut s sep m w h1 h2) (chk_some hu)

def strconv_ParseInt.f (a0 : ByteArray) (a1 : Int) (a2 : Int) : Option (Int × Bool) := (chk (a0.size ≤ 4294967296 ∧ a1 = 10 ∧ a2 = 64)).bind fun _ => some (parseI a0)
theorem strconv_ParseInt.c (w : World) (a0 : ByteArray) (a1 : Int) (a2 : Int) (hT : (envC Tryz.prog 0).holds w) (r : Int × Bool) (H : strconv_ParseInt.f a0 a1 a2 = some r) :
 CV Tryz.prog 111 [.string a0, .int .i64 a1, .int .i64 a2].toArray w fun v w' => ∃ t q, v = .tuple #[.int .i64 r.1, errV r.2 t q] ∧ Ext w w' := by
 unfold strconv_ParseInt.f at H
 obtain ⟨u, hu, H⟩ := pbind H
 have h := chk_some hu
 obtain rfl := Option.some.inj H
 obtain ⟨h, rfl, rfl⟩ := h
 exact parse_cv hT (fun s h v hp w => (Any.strconv_ParseInt_10_at64_ok layParse s h v hp w).mono fun e w' ⟨he, hw⟩ => ⟨he, bytes_ext hw⟩)
   (fun s h hp tp p w hv => (Any.strconv_ParseInt_10_at64_syntax_var layParse s h hp tp p w hv).mono fun e w' ⟨N, he, _, _, hb⟩ => ⟨⟨_, _, he⟩, below_ext hb⟩)
   (fun s h hp tp p w hv => (Any.strconv_ParseInt_10_at64_range_var layParse s h hp tp p w hv).mono fun e w' ⟨N, he, _, _, hb⟩ => ⟨⟨_, _, he⟩, below_ext hb⟩) h

def impl_number.f (a0 : ByteArray) (a1 : Int) : Option (Int × Bool) := (strconv_ParseInt.f a0 10 64).bind fun t1 => if t1.2 = true then (some (0, false)) else ((impl_decimal.f t1.1).bind fun t4 => if t4 ≠ a0 then (some (0, false)) else ((impl_within.f t1.1 0 a1).bind fun t5 => if (!t5) = true then (some (0, false)) else (some (t1.1, true))))
theorem impl_number.c (w : World) (a0 : ByteArray) (a1 : Int) (hT : (envC Tryz.prog 0).holds w) (r : Int × Bool) (H : impl_number.f a0 a1 = some r) :
 CV Tryz.prog 85 [.string a0, .int .i64 a1].toArray w fun v w' => v = .tuple #[.int .i64 r.1, .bool r.2] ∧ Ext w w' := by
 have hS := ((St.init w no).paramT (envC Tryz.prog 0) hT)
 unfold impl_number.f at H
 refine CV.body Tryz.func85 Z Tryz.ntmps85 Z ?_
 refine CJ.seq (CJ.region ?_)
 refine OJ.pures oU 2 Z (OJ.nil (EJ.next ?_))
 refine CJ.seq (CJ.region ?_)
 refine OJ.pures oU 1 Z ?_
 obtain ⟨t1, ht1, H⟩ := pbind H
 refine OJ.callF Z Z Z Z Z hb111 Z (strconv_ParseInt.c _ a0 10 64 (hS.ro (i := 0) Z) _ ht1) ?_
 rintro _ w1 ⟨t2, q3, rfl, hs⟩
 replace hS := hS.grow hs
 refine OJ.pures oU 5 Z (OJ.nil (EJ.next ?_))
 refine CJ.seq ?_
 refine CJ.seq (CJ.region ?_)
 refine OJ.pures oU 1 Z ?_
 refine OJ.st rfl rfl rfl (SR.neErr (by kernel_rfl) rfl rfl) ?_
 refine OJ.pures oU 1 Z ?_
 refine OJ.split (t := 15) Z (fun hb => ?_) (fun hb => ?_)
 ·replace H := pif_t hb H
  refine OJ.pures oU 11 Z (OJ.nil (EJ.next ?_))
  refine CJ.condT Z ?_
  refine CJ.seq (CJ.region ?_)
  refine OJ.pures oU 2 Z (OJ.nil (EJ.next ?_))
  refine CJ.ret (EJ.skR (?_))
  obtain rfl := Option.some.inj H
  exact EJ.fin Z (.tmp Z (.tmp Z .nil)) ⟨Z, hS.ext⟩
 replace H := pifb_f hb H
 refine OJ.pures oU 1 Z ?_
 obtain ⟨t4, ht4, H⟩ := pbind H
 refine OJ.callF Z Z Z Z Z hb40 Z (impl_decimal.c _ t1.1 (hS.ro (i := 0) Z) _ ht4) ?_
 rintro _ w1 ⟨rfl, hs⟩
 replace hS := hS.grow hs
 refine OJ.pures oU 4 Z ?_
 refine OJ.split (t := 21) Z (fun hb => ?_) (fun hb => ?_)
 ·replace H := pif_t (of_decide_eq_true hb) H
  refine OJ.pures oU 5 Z (OJ.nil (EJ.next ?_))
  refine CJ.condT Z ?_
  refine CJ.seq (CJ.region ?_)
  refine OJ.pures oU 2 Z (OJ.nil (EJ.next ?_))
  refine CJ.ret (EJ.skR (?_))
  obtain rfl := Option.some.inj H
  exact EJ.fin Z (.tmp Z (.tmp Z .nil)) ⟨Z, hS.ext⟩
 replace H := pif_f (of_decide_eq_false hb) H
 refine OJ.pures oU 2 Z ?_
 obtain ⟨t5, ht5, H⟩ := pbind H
 refine OJ.callF Z Z Z Z Z hb74 Z (impl_within.c _ t1.1 0 a1 _ ht5) ?_
 rintro _ w1 ⟨rfl, hs⟩
 replace hS := hS.grow hs
 refine OJ.pures oU 2 Z (OJ.nil (EJ.next ?_))
 refine CJ.cond Z (fun hb => ?_) (fun hb => ?_)
 ·replace H := pif_t hb H
  refine CJ.seq (CJ.region ?_)
  refine OJ.pures oU 2 Z (OJ.nil (EJ.next ?_))
  refine CJ.ret (EJ.skR (?_))
  obtain rfl := Option.some.inj H
  exact EJ.fin Z (.tmp Z (.tmp Z .nil)) ⟨Z, hS.ext⟩
 replace H := pifb_f hb H
 refine CJ.skip (EJ.next ?_)
 refine CJ.seq (CJ.region ?_)
 refine OJ.pures oU 3 Z (OJ.nil (EJ.next ?_))
 refine CJ.ret (?_)
 obtain rfl := Option.some.inj H
 exact EJ.fin Z (.tmp Z (.tmp Z .nil)) ⟨Z, hS.ext⟩

def impl_readSpot.f (a0 : ByteArray) : Option (Spot × Bool) := (strings_Cut.f a0 (⟨#[44]⟩ : ByteArray)).bind fun t2 => (impl_number.f t2.1 9).bind fun t3 => (impl_number.f t2.2.1 9).bind fun t4 => if t2.2.2 = true then (if t3.2 = true then (some ((⟨IntKind.i8.wrap t3.1, IntKind.i8.wrap t4.1⟩ : Spot), t4.2)) else (some ((⟨IntKind.i8.wrap t3.1, IntKind.i8.wrap t4.1⟩ : Spot), false))) else (some ((⟨IntKind.i8.wrap t3.1, IntKind.i8.wrap t4.1⟩ : Spot), false))
theorem impl_readSpot.c (w : World) (a0 : ByteArray) (hT : (envC Tryz.prog 0).holds w) (r : Spot × Bool) (H : impl_readSpot.f a0 = some r) :
 CV Tryz.prog 84 [.string a0].toArray w fun v w' => v = .tuple #[.agg (cSpot.enc r.1).toArray, .bool r.2] ∧ Ext w w' := by
 have hS := ((St.init w no).paramT (envC Tryz.prog 0) hT)
 unfold impl_readSpot.f at H
 refine CV.body Tryz.func84 Z Tryz.ntmps84 Z ?_
 refine CJ.seq (CJ.region ?_)
 refine OJ.ef Z Z Z (Ef.alloc hS oI Z Z (cSpot.enc (⟨0, 0⟩ : Spot)) Z) ?_
 rintro _ w1 ⟨b1, rfl, hS⟩
 refine OJ.pures oU 1 Z (OJ.nil (EJ.next ?_))
 refine CJ.seq (CJ.region ?_)
 refine OJ.pures oU 1 Z ?_
 obtain ⟨t2, ht2, H⟩ := pbind H
 refine OJ.callF Z Z Z Z Z hb87 Z (strings_Cut.c _ a0 (⟨#[44]⟩ : ByteArray) (hS.ro (i := 0) Z) _ ht2) ?_
 rintro _ w1 ⟨rfl, hs⟩
 replace hS := hS.grow hs
 refine OJ.pures oU 7 Z (OJ.nil (EJ.next ?_))
 refine CJ.seq (CJ.region ?_)
 refine OJ.pures oU 1 Z ?_
 obtain ⟨t3, ht3, H⟩ := pbind H
 refine OJ.callF Z Z Z Z Z hb85 Z (impl_number.c _ t2.1 9 (hS.ro (i := 0) Z) _ ht3) ?_
 rintro _ w1 ⟨rfl, hs⟩
 replace hS := hS.grow hs
 refine OJ.pures oU 5 Z (OJ.nil (EJ.next ?_))
 refine CJ.seq (CJ.region ?_)
 refine OJ.pures oU 1 Z ?_
 obtain ⟨t4, ht4, H⟩ := pbind H
 refine OJ.callF Z Z Z Z Z hb85 Z (impl_number.c _ t2.2.1 9 (hS.ro (i := 0) Z) _ ht4) ?_
 rintro _ w1 ⟨rfl, hs⟩
 replace hS := hS.grow hs
 refine OJ.pures oU 5 Z (OJ.nil (EJ.next ?_))
 refine CJ.seq (CJ.region ?_)
 refine OJ.pures oU 4 Z ?_
 refine OJ.st Z Z Z (SR.build (C := cSpot) oU oI Z Z Z (zs := [.int .i8 0, .int .i8 0]) Z Z Z (⟨IntKind.i8.wrap t3.1, IntKind.i8.wrap t4.1⟩ : Spot) Z) ?_
 refine OJ.pures oU 2 Z ?_
 refine OJ.split (t := 33) Z (fun hb => ?_) (fun hb => ?_)
 ·replace H := pif_t hb H
  refine OJ.pures oU 3 Z ?_
  refine OJ.split (t := 36) Z (fun hb => ?_) (fun hb => ?_)
  ·replace H := pif_t hb H
   refine OJ.pures oU 2 Z ?_
   refine OJ.es Z Z (Es.store oI hS (i := 0) Z Z Z Z Z Z (vs := cSpot.enc (⟨IntKind.i8.wrap t3.1, IntKind.i8.wrap t4.1⟩ : Spot)) Z (cSpot.len _) (cSpot.one _) (Nat.le_of_ble_eq_true Z) (cSpot.enc (⟨IntKind.i8.wrap t3.1, IntKind.i8.wrap t4.1⟩ : Spot)) Z) ?_
   intro w1 hS
   refine OJ.pures oU 1 Z (OJ.nil (EJ.next ?_))
   refine CJ.ret (?_)
   obtain rfl := Option.some.inj H
   exact EJ.fin Z (.cell Z (ldE oU oI Z Z Z (hS.cells (i := 0) Z) Z) (.tmp Z .nil)) ⟨Z, hS.ext⟩
  replace H := pifb_f hb H
  refine OJ.pures oU 2 Z ?_
  refine OJ.es Z Z (Es.store oI hS (i := 0) Z Z Z Z Z Z (vs := cSpot.enc (⟨IntKind.i8.wrap t3.1, IntKind.i8.wrap t4.1⟩ : Spot)) Z (cSpot.len _) (cSpot.one _) (Nat.le_of_ble_eq_true Z) (cSpot.enc (⟨IntKind.i8.wrap t3.1, IntKind.i8.wrap t4.1⟩ : Spot)) Z) ?_
  intro w1 hS
  refine OJ.pures oU 1 Z (OJ.nil (EJ.next ?_))
  refine CJ.ret (?_)
  obtain rfl := Option.some.inj H
  exact EJ.fin Z (.cell Z (ldE oU oI Z Z Z (hS.cells (i := 0) Z) Z) (.tmp Z .nil)) ⟨Z, hS.ext⟩
 replace H := pifb_f hb H
 refine OJ.pures oU 5 Z ?_
 refine OJ.es Z Z (Es.store oI hS (i := 0) Z Z Z Z Z Z (vs := cSpot.enc (⟨IntKind.i8.wrap t3.1, IntKind.i8.wrap t4.1⟩ : Spot)) Z (cSpot.len _) (cSpot.one _) (Nat.le_of_ble_eq_true Z) (cSpot.enc (⟨IntKind.i8.wrap t3.1, IntKind.i8.wrap t4.1⟩ : Spot)) Z) ?_
 intro w1 hS
 refine OJ.pures oU 1 Z (OJ.nil (EJ.next ?_))
 refine CJ.ret (?_)
 obtain rfl := Option.some.inj H
 exact EJ.fin Z (.cell Z (ldE oU oI Z Z Z (hS.cells (i := 0) Z) Z) (.tmp Z .nil)) ⟨Z, hS.ext⟩

def slices_Index_string_string.l1 (a0 : List ByteArray) (a1 : ByteArray) : Nat → Int → Option (Int ⊕ Unit)
  | 0, _ => none
  | k + 1, y1 => if y1 < (a0.length : Int) then ((getI a0 y1).bind fun t2 => if a1 = t2 then (some (Sum.inl y1)) else (slices_Index_string_string.l1 a0 a1 k (IntKind.i64.wrap (y1 + 1)))) else (some (Sum.inr ()))
def slices_Index_string_string.f (k : Nat) (a0 : List ByteArray) (a1 : ByteArray) : Option Int := (slices_Index_string_string.l1 a0 a1 k 0).bind fun s77 => match s77 with | .inl r => some r | .inr _ => some (-1)
theorem slices_Index_string_string.c (k : Nat) (w : World) (Aa0 : Option Addr) (ca0 : Nat) (a0 : List ByteArray) (hr0 : Rd G.cs w Aa0 a0) (hc0 : a0.length ≤ ca0) (a1 : ByteArray) (r : Int) (H : slices_Index_string_string.f k a0 a1 = some r) :
 CV Tryz.prog 86 [.slice Aa0 a0.length ca0, .string a1].toArray w fun v w' => v = .int .i64 r ∧ Ext w w' := by
 have hS := ((St.init w no).param G.cs Aa0 ca0 a0 hr0 hc0)
 unfold slices_Index_string_string.f at H
 refine CV.body Tryz.func86 Z Tryz.ntmps86 Z ?_
 refine CJ.seq (CJ.region ?_)
 refine OJ.pures oU 1 Z (OJ.nil (EJ.next ?_))
 refine CJ.seq ?_
 refine CJ.seq (CJ.region ?_)
 refine OJ.pures oU 3 Z (OJ.nil (EJ.next ?_))
 obtain ⟨j77, H, K77⟩ := pbind H
 refine CJ.cut1 (fun F w1 => (some (Sum.inr ()) : Option (Int ⊕ Unit)) = some j77 ∧ F = [] ∧ St w no w1 [] [roC G.cs Aa0 ca0 a0]) ?_ ?_
 ·skip
  refine CJ.block ?_
  refine CJ.loop (fun k F w1 => ∃ (y1 : Int), F = [(0, .slice Aa0 a0.length ca0), (1, .string a1), (7, .int .i64 (a0.length : Int)), (8, .int .i64 y1)] ∧ St w no w1 [] [roC G.cs Aa0 ca0 a0] ∧ slices_Index_string_string.l1 a0 a1 k y1 = some j77) k (F' := [(0, .slice Aa0 a0.length ca0), (1, .string a1), (7, .int .i64 (a0.length : Int)), (8, .int .i64 0)]) ⟨Z, Z, Z, Z, trivial⟩ ⟨0, Z, hS.pick [] [0] Z, H⟩ ?_
  rintro k F w1 ⟨y1, rfl, hS, H⟩
  cases k with
  | zero => rw [slices_Index_string_string.l1] at H; cases H
  | succ k =>
    rw [slices_Index_string_string.l1] at H
    refine CJ.seq (CJ.region ?_)
    refine OJ.pures oU 1 Z (OJ.nil (EJ.next ?_))
    refine CJ.seq ?_
    refine CJ.cond Z (fun hb => ?_) (fun hb => ?_)
    · replace H := pif_t (of_decide_eq_true hb) H
      refine CJ.skip (EJ.next ?_)
      refine CJ.seq ?_
      refine CJ.block ?_
      refine CJ.seq (CJ.region ?_)
      refine OJ.pures oU 2 Z (OJ.nil (EJ.next ?_))
      refine CJ.seq (CJ.region ?_)
      refine OJ.pures oU 3 Z ?_
      obtain ⟨t2, ht2, H⟩ := pbind H
      obtain ⟨ad2, e2⟩ := (hS.rd' (i := 0) rfl).some' ht2
      refine OJ.st Z Z Z (SR.idxS oU oI Z Z Z Z e2 Z (getI_some ht2).1) ?_
      refine OJ.st Z Z Z (SR.load Z Z (fun w' hx => ld1 oU Z Z (CA.ext ((hS.rd' (i := 0) Z).at_ e2 ht2) hx) Z)) ?_
      refine OJ.pures oU 1 Z (OJ.nil (EJ.next ?_))
      refine CJ.cond Z (fun hb => ?_) (fun hb => ?_)
      · replace H := pif_t (of_decide_eq_true hb) H
        refine CJ.seq (CJ.region ?_)
        refine OJ.pures oU 2 Z (OJ.nil (EJ.next ?_))
        refine CJ.ret (EJ.bkR (EJ.skR (EJ.skR (EJ.bkR (EJ.skR (EJ.skR (?_)))))))
        first | (obtain rfl := Option.some.inj H; have H := K77) | (obtain ⟨q77, H2, e77⟩ := pbind H; obtain rfl := Option.some.inj e77; obtain rfl := Option.some.inj K77; have H := H2)
        obtain rfl := Option.some.inj H
        exact EJ.fin Z (.tmp Z .nil) ⟨Z, hS.ext⟩
      · replace H := pif_f (of_decide_eq_false hb) H
        refine CJ.skip (EJ.blk (EJ.next ?_))
        refine CJ.region ?_
        refine OJ.pures oU 2 Z ?_
        refine OJ.nil ?_
        exact EJ.round k (F' := [(0, .slice Aa0 a0.length ca0), (1, .string a1), (7, .int .i64 (a0.length : Int)), (8, .int .i64 (IntKind.i64.wrap (y1 + 1)))]) ⟨Z, Z, Z, Z, trivial⟩ (Nat.lt_succ_self _) ⟨(IntKind.i64.wrap (y1 + 1)), Z, hS.pick [] [0] Z, H⟩
    · replace H := pif_f (of_decide_eq_false hb) H
      refine CJ.exit (EJ.skE (EJ.skE (EJ.hit (?_))))
      exact EJ.meet (F' := []) trivial ⟨H, Z, hS.pick [] [0] Z⟩
 rintro F w1 ⟨he, rfl, hS⟩
 obtain rfl := Option.some.inj he
 have H := K77
 refine EJ.next ?_
 refine CJ.seq (CJ.region ?_)
 refine OJ.pures oU 1 Z (OJ.nil (EJ.next ?_))
 refine CJ.ret (?_)
 obtain rfl := Option.some.inj H
 exact EJ.fin Z (.tmp Z .nil) ⟨Z, hS.ext⟩

def impl_readGoat.f (k : Nat) (a0 : List ByteArray) : Option (Goat × Bool) := if (a0.length : Int) ≠ 4 then (some ((⟨(⟨0, 0⟩ : Spot), (⟨0, 0⟩ : Spot), 0, 0, 0⟩ : Goat), false)) else ((getI a0 0).bind fun t2 => (impl_readSpot.f t2).bind fun t3 => (getI a0 2).bind fun t5 => (impl_number.f t5 100).bind fun t6 => (getI a0 3).bind fun t7 => (impl_likings.f).bind fun t8 => (slices_Index_string_string.f k t8 t7).bind fun t11 => (getI a0 1).bind fun t21 => if t21 ≠ (⟨#[102, 114, 101, 101]⟩ : ByteArray) then ((getI a0 1).bind fun t22 => (strings_Cut.f t22 (⟨#[126]⟩ : ByteArray)).bind fun t23 => (impl_number.f t23.2.1 200).bind fun t24 => (impl_readSpot.f t23.1).bind fun t25 => (if (!t24.2) = true then (some true) else (some (!t25.2))).bind fun y27 => if y27 = true then (some ((⟨(⟨0, 0⟩ : Spot), (⟨0, 0⟩ : Spot), 0, 0, 0⟩ : Goat), false)) else (if t3.2 = true then (some ((⟨t3.1, t25.1, IntKind.i16.wrap t24.1, IntKind.i16.wrap t6.1, IntKind.i8.wrap t11⟩ : Goat), t6.2)) else (some ((⟨t3.1, t25.1, IntKind.i16.wrap t24.1, IntKind.i16.wrap t6.1, IntKind.i8.wrap t11⟩ : Goat), false)))) else (if t3.2 = true then (some ((⟨t3.1, (⟨0, 0⟩ : Spot), (-1), IntKind.i16.wrap t6.1, IntKind.i8.wrap t11⟩ : Goat), t6.2)) else (some ((⟨t3.1, (⟨0, 0⟩ : Spot), (-1), IntKind.i16.wrap t6.1, IntKind.i8.wrap t11⟩ : Goat), false))))
theorem impl_readGoat.c (k : Nat) (w : World) (Aa0 : Option Addr) (ca0 : Nat) (a0 : List ByteArray) (hr0 : Rd G.cs w Aa0 a0) (hc0 : a0.length ≤ ca0) (hT : (envC Tryz.prog 0).holds w) (r : Goat × Bool) (H : impl_readGoat.f k a0 = some r) :
 CV Tryz.prog 32 [.slice Aa0 a0.length ca0].toArray w fun v w' => v = .tuple #[.agg (cGoat.enc r.1).toArray, .bool r.2] ∧ Ext w w' := by
 have hS := (((St.init w no).param G.cs Aa0 ca0 a0 hr0 hc0).paramT (envC Tryz.prog 0) hT)
 unfold impl_readGoat.f at H
 refine CV.body Tryz.func32 Z Tryz.ntmps32 Z ?_
 refine CJ.seq (CJ.region ?_)
 refine OJ.ef Z Z Z (Ef.alloc hS oI Z Z (cGoat.enc (⟨(⟨0, 0⟩ : Spot), (⟨0, 0⟩ : Spot), 0, 0, 0⟩ : Goat)) Z) ?_
 rintro _ w1 ⟨b1, rfl, hS⟩
 refine OJ.pures oU 1 Z (OJ.nil (EJ.next ?_))
 refine CJ.seq ?_
 refine CJ.seq (CJ.region ?_)
 refine OJ.pures oU 3 Z (OJ.nil (EJ.next ?_))
 refine CJ.cond Z (fun hb => ?_) (fun hb => ?_)
 ·replace H := pif_t (of_decide_eq_true hb) H
  refine CJ.seq (CJ.region ?_)
  refine OJ.st Z Z Z (SR.build (C := cGoat) oU oI Z Z Z (zs := [.int .i8 0, .int .i8 0, .int .i8 0, .int .i8 0, .int .i16 0, .int .i16 0, .int .i8 0]) Z Z Z (⟨(⟨0, 0⟩ : Spot), (⟨0, 0⟩ : Spot), 0, 0, 0⟩ : Goat) Z) ?_
  refine OJ.es Z Z (Es.store oI hS (i := 0) Z Z Z Z Z Z (vs := cGoat.enc (⟨(⟨0, 0⟩ : Spot), (⟨0, 0⟩ : Spot), 0, 0, 0⟩ : Goat)) Z (cGoat.len _) (cGoat.one _) (Nat.le_of_ble_eq_true Z) (cGoat.enc (⟨(⟨0, 0⟩ : Spot), (⟨0, 0⟩ : Spot), 0, 0, 0⟩ : Goat)) Z) ?_
  intro w1 hS
  refine OJ.pures oU 1 Z (OJ.nil (EJ.next ?_))
  refine CJ.ret (EJ.skR (?_))
  obtain rfl := Option.some.inj H
  exact EJ.fin Z (.cell Z (ldE oU oI Z Z Z (hS.cells (i := 0) Z) Z) (.tmp Z .nil)) ⟨Z, hS.ext⟩
 replace H := pif_f (of_decide_eq_false hb) H
 refine CJ.skip (EJ.next ?_)
 refine CJ.seq (CJ.region ?_)
 refine OJ.pures oU 1 Z ?_
 obtain ⟨t2, ht2, H⟩ := pbind H
 obtain ⟨ad2, e2⟩ := (hS.rd' (i := 0) rfl).some' ht2
 refine OJ.st Z Z Z (SR.idxS oU oI Z Z Z Z e2 Z (getI_some ht2).1) ?_
 refine OJ.st Z Z Z (SR.load Z Z (fun w' hx => ld1 oU Z Z (CA.ext ((hS.rd' (i := 0) Z).at_ e2 ht2) hx) Z)) ?_
 obtain ⟨t3, ht3, H⟩ := pbind H
 refine OJ.callF Z Z Z Z Z hb84 Z (impl_readSpot.c _ t2 (hS.ro (i := 1) Z) _ ht3) ?_
 rintro _ w1 ⟨rfl, hs⟩
 replace hS := hS.grow hs
 refine OJ.pures oU 3 Z ?_
 refine OJ.ef Z Z Z (Ef.alloc hS oI Z Z (cSpot.enc (⟨0, 0⟩ : Spot)) Z) ?_
 rintro _ w1 ⟨b4, rfl, hS⟩
 refine OJ.es Z Z (Es.store oI hS (i := 1) Z Z Z Z Z Z (vs := cSpot.enc t3.1) Z (cSpot.len _) (cSpot.one _) (Nat.le_of_ble_eq_true Z) (cSpot.enc t3.1) Z) ?_
 intro w1 hS
 refine OJ.pures oU 1 Z (OJ.nil (EJ.next ?_))
 refine CJ.seq (CJ.region ?_)
 refine OJ.pures oU 1 Z ?_
 obtain ⟨t5, ht5, H⟩ := pbind H
 obtain ⟨ad5, e5⟩ := (hS.rd' (i := 0) rfl).some' ht5
 refine OJ.st Z Z Z (SR.idxS oU oI Z Z Z Z e5 Z (getI_some ht5).1) ?_
 refine OJ.st Z Z Z (SR.load Z Z (fun w' hx => ld1 oU Z Z (CA.ext ((hS.rd' (i := 0) Z).at_ e5 ht5) hx) Z)) ?_
 obtain ⟨t6, ht6, H⟩ := pbind H
 refine OJ.callF Z Z Z Z Z hb85 Z (impl_number.c _ t5 100 (hS.ro (i := 1) Z) _ ht6) ?_
 rintro _ w1 ⟨rfl, hs⟩
 replace hS := hS.grow hs
 refine OJ.pures oU 5 Z (OJ.nil (EJ.next ?_))
 refine CJ.seq ?_
 obtain ⟨t7, ht7, H⟩ := pbind H
 obtain ⟨t8, ht8, H⟩ := pbind H
 obtain ⟨t11, ht11, H⟩ := pbind H
 refine CJ.cut1 (fun F w1 => ∃ (A9 : Option Addr) (c10 : Nat) (b12 : Nat), F = [(0, .slice Aa0 a0.length ca0), (2, .pointer (some ⟨b1, 0, none⟩)), (3, .bool false), (5, .bool t3.2), (7, .bool t6.2), (8, .pointer (some ⟨b12, 0, none⟩))] ∧ St w no w1 [box b1 (cGoat.enc (⟨(⟨0, 0⟩ : Spot), (⟨0, 0⟩ : Spot), 0, 0, 0⟩ : Goat)) 50, box b4 (cSpot.enc t3.1) 48, rowC G.cs A9 c10 9 t8, box b12 (cGoat.enc (⟨t3.1, (⟨0, 0⟩ : Spot), (-1), IntKind.i16.wrap t6.1, IntKind.i8.wrap t11⟩ : Goat)) 50] [roC G.cs Aa0 ca0 a0, envC Tryz.prog 0]) ?_ ?_
 ·skip
  refine CJ.drawT [] [3, 7, 9, 10, 11] (.one 0 (.one 1 (.one 2 (.one 4 (.one 5 (.one 6 (.br (.alt 3 (.br (.alt 7 (.one 8 (.br (.alt 9 (.one 10 (.one 11 (.fin))) (.alt 10 (.one 9 (.one 11 (.fin))) (.stop))))) (.alt 10 (.one 7 (.one 8 (.one 9 (.one 11 (.fin))))) (.stop)))) (.alt 10 (.one 3 (.one 7 (.one 8 (.one 9 (.one 11 (.fin)))))) (.stop)))))))))) mixed (by kernel_rfl) hS [1] fun w1 hS hY hV => ?_
  refine TJ.st hY Z Z Z Z Z (fun w2 hY => SR.load Z Z (fun w' hx => ldE oU oI Z Z Z (CA.ext ((hV w2 hY).cellsR (i := 2) Z) hx) Z)) ?_
  refine TJ.pures oU 3 Z ?_
  obtain ⟨ad7, e7⟩ := (hS.rd' (i := 0) rfl).some' ht7
  refine TJ.sp Z Z Z Z Z (fun w2 => SR.idxS oU oI Z Z Z Z e7 Z (getI_some ht7).1) ?_
  refine TJ.st hY Z Z Z Z Z (fun w2 hY => SR.load Z Z (fun w' hx => ld1 oU Z Z (CA.ext (((hV w2 hY).rd' (i := 0) Z).at_ e7 ht7) hx) Z)) ?_
  refine TJ.br ?_
  refine TJ.alt ?_ ?_
  ·skip
   refine TJ.callF hY rfl rfl rfl rfl rfl rfl rfl hb42 rfl (impl_likings.c _  _ ht8) (by rintro v w' ⟨A13, c14, rfl, hs⟩; exact hs.ext) ?_
   rintro _ w1 hY ⟨A13, c14, rfl, hs⟩
   replace hS := hS.addN hs
   refine TJ.br ?_
   refine TJ.alt ?_ ?_
   ·skip
    refine TJ.callF hY rfl rfl rfl rfl rfl rfl rfl hb86 rfl (slices_Index_string_string.c k _ A13 c14 t8 (hS.rd (i := 2) rfl) (hS.le (i := 2) rfl) t7 _ ht11) (by rintro v w' ⟨rfl, hs⟩; exact hs) ?_
    rintro _ w1 hY ⟨rfl, hs⟩
    replace hS := hS.grow hs
    refine TJ.pures oU 1 Z ?_
    refine TJ.br ?_
    refine TJ.alt ?_ ?_
    ·skip
     refine TJ.ef hY Z Z Z Z Z ((SR.build (C := cGoat) oU oI Z Z Z (zs := [.int .i8 0, .int .i8 0, .int .i8 0, .int .i8 0, .int .i16 0, .int .i16 0, .int .i8 0]) Z Z Z (⟨t3.1, (⟨0, 0⟩ : Spot), (-1), IntKind.i16.wrap t6.1, IntKind.i8.wrap t11⟩ : Goat) Z).ef) ?_
     rintro _ w1 hY ⟨rfl, hx⟩
     replace hS := hS.grow hx
     refine TJ.ef hY Z Z Z Z Z (Ef.alloc hS oI Z Z (cGoat.enc (⟨(⟨0, 0⟩ : Spot), (⟨0, 0⟩ : Spot), 0, 0, 0⟩ : Goat)) Z) ?_
     rintro _ w1 hY ⟨b15, rfl, hS⟩
     have hO := hS
     refine TJ.es rfl rfl rfl rfl (Es.store oI (hS.inn [1]) (i := 3) rfl rfl rfl rfl rfl rfl (vs := cGoat.enc (⟨t3.1, (⟨0, 0⟩ : Spot), (-1), IntKind.i16.wrap t6.1, IntKind.i8.wrap t11⟩ : Goat)) rfl (cGoat.len _) (cGoat.one _) (Nat.le_of_ble_eq_true rfl) (cGoat.enc (⟨t3.1, (⟨0, 0⟩ : Spot), (-1), IntKind.i16.wrap t6.1, IntKind.i8.wrap t11⟩ : Goat)) rfl) (by intro w1 hS; exact hY.wr (hO.inY [1] 2 rfl rfl) hS.chg) ?_
     intro w1 hY hS
     have hS : St w no w1 [box b1 (cGoat.enc (⟨(⟨0, 0⟩ : Spot), (⟨0, 0⟩ : Spot), 0, 0, 0⟩ : Goat)) 50, box b4 (cSpot.enc t3.1) 48, rowC G.cs A13 c14 9 t8, box b15 (cGoat.enc (⟨t3.1, (⟨0, 0⟩ : Spot), (-1), IntKind.i16.wrap t6.1, IntKind.i8.wrap t11⟩ : Goat)) 50] [roC G.cs Aa0 ca0 a0, envC Tryz.prog 0] := hO.out [1] hS
     refine TJ.nil ?_
     exact EJ.meet (F' := [(0, .slice Aa0 a0.length ca0), (2, .pointer (some ⟨b1, 0, none⟩)), (3, .bool false), (5, .bool t3.2), (7, .bool t6.2), (8, .pointer (some ⟨b15, 0, none⟩))]) ⟨Z, Z, Z, Z, Z, Z, trivial⟩ ⟨A13, c14, b15, Z, hS.pick [0, 1, 2, 3] [0, 1] Z⟩
    refine TJ.alt ?_ ?_
    ·skip
     refine TJ.ef hY Z Z Z Z Z (Ef.alloc hS oI Z Z (cGoat.enc (⟨(⟨0, 0⟩ : Spot), (⟨0, 0⟩ : Spot), 0, 0, 0⟩ : Goat)) Z) ?_
     rintro _ w1 hY ⟨b16, rfl, hS⟩
     refine TJ.ef hY Z Z Z Z Z ((SR.build (C := cGoat) oU oI Z Z Z (zs := [.int .i8 0, .int .i8 0, .int .i8 0, .int .i8 0, .int .i16 0, .int .i16 0, .int .i8 0]) Z Z Z (⟨t3.1, (⟨0, 0⟩ : Spot), (-1), IntKind.i16.wrap t6.1, IntKind.i8.wrap t11⟩ : Goat) Z).ef) ?_
     rintro _ w1 hY ⟨rfl, hx⟩
     replace hS := hS.grow hx
     have hO := hS
     refine TJ.es rfl rfl rfl rfl (Es.store oI (hS.inn [1]) (i := 3) rfl rfl rfl rfl rfl rfl (vs := cGoat.enc (⟨t3.1, (⟨0, 0⟩ : Spot), (-1), IntKind.i16.wrap t6.1, IntKind.i8.wrap t11⟩ : Goat)) rfl (cGoat.len _) (cGoat.one _) (Nat.le_of_ble_eq_true rfl) (cGoat.enc (⟨t3.1, (⟨0, 0⟩ : Spot), (-1), IntKind.i16.wrap t6.1, IntKind.i8.wrap t11⟩ : Goat)) rfl) (by intro w1 hS; exact hY.wr (hO.inY [1] 2 rfl rfl) hS.chg) ?_
     intro w1 hY hS
     have hS : St w no w1 [box b1 (cGoat.enc (⟨(⟨0, 0⟩ : Spot), (⟨0, 0⟩ : Spot), 0, 0, 0⟩ : Goat)) 50, box b4 (cSpot.enc t3.1) 48, rowC G.cs A13 c14 9 t8, box b16 (cGoat.enc (⟨t3.1, (⟨0, 0⟩ : Spot), (-1), IntKind.i16.wrap t6.1, IntKind.i8.wrap t11⟩ : Goat)) 50] [roC G.cs Aa0 ca0 a0, envC Tryz.prog 0] := hO.out [1] hS
     refine TJ.nil ?_
     exact EJ.meet (F' := [(0, .slice Aa0 a0.length ca0), (2, .pointer (some ⟨b1, 0, none⟩)), (3, .bool false), (5, .bool t3.2), (7, .bool t6.2), (8, .pointer (some ⟨b16, 0, none⟩))]) ⟨Z, Z, Z, Z, Z, Z, trivial⟩ ⟨A13, c14, b16, Z, hS.pick [0, 1, 2, 3] [0, 1] Z⟩
    exact TJ.stop
   refine TJ.alt ?_ ?_
   ·skip
    refine TJ.ef hY Z Z Z Z Z (Ef.alloc hS oI Z Z (cGoat.enc (⟨(⟨0, 0⟩ : Spot), (⟨0, 0⟩ : Spot), 0, 0, 0⟩ : Goat)) Z) ?_
    rintro _ w1 hY ⟨b17, rfl, hS⟩
    refine TJ.callF hY rfl rfl rfl rfl rfl rfl rfl hb86 rfl (slices_Index_string_string.c k _ A13 c14 t8 (hS.rd (i := 2) rfl) (hS.le (i := 2) rfl) t7 _ ht11) (by rintro v w' ⟨rfl, hs⟩; exact hs) ?_
    rintro _ w1 hY ⟨rfl, hs⟩
    replace hS := hS.grow hs
    refine TJ.pures oU 1 Z ?_
    refine TJ.ef hY Z Z Z Z Z ((SR.build (C := cGoat) oU oI Z Z Z (zs := [.int .i8 0, .int .i8 0, .int .i8 0, .int .i8 0, .int .i16 0, .int .i16 0, .int .i8 0]) Z Z Z (⟨t3.1, (⟨0, 0⟩ : Spot), (-1), IntKind.i16.wrap t6.1, IntKind.i8.wrap t11⟩ : Goat) Z).ef) ?_
    rintro _ w1 hY ⟨rfl, hx⟩
    replace hS := hS.grow hx
    have hO := hS
    refine TJ.es rfl rfl rfl rfl (Es.store oI (hS.inn [1]) (i := 3) rfl rfl rfl rfl rfl rfl (vs := cGoat.enc (⟨t3.1, (⟨0, 0⟩ : Spot), (-1), IntKind.i16.wrap t6.1, IntKind.i8.wrap t11⟩ : Goat)) rfl (cGoat.len _) (cGoat.one _) (Nat.le_of_ble_eq_true rfl) (cGoat.enc (⟨t3.1, (⟨0, 0⟩ : Spot), (-1), IntKind.i16.wrap t6.1, IntKind.i8.wrap t11⟩ : Goat)) rfl) (by intro w1 hS; exact hY.wr (hO.inY [1] 2 rfl rfl) hS.chg) ?_
    intro w1 hY hS
    have hS : St w no w1 [box b1 (cGoat.enc (⟨(⟨0, 0⟩ : Spot), (⟨0, 0⟩ : Spot), 0, 0, 0⟩ : Goat)) 50, box b4 (cSpot.enc t3.1) 48, rowC G.cs A13 c14 9 t8, box b17 (cGoat.enc (⟨t3.1, (⟨0, 0⟩ : Spot), (-1), IntKind.i16.wrap t6.1, IntKind.i8.wrap t11⟩ : Goat)) 50] [roC G.cs Aa0 ca0 a0, envC Tryz.prog 0] := hO.out [1] hS
    refine TJ.nil ?_
    exact EJ.meet (F' := [(0, .slice Aa0 a0.length ca0), (2, .pointer (some ⟨b1, 0, none⟩)), (3, .bool false), (5, .bool t3.2), (7, .bool t6.2), (8, .pointer (some ⟨b17, 0, none⟩))]) ⟨Z, Z, Z, Z, Z, Z, trivial⟩ ⟨A13, c14, b17, Z, hS.pick [0, 1, 2, 3] [0, 1] Z⟩
   exact TJ.stop
  refine TJ.alt ?_ ?_
  ·skip
   refine TJ.ef hY Z Z Z Z Z (Ef.alloc hS oI Z Z (cGoat.enc (⟨(⟨0, 0⟩ : Spot), (⟨0, 0⟩ : Spot), 0, 0, 0⟩ : Goat)) Z) ?_
   rintro _ w1 hY ⟨b18, rfl, hS⟩
   refine TJ.callF hY rfl rfl rfl rfl rfl rfl rfl hb42 rfl (impl_likings.c _  _ ht8) (by rintro v w' ⟨A19, c20, rfl, hs⟩; exact hs.ext) ?_
   rintro _ w1 hY ⟨A19, c20, rfl, hs⟩
   replace hS := hS.addN hs
   refine TJ.callF hY rfl rfl rfl rfl rfl rfl rfl hb86 rfl (slices_Index_string_string.c k _ A19 c20 t8 (hS.rd (i := 3) rfl) (hS.le (i := 3) rfl) t7 _ ht11) (by rintro v w' ⟨rfl, hs⟩; exact hs) ?_
   rintro _ w1 hY ⟨rfl, hs⟩
   replace hS := hS.grow hs
   refine TJ.pures oU 1 Z ?_
   refine TJ.ef hY Z Z Z Z Z ((SR.build (C := cGoat) oU oI Z Z Z (zs := [.int .i8 0, .int .i8 0, .int .i8 0, .int .i8 0, .int .i16 0, .int .i16 0, .int .i8 0]) Z Z Z (⟨t3.1, (⟨0, 0⟩ : Spot), (-1), IntKind.i16.wrap t6.1, IntKind.i8.wrap t11⟩ : Goat) Z).ef) ?_
   rintro _ w1 hY ⟨rfl, hx⟩
   replace hS := hS.grow hx
   have hO := hS
   refine TJ.es rfl rfl rfl rfl (Es.store oI (hS.inn [1]) (i := 2) rfl rfl rfl rfl rfl rfl (vs := cGoat.enc (⟨t3.1, (⟨0, 0⟩ : Spot), (-1), IntKind.i16.wrap t6.1, IntKind.i8.wrap t11⟩ : Goat)) rfl (cGoat.len _) (cGoat.one _) (Nat.le_of_ble_eq_true rfl) (cGoat.enc (⟨t3.1, (⟨0, 0⟩ : Spot), (-1), IntKind.i16.wrap t6.1, IntKind.i8.wrap t11⟩ : Goat)) rfl) (by intro w1 hS; exact hY.wr (hO.inY [1] 2 rfl rfl) hS.chg) ?_
   intro w1 hY hS
   have hS : St w no w1 [box b1 (cGoat.enc (⟨(⟨0, 0⟩ : Spot), (⟨0, 0⟩ : Spot), 0, 0, 0⟩ : Goat)) 50, box b4 (cSpot.enc t3.1) 48, box b18 (cGoat.enc (⟨t3.1, (⟨0, 0⟩ : Spot), (-1), IntKind.i16.wrap t6.1, IntKind.i8.wrap t11⟩ : Goat)) 50, rowC G.cs A19 c20 9 t8] [roC G.cs Aa0 ca0 a0, envC Tryz.prog 0] := hO.out [1] hS
   refine TJ.nil ?_
   exact EJ.meet (F' := [(0, .slice Aa0 a0.length ca0), (2, .pointer (some ⟨b1, 0, none⟩)), (3, .bool false), (5, .bool t3.2), (7, .bool t6.2), (8, .pointer (some ⟨b18, 0, none⟩))]) ⟨Z, Z, Z, Z, Z, Z, trivial⟩ ⟨A19, c20, b18, Z, hS.pick [0, 1, 3, 2] [0, 1] Z⟩
  exact TJ.stop
 rintro F w1 ⟨A9, c10, b12, rfl, hS⟩
 refine EJ.next ?_
 refine CJ.seq ?_
 refine CJ.seq (CJ.region ?_)
 refine OJ.pures oU 1 Z ?_
 obtain ⟨t21, ht21, H⟩ := pbind H
 obtain ⟨ad21, e21⟩ := (hS.rd' (i := 0) rfl).some' ht21
 refine OJ.st Z Z Z (SR.idxS oU oI Z Z Z Z e21 Z (getI_some ht21).1) ?_
 refine OJ.st Z Z Z (SR.load Z Z (fun w' hx => ld1 oU Z Z (CA.ext ((hS.rd' (i := 0) Z).at_ e21 ht21) hx) Z)) ?_
 refine OJ.pures oU 1 Z (OJ.nil (EJ.next ?_))
 refine CJ.cond Z (fun hb => ?_) (fun hb => ?_)
 ·replace H := pif_t (of_decide_eq_true hb) H
  refine CJ.seq (CJ.region ?_)
  refine OJ.pures oU 1 Z ?_
  obtain ⟨t22, ht22, H⟩ := pbind H
  obtain ⟨ad22, e22⟩ := (hS.rd' (i := 0) rfl).some' ht22
  refine OJ.st Z Z Z (SR.idxS oU oI Z Z Z Z e22 Z (getI_some ht22).1) ?_
  refine OJ.st Z Z Z (SR.load Z Z (fun w' hx => ld1 oU Z Z (CA.ext ((hS.rd' (i := 0) Z).at_ e22 ht22) hx) Z)) ?_
  obtain ⟨t23, ht23, H⟩ := pbind H
  refine OJ.callF Z Z Z Z Z hb87 Z (strings_Cut.c _ t22 (⟨#[126]⟩ : ByteArray) (hS.ro (i := 1) Z) _ ht23) ?_
  rintro _ w1 ⟨rfl, hs⟩
  replace hS := hS.grow hs
  refine OJ.pures oU 7 Z (OJ.nil (EJ.next ?_))
  refine CJ.seq (CJ.region ?_)
  refine OJ.pures oU 1 Z ?_
  obtain ⟨t24, ht24, H⟩ := pbind H
  refine OJ.callF Z Z Z Z Z hb85 Z (impl_number.c _ t23.2.1 200 (hS.ro (i := 1) Z) _ ht24) ?_
  rintro _ w1 ⟨rfl, hs⟩
  replace hS := hS.grow hs
  refine OJ.pures oU 5 Z (OJ.nil (EJ.next ?_))
  refine CJ.seq (CJ.region ?_)
  refine OJ.pures oU 1 Z ?_
  obtain ⟨t25, ht25, H⟩ := pbind H
  refine OJ.callF Z Z Z Z Z hb84 Z (impl_readSpot.c _ t23.1 (hS.ro (i := 1) Z) _ ht25) ?_
  rintro _ w1 ⟨rfl, hs⟩
  replace hS := hS.grow hs
  refine OJ.pures oU 3 Z ?_
  refine OJ.ef Z Z Z (Ef.alloc hS oI Z Z (cSpot.enc (⟨0, 0⟩ : Spot)) Z) ?_
  rintro _ w1 ⟨b26, rfl, hS⟩
  refine OJ.es Z Z (Es.store oI hS (i := 4) Z Z Z Z Z Z (vs := cSpot.enc t25.1) Z (cSpot.len _) (cSpot.one _) (Nat.le_of_ble_eq_true Z) (cSpot.enc t25.1) Z) ?_
  intro w1 hS
  refine OJ.pures oU 1 Z (OJ.nil (EJ.next ?_))
  refine CJ.seq ?_
  obtain ⟨j78, H, K78⟩ := pbind H
  refine CJ.cut (fun F w1 => ∃ (y27 : Bool) , (some y27 : Option Bool) = some j78 ∧ F = [(2, .pointer (some ⟨b1, 0, none⟩)), (5, .bool t3.2), (7, .bool t6.2), (8, .pointer (some ⟨b12, 0, none⟩)), (12, .int .i64 t24.1), (14, .pointer (some ⟨b26, 0, none⟩)), (71, .bool y27)] ∧ St w no w1 [box b1 (cGoat.enc (⟨(⟨0, 0⟩ : Spot), (⟨0, 0⟩ : Spot), 0, 0, 0⟩ : Goat)) 50, box b12 (cGoat.enc (⟨t3.1, (⟨0, 0⟩ : Spot), (-1), IntKind.i16.wrap t6.1, IntKind.i8.wrap t11⟩ : Goat)) 50, box b26 (cSpot.enc t25.1) 48] [roC G.cs Aa0 ca0 a0, envC Tryz.prog 0]) ?_ ?_
  ·skip
   refine CJ.region ?_
   refine OJ.pures oU 3 Z ?_
   refine OJ.split (t := 68) Z (fun hb => ?_) (fun hb => ?_)
   ·replace H := pif_t hb H
    refine OJ.pures oU 3 Z ?_
    refine OJ.nil ?_
    exact EJ.meet (F' := [(2, .pointer (some ⟨b1, 0, none⟩)), (5, .bool t3.2), (7, .bool t6.2), (8, .pointer (some ⟨b12, 0, none⟩)), (12, .int .i64 t24.1), (14, .pointer (some ⟨b26, 0, none⟩)), (71, .bool true)]) ⟨Z, Z, Z, Z, Z, Z, Z, trivial⟩ ⟨true, H, Z, hS.pick [0, 3, 4] [0, 1] Z⟩
   replace H := pifb_f hb H
   refine OJ.pures oU 3 Z ?_
   refine OJ.nil ?_
   exact EJ.meet (F' := [(2, .pointer (some ⟨b1, 0, none⟩)), (5, .bool t3.2), (7, .bool t6.2), (8, .pointer (some ⟨b12, 0, none⟩)), (12, .int .i64 t24.1), (14, .pointer (some ⟨b26, 0, none⟩)), (71, .bool (!t25.2))]) ⟨Z, Z, Z, Z, Z, Z, Z, trivial⟩ ⟨(!t25.2), H, Z, hS.pick [0, 3, 4] [0, 1] Z⟩
  rintro F w1 ⟨y27, he, rfl, hS⟩
  obtain rfl := Option.some.inj he
  have H := K78
  refine CJ.cond Z (fun hb => ?_) (fun hb => ?_)
  ·replace H := pif_t hb H
   refine CJ.seq (CJ.region ?_)
   refine OJ.st Z Z Z (SR.build (C := cGoat) oU oI Z Z Z (zs := [.int .i8 0, .int .i8 0, .int .i8 0, .int .i8 0, .int .i16 0, .int .i16 0, .int .i8 0]) Z Z Z (⟨(⟨0, 0⟩ : Spot), (⟨0, 0⟩ : Spot), 0, 0, 0⟩ : Goat) Z) ?_
   refine OJ.es Z Z (Es.store oI hS (i := 0) Z Z Z Z Z Z (vs := cGoat.enc (⟨(⟨0, 0⟩ : Spot), (⟨0, 0⟩ : Spot), 0, 0, 0⟩ : Goat)) Z (cGoat.len _) (cGoat.one _) (Nat.le_of_ble_eq_true Z) (cGoat.enc (⟨(⟨0, 0⟩ : Spot), (⟨0, 0⟩ : Spot), 0, 0, 0⟩ : Goat)) Z) ?_
   intro w1 hS
   refine OJ.pures oU 1 Z (OJ.nil (EJ.next ?_))
   refine CJ.ret (EJ.skR (EJ.skR (?_)))
   obtain rfl := Option.some.inj H
   exact EJ.fin Z (.cell Z (ldE oU oI Z Z Z (hS.cells (i := 0) Z) Z) (.tmp Z .nil)) ⟨Z, hS.ext⟩
  replace H := pifb_f hb H
  refine CJ.skip (EJ.next ?_)
  refine CJ.region ?_
  refine OJ.st Z Z Z (SR.load Z Z (fun w' hx => ldE oU oI Z Z Z (CA.ext (hS.cells (i := 2) Z) hx) Z)) ?_
  refine OJ.pures oU 2 Z ?_
  refine OJ.st Z Z Z (SR.fieldAddr oU oI Z Z Z Z Z Z) ?_
  refine OJ.es Z Z (Es.store oI hS (i := 1) Z Z Z (G.ad1 _ _) Z Z (vs := cSpot.enc t25.1) Z (cSpot.len _) (cSpot.one _) (Nat.le_of_ble_eq_true Z) (cGoat.enc (⟨t3.1, t25.1, (-1), IntKind.i16.wrap t6.1, IntKind.i8.wrap t11⟩ : Goat)) Z) ?_
  intro w1 hS
  refine OJ.st Z Z Z (SR.fieldAddr oU oI Z Z Z Z Z Z) ?_
  refine OJ.es Z Z (Es.store oI hS (i := 1) Z Z Z (G.ad1 _ _) Z Z (vs := (ci .i16).enc (IntKind.i16.wrap t24.1)) Z Z (one1 Z) (Nat.le_of_ble_eq_true Z) (cGoat.enc (⟨t3.1, t25.1, IntKind.i16.wrap t24.1, IntKind.i16.wrap t6.1, IntKind.i8.wrap t11⟩ : Goat)) Z) ?_
  intro w1 hS
  refine OJ.nil (EJ.next ?_)
  refine CJ.seq (CJ.region ?_)
  refine OJ.st Z Z Z (SR.load Z Z (fun w' hx => ldE oU oI Z Z Z (CA.ext (hS.cells (i := 1) Z) hx) Z)) ?_
  refine OJ.pures oU 2 Z ?_
  refine OJ.split (t := 80) Z (fun hb => ?_) (fun hb => ?_)
  ·replace H := pif_t hb H
   refine OJ.pures oU 2 Z ?_
   refine OJ.es Z Z (Es.store oI hS (i := 0) Z Z Z Z Z Z (vs := cGoat.enc (⟨t3.1, t25.1, IntKind.i16.wrap t24.1, IntKind.i16.wrap t6.1, IntKind.i8.wrap t11⟩ : Goat)) Z (cGoat.len _) (cGoat.one _) (Nat.le_of_ble_eq_true Z) (cGoat.enc (⟨t3.1, t25.1, IntKind.i16.wrap t24.1, IntKind.i16.wrap t6.1, IntKind.i8.wrap t11⟩ : Goat)) Z) ?_
   intro w1 hS
   refine OJ.pures oU 1 Z (OJ.nil (EJ.next ?_))
   refine CJ.ret (?_)
   obtain rfl := Option.some.inj H
   exact EJ.fin Z (.cell Z (ldE oU oI Z Z Z (hS.cells (i := 0) Z) Z) (.tmp Z .nil)) ⟨Z, hS.ext⟩
  replace H := pifb_f hb H
  refine OJ.pures oU 2 Z ?_
  refine OJ.es Z Z (Es.store oI hS (i := 0) Z Z Z Z Z Z (vs := cGoat.enc (⟨t3.1, t25.1, IntKind.i16.wrap t24.1, IntKind.i16.wrap t6.1, IntKind.i8.wrap t11⟩ : Goat)) Z (cGoat.len _) (cGoat.one _) (Nat.le_of_ble_eq_true Z) (cGoat.enc (⟨t3.1, t25.1, IntKind.i16.wrap t24.1, IntKind.i16.wrap t6.1, IntKind.i8.wrap t11⟩ : Goat)) Z) ?_
  intro w1 hS
  refine OJ.pures oU 1 Z (OJ.nil (EJ.next ?_))
  refine CJ.ret (?_)
  obtain rfl := Option.some.inj H
  exact EJ.fin Z (.cell Z (ldE oU oI Z Z Z (hS.cells (i := 0) Z) Z) (.tmp Z .nil)) ⟨Z, hS.ext⟩
 replace H := pif_f (of_decide_eq_false hb) H
 refine CJ.skip (EJ.next ?_)
 refine CJ.seq (CJ.region ?_)
 refine OJ.st Z Z Z (SR.load Z Z (fun w' hx => ldE oU oI Z Z Z (CA.ext (hS.cells (i := 3) Z) hx) Z)) ?_
 refine OJ.pures oU 2 Z ?_
 refine OJ.split (t := 80) Z (fun hb => ?_) (fun hb => ?_)
 ·replace H := pif_t hb H
  refine OJ.pures oU 2 Z ?_
  refine OJ.es Z Z (Es.store oI hS (i := 0) Z Z Z Z Z Z (vs := cGoat.enc (⟨t3.1, (⟨0, 0⟩ : Spot), (-1), IntKind.i16.wrap t6.1, IntKind.i8.wrap t11⟩ : Goat)) Z (cGoat.len _) (cGoat.one _) (Nat.le_of_ble_eq_true Z) (cGoat.enc (⟨t3.1, (⟨0, 0⟩ : Spot), (-1), IntKind.i16.wrap t6.1, IntKind.i8.wrap t11⟩ : Goat)) Z) ?_
  intro w1 hS
  refine OJ.pures oU 1 Z (OJ.nil (EJ.next ?_))
  refine CJ.ret (?_)
  obtain rfl := Option.some.inj H
  exact EJ.fin Z (.cell Z (ldE oU oI Z Z Z (hS.cells (i := 0) Z) Z) (.tmp Z .nil)) ⟨Z, hS.ext⟩
 replace H := pifb_f hb H
 refine OJ.pures oU 2 Z ?_
 refine OJ.es Z Z (Es.store oI hS (i := 0) Z Z Z Z Z Z (vs := cGoat.enc (⟨t3.1, (⟨0, 0⟩ : Spot), (-1), IntKind.i16.wrap t6.1, IntKind.i8.wrap t11⟩ : Goat)) Z (cGoat.len _) (cGoat.one _) (Nat.le_of_ble_eq_true Z) (cGoat.enc (⟨t3.1, (⟨0, 0⟩ : Spot), (-1), IntKind.i16.wrap t6.1, IntKind.i8.wrap t11⟩ : Goat)) Z) ?_
 intro w1 hS
 refine OJ.pures oU 1 Z (OJ.nil (EJ.next ?_))
 refine CJ.ret (?_)
 obtain rfl := Option.some.inj H
 exact EJ.fin Z (.cell Z (ldE oU oI Z Z Z (hS.cells (i := 0) Z) Z) (.tmp Z .nil)) ⟨Z, hS.ext⟩

def internal_stringslite_HasSuffix.f (a0 : ByteArray) (a1 : ByteArray) : Option Bool := if (a1.size : Int) ≤ (a0.size : Int) then ((chk ((0 : Int) ≤ (IntKind.i64.wrap ((a0.size : Int) - (a1.size : Int))) ∧ (IntKind.i64.wrap ((a0.size : Int) - (a1.size : Int))) ≤ (a0.size : Int) ∧ (a0.size : Int) ≤ (a0.size : Int))).bind fun u1 => some (decide ((a0.extract ((IntKind.i64.wrap ((a0.size : Int) - (a1.size : Int))).toNat) a0.size) = a1))) else (some false)
theorem internal_stringslite_HasSuffix.c (w : World) (a0 : ByteArray) (a1 : ByteArray) (r : Bool) (H : internal_stringslite_HasSuffix.f a0 a1 = some r) :
 CV Tryz.prog 116 [.string a0, .string a1].toArray w fun v w' => v = .bool r ∧ Ext w w' := by
 have hS := (St.init w no)
 unfold internal_stringslite_HasSuffix.f at H
 refine CV.body Tryz.func116 Z Tryz.ntmps116 Z ?_
 refine CJ.seq (CJ.region ?_)
 refine OJ.pures oU 1 Z (OJ.nil (EJ.next ?_))
 refine CJ.seq (CJ.region ?_)
 refine OJ.pures oU 6 Z ?_
 refine OJ.split (t := 10) Z (fun hb => ?_) (fun hb => ?_)
 ·replace H := pif_t (of_decide_eq_true hb) H
  refine OJ.pures oU 6 Z ?_
  obtain ⟨u1, hu1, H⟩ := pbind H
  refine OJ.st rfl rfl rfl (SR.cutStr oU ((IntKind.i64.wrap ((a0.size : Int) - (a1.size : Int))).toNat) (a0.size) rfl rfl rfl rfl rfl (.inr ⟨_, _, rfl, (chk_some hu1).1, rfl⟩) (.inl ⟨rfl, rfl⟩) (by have := (chk_some hu1); omega) (by have := (chk_some hu1); omega)) ?_
  refine OJ.pures oU 4 Z (OJ.nil (EJ.next ?_))
  refine CJ.ret (?_)
  obtain rfl := Option.some.inj H
  exact EJ.fin Z (.tmp Z .nil) ⟨Z, hS.ext⟩
 replace H := pif_f (of_decide_eq_false hb) H
 refine OJ.pures oU 11 Z (OJ.nil (EJ.next ?_))
 refine CJ.ret (?_)
 obtain rfl := Option.some.inj H
 exact EJ.fin Z (.tmp Z .nil) ⟨Z, hS.ext⟩

def internal_stringslite_TrimSuffix.f (a0 : ByteArray) (a1 : ByteArray) : Option ByteArray := (internal_stringslite_HasSuffix.f a0 a1).bind fun t1 => if t1 = true then ((chk ((0 : Int) ≤ 0 ∧ 0 ≤ (IntKind.i64.wrap ((a0.size : Int) - (a1.size : Int))) ∧ (IntKind.i64.wrap ((a0.size : Int) - (a1.size : Int))) ≤ (a0.size : Int))).bind fun u2 => some (a0.extract 0 ((IntKind.i64.wrap ((a0.size : Int) - (a1.size : Int))).toNat))) else (some a0)
theorem internal_stringslite_TrimSuffix.c (w : World) (a0 : ByteArray) (a1 : ByteArray) (r : ByteArray) (H : internal_stringslite_TrimSuffix.f a0 a1 = some r) :
 CV Tryz.prog 89 [.string a0, .string a1].toArray w fun v w' => v = .string r ∧ Ext w w' := by
 have hS := (St.init w no)
 unfold internal_stringslite_TrimSuffix.f at H
 refine CV.body Tryz.func89 Z Tryz.ntmps89 Z ?_
 refine CJ.seq (CJ.region ?_)
 refine OJ.pures oU 1 Z (OJ.nil (EJ.next ?_))
 refine CJ.seq ?_
 refine CJ.seq (CJ.region ?_)
 refine OJ.pures oU 2 Z ?_
 obtain ⟨t1, ht1, H⟩ := pbind H
 refine OJ.callF Z Z Z Z Z hb116 Z (internal_stringslite_HasSuffix.c _ a0 a1 _ ht1) ?_
 rintro _ w1 ⟨rfl, hs⟩
 replace hS := hS.grow hs
 refine OJ.nil (EJ.next ?_)
 refine CJ.cond Z (fun hb => ?_) (fun hb => ?_)
 ·replace H := pif_t hb H
  refine CJ.seq (CJ.region ?_)
  refine OJ.pures oU 6 Z ?_
  obtain ⟨u2, hu2, H⟩ := pbind H
  refine OJ.st rfl rfl rfl (SR.cutStr oU (0) ((IntKind.i64.wrap ((a0.size : Int) - (a1.size : Int))).toNat) rfl rfl rfl rfl rfl (.inl ⟨rfl, rfl⟩) (.inr ⟨_, _, rfl, (by have := (chk_some hu2); omega), rfl⟩) (by have := (chk_some hu2); omega) (by have := (chk_some hu2); omega)) ?_
  refine OJ.pures oU 1 Z (OJ.nil (EJ.next ?_))
  refine CJ.ret (EJ.skR (?_))
  obtain rfl := Option.some.inj H
  exact EJ.fin Z (.tmp Z .nil) ⟨Z, hS.ext⟩
 replace H := pifb_f hb H
 refine CJ.skip (EJ.next ?_)
 refine CJ.seq (CJ.region ?_)
 refine OJ.pures oU 2 Z (OJ.nil (EJ.next ?_))
 refine CJ.ret (?_)
 obtain rfl := Option.some.inj H
 exact EJ.fin Z (.tmp Z .nil) ⟨Z, hS.ext⟩

def strings_TrimSuffix.f (a0 : ByteArray) (a1 : ByteArray) : Option ByteArray := (internal_stringslite_TrimSuffix.f a0 a1).bind fun t1 => some t1
theorem strings_TrimSuffix.c (w : World) (a0 : ByteArray) (a1 : ByteArray) (r : ByteArray) (H : strings_TrimSuffix.f a0 a1 = some r) :
 CV Tryz.prog 34 [.string a0, .string a1].toArray w fun v w' => v = .string r ∧ Ext w w' := by
 have hS := (St.init w no)
 unfold strings_TrimSuffix.f at H
 refine CV.body Tryz.func34 Z Tryz.ntmps34 Z ?_
 refine CJ.seq (CJ.region ?_)
 refine OJ.pures oU 1 Z (OJ.nil (EJ.next ?_))
 refine CJ.seq (CJ.region ?_)
 refine OJ.pures oU 2 Z ?_
 obtain ⟨t1, ht1, H⟩ := pbind H
 refine OJ.callF Z Z Z Z Z hb89 Z (internal_stringslite_TrimSuffix.c _ a0 a1 _ ht1) ?_
 rintro _ w1 ⟨rfl, hs⟩
 replace hS := hS.grow hs
 refine OJ.pures oU 1 Z (OJ.nil (EJ.next ?_))
 refine CJ.ret (?_)
 obtain rfl := Option.some.inj H
 exact EJ.fin Z (.tmp Z .nil) ⟨Z, hS.ext⟩

def strings_Split.f (a0 : ByteArray) (a1 : ByteArray) : Option (List ByteArray) := (chk (a0.size < 4294967281 ∧ 1 ≤ a1.size)).bind fun _ => some (splitS a0 a1)
theorem strings_Split.c (w : World) (a0 : ByteArray) (a1 : ByteArray) (hT : (envC Tryz.prog 0).holds w) (r : List ByteArray) (H : strings_Split.f a0 a1 = some r) :
 CV Tryz.prog 33 [.string a0, .string a1].toArray w fun v w' => ∃ (A0 : Option Addr) (c0 : Nat), v = .slice A0 r.length c0 ∧ St w no w' [rowC G.cs A0 c0 9 r] [] := by
 unfold strings_Split.f at H
 obtain ⟨u, hu, H⟩ := pbind H
 have h := chk_some hu
 obtain rfl := Option.some.inj H
 exact split_cv hT (fun s sep m w h1 h2 h3 => Any.strings_Split { laySplit with } laySplit.i9 s sep m w h1 h2 h3) h.1 h.2

def linesF : Nat → ByteArray → List ByteArray
  | 0, _ => []
  | k + 1, s => if s.size = 0 then [] else if 0 ≤ Go.Lib.indexByte s.data.toList 10 then s.extract 0 (Go.Lib.indexByte s.data.toList 10 + 1).toNat :: linesF k (s.extract (Go.Lib.indexByte s.data.toList 10 + 1).toNat s.size) else [s]
def linesB (s : ByteArray) : List ByteArray := linesF s.size s
theorem idx_lt : ∀ (l : List UInt8) (c : UInt8), Go.Lib.indexByte l c < (l.length : Int) ∨ l = []
  | [], c => .inr rfl
  | b :: l, c => by
    left
    unfold Go.Lib.indexByte
    split
    · simp
    · split
      · rw [List.length_cons]; omega
      · rename_i h1 h2
        rcases idx_lt l c with h | h
        · rw [List.length_cons]; omega
        · subst h
          simp [Go.Lib.indexByte] at h2
theorem size_list (s : ByteArray) : s.data.toList.length = s.size := by simp
theorem linesF_eq : ∀ (k k' : Nat) (s : ByteArray), s.size ≤ k → s.size ≤ k' → linesF k s = linesF k' s
  | 0, 0, s, _, _ => rfl
  | 0, k' + 1, s, h, _ => by rw [linesF, linesF, if_pos (by omega)]
  | k + 1, 0, s, _, h => by rw [linesF, linesF, if_pos (by omega)]
  | k + 1, k' + 1, s, h, h' => by
    rw [linesF, linesF]
    by_cases h0 : s.size = 0
    · rw [if_pos h0, if_pos h0]
    · rw [if_neg h0, if_neg h0]
      by_cases hi : 0 ≤ Go.Lib.indexByte s.data.toList 10
      · rw [if_pos hi, if_pos hi, linesF_eq k k' _ (by rw [ByteArray.size_extract]; omega) (by rw [ByteArray.size_extract]; omega)]
      · rw [if_neg hi, if_neg hi]
theorem linesB_nil {s : ByteArray} (h : s.size = 0) : linesB s = [] := by
 unfold linesB
 rw [h]; rfl
theorem linesB_hit {s : ByteArray} (h : s.size ≠ 0) (hi : 0 ≤ Go.Lib.indexByte s.data.toList 10) : linesB s = s.extract 0 (Go.Lib.indexByte s.data.toList 10 + 1).toNat :: linesB (s.extract (Go.Lib.indexByte s.data.toList 10 + 1).toNat s.size) := by
 obtain ⟨m, hm⟩ : ∃ m, s.size = m + 1 := ⟨s.size - 1, by omega⟩
 have e : linesB s = linesF (m + 1) s := by unfold linesB; rw [hm]
 rw [e, linesF, if_neg h, if_pos hi]
 congr 1
 unfold linesB
 exact linesF_eq _ _ _ (by rw [ByteArray.size_extract]; omega) (Nat.le_refl _)
theorem linesB_miss {s : ByteArray} (h : s.size ≠ 0) (hi : ¬ 0 ≤ Go.Lib.indexByte s.data.toList 10) : linesB s = s :: linesB ByteArray.empty := by
 obtain ⟨m, hm⟩ : ∃ m, s.size = m + 1 := ⟨s.size - 1, by omega⟩
 have e : linesB s = linesF (m + 1) s := by unfold linesB; rw [hm]
 rw [e, linesF, if_neg h, if_neg hi]
 rfl
theorem lines_it : LinesC Tryz.prog 82 9 linesB := by
 intro r bI Inv Out hst hy s W hsz hI hb
 refine CV.body Tryz.func82 Z Tryz.ntmps82 Z ?_
 refine CJ.block ?_
 refine CJ.loop (fun k F w1 => ∃ s : ByteArray, k = s.size ∧ F = [(0, .func (.yield r) #[] #[]), (1, .pointer (some ⟨bI, 0, none⟩))] ∧ s.size ≤ 9223372036854775806 ∧ Inv (linesB s) w1 ∧ w1.heap[bI]? = some (.cells #[.string s] 9 (0, 0))) s.size (F' := [(0, .func (.yield r) #[] #[]), (1, .pointer (some ⟨bI, 0, none⟩))]) ⟨Z, Z, trivial⟩ ⟨s, Z, Z, hsz, hI, hb⟩ ?_
 clear hI hb hsz s
 rintro k F w1 ⟨s, rfl, rfl, hsz, hI, hb⟩
 have hS : St w1 (fun k => k = bI) w1 [box bI [.string s] 9] [] := ⟨Chg.refl _ _, fun c hc => by rw [List.mem_singleton.1 hc]; exact hb, fun c hc b hb' => by rw [List.mem_singleton.1 hc] at hb'; exact .inr hb', List.pairwise_singleton _ _, by simp, by simp⟩
 refine CJ.seq ?_
 refine CJ.seq (CJ.region ?_)
 refine OJ.st Z Z Z (SR.load Z Z (fun w' hx => ld1 oU Z Z (CA.ext (hS.cells (i := 0) Z) hx) Z)) ?_
 refine OJ.pures oU 2 Z (OJ.nil (EJ.next ?_))
 refine CJ.cond Z (fun hb0 => ?_) (fun hb0 => ?_)
 ·have h0 : s.size ≠ 0 := by
    have := of_decide_eq_true hb0
    omega
  refine CJ.skip (EJ.next ?_)
  refine CJ.block ?_
  refine CJ.seq (CJ.region ?_)
  refine OJ.pures oU 1 Z (OJ.nil (EJ.next ?_))
  refine CJ.cut (fun F w2 => ∃ (line s' : ByteArray), linesB s = line :: linesB s' ∧ s'.size < s.size ∧ F = [(0, .func (.yield r) #[] #[]), (1, .pointer (some ⟨bI, 0, none⟩)), (3, .string line)] ∧ St w1 (fun k => k = bI) w2 [box bI [.string s'] 9] []) ?_ ?_
  ·refine CJ.seq ?_
   refine CJ.region ?_
   refine OJ.st Z Z Z (SR.load Z Z (fun w' hx => ld1 oU Z Z (CA.ext (hS.cells (i := 0) Z) hx) Z)) ?_
   have hidx : CV Tryz.prog 83 [.string s, .int .u8 10].toArray w1 fun v w' => v = .int .i64 (Go.Lib.indexByte s.data.toList 10) ∧ w' = w1 := Calls.mono (Any.strings_IndexByte layIdx s 10 w1) fun e w' ⟨h1, h2⟩ => ⟨_, h1, rfl, h2⟩
   refine OJ.callF Z Z Z Z Z hb83 Z hidx ?_
   rintro _ w2 ⟨rfl, rfl⟩
   refine OJ.pures oU 1 Z (OJ.nil (EJ.next ?_))
   refine CJ.seq (CJ.region ?_)
   refine OJ.pures oU 2 Z (OJ.nil (EJ.next ?_))
   have hlt : Go.Lib.indexByte s.data.toList 10 < (s.size : Int) := by
     rcases idx_lt s.data.toList 10 with h | h
     · rw [size_list] at h; exact h
     · have := size_list s
       rw [h] at this
       simp at this; omega
   refine CJ.cond Z (fun hb1 => ?_) (fun hb1 => ?_)
   ·have hi : 0 ≤ Go.Lib.indexByte s.data.toList 10 := of_decide_eq_true hb1
    have ew : IntKind.i64.wrap (Go.Lib.indexByte s.data.toList 10 + 1) = Go.Lib.indexByte s.data.toList 10 + 1 := w64 (by omega) (by omega)
    refine CJ.draw [] [0, 1, 2, 3, 4, 5, 6, 7, 8, 9] mixed (by kernel_rfl) hS fun w2 hS => ?_
    refine DJ.st Z Z Z Z Z (SR.load Z Z (fun w' hx => ld1 oU Z Z (CA.ext (hS.cells (i := 0) Z) hx) Z)) ?_
    refine DJ.pures oU 2 Z ?_
    refine DJ.st rfl rfl rfl rfl rfl (SR.cutStr oU 0 (Go.Lib.indexByte s.data.toList 10 + 1).toNat rfl rfl rfl rfl rfl (.inl ⟨rfl, rfl⟩) (.inr ⟨_, _, rfl, by rw [ew]; omega, by rw [ew]⟩) (by omega) (by omega)) ?_
    refine DJ.st Z Z Z Z Z (SR.load Z Z (fun w' hx => ld1 oU Z Z (CA.ext (hS.cells (i := 0) Z) hx) Z)) ?_
    refine DJ.pures oU 2 Z ?_
    refine DJ.st rfl rfl rfl rfl rfl (SR.cutStr oU (Go.Lib.indexByte s.data.toList 10 + 1).toNat s.size rfl rfl rfl rfl rfl (.inr ⟨_, _, rfl, by rw [ew]; omega, by rw [ew]⟩) (.inl ⟨rfl, rfl⟩) (by omega) (by omega)) ?_
    refine DJ.pures oU 1 Z ?_
    refine DJ.es Z Z Z Z (Es.store oI hS (i := 0) Z Z Z Z Z Z (vs := [.string (s.extract (Go.Lib.indexByte s.data.toList 10 + 1).toNat s.size)]) Z Z (one1 Z) (Nat.le_of_ble_eq_true Z) [.string (s.extract (Go.Lib.indexByte s.data.toList 10 + 1).toNat s.size)] Z) ?_
    intro w3 hS
    refine DJ.nil ?_
    exact EJ.meet (F' := [(0, .func (.yield r) #[] #[]), (1, .pointer (some ⟨bI, 0, none⟩)), (3, .string (s.extract 0 (Go.Lib.indexByte s.data.toList 10 + 1).toNat))]) ⟨rfl, rfl, rfl, trivial⟩ ⟨_, s.extract (Go.Lib.indexByte s.data.toList 10 + 1).toNat s.size, linesB_hit h0 hi, by rw [ByteArray.size_extract]; omega, rfl, hS⟩
   have hi : ¬ 0 ≤ Go.Lib.indexByte s.data.toList 10 := of_decide_eq_false hb1
   refine CJ.region ?_
   refine OJ.st Z Z Z (SR.load Z Z (fun w' hx => ld1 oU Z Z (CA.ext (hS.cells (i := 0) Z) hx) Z)) ?_
   refine OJ.pures oU 1 Z ?_
   refine OJ.es Z Z (Es.store oI hS (i := 0) Z Z Z Z Z Z (vs := [.string ByteArray.empty]) Z Z (one1 Z) (Nat.le_of_ble_eq_true Z) [.string ByteArray.empty] Z) ?_
   intro w3 hS
   refine OJ.nil ?_
   exact EJ.meet (F' := [(0, .func (.yield r) #[] #[]), (1, .pointer (some ⟨bI, 0, none⟩)), (3, .string s)]) ⟨rfl, rfl, rfl, trivial⟩ ⟨s, ByteArray.empty, linesB_miss h0 hi, by show 0 < s.size; omega, rfl, hS⟩
  rintro F w2 ⟨line, s', he, hlt, rfl, hS⟩
  have hb2 : w2.heap[bI]? = some (.cells #[.string s'] 9 (0, 0)) := hS.at_ (i := 0) rfl
  have hI2 := hst _ _ _ s' hI hS.chg hb2
  rw [he] at hI2
  refine CJ.seq (CJ.region ?_)
  refine OJ.pures oU 2 Z ?_
  refine OJ.yield Z Z Z Z Z Z Z Z (hy _ _ _ _ hI2 hb2) ?_
  rintro _ w3 (⟨rfl, hI3, hb3⟩ | ⟨rfl, hO⟩)
  ·refine OJ.pures oU 1 Z ?_
   refine OJ.nil (EJ.next ?_)
   refine CJ.condF Z ?_
   refine CJ.skip (EJ.blk ?_)
   exact EJ.round s'.size (F' := [(0, .func (.yield r) #[] #[]), (1, .pointer (some ⟨bI, 0, none⟩))]) ⟨rfl, rfl, trivial⟩ hlt ⟨s', rfl, rfl, by omega, hI3, by rw [hb3]; exact hb2⟩
  refine OJ.pures oU 1 Z (OJ.nil (EJ.next ?_))
  refine CJ.condT Z ?_
  refine CJ.ret (EJ.bkR (EJ.skR (EJ.bkR ?_)))
  exact EJ.fin Z .nil (.inr hO)
 have h0 : s.size = 0 := by
   have := of_decide_eq_false hb0
   omega
 rw [linesB_nil h0] at hI
 refine CJ.exit (EJ.skE (EJ.skE (EJ.hit ?_)))
 exact EJ.fin' Z .nil (.inl hI)
def impl_ReadGoats.l1 (k : Nat) : List ByteArray → List Goat → Option ((List Goat × Int) ⊕ (List Goat))
  | [], y => some (Sum.inr y)
  | line :: rest, y => (strings_TrimSuffix.f line (⟨#[10]⟩ : ByteArray)).bind fun t14 => (strings_Split.f t14 (⟨#[32]⟩ : ByteArray)).bind fun t15 => (impl_readGoat.f k t15).bind fun t16 => if (!t16.2) = true then (some (Sum.inl ([], 5))) else ((chk (y.length + ([t16.1] : List Goat).length ≤ 4294967296)).bind fun _ => impl_ReadGoats.l1 k rest (y ++ ([t16.1] : List Goat)))
def impl_ReadGoats.f (k : Nat) (a0 : ByteArray) : Option (List Goat × Int) := (chk (a0.size ≤ 4294967296)).bind fun _ => (impl_ReadGoats.l1 k (linesB a0) []).bind fun s => match s with | .inl r => some r | .inr y => (impl_GoatsText.f k y).bind fun t26 => if t26 ≠ a0 then (some ([], 5)) else (some (y, 0))
theorem strings_Lines.c (w : World) (a0 : ByteArray) : CV Tryz.prog 31 [.string a0].toArray w fun v w' => ∃ b, v = .func (.func 82) #[] #[.pointer (some ⟨b, 0, none⟩)] ∧ St w no w' [box b [.string a0] 9] [] := by
 have hS := St.init w no
 refine CV.body Tryz.func31 Z Tryz.ntmps31 Z ?_
 refine CJ.seq (CJ.region ?_)
 refine OJ.ef Z Z Z (Ef.box hS Z Z ([.string a0]) Z) ?_
 rintro _ w1 ⟨b1, rfl, hS⟩
 refine OJ.pures oU 1 Z (OJ.nil (EJ.next ?_))
 refine CJ.seq (CJ.region ?_)
 refine OJ.pures oU 2 Z (OJ.nil (EJ.next ?_))
 exact CJ.ret (EJ.fin Z (.tmp Z .nil) ⟨b1, Z, hS⟩)
theorem impl_ReadGoats.c (k : Nat) (w : World) (a0 : ByteArray) (hT : (envC Tryz.prog 0).holds w) (r : List Goat × Int) (H : impl_ReadGoats.f k a0 = some r) :
 CV Tryz.prog 7 [.string a0].toArray w fun v w' => ∃ (A0 : Option Addr) (c0 : Nat), v = .tuple #[.slice A0 r.1.length c0, .int .i64 r.2] ∧ St w no w' [rowC cGoat A0 c0 50 r.1] [] := by
 have hS := ((St.init w no).paramT (envC Tryz.prog 0) hT)
 unfold impl_ReadGoats.f at H
 obtain ⟨u, hu, H⟩ := pbind H
 obtain ⟨j, hj, K⟩ := pbind H
 refine CV.bodyM Tryz.func7 Z Tryz.ntmps7 Z ?_
 refine CJ.seq (CJ.region ?_)
 refine OJ.ef Z Z Z (Ef.alloc hS oI Z Z ([.slice none 0 0]) Z) ?_
 rintro _ w1 ⟨b2, rfl, hS⟩
 refine OJ.ef Z Z Z (Ef.alloc hS oI Z Z ([.int .i64 0]) Z) ?_
 rintro _ w1 ⟨b3, rfl, hS⟩
 refine OJ.nil (EJ.next ?_)
 refine CJ.seq (CJ.region ?_)
 refine OJ.ef Z Z Z (Ef.lit oU oI hS (C := cGoat) Z Z Z Z Z Z ([] : List Goat) Z Z Z Z) ?_
 rintro _ w1 ⟨A1, rfl, hS⟩
 refine OJ.ef Z Z Z (Ef.alloc hS oI Z Z ([.slice none 0 0]) Z) ?_
 rintro _ w1 ⟨b4, rfl, hS⟩
 refine OJ.es Z Z (Es.store oI hS (i := 3) Z Z Z Z Z Z (vs := [.slice A1 ([] : List Goat).length ([] : List Goat).length]) Z Z (one1 Z) (Nat.le_of_ble_eq_true Z) [.slice A1 ([] : List Goat).length ([] : List Goat).length] Z) ?_
 intro w1 hS
 refine OJ.nil (EJ.next ?_)
 refine CJ.seq ?_
 refine CJ.seq (CJ.region ?_)
 refine OJ.pures oU 1 Z ?_
 refine OJ.callF Z Z Z Z Z hb31 Z (strings_Lines.c _ a0) ?_
 rintro _ w1 ⟨bI, rfl, hs⟩
 replace hS := hS.addN hs
 refine OJ.nil (EJ.next ?_)
 refine CJ.block ?_
 refine CJ.lines (bI := bI) (d := 5) (σ := List Goat × Option Addr × Nat) (τ := Unit) (ls := linesB) (text := a0)
   (fun s => [box b2 [.slice none 0 0] 33, box b3 [.int .i64 0] 2, rowC cGoat s.2.1 s.2.2 50 s.1, box b4 [.slice s.2.1 s.1.length s.2.2] 33])
   (fun _ => [box b2 [.slice none 0 0] 33, box b3 [.int .i64 5] 2])
   (fun rest s => impl_ReadGoats.l1 k rest s.1 = some j) (fun _ => j = Sum.inl ([], 5))
   ([], A1, 0) rfl hb82 lines_it (by have := chk_some hu; omega) hS hj rfl ?_ ?_ ?_ ?_
 ·intro r v Q W h
  exact CJ.region (OJ.pures oU 1 Z (OJ.nil h))
 ·rintro r D rec line rest ⟨y, A, c⟩ W str RP H next stop hS
  replace H : impl_ReadGoats.l1 k (line :: rest) y = some j := H
  replace hS : St w no W [box b2 [.slice none 0 0] 33, box b3 [.int .i64 0] 2, rowC cGoat A c 50 y, box b4 [.slice A y.length c] 33, box bI [.string str] 9, dfr D, rcd r rec] [envC Tryz.prog 0] := hS
  rw [impl_ReadGoats.l1] at H
  refine CJ.block ?_
  refine CJ.seq (CJ.region ?_)
  refine OJ.pures oU 1 Z ?_
  obtain ⟨t14, ht14, H⟩ := pbind H
  refine OJ.callF Z Z Z Z Z hb34 Z (strings_TrimSuffix.c _ line (⟨#[10]⟩ : ByteArray) _ ht14) ?_
  rintro _ w1 ⟨rfl, hs⟩
  replace hS := hS.grow hs
  obtain ⟨t15, ht15, H⟩ := pbind H
  refine OJ.callF Z Z Z Z Z hb33 Z (strings_Split.c _ t14 (⟨#[32]⟩ : ByteArray) (hS.ro (i := 0) Z) _ ht15) ?_
  rintro _ w1 ⟨A3, c4, rfl, hs⟩
  replace hS := hS.addN hs
  obtain ⟨t16, ht16, H⟩ := pbind H
  refine OJ.callF Z Z Z Z Z hb32 Z (impl_readGoat.c k _ A3 c4 t15 (hS.rd (i := 7) Z) (hS.le (i := 7) Z) (hS.ro (i := 0) Z) _ ht16) ?_
  rintro _ w1 ⟨rfl, hs⟩
  replace hS := hS.grow hs
  refine OJ.pures oU 3 Z ?_
  refine OJ.ef Z Z Z (Ef.alloc hS oI Z Z (cGoat.enc (⟨(⟨0, 0⟩ : Spot), (⟨0, 0⟩ : Spot), 0, 0, 0⟩ : Goat)) Z) ?_
  rintro _ w1 ⟨b6, rfl, hS⟩
  refine OJ.es Z Z (Es.store oI hS (i := 8) Z Z Z Z Z Z (vs := cGoat.enc t16.1) Z (cGoat.len _) (cGoat.one _) (Nat.le_of_ble_eq_true Z) (cGoat.enc t16.1) Z) ?_
  intro w1 hS
  refine OJ.pures oU 1 Z (OJ.nil (EJ.next ?_))
  refine CJ.seq ?_
  refine CJ.seq (CJ.region ?_)
  refine OJ.pures oU 2 Z (OJ.nil (EJ.next ?_))
  refine CJ.cond Z (fun hb => ?_) (fun hb => ?_)
  ·replace H := pif_t hb H
   refine CJ.seq (CJ.region ?_)
   refine OJ.es Z Z (Es.store oI hS (i := 0) Z Z Z Z Z Z (vs := [.slice none 0 0]) Z Z (one1 Z) (Nat.le_of_ble_eq_true Z) [.slice none 0 0] Z) ?_
   intro w1 hS
   refine OJ.es Z Z (Es.store oI hS (i := 1) Z Z Z Z Z Z (vs := [.int .i64 5]) Z Z (one1 Z) (Nat.le_of_ble_eq_true Z) [.int .i64 5] Z) ?_
   intro w1 hS
   refine OJ.nil (EJ.next ?_)
   exact CJ.ret (EJ.skR (EJ.bkR (stop () _ _ (Option.some.inj H).symm (hS.pick [0, 1, 4, 5, 6] [0] Z))))
  replace H := pifb_f hb H
  refine CJ.skip (EJ.next ?_)
  refine CJ.region ?_
  refine OJ.st Z Z Z (SR.load Z Z (fun w' hx => ld1 oU Z Z (CA.ext (hS.cells (i := 3) Z) hx) Z)) ?_
  refine OJ.st Z Z Z (SR.load Z Z (fun w' hx => ldE oU oI Z Z Z (CA.ext (hS.cells (i := 8) Z) hx) Z)) ?_
  refine OJ.ef Z Z Z (Ef.lit oU oI hS (C := cGoat) Z Z Z Z Z Z ([t16.1] : List Goat) Z Z Z Z) ?_
  rintro _ w1 ⟨A18, rfl, hS⟩
  obtain ⟨u19, hu19, H⟩ := pbind H
  refine OJ.ew Z Z Z (Ew.append oU oI (C := cGoat) (xs := y) (ys := ([t16.1] : List Goat)) hS (i := 2) Z Z Z Z Z Z Z Z Z Z Z Z Z (hS.rd (i := 9) Z) (chk_some hu19)) ?_
  rintro _ w1 ⟨A20, c21, rfl, hS⟩
  refine OJ.es Z Z (Es.store oI hS (i := 3) Z Z Z Z Z Z (vs := [.slice A20 (y ++ ([t16.1] : List Goat)).length c21]) Z Z (one1 Z) (Nat.le_of_ble_eq_true Z) [.slice A20 (y ++ ([t16.1] : List Goat)).length c21] Z) ?_
  intro w1 hS
  exact OJ.nil (EJ.blk (next (y ++ ([t16.1] : List Goat), A20, c21) _ _ H (hS.pick [0, 1, 2, 3, 4, 5, 6] [0] Z)))
 ·rintro D ⟨y, A, c⟩ W H hS
  replace H : impl_ReadGoats.l1 k [] y = some j := H
  replace hS : St w no W [box b2 [.slice none 0 0] 33, box b3 [.int .i64 0] 2, rowC cGoat A c 50 y, box b4 [.slice A y.length c] 33, dfr D] [envC Tryz.prog 0] := hS
  rw [impl_ReadGoats.l1] at H
  obtain rfl := Option.some.inj H
  have H := K
  refine EJ.blk (EJ.next ?_)
  refine CJ.seq ?_
  refine CJ.seq (CJ.region ?_)
  refine OJ.st Z Z Z (SR.load Z Z (fun w' hx => ld1 oU Z Z (CA.ext (hS.cells (i := 3) Z) hx) Z)) ?_
  obtain ⟨t26, ht26, H⟩ := pbind H
  refine OJ.callF Z Z Z Z Z hb8 Z (impl_GoatsText.c k _ A c y (hS.rd (i := 2) Z) (hS.le (i := 2) Z) (hS.ro (i := 0) Z) _ ht26) ?_
  rintro _ w1 ⟨rfl, hs⟩
  replace hS := hS.grow hs
  refine OJ.pures oU 2 Z (OJ.nil (EJ.next ?_))
  refine CJ.cond Z (fun hb => ?_) (fun hb => ?_)
  ·replace H := pif_t (of_decide_eq_true hb) H
   refine CJ.seq (CJ.region ?_)
   refine OJ.es Z Z (Es.store oI hS (i := 0) Z Z Z Z Z Z (vs := [.slice none 0 0]) Z Z (one1 Z) (Nat.le_of_ble_eq_true Z) [.slice none 0 0] Z) ?_
   intro w1 hS
   refine OJ.es Z Z (Es.store oI hS (i := 1) Z Z Z Z Z Z (vs := [.int .i64 5]) Z Z (one1 Z) (Nat.le_of_ble_eq_true Z) [.int .i64 5] Z) ?_
   intro w1 hS
   refine OJ.nil (EJ.next ?_)
   refine CJ.ret (EJ.skR ?_)
   obtain rfl := Option.some.inj H
   refine EJ.finM (L := [box b2 [.slice none 0 0] 33, box b3 [.int .i64 5] 2]) (vs := [.slice none 0 0, .int .i64 5]) Z (hS.pick [0, 1, 4] [] Z) fun w' hS => ?_
   refine ⟨.cell Z (ld1 oU Z Z (hS.cells (i := 0) Z) Z) (.cell Z (ld1 oU Z Z (hS.cells (i := 1) Z) Z) .nil), none, 0, Z, ?_⟩
   replace hS := hS.addNil cGoat 50 none
   exact hS.pick [2] [] Z
  replace H := pif_f (of_decide_eq_false hb) H
  refine CJ.skip (EJ.next ?_)
  refine CJ.seq (CJ.region ?_)
  refine OJ.st Z Z Z (SR.load Z Z (fun w' hx => ld1 oU Z Z (CA.ext (hS.cells (i := 3) Z) hx) Z)) ?_
  refine OJ.es Z Z (Es.store oI hS (i := 0) Z Z Z Z Z Z (vs := [.slice A y.length c]) Z Z (one1 Z) (Nat.le_of_ble_eq_true Z) [.slice A y.length c] Z) ?_
  intro w1 hS
  refine OJ.es Z Z (Es.store oI hS (i := 1) Z Z Z Z Z Z (vs := [.int .i64 0]) Z Z (one1 Z) (Nat.le_of_ble_eq_true Z) [.int .i64 0] Z) ?_
  intro w1 hS
  refine OJ.nil (EJ.next ?_)
  refine CJ.ret ?_
  obtain rfl := Option.some.inj H
  refine EJ.finM (L := [box b2 [.slice A y.length c] 33, box b3 [.int .i64 0] 2, rowC cGoat A c 50 y]) (vs := [.slice A y.length c, .int .i64 0]) Z (hS.pick [0, 1, 2, 4] [] Z) fun w' hS => ?_
  refine ⟨.cell Z (ld1 oU Z Z (hS.cells (i := 0) Z) Z) (.cell Z (ld1 oU Z Z (hS.cells (i := 1) Z) Z) .nil), A, c, Z, ?_⟩
  exact hS.pick [2] [] Z
 rintro D ⟨⟩ W rfl hS
 obtain rfl := Option.some.inj K
 refine EJ.bkR (EJ.skR ?_)
 refine EJ.finM (L := [box b2 [.slice none 0 0] 33, box b3 [.int .i64 5] 2]) (vs := [.slice none 0 0, .int .i64 5]) Z (hS.pick [0, 1, 2] [] Z) fun w' hS => ?_
 refine ⟨.cell Z (ld1 oU Z Z (hS.cells (i := 0) Z) Z) (.cell Z (ld1 oU Z Z (hS.cells (i := 1) Z) Z) .nil), none, 0, Z, ?_⟩
 replace hS := hS.addNil cGoat 50 none
 exact hS.pick [2] [] Z


def impl_bit.f (a0 : Bool) : Option Int := if a0 = true then (some 1) else (some 0)
theorem impl_bit.c (w : World) (a0 : Bool) (r : Int) (H : impl_bit.f a0 = some r) :
 CV Tryz.prog 99 [.bool a0].toArray w fun v w' => v = .int .i64 r ∧ Ext w w' := by
 have hS := (St.init w no)
 unfold impl_bit.f at H
 refine CV.body Tryz.func99 Z Tryz.ntmps99 Z ?_
 refine CJ.seq (CJ.region ?_)
 refine OJ.pures oU 1 Z (OJ.nil (EJ.next ?_))
 refine CJ.seq ?_
 refine CJ.seq (CJ.region ?_)
 refine OJ.pures oU 1 Z (OJ.nil (EJ.next ?_))
 refine CJ.cond Z (fun hb => ?_) (fun hb => ?_)
 ·replace H := pif_t hb H
  refine CJ.seq (CJ.region ?_)
  refine OJ.pures oU 1 Z (OJ.nil (EJ.next ?_))
  refine CJ.ret (EJ.skR (?_))
  obtain rfl := Option.some.inj H
  exact EJ.fin Z (.tmp Z .nil) ⟨Z, hS.ext⟩
 replace H := pifb_f hb H
 refine CJ.skip (EJ.next ?_)
 refine CJ.seq (CJ.region ?_)
 refine OJ.pures oU 1 Z (OJ.nil (EJ.next ?_))
 refine CJ.ret (?_)
 obtain rfl := Option.some.inj H
 exact EJ.fin Z (.tmp Z .nil) ⟨Z, hS.ext⟩
end Go.Proofs.YtokanemjghfadaaGreatDoor
