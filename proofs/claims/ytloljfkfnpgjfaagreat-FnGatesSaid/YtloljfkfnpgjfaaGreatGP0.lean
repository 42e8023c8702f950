/-
  What the functions come to.
-/
import Derived.Test.YtloljfkfnpgjfaaGreatCs
namespace Go.Proofs.YtloljfkfnpgjfaaGreat
open G
set_option linter.unusedVariables false
set_option linter.unusedSimpArgs false
set_option maxRecDepth 100000
set_option maxHeartbeats 4000000
def laws_f6big.f (a0 : List Int) : Option Bool := some (decide (4096 < (a0.length : Int)))
theorem laws_f6big.c (w : World) (Aa0 : Option Addr) (ca0 : Nat) (a0 : List Int) (hr0 : Rd (ci .u8) w Aa0 a0) (hc0 : a0.length ≤ ca0) (r : Bool) (H : laws_f6big.f a0 = some r) :
 CV Tryz.prog 4 [.slice Aa0 a0.length ca0].toArray w fun v w' => v = .bool r ∧ Ext w w' := by
 have hS := ((St.init w no).param (ci .u8) Aa0 ca0 a0 hr0 hc0)
 unfold laws_f6big.f at H
 refine CV.body Tryz.func4 Z Tryz.ntmps4 Z ?_
 refine CJ.seq (CJ.region ?_)
 refine OJ.pures oU 1 Z (OJ.nil (EJ.next ?_))
 refine CJ.seq (CJ.region ?_)
 refine OJ.pures oU 4 Z (OJ.nil (EJ.next ?_))
 refine CJ.ret (?_)
 obtain rfl := Option.some.inj H
 exact EJ.fin Z (.tmp Z .nil) ⟨Z, hS.ext⟩

def spec_l00From.f (a0 : List Int) : Option l00Src := some (⟨a0, 0, 0⟩ : l00Src)
theorem spec_l00From.c (w : World) (Aa0 : Option Addr) (ca0 : Nat) (a0 : List Int) (hr0 : Rd (ci .u8) w Aa0 a0) (hc0 : a0.length ≤ ca0) (r : l00Src) (H : spec_l00From.f a0 = some r) :
 CV Tryz.prog 26 [.slice Aa0 a0.length ca0].toArray w fun v w' => ∃ (bn : Nat), v = .pointer (some ⟨bn, 0, none⟩) ∧ St w no w' [box bn ([.slice Aa0 a0.length ca0, .int .i64 r.at_, .int .u64 r.seed]) 102] [] := by
 have hS := ((St.init w no).param (ci .u8) Aa0 ca0 a0 hr0 hc0)
 unfold spec_l00From.f at H
 refine CV.body Tryz.func26 Z Tryz.ntmps26 Z ?_
 refine CJ.seq (CJ.region ?_)
 refine OJ.pures oU 1 Z (OJ.nil (EJ.next ?_))
 refine CJ.seq (CJ.region ?_)
 refine OJ.pures oU 1 Z ?_
 refine OJ.st Z Z Z (SR.build' oU oI Z Z Z (zs := [.slice none 0 0, .int .i64 0, .int .u64 0]) Z Z Z ([.slice Aa0 a0.length ca0, .int .i64 0, .int .u64 0]) Z) ?_
 refine OJ.ef Z Z Z (Ef.box hS Z Z ([.slice Aa0 a0.length ca0, .int .i64 0, .int .u64 0]) Z) ?_
 rintro _ w1 ⟨b1, rfl, hS⟩
 refine OJ.pures oU 1 Z (OJ.nil (EJ.next ?_))
 refine CJ.ret (?_)
 obtain rfl := Option.some.inj H
 exact EJ.fin Z (.tmp Z .nil) ⟨b1, Z, hS.pick [0] [] Z⟩

def spec_l00Src_next.f (a0 : l00Src) : Option (Int × l00Src) := if a0.at_ < (a0.code.length : Int) then ((getI a0.code a0.at_).bind fun t1 => if (IntKind.i64.wrap (a0.at_ + 1)) ≤ (a0.code.length : Int) then (some (IntKind.i64.wrap t1, (⟨a0.code, IntKind.i64.wrap (a0.at_ + 1), IntKind.u64.wrap ((IntKind.u64.wrap ((IntKind.u64.wrap (a0.seed * 6364136223846793005)) + (IntKind.u64.wrap (IntKind.i64.wrap t1)))) + 1442695040888963407)⟩ : l00Src))) else (some (IntKind.i64.wrap (andI .u64 (shrI .u64 (IntKind.u64.wrap ((IntKind.u64.wrap ((IntKind.u64.wrap (a0.seed * 6364136223846793005)) + (IntKind.u64.wrap (IntKind.i64.wrap t1)))) + 1442695040888963407)) 40) 255), (⟨a0.code, IntKind.i64.wrap (a0.at_ + 1), IntKind.u64.wrap ((IntKind.u64.wrap ((IntKind.u64.wrap (a0.seed * 6364136223846793005)) + (IntKind.u64.wrap (IntKind.i64.wrap t1)))) + 1442695040888963407)⟩ : l00Src)))) else (if (IntKind.i64.wrap (a0.at_ + 1)) ≤ (a0.code.length : Int) then (some (0, (⟨a0.code, IntKind.i64.wrap (a0.at_ + 1), IntKind.u64.wrap ((IntKind.u64.wrap ((IntKind.u64.wrap (a0.seed * 6364136223846793005)) + (IntKind.u64.wrap 0))) + 1442695040888963407)⟩ : l00Src))) else (some (IntKind.i64.wrap (andI .u64 (shrI .u64 (IntKind.u64.wrap ((IntKind.u64.wrap ((IntKind.u64.wrap (a0.seed * 6364136223846793005)) + (IntKind.u64.wrap 0))) + 1442695040888963407)) 40) 255), (⟨a0.code, IntKind.i64.wrap (a0.at_ + 1), IntKind.u64.wrap ((IntKind.u64.wrap ((IntKind.u64.wrap (a0.seed * 6364136223846793005)) + (IntKind.u64.wrap 0))) + 1442695040888963407)⟩ : l00Src))))
theorem spec_l00Src_next.c (w : World) (Aa0_0 : Option Addr) (ca0_0 : Nat) (a0 : l00Src) (ba0 : Nat) (hin : St w (fpU [box ba0 ([.slice Aa0_0 a0.code.length ca0_0, .int .i64 a0.at_, .int .u64 a0.seed]) 102]) w [box ba0 ([.slice Aa0_0 a0.code.length ca0_0, .int .i64 a0.at_, .int .u64 a0.seed]) 102] [roC (ci .u8) Aa0_0 ca0_0 a0.code]) (r : Int × l00Src) (H : spec_l00Src_next.f a0 = some r) :
 CV Tryz.prog 79 [.pointer (some ⟨ba0, 0, none⟩)].toArray w fun v w' => v = .int .i64 r.1 ∧ St w (fpU [box ba0 ([.slice Aa0_0 a0.code.length ca0_0, .int .i64 a0.at_, .int .u64 a0.seed]) 102]) w' [box ba0 ([.slice Aa0_0 a0.code.length ca0_0, .int .i64 r.2.at_, .int .u64 r.2.seed]) 102] [] := by
 have hS := hin
 unfold spec_l00Src_next.f at H
 refine CV.body Tryz.func79 Z Tryz.ntmps79 Z ?_
 refine CJ.seq (CJ.region ?_)
 refine OJ.pures oU 1 Z (OJ.nil (EJ.next ?_))
 refine CJ.seq (CJ.region ?_)
 refine OJ.pures oU 1 Z (OJ.nil (EJ.next ?_))
 refine CJ.seq ?_
 refine CJ.seq ?_
 refine CJ.draw [] [0, 1, 2, 3, 4, 5, 6, 7, 8, 9] mixed (by kernel_rfl) hS fun w1 hS => ?_
 refine DJ.pures oU 2 Z ?_
 refine DJ.st Z Z Z Z Z (SR.fieldAddr oU oI Z Z Z Z Z Z) ?_
 refine DJ.st Z Z Z Z Z (SR.load Z Z (fun w' hx => ld1 oU Z Z (CA.ext (CA.sub (hS.cells (i := 0) Z) 1) hx) Z)) ?_
 refine DJ.pures oU 2 Z ?_
 refine DJ.st Z Z Z Z Z (SR.fieldAddr oU oI Z Z Z Z Z Z) ?_
 refine DJ.st Z Z Z Z Z (SR.load Z Z (fun w' hx => ld1 oU Z Z (CA.ext (CA.sub (hS.cells (i := 0) Z) 0) hx) Z)) ?_
 refine DJ.pures oU 2 Z ?_
 refine DJ.nil (EJ.next ?_)
 refine CJ.cond Z (fun hb => ?_) (fun hb => ?_)
 ·replace H := pif_t (of_decide_eq_true hb) H
  refine CJ.draw [] [0, 1, 2, 3, 4, 5, 6, 7, 8, 9, 10, 11] mixed (by kernel_rfl) hS fun w1 hS => ?_
  refine DJ.pures oU 2 Z ?_
  refine DJ.st Z Z Z Z Z (SR.fieldAddr oU oI Z Z Z Z Z Z) ?_
  refine DJ.st Z Z Z Z Z (SR.load Z Z (fun w' hx => ld1 oU Z Z (CA.ext (CA.sub (hS.cells (i := 0) Z) 0) hx) Z)) ?_
  refine DJ.pures oU 2 Z ?_
  refine DJ.st Z Z Z Z Z (SR.fieldAddr oU oI Z Z Z Z Z Z) ?_
  refine DJ.st Z Z Z Z Z (SR.load Z Z (fun w' hx => ld1 oU Z Z (CA.ext (CA.sub (hS.cells (i := 0) Z) 1) hx) Z)) ?_
  obtain ⟨t1, ht1, H⟩ := pbind H
  obtain ⟨ad1, e1⟩ := (hS.rd' (i := 0) rfl).some' ht1
  refine DJ.st Z Z Z Z Z (SR.idxS oU oI Z Z Z Z e1 Z (getI_some ht1).1) ?_
  refine DJ.st Z Z Z Z Z (SR.load Z Z (fun w' hx => ld1 oU Z Z (CA.ext ((hS.rd' (i := 0) Z).at_ e1 ht1) hx) Z)) ?_
  refine DJ.pures oU 2 Z ?_
  refine DJ.nil (EJ.next ?_)
  refine CJ.seq (CJ.region ?_)
  refine OJ.pures oU 2 Z ?_
  refine OJ.st Z Z Z (SR.fieldAddr oU oI Z Z Z Z Z Z) ?_
  refine OJ.st Z Z Z (SR.load Z Z (fun w' hx => ld1 oU Z Z (CA.ext (CA.sub (hS.cells (i := 0) Z) 1) hx) Z)) ?_
  refine OJ.pures oU 2 Z ?_
  refine OJ.st Z Z Z (SR.fieldAddr oU oI Z Z Z Z Z Z) ?_
  refine OJ.es Z Z (Es.store oI hS (i := 0) (vs := [.int .i64 (IntKind.i64.wrap (a0.at_ + 1))]) Z Z Z (G.ad1 _ _) Z Z Z Z (one1 Z) (Nat.le_of_ble_eq_true Z) ([.slice Aa0_0 a0.code.length ca0_0, .int .i64 (IntKind.i64.wrap (a0.at_ + 1)), .int .u64 a0.seed]) Z) ?_
  intro w1 hS
  refine OJ.nil (EJ.next ?_)
  refine CJ.seq (CJ.region ?_)
  refine OJ.pures oU 3 Z ?_
  refine OJ.st Z Z Z (SR.fieldAddr oU oI Z Z Z Z Z Z) ?_
  refine OJ.st Z Z Z (SR.load Z Z (fun w' hx => ld1 oU Z Z (CA.ext (CA.sub (hS.cells (i := 0) Z) 2) hx) Z)) ?_
  refine OJ.pures oU 6 Z ?_
  refine OJ.st Z Z Z (SR.fieldAddr oU oI Z Z Z Z Z Z) ?_
  refine OJ.es Z Z (Es.store oI hS (i := 0) (vs := [.int .u64 (IntKind.u64.wrap ((IntKind.u64.wrap ((IntKind.u64.wrap (a0.seed * 6364136223846793005)) + (IntKind.u64.wrap (IntKind.i64.wrap t1)))) + 1442695040888963407))]) Z Z Z (G.ad1 _ _) Z Z Z Z (one1 Z) (Nat.le_of_ble_eq_true Z) ([.slice Aa0_0 a0.code.length ca0_0, .int .i64 (IntKind.i64.wrap (a0.at_ + 1)), .int .u64 (IntKind.u64.wrap ((IntKind.u64.wrap ((IntKind.u64.wrap (a0.seed * 6364136223846793005)) + (IntKind.u64.wrap (IntKind.i64.wrap t1)))) + 1442695040888963407))]) Z) ?_
  intro w1 hS
  refine OJ.nil (EJ.next ?_)
  refine CJ.seq ?_
  refine CJ.seq ?_
  refine CJ.draw [] [0, 1, 2, 3, 4, 5, 6, 7, 8, 9] mixed (by kernel_rfl) hS fun w1 hS => ?_
  refine DJ.pures oU 2 Z ?_
  refine DJ.st Z Z Z Z Z (SR.fieldAddr oU oI Z Z Z Z Z Z) ?_
  refine DJ.st Z Z Z Z Z (SR.load Z Z (fun w' hx => ld1 oU Z Z (CA.ext (CA.sub (hS.cells (i := 0) Z) 1) hx) Z)) ?_
  refine DJ.pures oU 2 Z ?_
  refine DJ.st Z Z Z Z Z (SR.fieldAddr oU oI Z Z Z Z Z Z) ?_
  refine DJ.st Z Z Z Z Z (SR.load Z Z (fun w' hx => ld1 oU Z Z (CA.ext (CA.sub (hS.cells (i := 0) Z) 0) hx) Z)) ?_
  refine DJ.pures oU 2 Z ?_
  refine DJ.nil (EJ.next ?_)
  refine CJ.cond Z (fun hb => ?_) (fun hb => ?_)
  ·replace H := pif_t (of_decide_eq_true hb) H
   refine CJ.seq (CJ.region ?_)
   refine OJ.pures oU 2 Z (OJ.nil (EJ.next ?_))
   refine CJ.ret (EJ.skR (?_))
   obtain rfl := Option.some.inj H
   exact EJ.fin Z (.tmp Z .nil) ⟨Z, hS.pick [0] [] Z⟩
  replace H := pif_f (of_decide_eq_false hb) H
  refine CJ.skip (EJ.next ?_)
  refine CJ.seq (CJ.region ?_)
  refine OJ.pures oU 2 Z ?_
  refine OJ.st Z Z Z (SR.fieldAddr oU oI Z Z Z Z Z Z) ?_
  refine OJ.st Z Z Z (SR.load Z Z (fun w' hx => ld1 oU Z Z (CA.ext (CA.sub (hS.cells (i := 0) Z) 2) hx) Z)) ?_
  refine OJ.st rfl rfl rfl (SR.shr rfl rfl rfl (by decide)) ?_
  refine OJ.pures oU 3 Z (OJ.nil (EJ.next ?_))
  refine CJ.ret (?_)
  obtain rfl := Option.some.inj H
  exact EJ.fin Z (.tmp Z .nil) ⟨Z, hS.pick [0] [] Z⟩
 replace H := pif_f (of_decide_eq_false hb) H
 refine CJ.skip (EJ.next ?_)
 refine CJ.seq (CJ.region ?_)
 refine OJ.pures oU 2 Z ?_
 refine OJ.st Z Z Z (SR.fieldAddr oU oI Z Z Z Z Z Z) ?_
 refine OJ.st Z Z Z (SR.load Z Z (fun w' hx => ld1 oU Z Z (CA.ext (CA.sub (hS.cells (i := 0) Z) 1) hx) Z)) ?_
 refine OJ.pures oU 2 Z ?_
 refine OJ.st Z Z Z (SR.fieldAddr oU oI Z Z Z Z Z Z) ?_
 refine OJ.es Z Z (Es.store oI hS (i := 0) (vs := [.int .i64 (IntKind.i64.wrap (a0.at_ + 1))]) Z Z Z (G.ad1 _ _) Z Z Z Z (one1 Z) (Nat.le_of_ble_eq_true Z) ([.slice Aa0_0 a0.code.length ca0_0, .int .i64 (IntKind.i64.wrap (a0.at_ + 1)), .int .u64 a0.seed]) Z) ?_
 intro w1 hS
 refine OJ.nil (EJ.next ?_)
 refine CJ.seq (CJ.region ?_)
 refine OJ.pures oU 3 Z ?_
 refine OJ.st Z Z Z (SR.fieldAddr oU oI Z Z Z Z Z Z) ?_
 refine OJ.st Z Z Z (SR.load Z Z (fun w' hx => ld1 oU Z Z (CA.ext (CA.sub (hS.cells (i := 0) Z) 2) hx) Z)) ?_
 refine OJ.pures oU 6 Z ?_
 refine OJ.st Z Z Z (SR.fieldAddr oU oI Z Z Z Z Z Z) ?_
 refine OJ.es Z Z (Es.store oI hS (i := 0) (vs := [.int .u64 (IntKind.u64.wrap ((IntKind.u64.wrap ((IntKind.u64.wrap (a0.seed * 6364136223846793005)) + (IntKind.u64.wrap 0))) + 1442695040888963407))]) Z Z Z (G.ad1 _ _) Z Z Z Z (one1 Z) (Nat.le_of_ble_eq_true Z) ([.slice Aa0_0 a0.code.length ca0_0, .int .i64 (IntKind.i64.wrap (a0.at_ + 1)), .int .u64 (IntKind.u64.wrap ((IntKind.u64.wrap ((IntKind.u64.wrap (a0.seed * 6364136223846793005)) + (IntKind.u64.wrap 0))) + 1442695040888963407))]) Z) ?_
 intro w1 hS
 refine OJ.nil (EJ.next ?_)
 refine CJ.seq ?_
 refine CJ.seq ?_
 refine CJ.draw [] [0, 1, 2, 3, 4, 5, 6, 7, 8, 9] mixed (by kernel_rfl) hS fun w1 hS => ?_
 refine DJ.pures oU 2 Z ?_
 refine DJ.st Z Z Z Z Z (SR.fieldAddr oU oI Z Z Z Z Z Z) ?_
 refine DJ.st Z Z Z Z Z (SR.load Z Z (fun w' hx => ld1 oU Z Z (CA.ext (CA.sub (hS.cells (i := 0) Z) 1) hx) Z)) ?_
 refine DJ.pures oU 2 Z ?_
 refine DJ.st Z Z Z Z Z (SR.fieldAddr oU oI Z Z Z Z Z Z) ?_
 refine DJ.st Z Z Z Z Z (SR.load Z Z (fun w' hx => ld1 oU Z Z (CA.ext (CA.sub (hS.cells (i := 0) Z) 0) hx) Z)) ?_
 refine DJ.pures oU 2 Z ?_
 refine DJ.nil (EJ.next ?_)
 refine CJ.cond Z (fun hb => ?_) (fun hb => ?_)
 ·replace H := pif_t (of_decide_eq_true hb) H
  refine CJ.seq (CJ.region ?_)
  refine OJ.pures oU 2 Z (OJ.nil (EJ.next ?_))
  refine CJ.ret (EJ.skR (?_))
  obtain rfl := Option.some.inj H
  exact EJ.fin Z (.tmp Z .nil) ⟨Z, hS.pick [0] [] Z⟩
 replace H := pif_f (of_decide_eq_false hb) H
 refine CJ.skip (EJ.next ?_)
 refine CJ.seq (CJ.region ?_)
 refine OJ.pures oU 2 Z ?_
 refine OJ.st Z Z Z (SR.fieldAddr oU oI Z Z Z Z Z Z) ?_
 refine OJ.st Z Z Z (SR.load Z Z (fun w' hx => ld1 oU Z Z (CA.ext (CA.sub (hS.cells (i := 0) Z) 2) hx) Z)) ?_
 refine OJ.st rfl rfl rfl (SR.shr rfl rfl rfl (by decide)) ?_
 refine OJ.pures oU 3 Z (OJ.nil (EJ.next ?_))
 refine CJ.ret (?_)
 obtain rfl := Option.some.inj H
 exact EJ.fin Z (.tmp Z .nil) ⟨Z, hS.pick [0] [] Z⟩

def spec_l00Src_pick.f (a0 : l00Src) (a1 : Int) : Option (Int × l00Src) := if a1 ≤ 1 then (some (0, a0)) else ((spec_l00Src_next.f a0).bind fun t1 => if 200 < a1 then ((spec_l00Src_next.f (⟨a0.code, t1.2.at_, t1.2.seed⟩ : l00Src)).bind fun t2 => (chk (a1 ≠ 0)).bind fun u3 => some (Int.tmod (IntKind.i64.wrap ((IntKind.i64.wrap (t1.1 * 256)) + t2.1)) a1, (⟨a0.code, t2.2.at_, t2.2.seed⟩ : l00Src))) else ((chk (a1 ≠ 0)).bind fun u4 => some (Int.tmod t1.1 a1, (⟨a0.code, t1.2.at_, t1.2.seed⟩ : l00Src))))
theorem spec_l00Src_pick.c (w : World) (Aa0_0 : Option Addr) (ca0_0 : Nat) (a0 : l00Src) (ba0 : Nat) (a1 : Int) (hin : St w (fpU [box ba0 ([.slice Aa0_0 a0.code.length ca0_0, .int .i64 a0.at_, .int .u64 a0.seed]) 102]) w [box ba0 ([.slice Aa0_0 a0.code.length ca0_0, .int .i64 a0.at_, .int .u64 a0.seed]) 102] [roC (ci .u8) Aa0_0 ca0_0 a0.code]) (r : Int × l00Src) (H : spec_l00Src_pick.f a0 a1 = some r) :
 CV Tryz.prog 49 [.pointer (some ⟨ba0, 0, none⟩), .int .i64 a1].toArray w fun v w' => v = .int .i64 r.1 ∧ St w (fpU [box ba0 ([.slice Aa0_0 a0.code.length ca0_0, .int .i64 a0.at_, .int .u64 a0.seed]) 102]) w' [box ba0 ([.slice Aa0_0 a0.code.length ca0_0, .int .i64 r.2.at_, .int .u64 r.2.seed]) 102] [] := by
 have hS := hin
 unfold spec_l00Src_pick.f at H
 refine CV.body Tryz.func49 Z Tryz.ntmps49 Z ?_
 refine CJ.seq (CJ.region ?_)
 refine OJ.pures oU 1 Z (OJ.nil (EJ.next ?_))
 refine CJ.seq ?_
 refine CJ.seq (CJ.region ?_)
 refine OJ.pures oU 2 Z (OJ.nil (EJ.next ?_))
 refine CJ.cond Z (fun hb => ?_) (fun hb => ?_)
 ·replace H := pif_t (of_decide_eq_true hb) H
  refine CJ.seq (CJ.region ?_)
  refine OJ.pures oU 1 Z (OJ.nil (EJ.next ?_))
  refine CJ.ret (EJ.skR (?_))
  obtain rfl := Option.some.inj H
  exact EJ.fin Z (.tmp Z .nil) ⟨Z, hS.pick [0] [] Z⟩
 replace H := pif_f (of_decide_eq_false hb) H
 refine CJ.skip (EJ.next ?_)
 refine CJ.seq (CJ.region ?_)
 refine OJ.pures oU 1 Z ?_
 obtain ⟨t1, ht1, H⟩ := pbind H
 refine OJ.callF Z Z Z Z Z hb79 Z (spec_l00Src_next.c _ Aa0_0 ca0_0 a0 ba0 ((hS.subs [0] [0] [] Z).pick [0] [0] Z) _ ht1) ?_
 rintro _ w1 ⟨rfl, hs⟩
 replace hS := hS.back [0] Z Z [box ba0 ([.slice Aa0_0 a0.code.length ca0_0, .int .i64 t1.2.at_, .int .u64 t1.2.seed]) 102] [] hs ⟨fun _ => Iff.rfl, trivial⟩
 refine OJ.pures oU 1 Z (OJ.nil (EJ.next ?_))
 refine CJ.seq ?_
 refine CJ.seq (CJ.region ?_)
 refine OJ.pures oU 2 Z (OJ.nil (EJ.next ?_))
 refine CJ.cond Z (fun hb => ?_) (fun hb => ?_)
 ·replace H := pif_t (of_decide_eq_true hb) H
  refine CJ.region ?_
  refine OJ.pures oU 3 Z ?_
  obtain ⟨t2, ht2, H⟩ := pbind H
  refine OJ.callF Z Z Z Z Z hb79 Z (spec_l00Src_next.c _ Aa0_0 ca0_0 (⟨a0.code, t1.2.at_, t1.2.seed⟩ : l00Src) ba0 ((hS.subs [0] [0] [] Z).pick [0] [0] Z) _ ht2) ?_
  rintro _ w1 ⟨rfl, hs⟩
  replace hS := hS.back [0] Z Z [box ba0 ([.slice Aa0_0 a0.code.length ca0_0, .int .i64 t2.2.at_, .int .u64 t2.2.seed]) 102] [] hs ⟨fun _ => Iff.rfl, trivial⟩
  refine OJ.pures oU 2 Z (OJ.nil (EJ.next ?_))
  refine CJ.seq (CJ.region ?_)
  refine OJ.pures oU 2 Z ?_
  obtain ⟨u3, hu3, H⟩ := pbind H
  refine OJ.st Z Z Z (SR.rem Z Z Z (chk_some hu3)) ?_
  refine OJ.pures oU 1 Z (OJ.nil (EJ.next ?_))
  refine CJ.ret (?_)
  obtain rfl := Option.some.inj H
  exact EJ.fin Z (.tmp Z .nil) ⟨Z, hS.pick [0] [] Z⟩
 replace H := pif_f (of_decide_eq_false hb) H
 refine CJ.skip (EJ.next ?_)
 refine CJ.seq (CJ.region ?_)
 refine OJ.pures oU 2 Z ?_
 obtain ⟨u4, hu4, H⟩ := pbind H
 refine OJ.st Z Z Z (SR.rem Z Z Z (chk_some hu4)) ?_
 refine OJ.pures oU 1 Z (OJ.nil (EJ.next ?_))
 refine CJ.ret (?_)
 obtain rfl := Option.some.inj H
 exact EJ.fin Z (.tmp Z .nil) ⟨Z, hS.pick [0] [] Z⟩

def spec_l01Next.f (a0 : Spot) (a1 : Int) : Option Spot := if a1 = 0 then (some (⟨a0.X, IntKind.i8.wrap (a0.Y - 1)⟩ : Spot)) else (if a1 = 1 then (some (⟨IntKind.i8.wrap (a0.X + 1), a0.Y⟩ : Spot)) else (if a1 = 2 then (some (⟨a0.X, IntKind.i8.wrap (a0.Y + 1)⟩ : Spot)) else (some (⟨IntKind.i8.wrap (a0.X - 1), a0.Y⟩ : Spot))))
theorem spec_l01Next.c (w : World) (a0 : Spot) (a1 : Int) (r : Spot) (H : spec_l01Next.f a0 a1 = some r) :
 CV Tryz.prog 37 [.agg (cSpot.enc a0).toArray, .int .i64 a1].toArray w fun v w' => v = .agg (cSpot.enc r).toArray ∧ Ext w w' := by
 have hS := (St.init w no)
 unfold spec_l01Next.f at H
 refine CV.body Tryz.func37 Z Tryz.ntmps37 Z ?_
 refine CJ.seq (CJ.region ?_)
 refine OJ.ef Z Z Z (Ef.box hS Z Z (cSpot.enc a0) Z) ?_
 rintro _ w1 ⟨b1, rfl, hS⟩
 refine OJ.ef Z Z Z (Ef.alloc hS oI Z Z (cSpot.enc (⟨0, 0⟩ : Spot)) Z) ?_
 rintro _ w1 ⟨b2, rfl, hS⟩
 refine OJ.nil (EJ.next ?_)
 refine CJ.seq ?_
 refine CJ.seq (CJ.region ?_)
 refine OJ.pures oU 1 Z (OJ.nil (EJ.next ?_))
 refine CJ.block ?_
 refine CJ.seq (CJ.region ?_)
 refine OJ.pures oU 2 Z (OJ.nil (EJ.next ?_))
 refine CJ.cond Z (fun hb => ?_) (fun hb => ?_)
 ·replace H := pif_t (of_decide_eq_true hb) H
  refine CJ.region ?_
  refine OJ.st Z Z Z (SR.fieldAddr oU oI Z Z Z Z Z Z) ?_
  refine OJ.st Z Z Z (SR.load Z Z (fun w' hx => ld1 oU Z Z (CA.ext (CA.sub (hS.cells (i := 0) Z) 1) hx) Z)) ?_
  refine OJ.pures oU 1 Z ?_
  refine OJ.st Z Z Z (SR.fieldAddr oU oI Z Z Z Z Z Z) ?_
  refine OJ.es Z Z (Es.store oI hS (i := 0) Z Z Z (G.ad1 _ _) Z Z (vs := (ci .i8).enc (IntKind.i8.wrap (a0.Y - 1))) Z Z (one1 Z) (Nat.le_of_ble_eq_true Z) (cSpot.enc (⟨a0.X, IntKind.i8.wrap (a0.Y - 1)⟩ : Spot)) Z) ?_
  intro w1 hS
  refine OJ.nil (EJ.blk (EJ.next ?_))
  refine CJ.seq (CJ.region ?_)
  refine OJ.st Z Z Z (SR.load Z Z (fun w' hx => ldE oU oI Z Z Z (CA.ext (hS.cells (i := 0) Z) hx) Z)) ?_
  refine OJ.es Z Z (Es.store oI hS (i := 1) Z Z Z Z Z Z (vs := cSpot.enc (⟨a0.X, IntKind.i8.wrap (a0.Y - 1)⟩ : Spot)) Z (cSpot.len _) (cSpot.one _) (Nat.le_of_ble_eq_true Z) (cSpot.enc (⟨a0.X, IntKind.i8.wrap (a0.Y - 1)⟩ : Spot)) Z) ?_
  intro w1 hS
  refine OJ.nil (EJ.next ?_)
  refine CJ.ret (?_)
  obtain rfl := Option.some.inj H
  exact EJ.fin Z (.cell Z (ldE oU oI Z Z Z (hS.cells (i := 1) Z) Z) .nil) ⟨Z, hS.ext⟩
 replace H := pif_f (of_decide_eq_false hb) H
 refine CJ.seq (CJ.region ?_)
 refine OJ.pures oU 2 Z (OJ.nil (EJ.next ?_))
 refine CJ.cond Z (fun hb => ?_) (fun hb => ?_)
 ·replace H := pif_t (of_decide_eq_true hb) H
  refine CJ.region ?_
  refine OJ.st Z Z Z (SR.fieldAddr oU oI Z Z Z Z Z Z) ?_
  refine OJ.st Z Z Z (SR.load Z Z (fun w' hx => ld1 oU Z Z (CA.ext (CA.sub (hS.cells (i := 0) Z) 0) hx) Z)) ?_
  refine OJ.pures oU 1 Z ?_
  refine OJ.st Z Z Z (SR.fieldAddr oU oI Z Z Z Z Z Z) ?_
  refine OJ.es Z Z (Es.store oI hS (i := 0) Z Z Z (G.ad1 _ _) Z Z (vs := (ci .i8).enc (IntKind.i8.wrap (a0.X + 1))) Z Z (one1 Z) (Nat.le_of_ble_eq_true Z) (cSpot.enc (⟨IntKind.i8.wrap (a0.X + 1), a0.Y⟩ : Spot)) Z) ?_
  intro w1 hS
  refine OJ.nil (EJ.blk (EJ.next ?_))
  refine CJ.seq (CJ.region ?_)
  refine OJ.st Z Z Z (SR.load Z Z (fun w' hx => ldE oU oI Z Z Z (CA.ext (hS.cells (i := 0) Z) hx) Z)) ?_
  refine OJ.es Z Z (Es.store oI hS (i := 1) Z Z Z Z Z Z (vs := cSpot.enc (⟨IntKind.i8.wrap (a0.X + 1), a0.Y⟩ : Spot)) Z (cSpot.len _) (cSpot.one _) (Nat.le_of_ble_eq_true Z) (cSpot.enc (⟨IntKind.i8.wrap (a0.X + 1), a0.Y⟩ : Spot)) Z) ?_
  intro w1 hS
  refine OJ.nil (EJ.next ?_)
  refine CJ.ret (?_)
  obtain rfl := Option.some.inj H
  exact EJ.fin Z (.cell Z (ldE oU oI Z Z Z (hS.cells (i := 1) Z) Z) .nil) ⟨Z, hS.ext⟩
 replace H := pif_f (of_decide_eq_false hb) H
 refine CJ.seq (CJ.region ?_)
 refine OJ.pures oU 2 Z (OJ.nil (EJ.next ?_))
 refine CJ.cond Z (fun hb => ?_) (fun hb => ?_)
 ·replace H := pif_t (of_decide_eq_true hb) H
  refine CJ.region ?_
  refine OJ.st Z Z Z (SR.fieldAddr oU oI Z Z Z Z Z Z) ?_
  refine OJ.st Z Z Z (SR.load Z Z (fun w' hx => ld1 oU Z Z (CA.ext (CA.sub (hS.cells (i := 0) Z) 1) hx) Z)) ?_
  refine OJ.pures oU 1 Z ?_
  refine OJ.st Z Z Z (SR.fieldAddr oU oI Z Z Z Z Z Z) ?_
  refine OJ.es Z Z (Es.store oI hS (i := 0) Z Z Z (G.ad1 _ _) Z Z (vs := (ci .i8).enc (IntKind.i8.wrap (a0.Y + 1))) Z Z (one1 Z) (Nat.le_of_ble_eq_true Z) (cSpot.enc (⟨a0.X, IntKind.i8.wrap (a0.Y + 1)⟩ : Spot)) Z) ?_
  intro w1 hS
  refine OJ.nil (EJ.blk (EJ.next ?_))
  refine CJ.seq (CJ.region ?_)
  refine OJ.st Z Z Z (SR.load Z Z (fun w' hx => ldE oU oI Z Z Z (CA.ext (hS.cells (i := 0) Z) hx) Z)) ?_
  refine OJ.es Z Z (Es.store oI hS (i := 1) Z Z Z Z Z Z (vs := cSpot.enc (⟨a0.X, IntKind.i8.wrap (a0.Y + 1)⟩ : Spot)) Z (cSpot.len _) (cSpot.one _) (Nat.le_of_ble_eq_true Z) (cSpot.enc (⟨a0.X, IntKind.i8.wrap (a0.Y + 1)⟩ : Spot)) Z) ?_
  intro w1 hS
  refine OJ.nil (EJ.next ?_)
  refine CJ.ret (?_)
  obtain rfl := Option.some.inj H
  exact EJ.fin Z (.cell Z (ldE oU oI Z Z Z (hS.cells (i := 1) Z) Z) .nil) ⟨Z, hS.ext⟩
 replace H := pif_f (of_decide_eq_false hb) H
 refine CJ.region ?_
 refine OJ.st Z Z Z (SR.fieldAddr oU oI Z Z Z Z Z Z) ?_
 refine OJ.st Z Z Z (SR.load Z Z (fun w' hx => ld1 oU Z Z (CA.ext (CA.sub (hS.cells (i := 0) Z) 0) hx) Z)) ?_
 refine OJ.pures oU 1 Z ?_
 refine OJ.st Z Z Z (SR.fieldAddr oU oI Z Z Z Z Z Z) ?_
 refine OJ.es Z Z (Es.store oI hS (i := 0) Z Z Z (G.ad1 _ _) Z Z (vs := (ci .i8).enc (IntKind.i8.wrap (a0.X - 1))) Z Z (one1 Z) (Nat.le_of_ble_eq_true Z) (cSpot.enc (⟨IntKind.i8.wrap (a0.X - 1), a0.Y⟩ : Spot)) Z) ?_
 intro w1 hS
 refine OJ.nil (EJ.blk (EJ.next ?_))
 refine CJ.seq (CJ.region ?_)
 refine OJ.st Z Z Z (SR.load Z Z (fun w' hx => ldE oU oI Z Z Z (CA.ext (hS.cells (i := 0) Z) hx) Z)) ?_
 refine OJ.es Z Z (Es.store oI hS (i := 1) Z Z Z Z Z Z (vs := cSpot.enc (⟨IntKind.i8.wrap (a0.X - 1), a0.Y⟩ : Spot)) Z (cSpot.len _) (cSpot.one _) (Nat.le_of_ble_eq_true Z) (cSpot.enc (⟨IntKind.i8.wrap (a0.X - 1), a0.Y⟩ : Spot)) Z) ?_
 intro w1 hS
 refine OJ.nil (EJ.next ?_)
 refine CJ.ret (?_)
 obtain rfl := Option.some.inj H
 exact EJ.fin Z (.cell Z (ldE oU oI Z Z Z (hS.cells (i := 1) Z) Z) .nil) ⟨Z, hS.ext⟩

def spec_l00In.f (a0 : Int) (a1 : Int) (a2 : Int) : Option Bool := if a1 ≤ a0 then (some (decide (a0 ≤ a2))) else (some false)
theorem spec_l00In.c (w : World) (a0 : Int) (a1 : Int) (a2 : Int) (r : Bool) (H : spec_l00In.f a0 a1 a2 = some r) :
 CV Tryz.prog 64 [.int .i64 a0, .int .i64 a1, .int .i64 a2].toArray w fun v w' => v = .bool r ∧ Ext w w' := by
 have hS := (St.init w no)
 unfold spec_l00In.f at H
 refine CV.body Tryz.func64 Z Tryz.ntmps64 Z ?_
 refine CJ.seq (CJ.region ?_)
 refine OJ.pures oU 1 Z (OJ.nil (EJ.next ?_))
 refine CJ.seq (CJ.region ?_)
 refine OJ.pures oU 4 Z ?_
 refine OJ.split (t := 10) Z (fun hb => ?_) (fun hb => ?_)
 ·replace H := pif_t (of_decide_eq_true hb) H
  refine OJ.pures oU 5 Z (OJ.nil (EJ.next ?_))
  refine CJ.ret (?_)
  obtain rfl := Option.some.inj H
  exact EJ.fin Z (.tmp Z .nil) ⟨Z, hS.ext⟩
 replace H := pif_f (of_decide_eq_false hb) H
 refine OJ.pures oU 5 Z (OJ.nil (EJ.next ?_))
 refine CJ.ret (?_)
 obtain rfl := Option.some.inj H
 exact EJ.fin Z (.tmp Z .nil) ⟨Z, hS.ext⟩

def spec_l01Is.f (a0 : Pasture) (a1 : Spot) : Option Bool := (spec_l00In.f (IntKind.i64.wrap a1.X) 0 (IntKind.i64.wrap ((IntKind.i64.wrap a0.Wide) - 1))).bind fun t2 => if t2 = true then ((spec_l00In.f (IntKind.i64.wrap a1.Y) 0 (IntKind.i64.wrap ((IntKind.i64.wrap a0.High) - 1))).bind fun t3 => some t3) else (some false)
theorem spec_l01Is.c (w : World) (pa0 : Addr) (a0 : Pasture) (hp0 : CA w pa0 (cPasture.enc a0)) (a1 : Spot) (r : Bool) (H : spec_l01Is.f a0 a1 = some r) :
 CV Tryz.prog 51 [.pointer (some pa0), .agg (cSpot.enc a1).toArray].toArray w fun v w' => v = .bool r ∧ Ext w w' := by
 have hS := ((St.init w no).paramP pa0 (cPasture.enc a0) hp0)
 unfold spec_l01Is.f at H
 refine CV.body Tryz.func51 Z Tryz.ntmps51 Z ?_
 refine CJ.seq (CJ.region ?_)
 refine OJ.ef Z Z Z (Ef.box hS Z Z (cSpot.enc a1) Z) ?_
 rintro _ w1 ⟨b1, rfl, hS⟩
 refine OJ.pures oU 1 Z (OJ.nil (EJ.next ?_))
 refine CJ.seq ?_
 refine CJ.draw [] [0, 1, 2, 3, 4, 5, 6, 7, 8, 9, 10, 11, 12, 13, 14, 15, 16, 17, 18, 19, 20, 21, 22] mixed (by kernel_rfl) hS fun w1 hS => ?_
 refine DJ.st Z Z Z Z Z (SR.fieldAddr oU oI Z Z Z Z Z Z) ?_
 refine DJ.st Z Z Z Z Z (SR.load Z Z (fun w' hx => ld1 oU Z Z (CA.ext (CA.sub (hS.cells (i := 0) Z) 0) hx) Z)) ?_
 refine DJ.pures oU 3 Z ?_
 refine DJ.st Z Z Z Z Z (SR.fieldAddr oU oI Z Z Z Z Z Z) ?_
 refine DJ.st Z Z Z Z Z (SR.load Z Z (fun w' hx => ld1 oU Z Z (CA.ext (CA.fld (hS.ca (i := 0) Z) (mid_part (fe_Pasture_0 _) (fl_Pasture_0 _) ((ci .i8).len _))) hx) Z)) ?_
 refine DJ.pures oU 2 Z ?_
 obtain ⟨t2, ht2, H⟩ := pbind H
 refine DJ.callF rfl rfl rfl rfl rfl rfl rfl hb64 rfl (spec_l00In.c _ (IntKind.i64.wrap a1.X) 0 (IntKind.i64.wrap ((IntKind.i64.wrap a0.Wide) - 1)) _ ht2) (by rintro v w' ⟨rfl, hs⟩; exact hs) ?_
 rintro _ w1 ⟨rfl, hs⟩
 replace hS := hS.grow hs
 refine DJ.pures oU 1 Z ?_
 refine DJ.split (t := 15) Z (fun hb => ?_) (fun hb => ?_)
 ·replace H := pif_t hb H
  refine DJ.st Z Z Z Z Z (SR.fieldAddr oU oI Z Z Z Z Z Z) ?_
  refine DJ.st Z Z Z Z Z (SR.load Z Z (fun w' hx => ld1 oU Z Z (CA.ext (CA.sub (hS.cells (i := 0) Z) 1) hx) Z)) ?_
  refine DJ.pures oU 3 Z ?_
  refine DJ.st Z Z Z Z Z (SR.fieldAddr oU oI Z Z Z Z Z Z) ?_
  refine DJ.st Z Z Z Z Z (SR.load Z Z (fun w' hx => ld1 oU Z Z (CA.ext (CA.fld (hS.ca (i := 0) Z) (mid_part (fe_Pasture_1 _) (fl_Pasture_1 _) ((ci .i8).len _))) hx) Z)) ?_
  refine DJ.pures oU 2 Z ?_
  obtain ⟨t3, ht3, H⟩ := pbind H
  refine DJ.callF rfl rfl rfl rfl rfl rfl rfl hb64 rfl (spec_l00In.c _ (IntKind.i64.wrap a1.Y) 0 (IntKind.i64.wrap ((IntKind.i64.wrap a0.High) - 1)) _ ht3) (by rintro v w' ⟨rfl, hs⟩; exact hs) ?_
  rintro _ w1 ⟨rfl, hs⟩
  replace hS := hS.grow hs
  refine DJ.pures oU 2 Z ?_
  refine DJ.nil (EJ.next ?_)
  refine CJ.ret (?_)
  obtain rfl := Option.some.inj H
  exact EJ.fin Z (.tmp Z .nil) ⟨Z, hS.ext⟩
 replace H := pifb_f hb H
 refine DJ.pures oU 12 Z ?_
 refine DJ.nil (EJ.next ?_)
 refine CJ.ret (?_)
 obtain rfl := Option.some.inj H
 exact EJ.fin Z (.tmp Z .nil) ⟨Z, hS.ext⟩

def spec_l00Src_one.f (a0 : l00Src) (a1 : Int) : Option (Bool × l00Src) := (spec_l00Src_pick.f a0 a1).bind fun t1 => some (decide (t1.1 = 0), (⟨a0.code, t1.2.at_, t1.2.seed⟩ : l00Src))
theorem spec_l00Src_one.c (w : World) (Aa0_0 : Option Addr) (ca0_0 : Nat) (a0 : l00Src) (ba0 : Nat) (a1 : Int) (hin : St w (fpU [box ba0 ([.slice Aa0_0 a0.code.length ca0_0, .int .i64 a0.at_, .int .u64 a0.seed]) 102]) w [box ba0 ([.slice Aa0_0 a0.code.length ca0_0, .int .i64 a0.at_, .int .u64 a0.seed]) 102] [roC (ci .u8) Aa0_0 ca0_0 a0.code]) (r : Bool × l00Src) (H : spec_l00Src_one.f a0 a1 = some r) :
 CV Tryz.prog 63 [.pointer (some ⟨ba0, 0, none⟩), .int .i64 a1].toArray w fun v w' => v = .bool r.1 ∧ St w (fpU [box ba0 ([.slice Aa0_0 a0.code.length ca0_0, .int .i64 a0.at_, .int .u64 a0.seed]) 102]) w' [box ba0 ([.slice Aa0_0 a0.code.length ca0_0, .int .i64 r.2.at_, .int .u64 r.2.seed]) 102] [] := by
 have hS := hin
 unfold spec_l00Src_one.f at H
 refine CV.body Tryz.func63 Z Tryz.ntmps63 Z ?_
 refine CJ.seq (CJ.region ?_)
 refine OJ.pures oU 1 Z (OJ.nil (EJ.next ?_))
 refine CJ.seq (CJ.region ?_)
 refine OJ.pures oU 2 Z ?_
 obtain ⟨t1, ht1, H⟩ := pbind H
 refine OJ.callF Z Z Z Z Z hb49 Z (spec_l00Src_pick.c _ Aa0_0 ca0_0 a0 ba0 a1 ((hS.subs [0] [0] [] Z).pick [0] [0] Z) _ ht1) ?_
 rintro _ w1 ⟨rfl, hs⟩
 replace hS := hS.back [0] Z Z [box ba0 ([.slice Aa0_0 a0.code.length ca0_0, .int .i64 t1.2.at_, .int .u64 t1.2.seed]) 102] [] hs ⟨fun _ => Iff.rfl, trivial⟩
 refine OJ.pures oU 2 Z (OJ.nil (EJ.next ?_))
 refine CJ.ret (?_)
 obtain rfl := Option.some.inj H
 exact EJ.fin Z (.tmp Z .nil) ⟨Z, hS.pick [0] [] Z⟩

def spec_l01Set.f (a0 : Pasture) (a1 : Spot) (a2 : Int) (a3 : Bool) : Option Pasture := (if a2 = 0 then (some true) else (some (decide (a2 = 3)))).bind fun y2 => if y2 = true then ((spec_l01Next.f a1 a2).bind fun t3 => (chk (0 ≤ (IntKind.u64.wrap t3.X))).bind fun u4 => (if a2 = 1 then (some true) else (some (decide (a2 = 3)))).bind fun y5 => if y5 = true then ((getI a0.East.l t3.Y).bind fun t6 => (getI a0.East.l t3.Y).bind fun t7 => if a3 = true then ((getI (aset a0.East t3.Y.toNat (andNotI .u16 t6 (shlI .u16 1 (IntKind.u64.wrap t3.X)))).l t3.Y).bind fun t8 => (getI (aset a0.East t3.Y.toNat (andNotI .u16 t6 (shlI .u16 1 (IntKind.u64.wrap t3.X)))).l t3.Y).bind fun t9 => some (⟨a0.Wide, a0.High, a0.Grass, (aset (aset a0.East t3.Y.toNat (andNotI .u16 t6 (shlI .u16 1 (IntKind.u64.wrap t3.X)))) t3.Y.toNat (orI .u16 t8 (shlI .u16 1 (IntKind.u64.wrap t3.X)))), a0.South⟩ : Pasture)) else (some (⟨a0.Wide, a0.High, a0.Grass, (aset a0.East t3.Y.toNat (andNotI .u16 t6 (shlI .u16 1 (IntKind.u64.wrap t3.X)))), a0.South⟩ : Pasture))) else ((getI a0.South.l t3.Y).bind fun t10 => (getI a0.South.l t3.Y).bind fun t11 => if a3 = true then ((getI (aset a0.South t3.Y.toNat (andNotI .u16 t10 (shlI .u16 1 (IntKind.u64.wrap t3.X)))).l t3.Y).bind fun t12 => (getI (aset a0.South t3.Y.toNat (andNotI .u16 t10 (shlI .u16 1 (IntKind.u64.wrap t3.X)))).l t3.Y).bind fun t13 => some (⟨a0.Wide, a0.High, a0.Grass, a0.East, (aset (aset a0.South t3.Y.toNat (andNotI .u16 t10 (shlI .u16 1 (IntKind.u64.wrap t3.X)))) t3.Y.toNat (orI .u16 t12 (shlI .u16 1 (IntKind.u64.wrap t3.X))))⟩ : Pasture)) else (some (⟨a0.Wide, a0.High, a0.Grass, a0.East, (aset a0.South t3.Y.toNat (andNotI .u16 t10 (shlI .u16 1 (IntKind.u64.wrap t3.X))))⟩ : Pasture)))) else ((chk (0 ≤ (IntKind.u64.wrap a1.X))).bind fun u14 => (if a2 = 1 then (some true) else (some (decide (a2 = 3)))).bind fun y15 => if y15 = true then ((getI a0.East.l a1.Y).bind fun t16 => (getI a0.East.l a1.Y).bind fun t17 => if a3 = true then ((getI (aset a0.East a1.Y.toNat (andNotI .u16 t16 (shlI .u16 1 (IntKind.u64.wrap a1.X)))).l a1.Y).bind fun t18 => (getI (aset a0.East a1.Y.toNat (andNotI .u16 t16 (shlI .u16 1 (IntKind.u64.wrap a1.X)))).l a1.Y).bind fun t19 => some (⟨a0.Wide, a0.High, a0.Grass, (aset (aset a0.East a1.Y.toNat (andNotI .u16 t16 (shlI .u16 1 (IntKind.u64.wrap a1.X)))) a1.Y.toNat (orI .u16 t18 (shlI .u16 1 (IntKind.u64.wrap a1.X)))), a0.South⟩ : Pasture)) else (some (⟨a0.Wide, a0.High, a0.Grass, (aset a0.East a1.Y.toNat (andNotI .u16 t16 (shlI .u16 1 (IntKind.u64.wrap a1.X)))), a0.South⟩ : Pasture))) else ((getI a0.South.l a1.Y).bind fun t20 => (getI a0.South.l a1.Y).bind fun t21 => if a3 = true then ((getI (aset a0.South a1.Y.toNat (andNotI .u16 t20 (shlI .u16 1 (IntKind.u64.wrap a1.X)))).l a1.Y).bind fun t22 => (getI (aset a0.South a1.Y.toNat (andNotI .u16 t20 (shlI .u16 1 (IntKind.u64.wrap a1.X)))).l a1.Y).bind fun t23 => some (⟨a0.Wide, a0.High, a0.Grass, a0.East, (aset (aset a0.South a1.Y.toNat (andNotI .u16 t20 (shlI .u16 1 (IntKind.u64.wrap a1.X)))) a1.Y.toNat (orI .u16 t22 (shlI .u16 1 (IntKind.u64.wrap a1.X))))⟩ : Pasture)) else (some (⟨a0.Wide, a0.High, a0.Grass, a0.East, (aset a0.South a1.Y.toNat (andNotI .u16 t20 (shlI .u16 1 (IntKind.u64.wrap a1.X))))⟩ : Pasture))))
theorem spec_l01Set.c (w : World) (ba0 : Nat) (a0 : Pasture) (a1 : Spot) (a2 : Int) (a3 : Bool) (hin : St w (fpU [box ba0 (cPasture.enc a0) 31]) w [box ba0 (cPasture.enc a0) 31] []) (r : Pasture) (H : spec_l01Set.f a0 a1 a2 a3 = some r) :
 CV Tryz.prog 39 [.pointer (some ⟨ba0, 0, none⟩), .agg (cSpot.enc a1).toArray, .int .i64 a2, .bool a3].toArray w fun v w' => v = .tuple #[] ∧ St w (fpU [box ba0 (cPasture.enc a0) 31]) w' [box ba0 (cPasture.enc r) 31] [] := by
 have hS := hin
 unfold spec_l01Set.f at H
 refine CV.body Tryz.func39 Z Tryz.ntmps39 Z ?_
 refine CJ.seq (CJ.region ?_)
 refine OJ.ef Z Z Z (Ef.box hS Z Z (cSpot.enc a1) Z) ?_
 rintro _ w1 ⟨b1, rfl, hS⟩
 refine OJ.nil (EJ.next ?_)
 refine CJ.seq ?_
 obtain ⟨j9, H, K9⟩ := pbind H
 refine CJ.cut (fun F w1 => ∃ (y2 : Bool) , (some y2 : Option Bool) = some j9 ∧ F = [(0, .pointer (some ⟨ba0, 0, none⟩)), (2, .int .i64 a2), (3, .bool a3), (5, .pointer (some ⟨b1, 0, none⟩)), (14, .bool y2)] ∧ St w (fpU [box ba0 (cPasture.enc a0) 31]) w1 [box ba0 (cPasture.enc a0) 31, box b1 (cSpot.enc a1) 45] []) ?_ ?_
 ·skip
  refine CJ.region ?_
  refine OJ.pures oU 3 Z ?_
  refine OJ.split (t := 11) Z (fun hb => ?_) (fun hb => ?_)
  ·replace H := pif_t (of_decide_eq_true hb) H
   refine OJ.pures oU 3 Z ?_
   refine OJ.nil ?_
   exact EJ.meet (F' := [(0, .pointer (some ⟨ba0, 0, none⟩)), (2, .int .i64 a2), (3, .bool a3), (5, .pointer (some ⟨b1, 0, none⟩)), (14, .bool true)]) ⟨Z, Z, Z, Z, Z, trivial⟩ ⟨true, H, Z, hS.pick [0, 1] [] Z⟩
  replace H := pif_f (of_decide_eq_false hb) H
  refine OJ.pures oU 3 Z ?_
  refine OJ.nil ?_
  exact EJ.meet (F' := [(0, .pointer (some ⟨ba0, 0, none⟩)), (2, .int .i64 a2), (3, .bool a3), (5, .pointer (some ⟨b1, 0, none⟩)), (14, .bool (decide (a2 = 3)))]) ⟨Z, Z, Z, Z, Z, trivial⟩ ⟨(decide (a2 = 3)), H, Z, hS.pick [0, 1] [] Z⟩
 rintro F w1 ⟨y2, he, rfl, hS⟩
 obtain rfl := Option.some.inj he
 have H := K9
 refine CJ.cond Z (fun hb => ?_) (fun hb => ?_)
 ·replace H := pif_t hb H
  refine CJ.region ?_
  refine OJ.st Z Z Z (SR.load Z Z (fun w' hx => ldE oU oI Z Z Z (CA.ext (hS.cells (i := 1) Z) hx) Z)) ?_
  refine OJ.pures oU 1 Z ?_
  obtain ⟨t3, ht3, H⟩ := pbind H
  refine OJ.callF Z Z Z Z Z hb37 Z (spec_l01Next.c _ a1 a2 _ ht3) ?_
  rintro _ w1 ⟨rfl, hs⟩
  replace hS := hS.grow hs
  refine OJ.es Z Z (Es.store oI hS (i := 1) Z Z Z Z Z Z (vs := cSpot.enc t3) Z (cSpot.len _) (cSpot.one _) (Nat.le_of_ble_eq_true Z) (cSpot.enc t3) Z) ?_
  intro w1 hS
  refine OJ.nil (EJ.next ?_)
  refine CJ.seq (CJ.region ?_)
  refine OJ.st Z Z Z (SR.fieldAddr oU oI Z Z Z Z Z Z) ?_
  refine OJ.st Z Z Z (SR.load Z Z (fun w' hx => ld1 oU Z Z (CA.ext (CA.sub (hS.cells (i := 1) Z) 0) hx) Z)) ?_
  refine OJ.pures oU 1 Z ?_
  obtain ⟨u4, hu4, H⟩ := pbind H
  refine OJ.st Z Z Z (SR.shl Z Z Z (chk_some hu4)) ?_
  refine OJ.pures oU 1 Z (OJ.nil (EJ.next ?_))
  refine CJ.seq ?_
  obtain ⟨j10, H, K10⟩ := pbind H
  refine CJ.cut (fun F w1 => ∃ (y5 : Bool) , (some y5 : Option Bool) = some j10 ∧ F = [(0, .pointer (some ⟨ba0, 0, none⟩)), (3, .bool a3), (5, .pointer (some ⟨b1, 0, none⟩)), (8, .int .u16 (shlI .u16 1 (IntKind.u64.wrap t3.X))), (27, .bool y5)] ∧ St w (fpU [box ba0 (cPasture.enc a0) 31]) w1 [box ba0 (cPasture.enc a0) 31, box b1 (cSpot.enc t3) 45] []) ?_ ?_
  ·skip
   refine CJ.region ?_
   refine OJ.pures oU 3 Z ?_
   refine OJ.split (t := 24) Z (fun hb => ?_) (fun hb => ?_)
   ·replace H := pif_t (of_decide_eq_true hb) H
    refine OJ.pures oU 3 Z ?_
    refine OJ.nil ?_
    exact EJ.meet (F' := [(0, .pointer (some ⟨ba0, 0, none⟩)), (3, .bool a3), (5, .pointer (some ⟨b1, 0, none⟩)), (8, .int .u16 (shlI .u16 1 (IntKind.u64.wrap t3.X))), (27, .bool true)]) ⟨Z, Z, Z, Z, Z, trivial⟩ ⟨true, H, Z, hS.pick [0, 1] [] Z⟩
   replace H := pif_f (of_decide_eq_false hb) H
   refine OJ.pures oU 3 Z ?_
   refine OJ.nil ?_
   exact EJ.meet (F' := [(0, .pointer (some ⟨ba0, 0, none⟩)), (3, .bool a3), (5, .pointer (some ⟨b1, 0, none⟩)), (8, .int .u16 (shlI .u16 1 (IntKind.u64.wrap t3.X))), (27, .bool (decide (a2 = 3)))]) ⟨Z, Z, Z, Z, Z, trivial⟩ ⟨(decide (a2 = 3)), H, Z, hS.pick [0, 1] [] Z⟩
  rintro F w1 ⟨y5, he, rfl, hS⟩
  obtain rfl := Option.some.inj he
  have H := K10
  refine CJ.cond Z (fun hb => ?_) (fun hb => ?_)
  ·replace H := pif_t hb H
   refine CJ.seq ?_
   refine CJ.draw [] [0, 1, 2, 3, 4, 5, 6, 7, 8, 9, 10, 11, 12] mixed (by kernel_rfl) hS fun w1 hS => ?_
   refine DJ.pures oU 1 Z ?_
   refine DJ.st Z Z Z Z Z (SR.fieldAddr oU oI Z Z Z Z Z Z) ?_
   refine DJ.st Z Z Z Z Z (SR.load Z Z (fun w' hx => ld1 oU Z Z (CA.ext (CA.sub (hS.cells (i := 1) Z) 1) hx) Z)) ?_
   refine DJ.pures oU 1 Z ?_
   refine DJ.st Z Z Z Z Z (SR.fieldAddr oU oI Z Z Z Z Z Z) ?_
   obtain ⟨t6, ht6, H⟩ := pbind H
   refine DJ.st Z Z Z Z Z (SR.idxA oU oI Z Z Z Z Z (Arr.lt ht6)) ?_
   refine DJ.st Z Z Z Z Z (SR.load Z Z (fun w' hx => ld1 oU Z Z (CA.ext (CA.idx (CA.fld (hS.cells (i := 0) Z) (mid_part (fe_Pasture_3 _) (fl_Pasture_3 _) ((carr 10 (ci .u16)).len _))) ht6) hx) Z)) ?_
   refine DJ.pures oU 3 Z ?_
   refine DJ.st Z Z Z Z Z (SR.fieldAddr oU oI Z Z Z Z Z Z) ?_
   obtain ⟨t7, ht7, H⟩ := pbind H
   refine DJ.st Z Z Z Z Z (SR.idxA oU oI Z Z Z Z Z (Arr.lt ht7)) ?_
   refine DJ.es rfl rfl rfl rfl (Es.put oI hS (i := 0) rfl rfl rfl rfl rfl (vs := (ci .u16).enc (andNotI .u16 t6 (shlI .u16 1 (IntKind.u64.wrap t3.X)))) rfl rfl (one1 rfl) (put_Pasture_3 (Put.idx (Put.all (ci .u16) t7 (andNotI .u16 t6 (shlI .u16 1 (IntKind.u64.wrap t3.X)))) ht7)) (by (try simp only [add_lit, Nat.add_assoc, Nat.zero_add, Nat.add_zero]) <;> rfl)) ?_
   intro w1 hS
   refine DJ.nil (EJ.next ?_)
   refine CJ.seq ?_
   refine CJ.seq (CJ.region ?_)
   refine OJ.pures oU 1 Z (OJ.nil (EJ.next ?_))
   refine CJ.cond Z (fun hb => ?_) (fun hb => ?_)
   ·replace H := pif_t hb H
    refine CJ.draw [] [0, 1, 2, 3, 4, 5, 6, 7, 8, 9, 10, 11, 12] mixed (by kernel_rfl) hS fun w1 hS => ?_
    refine DJ.pures oU 1 Z ?_
    refine DJ.st Z Z Z Z Z (SR.fieldAddr oU oI Z Z Z Z Z Z) ?_
    refine DJ.st Z Z Z Z Z (SR.load Z Z (fun w' hx => ld1 oU Z Z (CA.ext (CA.sub (hS.cells (i := 1) Z) 1) hx) Z)) ?_
    refine DJ.pures oU 1 Z ?_
    refine DJ.st Z Z Z Z Z (SR.fieldAddr oU oI Z Z Z Z Z Z) ?_
    obtain ⟨t8, ht8, H⟩ := pbind H
    refine DJ.st Z Z Z Z Z (SR.idxA oU oI Z Z Z Z Z (Arr.lt ht8)) ?_
    refine DJ.st Z Z Z Z Z (SR.load Z Z (fun w' hx => ld1 oU Z Z (CA.ext (CA.idx (CA.fld (hS.cells (i := 0) Z) (mid_part (fe_Pasture_3 _) (fl_Pasture_3 _) ((carr 10 (ci .u16)).len _))) ht8) hx) Z)) ?_
    refine DJ.pures oU 3 Z ?_
    refine DJ.st Z Z Z Z Z (SR.fieldAddr oU oI Z Z Z Z Z Z) ?_
    obtain ⟨t9, ht9, H⟩ := pbind H
    refine DJ.st Z Z Z Z Z (SR.idxA oU oI Z Z Z Z Z (Arr.lt ht9)) ?_
    refine DJ.es rfl rfl rfl rfl (Es.put oI hS (i := 0) rfl rfl rfl rfl rfl (vs := (ci .u16).enc (orI .u16 t8 (shlI .u16 1 (IntKind.u64.wrap t3.X)))) rfl rfl (one1 rfl) (put_Pasture_3 (Put.idx (Put.all (ci .u16) t9 (orI .u16 t8 (shlI .u16 1 (IntKind.u64.wrap t3.X)))) ht9)) (by (try simp only [add_lit, Nat.add_assoc, Nat.zero_add, Nat.add_zero]) <;> rfl)) ?_
    intro w1 hS
    refine DJ.nil (EJ.next ?_)
    refine CJ.ret (EJ.skR (?_))
    obtain rfl := Option.some.inj H
    exact EJ.fin Z .nil ⟨Z, hS.pick [0] [] Z⟩
   replace H := pifb_f hb H
   refine CJ.skip (EJ.next ?_)
   refine CJ.ret (EJ.skR (?_))
   obtain rfl := Option.some.inj H
   exact EJ.fin Z .nil ⟨Z, hS.pick [0] [] Z⟩
  replace H := pifb_f hb H
  refine CJ.skip (EJ.next ?_)
  refine CJ.seq ?_
  refine CJ.draw [] [0, 1, 2, 3, 4, 5, 6, 7, 8, 9, 10, 11, 12] mixed (by kernel_rfl) hS fun w1 hS => ?_
  refine DJ.pures oU 1 Z ?_
  refine DJ.st Z Z Z Z Z (SR.fieldAddr oU oI Z Z Z Z Z Z) ?_
  refine DJ.st Z Z Z Z Z (SR.load Z Z (fun w' hx => ld1 oU Z Z (CA.ext (CA.sub (hS.cells (i := 1) Z) 1) hx) Z)) ?_
  refine DJ.pures oU 1 Z ?_
  refine DJ.st Z Z Z Z Z (SR.fieldAddr oU oI Z Z Z Z Z Z) ?_
  obtain ⟨t10, ht10, H⟩ := pbind H
  refine DJ.st Z Z Z Z Z (SR.idxA oU oI Z Z Z Z Z (Arr.lt ht10)) ?_
  refine DJ.st Z Z Z Z Z (SR.load Z Z (fun w' hx => ld1 oU Z Z (CA.ext (CA.idx (CA.fld (hS.cells (i := 0) Z) (mid_part (fe_Pasture_4 _) (fl_Pasture_4 _) ((carr 10 (ci .u16)).len _))) ht10) hx) Z)) ?_
  refine DJ.pures oU 3 Z ?_
  refine DJ.st Z Z Z Z Z (SR.fieldAddr oU oI Z Z Z Z Z Z) ?_
  obtain ⟨t11, ht11, H⟩ := pbind H
  refine DJ.st Z Z Z Z Z (SR.idxA oU oI Z Z Z Z Z (Arr.lt ht11)) ?_
  refine DJ.es rfl rfl rfl rfl (Es.put oI hS (i := 0) rfl rfl rfl rfl rfl (vs := (ci .u16).enc (andNotI .u16 t10 (shlI .u16 1 (IntKind.u64.wrap t3.X)))) rfl rfl (one1 rfl) (put_Pasture_4 (Put.idx (Put.all (ci .u16) t11 (andNotI .u16 t10 (shlI .u16 1 (IntKind.u64.wrap t3.X)))) ht11)) (by (try simp only [add_lit, Nat.add_assoc, Nat.zero_add, Nat.add_zero]) <;> rfl)) ?_
  intro w1 hS
  refine DJ.nil (EJ.next ?_)
  refine CJ.seq (CJ.region ?_)
  refine OJ.pures oU 1 Z (OJ.nil (EJ.next ?_))
  refine CJ.cond Z (fun hb => ?_) (fun hb => ?_)
  ·replace H := pif_t hb H
   refine CJ.draw [] [0, 1, 2, 3, 4, 5, 6, 7, 8, 9, 10, 11, 12] mixed (by kernel_rfl) hS fun w1 hS => ?_
   refine DJ.pures oU 1 Z ?_
   refine DJ.st Z Z Z Z Z (SR.fieldAddr oU oI Z Z Z Z Z Z) ?_
   refine DJ.st Z Z Z Z Z (SR.load Z Z (fun w' hx => ld1 oU Z Z (CA.ext (CA.sub (hS.cells (i := 1) Z) 1) hx) Z)) ?_
   refine DJ.pures oU 1 Z ?_
   refine DJ.st Z Z Z Z Z (SR.fieldAddr oU oI Z Z Z Z Z Z) ?_
   obtain ⟨t12, ht12, H⟩ := pbind H
   refine DJ.st Z Z Z Z Z (SR.idxA oU oI Z Z Z Z Z (Arr.lt ht12)) ?_
   refine DJ.st Z Z Z Z Z (SR.load Z Z (fun w' hx => ld1 oU Z Z (CA.ext (CA.idx (CA.fld (hS.cells (i := 0) Z) (mid_part (fe_Pasture_4 _) (fl_Pasture_4 _) ((carr 10 (ci .u16)).len _))) ht12) hx) Z)) ?_
   refine DJ.pures oU 3 Z ?_
   refine DJ.st Z Z Z Z Z (SR.fieldAddr oU oI Z Z Z Z Z Z) ?_
   obtain ⟨t13, ht13, H⟩ := pbind H
   refine DJ.st Z Z Z Z Z (SR.idxA oU oI Z Z Z Z Z (Arr.lt ht13)) ?_
   refine DJ.es rfl rfl rfl rfl (Es.put oI hS (i := 0) rfl rfl rfl rfl rfl (vs := (ci .u16).enc (orI .u16 t12 (shlI .u16 1 (IntKind.u64.wrap t3.X)))) rfl rfl (one1 rfl) (put_Pasture_4 (Put.idx (Put.all (ci .u16) t13 (orI .u16 t12 (shlI .u16 1 (IntKind.u64.wrap t3.X)))) ht13)) (by (try simp only [add_lit, Nat.add_assoc, Nat.zero_add, Nat.add_zero]) <;> rfl)) ?_
   intro w1 hS
   refine DJ.nil ?_
   obtain rfl := Option.some.inj H
   exact EJ.fin' Z .nil ⟨Z, hS.pick [0] [] Z⟩
  replace H := pifb_f hb H
  refine CJ.skip (?_)
  obtain rfl := Option.some.inj H
  exact EJ.fin' Z .nil ⟨Z, hS.pick [0] [] Z⟩
 replace H := pifb_f hb H
 refine CJ.skip (EJ.next ?_)
 refine CJ.seq (CJ.region ?_)
 refine OJ.st Z Z Z (SR.fieldAddr oU oI Z Z Z Z Z Z) ?_
 refine OJ.st Z Z Z (SR.load Z Z (fun w' hx => ld1 oU Z Z (CA.ext (CA.sub (hS.cells (i := 1) Z) 0) hx) Z)) ?_
 refine OJ.pures oU 1 Z ?_
 obtain ⟨u14, hu14, H⟩ := pbind H
 refine OJ.st Z Z Z (SR.shl Z Z Z (chk_some hu14)) ?_
 refine OJ.pures oU 1 Z (OJ.nil (EJ.next ?_))
 refine CJ.seq ?_
 obtain ⟨j11, H, K11⟩ := pbind H
 refine CJ.cut (fun F w1 => ∃ (y15 : Bool) , (some y15 : Option Bool) = some j11 ∧ F = [(0, .pointer (some ⟨ba0, 0, none⟩)), (3, .bool a3), (5, .pointer (some ⟨b1, 0, none⟩)), (8, .int .u16 (shlI .u16 1 (IntKind.u64.wrap a1.X))), (27, .bool y15)] ∧ St w (fpU [box ba0 (cPasture.enc a0) 31]) w1 [box ba0 (cPasture.enc a0) 31, box b1 (cSpot.enc a1) 45] []) ?_ ?_
 ·skip
  refine CJ.region ?_
  refine OJ.pures oU 3 Z ?_
  refine OJ.split (t := 24) Z (fun hb => ?_) (fun hb => ?_)
  ·replace H := pif_t (of_decide_eq_true hb) H
   refine OJ.pures oU 3 Z ?_
   refine OJ.nil ?_
   exact EJ.meet (F' := [(0, .pointer (some ⟨ba0, 0, none⟩)), (3, .bool a3), (5, .pointer (some ⟨b1, 0, none⟩)), (8, .int .u16 (shlI .u16 1 (IntKind.u64.wrap a1.X))), (27, .bool true)]) ⟨Z, Z, Z, Z, Z, trivial⟩ ⟨true, H, Z, hS.pick [0, 1] [] Z⟩
  replace H := pif_f (of_decide_eq_false hb) H
  refine OJ.pures oU 3 Z ?_
  refine OJ.nil ?_
  exact EJ.meet (F' := [(0, .pointer (some ⟨ba0, 0, none⟩)), (3, .bool a3), (5, .pointer (some ⟨b1, 0, none⟩)), (8, .int .u16 (shlI .u16 1 (IntKind.u64.wrap a1.X))), (27, .bool (decide (a2 = 3)))]) ⟨Z, Z, Z, Z, Z, trivial⟩ ⟨(decide (a2 = 3)), H, Z, hS.pick [0, 1] [] Z⟩
 rintro F w1 ⟨y15, he, rfl, hS⟩
 obtain rfl := Option.some.inj he
 have H := K11
 refine CJ.cond Z (fun hb => ?_) (fun hb => ?_)
 ·replace H := pif_t hb H
  refine CJ.seq ?_
  refine CJ.draw [] [0, 1, 2, 3, 4, 5, 6, 7, 8, 9, 10, 11, 12] mixed (by kernel_rfl) hS fun w1 hS => ?_
  refine DJ.pures oU 1 Z ?_
  refine DJ.st Z Z Z Z Z (SR.fieldAddr oU oI Z Z Z Z Z Z) ?_
  refine DJ.st Z Z Z Z Z (SR.load Z Z (fun w' hx => ld1 oU Z Z (CA.ext (CA.sub (hS.cells (i := 1) Z) 1) hx) Z)) ?_
  refine DJ.pures oU 1 Z ?_
  refine DJ.st Z Z Z Z Z (SR.fieldAddr oU oI Z Z Z Z Z Z) ?_
  obtain ⟨t16, ht16, H⟩ := pbind H
  refine DJ.st Z Z Z Z Z (SR.idxA oU oI Z Z Z Z Z (Arr.lt ht16)) ?_
  refine DJ.st Z Z Z Z Z (SR.load Z Z (fun w' hx => ld1 oU Z Z (CA.ext (CA.idx (CA.fld (hS.cells (i := 0) Z) (mid_part (fe_Pasture_3 _) (fl_Pasture_3 _) ((carr 10 (ci .u16)).len _))) ht16) hx) Z)) ?_
  refine DJ.pures oU 3 Z ?_
  refine DJ.st Z Z Z Z Z (SR.fieldAddr oU oI Z Z Z Z Z Z) ?_
  obtain ⟨t17, ht17, H⟩ := pbind H
  refine DJ.st Z Z Z Z Z (SR.idxA oU oI Z Z Z Z Z (Arr.lt ht17)) ?_
  refine DJ.es rfl rfl rfl rfl (Es.put oI hS (i := 0) rfl rfl rfl rfl rfl (vs := (ci .u16).enc (andNotI .u16 t16 (shlI .u16 1 (IntKind.u64.wrap a1.X)))) rfl rfl (one1 rfl) (put_Pasture_3 (Put.idx (Put.all (ci .u16) t17 (andNotI .u16 t16 (shlI .u16 1 (IntKind.u64.wrap a1.X)))) ht17)) (by (try simp only [add_lit, Nat.add_assoc, Nat.zero_add, Nat.add_zero]) <;> rfl)) ?_
  intro w1 hS
  refine DJ.nil (EJ.next ?_)
  refine CJ.seq ?_
  refine CJ.seq (CJ.region ?_)
  refine OJ.pures oU 1 Z (OJ.nil (EJ.next ?_))
  refine CJ.cond Z (fun hb => ?_) (fun hb => ?_)
  ·replace H := pif_t hb H
   refine CJ.draw [] [0, 1, 2, 3, 4, 5, 6, 7, 8, 9, 10, 11, 12] mixed (by kernel_rfl) hS fun w1 hS => ?_
   refine DJ.pures oU 1 Z ?_
   refine DJ.st Z Z Z Z Z (SR.fieldAddr oU oI Z Z Z Z Z Z) ?_
   refine DJ.st Z Z Z Z Z (SR.load Z Z (fun w' hx => ld1 oU Z Z (CA.ext (CA.sub (hS.cells (i := 1) Z) 1) hx) Z)) ?_
   refine DJ.pures oU 1 Z ?_
   refine DJ.st Z Z Z Z Z (SR.fieldAddr oU oI Z Z Z Z Z Z) ?_
   obtain ⟨t18, ht18, H⟩ := pbind H
   refine DJ.st Z Z Z Z Z (SR.idxA oU oI Z Z Z Z Z (Arr.lt ht18)) ?_
   refine DJ.st Z Z Z Z Z (SR.load Z Z (fun w' hx => ld1 oU Z Z (CA.ext (CA.idx (CA.fld (hS.cells (i := 0) Z) (mid_part (fe_Pasture_3 _) (fl_Pasture_3 _) ((carr 10 (ci .u16)).len _))) ht18) hx) Z)) ?_
   refine DJ.pures oU 3 Z ?_
   refine DJ.st Z Z Z Z Z (SR.fieldAddr oU oI Z Z Z Z Z Z) ?_
   obtain ⟨t19, ht19, H⟩ := pbind H
   refine DJ.st Z Z Z Z Z (SR.idxA oU oI Z Z Z Z Z (Arr.lt ht19)) ?_
   refine DJ.es rfl rfl rfl rfl (Es.put oI hS (i := 0) rfl rfl rfl rfl rfl (vs := (ci .u16).enc (orI .u16 t18 (shlI .u16 1 (IntKind.u64.wrap a1.X)))) rfl rfl (one1 rfl) (put_Pasture_3 (Put.idx (Put.all (ci .u16) t19 (orI .u16 t18 (shlI .u16 1 (IntKind.u64.wrap a1.X)))) ht19)) (by (try simp only [add_lit, Nat.add_assoc, Nat.zero_add, Nat.add_zero]) <;> rfl)) ?_
   intro w1 hS
   refine DJ.nil (EJ.next ?_)
   refine CJ.ret (EJ.skR (?_))
   obtain rfl := Option.some.inj H
   exact EJ.fin Z .nil ⟨Z, hS.pick [0] [] Z⟩
  replace H := pifb_f hb H
  refine CJ.skip (EJ.next ?_)
  refine CJ.ret (EJ.skR (?_))
  obtain rfl := Option.some.inj H
  exact EJ.fin Z .nil ⟨Z, hS.pick [0] [] Z⟩
 replace H := pifb_f hb H
 refine CJ.skip (EJ.next ?_)
 refine CJ.seq ?_
 refine CJ.draw [] [0, 1, 2, 3, 4, 5, 6, 7, 8, 9, 10, 11, 12] mixed (by kernel_rfl) hS fun w1 hS => ?_
 refine DJ.pures oU 1 Z ?_
 refine DJ.st Z Z Z Z Z (SR.fieldAddr oU oI Z Z Z Z Z Z) ?_
 refine DJ.st Z Z Z Z Z (SR.load Z Z (fun w' hx => ld1 oU Z Z (CA.ext (CA.sub (hS.cells (i := 1) Z) 1) hx) Z)) ?_
 refine DJ.pures oU 1 Z ?_
 refine DJ.st Z Z Z Z Z (SR.fieldAddr oU oI Z Z Z Z Z Z) ?_
 obtain ⟨t20, ht20, H⟩ := pbind H
 refine DJ.st Z Z Z Z Z (SR.idxA oU oI Z Z Z Z Z (Arr.lt ht20)) ?_
 refine DJ.st Z Z Z Z Z (SR.load Z Z (fun w' hx => ld1 oU Z Z (CA.ext (CA.idx (CA.fld (hS.cells (i := 0) Z) (mid_part (fe_Pasture_4 _) (fl_Pasture_4 _) ((carr 10 (ci .u16)).len _))) ht20) hx) Z)) ?_
 refine DJ.pures oU 3 Z ?_
 refine DJ.st Z Z Z Z Z (SR.fieldAddr oU oI Z Z Z Z Z Z) ?_
 obtain ⟨t21, ht21, H⟩ := pbind H
 refine DJ.st Z Z Z Z Z (SR.idxA oU oI Z Z Z Z Z (Arr.lt ht21)) ?_
 refine DJ.es rfl rfl rfl rfl (Es.put oI hS (i := 0) rfl rfl rfl rfl rfl (vs := (ci .u16).enc (andNotI .u16 t20 (shlI .u16 1 (IntKind.u64.wrap a1.X)))) rfl rfl (one1 rfl) (put_Pasture_4 (Put.idx (Put.all (ci .u16) t21 (andNotI .u16 t20 (shlI .u16 1 (IntKind.u64.wrap a1.X)))) ht21)) (by (try simp only [add_lit, Nat.add_assoc, Nat.zero_add, Nat.add_zero]) <;> rfl)) ?_
 intro w1 hS
 refine DJ.nil (EJ.next ?_)
 refine CJ.seq (CJ.region ?_)
 refine OJ.pures oU 1 Z (OJ.nil (EJ.next ?_))
 refine CJ.cond Z (fun hb => ?_) (fun hb => ?_)
 ·replace H := pif_t hb H
  refine CJ.draw [] [0, 1, 2, 3, 4, 5, 6, 7, 8, 9, 10, 11, 12] mixed (by kernel_rfl) hS fun w1 hS => ?_
  refine DJ.pures oU 1 Z ?_
  refine DJ.st Z Z Z Z Z (SR.fieldAddr oU oI Z Z Z Z Z Z) ?_
  refine DJ.st Z Z Z Z Z (SR.load Z Z (fun w' hx => ld1 oU Z Z (CA.ext (CA.sub (hS.cells (i := 1) Z) 1) hx) Z)) ?_
  refine DJ.pures oU 1 Z ?_
  refine DJ.st Z Z Z Z Z (SR.fieldAddr oU oI Z Z Z Z Z Z) ?_
  obtain ⟨t22, ht22, H⟩ := pbind H
  refine DJ.st Z Z Z Z Z (SR.idxA oU oI Z Z Z Z Z (Arr.lt ht22)) ?_
  refine DJ.st Z Z Z Z Z (SR.load Z Z (fun w' hx => ld1 oU Z Z (CA.ext (CA.idx (CA.fld (hS.cells (i := 0) Z) (mid_part (fe_Pasture_4 _) (fl_Pasture_4 _) ((carr 10 (ci .u16)).len _))) ht22) hx) Z)) ?_
  refine DJ.pures oU 3 Z ?_
  refine DJ.st Z Z Z Z Z (SR.fieldAddr oU oI Z Z Z Z Z Z) ?_
  obtain ⟨t23, ht23, H⟩ := pbind H
  refine DJ.st Z Z Z Z Z (SR.idxA oU oI Z Z Z Z Z (Arr.lt ht23)) ?_
  refine DJ.es rfl rfl rfl rfl (Es.put oI hS (i := 0) rfl rfl rfl rfl rfl (vs := (ci .u16).enc (orI .u16 t22 (shlI .u16 1 (IntKind.u64.wrap a1.X)))) rfl rfl (one1 rfl) (put_Pasture_4 (Put.idx (Put.all (ci .u16) t23 (orI .u16 t22 (shlI .u16 1 (IntKind.u64.wrap a1.X)))) ht23)) (by (try simp only [add_lit, Nat.add_assoc, Nat.zero_add, Nat.add_zero]) <;> rfl)) ?_
  intro w1 hS
  refine DJ.nil ?_
  obtain rfl := Option.some.inj H
  exact EJ.fin' Z .nil ⟨Z, hS.pick [0] [] Z⟩
 replace H := pifb_f hb H
 refine CJ.skip (?_)
 obtain rfl := Option.some.inj H
 exact EJ.fin' Z .nil ⟨Z, hS.pick [0] [] Z⟩

def spec_l01Drawn.l3 (a0 : l00Src) (t5 : Int × l00Src) (y10 : Int) (y20 : Int) : Nat → Pasture → Int → Int → Int → Option (Pasture × Int × Int)
  | 0, _, _, _, _ => none
  | k + 1, y32, y33, y34, y35 => if y33 ≤ 2 then ((spec_l01Next.f (⟨y20, y10⟩ : Spot) y33).bind fun t37 => (spec_l01Is.f y32 t37).bind fun t38 => if t38 = true then ((spec_l00Src_one.f (⟨a0.code, y34, y35⟩ : l00Src) (IntKind.i64.wrap (2 + t5.1))).bind fun t39 => if t39.1 = true then ((spec_l01Set.f y32 (⟨y20, y10⟩ : Spot) y33 true).bind fun t40 => spec_l01Drawn.l3 a0 t5 y10 y20 k t40 (IntKind.i64.wrap (y33 + 1)) t39.2.at_ t39.2.seed) else (spec_l01Drawn.l3 a0 t5 y10 y20 k y32 (IntKind.i64.wrap (y33 + 1)) t39.2.at_ t39.2.seed)) else (spec_l01Drawn.l3 a0 t5 y10 y20 k y32 (IntKind.i64.wrap (y33 + 1)) y34 y35)) else (some (y32, y34, y35))
def spec_l01Drawn.l2 (a0 : l00Src) (t5 : Int × l00Src) (y10 : Int) : Nat → Pasture → Int → Int → Int → Option (Pasture × Int × Int)
  | 0, _, _, _, _ => none
  | k + 1, y19, y20, y21, y22 => if y20 < y19.Wide then (((getI y19.Grass.l y10).bind fun t26 => (spec_l00Src_pick.f (⟨a0.code, y21, y22⟩ : l00Src) 12).bind fun t27 => (getI t26.l y20).bind fun t28 => (spec_l01Drawn.l3 a0 t5 y10 y20 k (⟨y19.Wide, y19.High, (aset y19.Grass y10.toNat (aset t26 y20.toNat (IntKind.i16.wrap t27.1))), y19.East, y19.South⟩ : Pasture) 1 t27.2.at_ t27.2.seed).bind fun (y29, y30, y31) => some (y29, y30, y31)).bind fun (y23, y24, y25) => spec_l01Drawn.l2 a0 t5 y10 k y23 (IntKind.i8.wrap (y20 + 1)) y24 y25) else (some (y19, y21, y22))
def spec_l01Drawn.l1 (a0 : l00Src) (t5 : Int × l00Src) : Nat → Pasture → Int → Int → Int → Option (Pasture × Int × Int)
  | 0, _, _, _, _ => none
  | k + 1, y9, y10, y11, y12 => if y10 < y9.High then (((spec_l01Drawn.l2 a0 t5 y10 k y9 0 y11 y12).bind fun (y16, y17, y18) => some (y16, y17, y18)).bind fun (y13, y14, y15) => spec_l01Drawn.l1 a0 t5 k y13 (IntKind.i8.wrap (y10 + 1)) y14 y15) else (some (y9, y11, y12))
def spec_l01Drawn.f (k : Nat) (a0 : l00Src) : Option (Pasture × l00Src) := (spec_l00Src_pick.f a0 5).bind fun t2 => (spec_l00Src_pick.f (⟨a0.code, t2.2.at_, t2.2.seed⟩ : l00Src) 5).bind fun t4 => (spec_l00Src_pick.f (⟨a0.code, t4.2.at_, t4.2.seed⟩ : l00Src) 5).bind fun t5 => (spec_l01Drawn.l1 a0 t5 k (⟨IntKind.i8.wrap (IntKind.i64.wrap (1 + t2.1)), IntKind.i8.wrap (IntKind.i64.wrap (1 + t4.1)), (Arr.mk' (Arr.mk' 0 : Arr 10 Int) : Arr 10 (Arr 10 Int)), (Arr.mk' 0 : Arr 10 Int), (Arr.mk' 0 : Arr 10 Int)⟩ : Pasture) 0 t5.2.at_ t5.2.seed).bind fun (y6, y7, y8) => some (y6, (⟨a0.code, y7, y8⟩ : l00Src))
theorem spec_l01Drawn.c (k : Nat) (w : World) (Aa0_0 : Option Addr) (ca0_0 : Nat) (a0 : l00Src) (ba0 : Nat) (hin : St w (fpU [box ba0 ([.slice Aa0_0 a0.code.length ca0_0, .int .i64 a0.at_, .int .u64 a0.seed]) 102]) w [box ba0 ([.slice Aa0_0 a0.code.length ca0_0, .int .i64 a0.at_, .int .u64 a0.seed]) 102] [roC (ci .u8) Aa0_0 ca0_0 a0.code]) (r : Pasture × l00Src) (H : spec_l01Drawn.f k a0 = some r) :
 CV Tryz.prog 25 [.pointer (some ⟨ba0, 0, none⟩)].toArray w fun v w' => v = .agg (cPasture.enc r.1).toArray ∧ St w (fpU [box ba0 ([.slice Aa0_0 a0.code.length ca0_0, .int .i64 a0.at_, .int .u64 a0.seed]) 102]) w' [box ba0 ([.slice Aa0_0 a0.code.length ca0_0, .int .i64 r.2.at_, .int .u64 r.2.seed]) 102] [] := by
 have hS := hin
 unfold spec_l01Drawn.f at H
 refine CV.body Tryz.func25 Z Tryz.ntmps25 Z ?_
 refine CJ.seq (CJ.region ?_)
 refine OJ.ef rfl rfl rfl (Ef.alloc hS oI rfl rfl (cPasture.enc (⟨0, 0, (Arr.mk' (Arr.mk' 0 : Arr 10 Int) : Arr 10 (Arr 10 Int)), (Arr.mk' 0 : Arr 10 Int), (Arr.mk' 0 : Arr 10 Int)⟩ : Pasture)) (by kernel_rfl)) ?_
 rintro _ w1 ⟨b1, rfl, hS⟩
 refine OJ.nil (EJ.next ?_)
 refine CJ.seq (CJ.region ?_)
 refine OJ.pures oU 1 Z ?_
 obtain ⟨t2, ht2, H⟩ := pbind H
 refine OJ.callF Z Z Z Z Z hb49 Z (spec_l00Src_pick.c _ Aa0_0 ca0_0 a0 ba0 5 ((hS.subs [0] [0] [] Z).pick [0] [0] Z) _ ht2) ?_
 rintro _ w1 ⟨rfl, hs⟩
 replace hS := hS.back [0] Z Z [box ba0 ([.slice Aa0_0 a0.code.length ca0_0, .int .i64 t2.2.at_, .int .u64 t2.2.seed]) 102] [] hs ⟨fun _ => Iff.rfl, trivial⟩
 refine OJ.pures oU 2 Z ?_
 refine OJ.st Z Z Z (SR.build (C := cPasture) oU oI Z Z Z (zs := [.int .i8 0, .int .i8 0, .int .i16 0, .int .i16 0, .int .i16 0, .int .i16 0, .int .i16 0, .int .i16 0, .int .i16 0, .int .i16 0, .int .i16 0, .int .i16 0, .int .i16 0, .int .i16 0, .int .i16 0, .int .i16 0, .int .i16 0, .int .i16 0, .int .i16 0, .int .i16 0, .int .i16 0, .int .i16 0, .int .i16 0, .int .i16 0, .int .i16 0, .int .i16 0, .int .i16 0, .int .i16 0, .int .i16 0, .int .i16 0, .int .i16 0, .int .i16 0, .int .i16 0, .int .i16 0, .int .i16 0, .int .i16 0, .int .i16 0, .int .i16 0, .int .i16 0, .int .i16 0, .int .i16 0, .int .i16 0, .int .i16 0, .int .i16 0, .int .i16 0, .int .i16 0, .int .i16 0, .int .i16 0, .int .i16 0, .int .i16 0, .int .i16 0, .int .i16 0, .int .i16 0, .int .i16 0, .int .i16 0, .int .i16 0, .int .i16 0, .int .i16 0, .int .i16 0, .int .i16 0, .int .i16 0, .int .i16 0, .int .i16 0, .int .i16 0, .int .i16 0, .int .i16 0, .int .i16 0, .int .i16 0, .int .i16 0, .int .i16 0, .int .i16 0, .int .i16 0, .int .i16 0, .int .i16 0, .int .i16 0, .int .i16 0, .int .i16 0, .int .i16 0, .int .i16 0, .int .i16 0, .int .i16 0, .int .i16 0, .int .i16 0, .int .i16 0, .int .i16 0, .int .i16 0, .int .i16 0, .int .i16 0, .int .i16 0, .int .i16 0, .int .i16 0, .int .i16 0, .int .i16 0, .int .i16 0, .int .i16 0, .int .i16 0, .int .i16 0, .int .i16 0, .int .i16 0, .int .i16 0, .int .i16 0, .int .i16 0, .int .u16 0, .int .u16 0, .int .u16 0, .int .u16 0, .int .u16 0, .int .u16 0, .int .u16 0, .int .u16 0, .int .u16 0, .int .u16 0, .int .u16 0, .int .u16 0, .int .u16 0, .int .u16 0, .int .u16 0, .int .u16 0, .int .u16 0, .int .u16 0, .int .u16 0, .int .u16 0]) Z Z Z (⟨IntKind.i8.wrap (IntKind.i64.wrap (1 + t2.1)), 0, (Arr.mk' (Arr.mk' 0 : Arr 10 Int) : Arr 10 (Arr 10 Int)), (Arr.mk' 0 : Arr 10 Int), (Arr.mk' 0 : Arr 10 Int)⟩ : Pasture) Z) ?_
 refine OJ.ef rfl rfl rfl (Ef.alloc hS oI rfl rfl (cPasture.enc (⟨0, 0, (Arr.mk' (Arr.mk' 0 : Arr 10 Int) : Arr 10 (Arr 10 Int)), (Arr.mk' 0 : Arr 10 Int), (Arr.mk' 0 : Arr 10 Int)⟩ : Pasture)) (by kernel_rfl)) ?_
 rintro _ w1 ⟨b3, rfl, hS⟩
 refine OJ.es rfl rfl (Es.put oI hS (i := 2) rfl rfl rfl rfl rfl (vs := cPasture.enc (⟨IntKind.i8.wrap (IntKind.i64.wrap (1 + t2.1)), 0, (Arr.mk' (Arr.mk' 0 : Arr 10 Int) : Arr 10 (Arr 10 Int)), (Arr.mk' 0 : Arr 10 Int), (Arr.mk' 0 : Arr 10 Int)⟩ : Pasture)) rfl (cPasture.len _) (cPasture.one _) (Put.all cPasture (⟨0, 0, (Arr.mk' (Arr.mk' 0 : Arr 10 Int) : Arr 10 (Arr 10 Int)), (Arr.mk' 0 : Arr 10 Int), (Arr.mk' 0 : Arr 10 Int)⟩ : Pasture) (⟨IntKind.i8.wrap (IntKind.i64.wrap (1 + t2.1)), 0, (Arr.mk' (Arr.mk' 0 : Arr 10 Int) : Arr 10 (Arr 10 Int)), (Arr.mk' 0 : Arr 10 Int), (Arr.mk' 0 : Arr 10 Int)⟩ : Pasture)) (by (try simp only [add_lit, Nat.add_assoc, Nat.zero_add, Nat.add_zero]) <;> rfl)) ?_
 intro w1 hS
 refine OJ.nil (EJ.next ?_)
 refine CJ.seq (CJ.region ?_)
 refine OJ.pures oU 1 Z ?_
 obtain ⟨t4, ht4, H⟩ := pbind H
 refine OJ.callF Z Z Z Z Z hb49 Z (spec_l00Src_pick.c _ Aa0_0 ca0_0 (⟨a0.code, t2.2.at_, t2.2.seed⟩ : l00Src) ba0 5 ((hS.subs [0] [0] [] Z).pick [0] [0] Z) _ ht4) ?_
 rintro _ w1 ⟨rfl, hs⟩
 replace hS := hS.back [0] Z Z [box ba0 ([.slice Aa0_0 a0.code.length ca0_0, .int .i64 t4.2.at_, .int .u64 t4.2.seed]) 102] [] hs ⟨fun _ => Iff.rfl, trivial⟩
 refine OJ.pures oU 2 Z ?_
 refine OJ.st Z Z Z (SR.fieldAddr oU oI Z Z Z Z Z Z) ?_
 refine OJ.es rfl rfl (Es.put oI hS (i := 2) rfl rfl rfl rfl rfl (vs := (ci .i8).enc (IntKind.i8.wrap (IntKind.i64.wrap (1 + t4.1)))) rfl rfl (one1 rfl) (put_Pasture_1 (Put.all (ci .i8) 0 (IntKind.i8.wrap (IntKind.i64.wrap (1 + t4.1))))) (by (try simp only [add_lit, Nat.add_assoc, Nat.zero_add, Nat.add_zero]) <;> rfl)) ?_
 intro w1 hS
 refine OJ.nil (EJ.next ?_)
 refine CJ.seq (CJ.region ?_)
 refine OJ.pures oU 1 Z ?_
 obtain ⟨t5, ht5, H⟩ := pbind H
 refine OJ.callF Z Z Z Z Z hb49 Z (spec_l00Src_pick.c _ Aa0_0 ca0_0 (⟨a0.code, t4.2.at_, t4.2.seed⟩ : l00Src) ba0 5 ((hS.subs [0] [0] [] Z).pick [0] [0] Z) _ ht5) ?_
 rintro _ w1 ⟨rfl, hs⟩
 replace hS := hS.back [0] Z Z [box ba0 ([.slice Aa0_0 a0.code.length ca0_0, .int .i64 t5.2.at_, .int .u64 t5.2.seed]) 102] [] hs ⟨fun _ => Iff.rfl, trivial⟩
 refine OJ.pures oU 2 Z (OJ.nil (EJ.next ?_))
 refine CJ.seq ?_
 refine CJ.seq (CJ.region ?_)
 refine OJ.pures oU 1 Z (OJ.nil (EJ.next ?_))
 obtain ⟨j2, H, K2⟩ := pbind H
 refine CJ.cut1 (fun F w1 => ∃ (y6 : Pasture) (y7 : Int) (y8 : Int) , (some (y6, y7, y8) : Option (Pasture × Int × Int)) = some j2 ∧ F = [(2, .pointer (some ⟨b1, 0, none⟩)), (3, .pointer (some ⟨b3, 0, none⟩))] ∧ St w (fpU [box ba0 ([.slice Aa0_0 a0.code.length ca0_0, .int .i64 a0.at_, .int .u64 a0.seed]) 102]) w1 [box ba0 ([.slice Aa0_0 a0.code.length ca0_0, .int .i64 y7, .int .u64 y8]) 102, box b1 (cPasture.enc (⟨0, 0, (Arr.mk' (Arr.mk' 0 : Arr 10 Int) : Arr 10 (Arr 10 Int)), (Arr.mk' 0 : Arr 10 Int), (Arr.mk' 0 : Arr 10 Int)⟩ : Pasture)) 31, box b3 (cPasture.enc y6) 31] [roC (ci .u8) Aa0_0 ca0_0 a0.code]) ?_ ?_
 ·skip
  refine CJ.block ?_
  refine CJ.loop (fun k F w1 => ∃ (y9 : Pasture) (y10 : Int) (y11 : Int) (y12 : Int), F = [(0, .pointer (some ⟨ba0, 0, none⟩)), (2, .pointer (some ⟨b1, 0, none⟩)), (3, .pointer (some ⟨b3, 0, none⟩)), (4, .int .i64 (IntKind.i64.wrap (2 + t5.1))), (5, .int .i8 y10)] ∧ St w (fpU [box ba0 ([.slice Aa0_0 a0.code.length ca0_0, .int .i64 a0.at_, .int .u64 a0.seed]) 102]) w1 [box ba0 ([.slice Aa0_0 a0.code.length ca0_0, .int .i64 y11, .int .u64 y12]) 102, box b1 (cPasture.enc (⟨0, 0, (Arr.mk' (Arr.mk' 0 : Arr 10 Int) : Arr 10 (Arr 10 Int)), (Arr.mk' 0 : Arr 10 Int), (Arr.mk' 0 : Arr 10 Int)⟩ : Pasture)) 31, box b3 (cPasture.enc y9) 31] [roC (ci .u8) Aa0_0 ca0_0 a0.code] ∧ spec_l01Drawn.l1 a0 t5 k y9 y10 y11 y12 = some j2) k (F' := [(0, .pointer (some ⟨ba0, 0, none⟩)), (2, .pointer (some ⟨b1, 0, none⟩)), (3, .pointer (some ⟨b3, 0, none⟩)), (4, .int .i64 (IntKind.i64.wrap (2 + t5.1))), (5, .int .i8 0)]) ⟨Z, Z, Z, Z, Z, trivial⟩ ⟨(⟨IntKind.i8.wrap (IntKind.i64.wrap (1 + t2.1)), IntKind.i8.wrap (IntKind.i64.wrap (1 + t4.1)), (Arr.mk' (Arr.mk' 0 : Arr 10 Int) : Arr 10 (Arr 10 Int)), (Arr.mk' 0 : Arr 10 Int), (Arr.mk' 0 : Arr 10 Int)⟩ : Pasture), 0, t5.2.at_, t5.2.seed, Z, hS.pick [0, 1, 2] [0] Z, H⟩ ?_
  rintro k F w1 ⟨y9, y10, y11, y12, rfl, hS, H⟩
  cases k with
  | zero => rw [spec_l01Drawn.l1] at H; cases H
  | succ k =>
    rw [spec_l01Drawn.l1] at H
    refine CJ.seq ?_
    refine CJ.seq (CJ.region ?_)
    refine OJ.pures oU 1 Z ?_
    refine OJ.st Z Z Z (SR.fieldAddr oU oI Z Z Z Z Z Z) ?_
    refine OJ.st Z Z Z (SR.load Z Z (fun w' hx => ld1 oU Z Z (CA.ext (CA.fld (hS.cells (i := 2) Z) (mid_part (fe_Pasture_1 _) (fl_Pasture_1 _) ((ci .i8).len _))) hx) Z)) ?_
    refine OJ.pures oU 1 Z (OJ.nil (EJ.next ?_))
    refine CJ.cond Z (fun hb => ?_) (fun hb => ?_)
    · replace H := pif_t (of_decide_eq_true hb) H
      refine CJ.skip (EJ.next ?_)
      obtain ⟨j50, H, K50⟩ := pbind H
      refine CJ.cut (fun F w1 => ∃ (y13 : Pasture) (y14 : Int) (y15 : Int) , (some (y13, y14, y15) : Option (Pasture × Int × Int)) = some j50 ∧ F = [(0, .pointer (some ⟨ba0, 0, none⟩)), (2, .pointer (some ⟨b1, 0, none⟩)), (3, .pointer (some ⟨b3, 0, none⟩)), (4, .int .i64 (IntKind.i64.wrap (2 + t5.1))), (5, .int .i8 y10)] ∧ St w (fpU [box ba0 ([.slice Aa0_0 a0.code.length ca0_0, .int .i64 a0.at_, .int .u64 a0.seed]) 102]) w1 [box ba0 ([.slice Aa0_0 a0.code.length ca0_0, .int .i64 y14, .int .u64 y15]) 102, box b1 (cPasture.enc (⟨0, 0, (Arr.mk' (Arr.mk' 0 : Arr 10 Int) : Arr 10 (Arr 10 Int)), (Arr.mk' 0 : Arr 10 Int), (Arr.mk' 0 : Arr 10 Int)⟩ : Pasture)) 31, box b3 (cPasture.enc y13) 31] [roC (ci .u8) Aa0_0 ca0_0 a0.code]) ?_ ?_
      · skip
        refine CJ.block ?_
        refine CJ.seq (CJ.region ?_)
        refine OJ.pures oU 1 Z (OJ.nil (EJ.next ?_))
        obtain ⟨j61, H, K61⟩ := pbind H
        refine CJ.cut1 (fun F w1 => ∃ (y16 : Pasture) (y17 : Int) (y18 : Int) , (some (y16, y17, y18) : Option (Pasture × Int × Int)) = some j61 ∧ F = [(0, .pointer (some ⟨ba0, 0, none⟩)), (2, .pointer (some ⟨b1, 0, none⟩)), (3, .pointer (some ⟨b3, 0, none⟩)), (4, .int .i64 (IntKind.i64.wrap (2 + t5.1))), (5, .int .i8 y10)] ∧ St w (fpU [box ba0 ([.slice Aa0_0 a0.code.length ca0_0, .int .i64 a0.at_, .int .u64 a0.seed]) 102]) w1 [box ba0 ([.slice Aa0_0 a0.code.length ca0_0, .int .i64 y17, .int .u64 y18]) 102, box b1 (cPasture.enc (⟨0, 0, (Arr.mk' (Arr.mk' 0 : Arr 10 Int) : Arr 10 (Arr 10 Int)), (Arr.mk' 0 : Arr 10 Int), (Arr.mk' 0 : Arr 10 Int)⟩ : Pasture)) 31, box b3 (cPasture.enc y16) 31] [roC (ci .u8) Aa0_0 ca0_0 a0.code]) ?_ ?_
        · skip
          refine CJ.block ?_
          refine CJ.loop (fun k F w1 => ∃ (y19 : Pasture) (y20 : Int) (y21 : Int) (y22 : Int), F = [(0, .pointer (some ⟨ba0, 0, none⟩)), (2, .pointer (some ⟨b1, 0, none⟩)), (3, .pointer (some ⟨b3, 0, none⟩)), (4, .int .i64 (IntKind.i64.wrap (2 + t5.1))), (5, .int .i8 y10), (6, .int .i8 y20)] ∧ St w (fpU [box ba0 ([.slice Aa0_0 a0.code.length ca0_0, .int .i64 a0.at_, .int .u64 a0.seed]) 102]) w1 [box ba0 ([.slice Aa0_0 a0.code.length ca0_0, .int .i64 y21, .int .u64 y22]) 102, box b1 (cPasture.enc (⟨0, 0, (Arr.mk' (Arr.mk' 0 : Arr 10 Int) : Arr 10 (Arr 10 Int)), (Arr.mk' 0 : Arr 10 Int), (Arr.mk' 0 : Arr 10 Int)⟩ : Pasture)) 31, box b3 (cPasture.enc y19) 31] [roC (ci .u8) Aa0_0 ca0_0 a0.code] ∧ spec_l01Drawn.l2 a0 t5 y10 k y19 y20 y21 y22 = some j61) k (F' := [(0, .pointer (some ⟨ba0, 0, none⟩)), (2, .pointer (some ⟨b1, 0, none⟩)), (3, .pointer (some ⟨b3, 0, none⟩)), (4, .int .i64 (IntKind.i64.wrap (2 + t5.1))), (5, .int .i8 y10), (6, .int .i8 0)]) ⟨Z, Z, Z, Z, Z, Z, trivial⟩ ⟨y9, 0, y11, y12, Z, hS.pick [0, 1, 2] [0] Z, H⟩ ?_
          rintro k F w1 ⟨y19, y20, y21, y22, rfl, hS, H⟩
          cases k with
          | zero => rw [spec_l01Drawn.l2] at H; cases H
          | succ k =>
            rw [spec_l01Drawn.l2] at H
            refine CJ.seq ?_
            refine CJ.seq (CJ.region ?_)
            refine OJ.pures oU 1 Z ?_
            refine OJ.st Z Z Z (SR.fieldAddr oU oI Z Z Z Z Z Z) ?_
            refine OJ.st Z Z Z (SR.load Z Z (fun w' hx => ld1 oU Z Z (CA.ext (CA.fld (hS.cells (i := 2) Z) (mid_part (fe_Pasture_0 _) (fl_Pasture_0 _) ((ci .i8).len _))) hx) Z)) ?_
            refine OJ.pures oU 1 Z (OJ.nil (EJ.next ?_))
            refine CJ.cond Z (fun hb => ?_) (fun hb => ?_)
            · replace H := pif_t (of_decide_eq_true hb) H
              refine CJ.skip (EJ.next ?_)
              obtain ⟨j68, H, K68⟩ := pbind H
              refine CJ.cut (fun F w1 => ∃ (y23 : Pasture) (y24 : Int) (y25 : Int) , (some (y23, y24, y25) : Option (Pasture × Int × Int)) = some j68 ∧ F = [(0, .pointer (some ⟨ba0, 0, none⟩)), (2, .pointer (some ⟨b1, 0, none⟩)), (3, .pointer (some ⟨b3, 0, none⟩)), (4, .int .i64 (IntKind.i64.wrap (2 + t5.1))), (5, .int .i8 y10), (6, .int .i8 y20)] ∧ St w (fpU [box ba0 ([.slice Aa0_0 a0.code.length ca0_0, .int .i64 a0.at_, .int .u64 a0.seed]) 102]) w1 [box ba0 ([.slice Aa0_0 a0.code.length ca0_0, .int .i64 y24, .int .u64 y25]) 102, box b1 (cPasture.enc (⟨0, 0, (Arr.mk' (Arr.mk' 0 : Arr 10 Int) : Arr 10 (Arr 10 Int)), (Arr.mk' 0 : Arr 10 Int), (Arr.mk' 0 : Arr 10 Int)⟩ : Pasture)) 31, box b3 (cPasture.enc y23) 31] [roC (ci .u8) Aa0_0 ca0_0 a0.code]) ?_ ?_
              · skip
                refine CJ.block ?_
                refine CJ.seq ?_
                obtain ⟨t26, ht26, H⟩ := pbind H
                obtain ⟨t27, ht27, H⟩ := pbind H
                obtain ⟨t28, ht28, H⟩ := pbind H
                refine CJ.cut1 (fun F w1 => F = [(0, .pointer (some ⟨ba0, 0, none⟩)), (2, .pointer (some ⟨b1, 0, none⟩)), (3, .pointer (some ⟨b3, 0, none⟩)), (4, .int .i64 (IntKind.i64.wrap (2 + t5.1))), (5, .int .i8 y10), (6, .int .i8 y20)] ∧ St w (fpU [box ba0 ([.slice Aa0_0 a0.code.length ca0_0, .int .i64 a0.at_, .int .u64 a0.seed]) 102]) w1 [box ba0 ([.slice Aa0_0 a0.code.length ca0_0, .int .i64 t27.2.at_, .int .u64 t27.2.seed]) 102, box b1 (cPasture.enc (⟨0, 0, (Arr.mk' (Arr.mk' 0 : Arr 10 Int) : Arr 10 (Arr 10 Int)), (Arr.mk' 0 : Arr 10 Int), (Arr.mk' 0 : Arr 10 Int)⟩ : Pasture)) 31, box b3 (cPasture.enc (⟨y19.Wide, y19.High, (aset y19.Grass y10.toNat (aset t26 y20.toNat (IntKind.i16.wrap t27.1))), y19.East, y19.South⟩ : Pasture)) 31] [roC (ci .u8) Aa0_0 ca0_0 a0.code]) ?_ ?_
                · skip
                  refine CJ.drawT [] [3, 8] (.one 0 (.one 1 (.one 2 (.one 5 (.one 6 (.one 3 (.one 4 (.one 7 (.one 8 (.fin)))))))))) mixed (by kernel_rfl) hS [] fun w1 hS hY hV => ?_
                  refine TJ.pures oU 3 Z ?_
                  refine TJ.sp Z Z Z Z Z (fun w2 => SR.fieldAddr oU oI Z Z Z Z Z Z) ?_
                  refine TJ.sp Z Z Z Z Z (fun w2 => SR.idxA oU oI Z Z Z Z Z (Arr.lt ht26)) ?_
                  refine TJ.callFw rfl rfl rfl rfl rfl rfl rfl hb49 rfl (spec_l00Src_pick.c _ Aa0_0 ca0_0 (⟨a0.code, y21, y22⟩ : l00Src) ba0 12 ((hS.subs [0] [0] [] rfl).pick [0] [0] rfl) _ ht27) (by rintro _ w1 ⟨rfl, hs⟩; exact hY.wr (hS.inP [] 1 rfl rfl [0] rfl) hs.chg) ?_
                  rintro _ w1 hY ⟨rfl, hs⟩
                  replace hS := hS.back [0] Z Z [box ba0 ([.slice Aa0_0 a0.code.length ca0_0, .int .i64 t27.2.at_, .int .u64 t27.2.seed]) 102] [] hs ⟨fun _ => Iff.rfl, trivial⟩
                  refine TJ.pures oU 1 Z ?_
                  refine TJ.sp Z Z Z Z Z (fun w2 => SR.idxA oU oI Z Z Z Z Z (Arr.lt ht28)) ?_
                  have hO := hS
                  refine TJ.es rfl rfl rfl rfl (Es.put oI (hS.inn []) (i := 2) rfl rfl rfl rfl rfl (vs := (ci .i16).enc (IntKind.i16.wrap t27.1)) rfl rfl (one1 rfl) (put_Pasture_2 (Put.idx (Put.idx (Put.all (ci .i16) t28 (IntKind.i16.wrap t27.1)) ht28) ht26)) (by (try simp only [add_lit, Nat.add_assoc, Nat.zero_add, Nat.add_zero]) <;> rfl)) (by intro w1 hS; exact hY.wr (hO.inY [] 1 rfl rfl) hS.chg) ?_
                  intro w1 hY hS
                  have hS : St w (fpU [box ba0 ([.slice Aa0_0 a0.code.length ca0_0, .int .i64 a0.at_, .int .u64 a0.seed]) 102]) w1 [box ba0 ([.slice Aa0_0 a0.code.length ca0_0, .int .i64 t27.2.at_, .int .u64 t27.2.seed]) 102, box b1 (cPasture.enc (⟨0, 0, (Arr.mk' (Arr.mk' 0 : Arr 10 Int) : Arr 10 (Arr 10 Int)), (Arr.mk' 0 : Arr 10 Int), (Arr.mk' 0 : Arr 10 Int)⟩ : Pasture)) 31, box b3 (cPasture.enc (⟨y19.Wide, y19.High, (aset y19.Grass y10.toNat (aset t26 y20.toNat (IntKind.i16.wrap t27.1))), y19.East, y19.South⟩ : Pasture)) 31] [roC (ci .u8) Aa0_0 ca0_0 a0.code] := hO.out [] hS
                  refine TJ.nil ?_
                  exact EJ.meet (F' := [(0, .pointer (some ⟨ba0, 0, none⟩)), (2, .pointer (some ⟨b1, 0, none⟩)), (3, .pointer (some ⟨b3, 0, none⟩)), (4, .int .i64 (IntKind.i64.wrap (2 + t5.1))), (5, .int .i8 y10), (6, .int .i8 y20)]) ⟨Z, Z, Z, Z, Z, Z, trivial⟩ ⟨Z, hS.pick [0, 1, 2] [0] Z⟩
                · rintro F w1 ⟨rfl, hS⟩
                  refine EJ.next ?_
                  refine CJ.seq (CJ.region ?_)
                  refine OJ.pures oU 1 Z (OJ.nil (EJ.next ?_))
                  obtain ⟨j70, H, K70⟩ := pbind H
                  refine CJ.cut1 (fun F w1 => ∃ (y29 : Pasture) (y30 : Int) (y31 : Int) , (some (y29, y30, y31) : Option (Pasture × Int × Int)) = some j70 ∧ F = [(0, .pointer (some ⟨ba0, 0, none⟩)), (2, .pointer (some ⟨b1, 0, none⟩)), (3, .pointer (some ⟨b3, 0, none⟩)), (4, .int .i64 (IntKind.i64.wrap (2 + t5.1))), (5, .int .i8 y10), (6, .int .i8 y20)] ∧ St w (fpU [box ba0 ([.slice Aa0_0 a0.code.length ca0_0, .int .i64 a0.at_, .int .u64 a0.seed]) 102]) w1 [box ba0 ([.slice Aa0_0 a0.code.length ca0_0, .int .i64 y30, .int .u64 y31]) 102, box b1 (cPasture.enc (⟨0, 0, (Arr.mk' (Arr.mk' 0 : Arr 10 Int) : Arr 10 (Arr 10 Int)), (Arr.mk' 0 : Arr 10 Int), (Arr.mk' 0 : Arr 10 Int)⟩ : Pasture)) 31, box b3 (cPasture.enc y29) 31] [roC (ci .u8) Aa0_0 ca0_0 a0.code]) ?_ ?_
                  · skip
                    refine CJ.block ?_
                    refine CJ.loop (fun k F w1 => ∃ (y32 : Pasture) (y33 : Int) (y34 : Int) (y35 : Int), F = [(0, .pointer (some ⟨ba0, 0, none⟩)), (2, .pointer (some ⟨b1, 0, none⟩)), (3, .pointer (some ⟨b3, 0, none⟩)), (4, .int .i64 (IntKind.i64.wrap (2 + t5.1))), (5, .int .i8 y10), (6, .int .i8 y20), (7, .int .i64 y33)] ∧ St w (fpU [box ba0 ([.slice Aa0_0 a0.code.length ca0_0, .int .i64 a0.at_, .int .u64 a0.seed]) 102]) w1 [box ba0 ([.slice Aa0_0 a0.code.length ca0_0, .int .i64 y34, .int .u64 y35]) 102, box b1 (cPasture.enc (⟨0, 0, (Arr.mk' (Arr.mk' 0 : Arr 10 Int) : Arr 10 (Arr 10 Int)), (Arr.mk' 0 : Arr 10 Int), (Arr.mk' 0 : Arr 10 Int)⟩ : Pasture)) 31, box b3 (cPasture.enc y32) 31] [roC (ci .u8) Aa0_0 ca0_0 a0.code] ∧ spec_l01Drawn.l3 a0 t5 y10 y20 k y32 y33 y34 y35 = some j70) k (F' := [(0, .pointer (some ⟨ba0, 0, none⟩)), (2, .pointer (some ⟨b1, 0, none⟩)), (3, .pointer (some ⟨b3, 0, none⟩)), (4, .int .i64 (IntKind.i64.wrap (2 + t5.1))), (5, .int .i8 y10), (6, .int .i8 y20), (7, .int .i64 1)]) ⟨Z, Z, Z, Z, Z, Z, Z, trivial⟩ ⟨(⟨y19.Wide, y19.High, (aset y19.Grass y10.toNat (aset t26 y20.toNat (IntKind.i16.wrap t27.1))), y19.East, y19.South⟩ : Pasture), 1, t27.2.at_, t27.2.seed, Z, hS.pick [0, 1, 2] [0] Z, H⟩ ?_
                    rintro k F w1 ⟨y32, y33, y34, y35, rfl, hS, H⟩
                    cases k with
                    | zero => rw [spec_l01Drawn.l3] at H; cases H
                    | succ k =>
                      rw [spec_l01Drawn.l3] at H
                      refine CJ.seq ?_
                      refine CJ.seq (CJ.region ?_)
                      refine OJ.pures oU 2 Z (OJ.nil (EJ.next ?_))
                      refine CJ.cond Z (fun hb => ?_) (fun hb => ?_)
                      · replace H := pif_t (of_decide_eq_true hb) H
                        refine CJ.skip (EJ.next ?_)
                        refine CJ.seq ?_
                        refine CJ.block ?_
                        refine CJ.seq (CJ.region ?_)
                        refine OJ.pures oU 2 Z ?_
                        refine OJ.st Z Z Z (SR.build (C := cSpot) oU oI Z Z Z (zs := [.int .i8 0, .int .i8 0]) Z Z Z (⟨y20, y10⟩ : Spot) Z) ?_
                        refine OJ.ef Z Z Z (Ef.alloc hS oI Z Z (cSpot.enc (⟨0, 0⟩ : Spot)) Z) ?_
                        rintro _ w1 ⟨b36, rfl, hS⟩
                        refine OJ.es Z Z (Es.store oI hS (i := 3) Z Z Z Z Z Z (vs := cSpot.enc (⟨y20, y10⟩ : Spot)) Z (cSpot.len _) (cSpot.one _) (Nat.le_of_ble_eq_true Z) (cSpot.enc (⟨y20, y10⟩ : Spot)) Z) ?_
                        intro w1 hS
                        refine OJ.nil (EJ.next ?_)
                        refine CJ.seq (CJ.region ?_)
                        refine OJ.st Z Z Z (SR.load Z Z (fun w' hx => ldE oU oI Z Z Z (CA.ext (hS.cells (i := 3) Z) hx) Z)) ?_
                        refine OJ.pures oU 1 Z ?_
                        obtain ⟨t37, ht37, H⟩ := pbind H
                        refine OJ.callF Z Z Z Z Z hb37 Z (spec_l01Next.c _ (⟨y20, y10⟩ : Spot) y33 _ ht37) ?_
                        rintro _ w1 ⟨rfl, hs⟩
                        replace hS := hS.grow hs
                        obtain ⟨t38, ht38, H⟩ := pbind H
                        refine OJ.callF Z Z Z Z Z hb51 Z (spec_l01Is.c _ _ y32 (hS.cells (i := 2) Z) t37 _ ht38) ?_
                        rintro _ w1 ⟨rfl, hs⟩
                        replace hS := hS.grow hs
                        refine OJ.pures oU 1 Z ?_
                        refine OJ.split (t := 53) Z (fun hb => ?_) (fun hb => ?_)
                        · replace H := pif_t hb H
                          refine OJ.pures oU 2 Z ?_
                          obtain ⟨t39, ht39, H⟩ := pbind H
                          refine OJ.callF Z Z Z Z Z hb63 Z (spec_l00Src_one.c _ Aa0_0 ca0_0 (⟨a0.code, y34, y35⟩ : l00Src) ba0 (IntKind.i64.wrap (2 + t5.1)) ((hS.subs [0] [0] [] Z).pick [0] [0] Z) _ ht39) ?_
                          rintro _ w1 ⟨rfl, hs⟩
                          replace hS := hS.back [0] Z Z [box ba0 ([.slice Aa0_0 a0.code.length ca0_0, .int .i64 t39.2.at_, .int .u64 t39.2.seed]) 102] [] hs ⟨fun _ => Iff.rfl, trivial⟩
                          refine OJ.pures oU 1 Z (OJ.nil (EJ.next ?_))
                          refine CJ.cond Z (fun hb => ?_) (fun hb => ?_)
                          · replace H := pif_t hb H
                            refine CJ.region ?_
                            refine OJ.st Z Z Z (SR.load Z Z (fun w' hx => ldE oU oI Z Z Z (CA.ext (hS.cells (i := 3) Z) hx) Z)) ?_
                            refine OJ.pures oU 1 Z ?_
                            obtain ⟨t40, ht40, H⟩ := pbind H
                            refine OJ.callF Z Z Z Z Z hb39 Z (spec_l01Set.c _ b3 y32 (⟨y20, y10⟩ : Spot) y33 true ((hS.subs [2] [] [] Z).pick [0] [] Z) _ ht40) ?_
                            rintro _ w1 ⟨rfl, hs⟩
                            replace hS := hS.back [2] Z Z [box b3 (cPasture.enc t40) 31] [] hs ⟨fun _ => Iff.rfl, trivial⟩
                            refine OJ.nil (EJ.blk (EJ.next ?_))
                            refine CJ.region ?_
                            refine OJ.pures oU 3 Z ?_
                            refine OJ.nil ?_
                            exact EJ.round k (F' := [(0, .pointer (some ⟨ba0, 0, none⟩)), (2, .pointer (some ⟨b1, 0, none⟩)), (3, .pointer (some ⟨b3, 0, none⟩)), (4, .int .i64 (IntKind.i64.wrap (2 + t5.1))), (5, .int .i8 y10), (6, .int .i8 y20), (7, .int .i64 (IntKind.i64.wrap (y33 + 1)))]) ⟨Z, Z, Z, Z, Z, Z, Z, trivial⟩ (Nat.lt_succ_self _) ⟨t40, (IntKind.i64.wrap (y33 + 1)), t39.2.at_, t39.2.seed, Z, hS.pick [0, 1, 2] [0] Z, H⟩
                          · replace H := pifb_f hb H
                            refine CJ.skip (EJ.blk (EJ.next ?_))
                            refine CJ.region ?_
                            refine OJ.pures oU 3 Z ?_
                            refine OJ.nil ?_
                            exact EJ.round k (F' := [(0, .pointer (some ⟨ba0, 0, none⟩)), (2, .pointer (some ⟨b1, 0, none⟩)), (3, .pointer (some ⟨b3, 0, none⟩)), (4, .int .i64 (IntKind.i64.wrap (2 + t5.1))), (5, .int .i8 y10), (6, .int .i8 y20), (7, .int .i64 (IntKind.i64.wrap (y33 + 1)))]) ⟨Z, Z, Z, Z, Z, Z, Z, trivial⟩ (Nat.lt_succ_self _) ⟨y32, (IntKind.i64.wrap (y33 + 1)), t39.2.at_, t39.2.seed, Z, hS.pick [0, 1, 2] [0] Z, H⟩
                        · replace H := pifb_f hb H
                          refine OJ.pures oU 4 Z (OJ.nil (EJ.next ?_))
                          refine CJ.condF Z ?_
                          refine CJ.skip (EJ.blk (EJ.next ?_))
                          refine CJ.region ?_
                          refine OJ.pures oU 3 Z ?_
                          refine OJ.nil ?_
                          exact EJ.round k (F' := [(0, .pointer (some ⟨ba0, 0, none⟩)), (2, .pointer (some ⟨b1, 0, none⟩)), (3, .pointer (some ⟨b3, 0, none⟩)), (4, .int .i64 (IntKind.i64.wrap (2 + t5.1))), (5, .int .i8 y10), (6, .int .i8 y20), (7, .int .i64 (IntKind.i64.wrap (y33 + 1)))]) ⟨Z, Z, Z, Z, Z, Z, Z, trivial⟩ (Nat.lt_succ_self _) ⟨y32, (IntKind.i64.wrap (y33 + 1)), y34, y35, Z, hS.pick [0, 1, 2] [0] Z, H⟩
                      · replace H := pif_f (of_decide_eq_false hb) H
                        refine CJ.exit (EJ.skE (EJ.skE (EJ.hit (?_))))
                        exact EJ.meet (F' := [(0, .pointer (some ⟨ba0, 0, none⟩)), (2, .pointer (some ⟨b1, 0, none⟩)), (3, .pointer (some ⟨b3, 0, none⟩)), (4, .int .i64 (IntKind.i64.wrap (2 + t5.1))), (5, .int .i8 y10), (6, .int .i8 y20)]) ⟨Z, Z, Z, Z, Z, Z, trivial⟩ ⟨y32, y34, y35, H, Z, hS.pick [0, 1, 2] [0] Z⟩
                  · rintro F w1 ⟨y29, y30, y31, he, rfl, hS⟩
                    obtain rfl := Option.some.inj he
                    have H := K70
                    refine EJ.blk (?_)
                    exact EJ.meet (F' := [(0, .pointer (some ⟨ba0, 0, none⟩)), (2, .pointer (some ⟨b1, 0, none⟩)), (3, .pointer (some ⟨b3, 0, none⟩)), (4, .int .i64 (IntKind.i64.wrap (2 + t5.1))), (5, .int .i8 y10), (6, .int .i8 y20)]) ⟨Z, Z, Z, Z, Z, Z, trivial⟩ ⟨y29, y30, y31, H, Z, hS.pick [0, 1, 2] [0] Z⟩
              · rintro F w1 ⟨y23, y24, y25, he, rfl, hS⟩
                obtain rfl := Option.some.inj he
                have H := K68
                refine CJ.region ?_
                refine OJ.pures oU 3 Z ?_
                refine OJ.nil ?_
                exact EJ.round k (F' := [(0, .pointer (some ⟨ba0, 0, none⟩)), (2, .pointer (some ⟨b1, 0, none⟩)), (3, .pointer (some ⟨b3, 0, none⟩)), (4, .int .i64 (IntKind.i64.wrap (2 + t5.1))), (5, .int .i8 y10), (6, .int .i8 (IntKind.i8.wrap (y20 + 1)))]) ⟨Z, Z, Z, Z, Z, Z, trivial⟩ (Nat.lt_succ_self _) ⟨y23, (IntKind.i8.wrap (y20 + 1)), y24, y25, Z, hS.pick [0, 1, 2] [0] Z, H⟩
            · replace H := pif_f (of_decide_eq_false hb) H
              refine CJ.exit (EJ.skE (EJ.skE (EJ.hit (?_))))
              exact EJ.meet (F' := [(0, .pointer (some ⟨ba0, 0, none⟩)), (2, .pointer (some ⟨b1, 0, none⟩)), (3, .pointer (some ⟨b3, 0, none⟩)), (4, .int .i64 (IntKind.i64.wrap (2 + t5.1))), (5, .int .i8 y10)]) ⟨Z, Z, Z, Z, Z, trivial⟩ ⟨y19, y21, y22, H, Z, hS.pick [0, 1, 2] [0] Z⟩
        · rintro F w1 ⟨y16, y17, y18, he, rfl, hS⟩
          obtain rfl := Option.some.inj he
          have H := K61
          refine EJ.blk (?_)
          exact EJ.meet (F' := [(0, .pointer (some ⟨ba0, 0, none⟩)), (2, .pointer (some ⟨b1, 0, none⟩)), (3, .pointer (some ⟨b3, 0, none⟩)), (4, .int .i64 (IntKind.i64.wrap (2 + t5.1))), (5, .int .i8 y10)]) ⟨Z, Z, Z, Z, Z, trivial⟩ ⟨y16, y17, y18, H, Z, hS.pick [0, 1, 2] [0] Z⟩
      · rintro F w1 ⟨y13, y14, y15, he, rfl, hS⟩
        obtain rfl := Option.some.inj he
        have H := K50
        refine CJ.region ?_
        refine OJ.pures oU 3 Z ?_
        refine OJ.nil ?_
        exact EJ.round k (F' := [(0, .pointer (some ⟨ba0, 0, none⟩)), (2, .pointer (some ⟨b1, 0, none⟩)), (3, .pointer (some ⟨b3, 0, none⟩)), (4, .int .i64 (IntKind.i64.wrap (2 + t5.1))), (5, .int .i8 (IntKind.i8.wrap (y10 + 1)))]) ⟨Z, Z, Z, Z, Z, trivial⟩ (Nat.lt_succ_self _) ⟨y13, (IntKind.i8.wrap (y10 + 1)), y14, y15, Z, hS.pick [0, 1, 2] [0] Z, H⟩
    · replace H := pif_f (of_decide_eq_false hb) H
      refine CJ.exit (EJ.skE (EJ.skE (EJ.hit (?_))))
      exact EJ.meet (F' := [(2, .pointer (some ⟨b1, 0, none⟩)), (3, .pointer (some ⟨b3, 0, none⟩))]) ⟨Z, Z, trivial⟩ ⟨y9, y11, y12, H, Z, hS.pick [0, 1, 2] [0] Z⟩
 rintro F w1 ⟨y6, y7, y8, he, rfl, hS⟩
 obtain rfl := Option.some.inj he
 have H := K2
 refine EJ.next ?_
 refine CJ.seq (CJ.region ?_)
 refine OJ.st Z Z Z (SR.load Z Z (fun w' hx => ldE oU oI Z Z Z (CA.ext (hS.cells (i := 2) Z) hx) Z)) ?_
 refine OJ.es rfl rfl (Es.put oI hS (i := 1) rfl rfl rfl rfl rfl (vs := cPasture.enc y6) rfl (cPasture.len _) (cPasture.one _) (Put.all cPasture (⟨0, 0, (Arr.mk' (Arr.mk' 0 : Arr 10 Int) : Arr 10 (Arr 10 Int)), (Arr.mk' 0 : Arr 10 Int), (Arr.mk' 0 : Arr 10 Int)⟩ : Pasture) y6) (by (try simp only [add_lit, Nat.add_assoc, Nat.zero_add, Nat.add_zero]) <;> rfl)) ?_
 intro w1 hS
 refine OJ.nil (EJ.next ?_)
 refine CJ.ret (?_)
 obtain rfl := Option.some.inj H
 exact EJ.fin Z (.cell Z (ldE oU oI Z Z Z (hS.cells (i := 1) Z) Z) .nil) ⟨Z, hS.pick [0] [] Z⟩

def spec_P6Pasture.f (k : Nat) (a0 : List Int) : Option Pasture := (spec_l00From.f a0).bind fun t2 => (spec_l01Drawn.f k (⟨a0, t2.at_, t2.seed⟩ : l00Src)).bind fun t4 => some t4.1
theorem spec_P6Pasture.c (k : Nat) (w : World) (Aa0 : Option Addr) (ca0 : Nat) (a0 : List Int) (hr0 : Rd (ci .u8) w Aa0 a0) (hc0 : a0.length ≤ ca0) (r : Pasture) (H : spec_P6Pasture.f k a0 = some r) :
 CV Tryz.prog 5 [.slice Aa0 a0.length ca0].toArray w fun v w' => v = .agg (cPasture.enc r).toArray ∧ Ext w w' := by
 have hS := ((St.init w no).param (ci .u8) Aa0 ca0 a0 hr0 hc0)
 unfold spec_P6Pasture.f at H
 refine CV.body Tryz.func5 Z Tryz.ntmps5 Z ?_
 refine CJ.seq (CJ.region ?_)
 refine OJ.ef rfl rfl rfl (Ef.alloc hS oI rfl rfl (cPasture.enc (⟨0, 0, (Arr.mk' (Arr.mk' 0 : Arr 10 Int) : Arr 10 (Arr 10 Int)), (Arr.mk' 0 : Arr 10 Int), (Arr.mk' 0 : Arr 10 Int)⟩ : Pasture)) (by kernel_rfl)) ?_
 rintro _ w1 ⟨b1, rfl, hS⟩
 refine OJ.nil (EJ.next ?_)
 refine CJ.seq (CJ.region ?_)
 refine OJ.pures oU 1 Z ?_
 obtain ⟨t2, ht2, H⟩ := pbind H
 refine OJ.callF Z Z Z Z Z hb26 Z (spec_l00From.c _ Aa0 ca0 a0 (hS.rd' (i := 0) Z) (hS.le' (i := 0) Z) _ ht2) ?_
 rintro _ w1 ⟨b3, rfl, hs⟩
 replace hS := hS.addN hs
 obtain ⟨t4, ht4, H⟩ := pbind H
 refine OJ.callF Z Z Z Z Z hb25 Z (spec_l01Drawn.c k _ Aa0 ca0 (⟨a0, t2.at_, t2.seed⟩ : l00Src) b3 ((hS.subs [1] [0] [] Z).pick [0] [0] Z) _ ht4) ?_
 rintro _ w1 ⟨rfl, hs⟩
 replace hS := hS.back [1] Z Z [box b3 ([.slice Aa0 a0.length ca0, .int .i64 t4.2.at_, .int .u64 t4.2.seed]) 102] [] hs ⟨fun _ => Iff.rfl, trivial⟩
 refine OJ.es rfl rfl (Es.put oI hS (i := 0) rfl rfl rfl rfl rfl (vs := cPasture.enc t4.1) rfl (cPasture.len _) (cPasture.one _) (Put.all cPasture (⟨0, 0, (Arr.mk' (Arr.mk' 0 : Arr 10 Int) : Arr 10 (Arr 10 Int)), (Arr.mk' 0 : Arr 10 Int), (Arr.mk' 0 : Arr 10 Int)⟩ : Pasture) t4.1) (by (try simp only [add_lit, Nat.add_assoc, Nat.zero_add, Nat.add_zero]) <;> rfl)) ?_
 intro w1 hS
 refine OJ.nil (EJ.next ?_)
 refine CJ.ret (?_)
 obtain rfl := Option.some.inj H
 exact EJ.fin Z (.cell Z (ldE oU oI Z Z Z (hS.cells (i := 0) Z) Z) .nil) ⟨Z, hS.ext⟩

def spec_l01Grass.f (a0 : Int) : Option Bool := (spec_l00In.f a0 0 1000).bind fun t1 => some t1
theorem spec_l01Grass.c (w : World) (a0 : Int) (r : Bool) (H : spec_l01Grass.f a0 = some r) :
 CV Tryz.prog 65 [.int .i64 a0].toArray w fun v w' => v = .bool r ∧ Ext w w' := by
 have hS := (St.init w no)
 unfold spec_l01Grass.f at H
 refine CV.body Tryz.func65 Z Tryz.ntmps65 Z ?_
 refine CJ.seq (CJ.region ?_)
 refine OJ.pures oU 1 Z (OJ.nil (EJ.next ?_))
 refine CJ.seq (CJ.region ?_)
 refine OJ.pures oU 1 Z ?_
 obtain ⟨t1, ht1, H⟩ := pbind H
 refine OJ.callF Z Z Z Z Z hb64 Z (spec_l00In.c _ a0 0 1000 _ ht1) ?_
 rintro _ w1 ⟨rfl, hs⟩
 replace hS := hS.grow hs
 refine OJ.pures oU 1 Z (OJ.nil (EJ.next ?_))
 refine CJ.ret (?_)
 obtain rfl := Option.some.inj H
 exact EJ.fin Z (.tmp Z .nil) ⟨Z, hS.ext⟩

def spec_l01Ok.l2 (a0 : Pasture) (y4 : Int) : Nat → Int → Option (((Bool ⊕ Unit) ⊕ Unit) ⊕ Unit)
  | 0, _ => none
  | k + 1, y5 => if y5 < 10 then ((getI a0.Grass.l y4).bind fun t6 => (getI t6.l y5).bind fun t7 => (spec_l01Grass.f (IntKind.i64.wrap t7)).bind fun t8 => if (!t8) = true then (some (Sum.inl (Sum.inl (Sum.inl false)))) else (if 0 < (IntKind.i64.wrap t7) then ((spec_l01Is.f a0 (⟨y5, y4⟩ : Spot)).bind fun t9 => if (!t9) = true then (some (Sum.inl (Sum.inl (Sum.inl false)))) else (spec_l01Ok.l2 a0 y4 k (IntKind.i8.wrap (y5 + 1)))) else (spec_l01Ok.l2 a0 y4 k (IntKind.i8.wrap (y5 + 1))))) else (some (Sum.inr ()))
def spec_l01Ok.l1 (a0 : Pasture) : Nat → Int → Option (Bool ⊕ Unit)
  | 0, _ => none
  | k + 1, y4 => if y4 < 10 then (((spec_l01Ok.l2 a0 y4 k 0).bind fun s81 => match s81 with | .inl r => some r | .inr _ => (chk (0 ≤ (IntKind.u64.wrap a0.Wide))).bind fun u10 => if a0.High ≤ y4 then ((getI a0.East.l y4).bind fun t11 => if (andNotI .u16 t11 (shrI .u16 0 1)) ≠ 0 then (some (Sum.inl (Sum.inl false))) else (if (IntKind.i8.wrap (a0.High - 1)) ≤ y4 then ((getI a0.South.l y4).bind fun t12 => if (andNotI .u16 t12 0) ≠ 0 then (some (Sum.inl (Sum.inl false))) else (some (Sum.inr ()))) else ((getI a0.South.l y4).bind fun t13 => if (andNotI .u16 t13 0) ≠ 0 then (some (Sum.inl (Sum.inl false))) else (some (Sum.inr ()))))) else ((getI a0.East.l y4).bind fun t14 => if (andNotI .u16 t14 (shrI .u16 (IntKind.u16.wrap ((shlI .u16 1 (IntKind.u64.wrap a0.Wide)) - 1)) 1)) ≠ 0 then (some (Sum.inl (Sum.inl false))) else (if (IntKind.i8.wrap (a0.High - 1)) ≤ y4 then ((getI a0.South.l y4).bind fun t15 => if (andNotI .u16 t15 0) ≠ 0 then (some (Sum.inl (Sum.inl false))) else (some (Sum.inr ()))) else ((getI a0.South.l y4).bind fun t16 => if (andNotI .u16 t16 (IntKind.u16.wrap ((shlI .u16 1 (IntKind.u64.wrap a0.Wide)) - 1))) ≠ 0 then (some (Sum.inl (Sum.inl false))) else (some (Sum.inr ())))))).bind fun s79 => match s79 with | .inl r => some r | .inr _ => spec_l01Ok.l1 a0 k (IntKind.i8.wrap (y4 + 1))) else (some (Sum.inr ()))
def spec_l01Ok.f (k : Nat) (a0 : Pasture) : Option Bool := ((spec_l00In.f (IntKind.i64.wrap a0.Wide) 1 10).bind fun t2 => if (!t2) = true then (some true) else ((spec_l00In.f (IntKind.i64.wrap a0.High) 1 10).bind fun t3 => some (!t3))).bind fun y1 => if y1 = true then (some false) else ((spec_l01Ok.l1 a0 k 0).bind fun s72 => match s72 with | .inl r => some r | .inr _ => some true)
theorem spec_l01Ok.c (k : Nat) (w : World) (pa0 : Addr) (a0 : Pasture) (hp0 : CA w pa0 (cPasture.enc a0)) (r : Bool) (H : spec_l01Ok.f k a0 = some r) :
 CV Tryz.prog 27 [.pointer (some pa0)].toArray w fun v w' => v = .bool r ∧ Ext w w' := by
 have hS := ((St.init w no).paramP pa0 (cPasture.enc a0) hp0)
 unfold spec_l01Ok.f at H
 refine CV.body Tryz.func27 Z Tryz.ntmps27 Z ?_
 refine CJ.seq (CJ.region ?_)
 refine OJ.pures oU 1 Z (OJ.nil (EJ.next ?_))
 refine CJ.seq ?_
 obtain ⟨j71, H, K71⟩ := pbind H
 refine CJ.cut (fun F w1 => ∃ (y1 : Bool) , (some y1 : Option Bool) = some j71 ∧ F = [(0, .pointer (some pa0)), (22, .bool y1)] ∧ St w no w1 [] [roP pa0 (cPasture.enc a0)]) ?_ ?_
 ·skip
  refine CJ.region ?_
  refine OJ.pures oU 2 Z ?_
  refine OJ.st Z Z Z (SR.fieldAddr oU oI Z Z Z Z Z Z) ?_
  refine OJ.st Z Z Z (SR.load Z Z (fun w' hx => ld1 oU Z Z (CA.ext (CA.fld (hS.ca (i := 0) Z) (mid_part (fe_Pasture_0 _) (fl_Pasture_0 _) ((ci .i8).len _))) hx) Z)) ?_
  refine OJ.pures oU 1 Z ?_
  obtain ⟨t2, ht2, H⟩ := pbind H
  refine OJ.callF Z Z Z Z Z hb64 Z (spec_l00In.c _ (IntKind.i64.wrap a0.Wide) 1 10 _ ht2) ?_
  rintro _ w1 ⟨rfl, hs⟩
  replace hS := hS.grow hs
  refine OJ.pures oU 2 Z ?_
  refine OJ.split (t := 14) Z (fun hb => ?_) (fun hb => ?_)
  ·replace H := pif_t hb H
   refine OJ.pures oU 8 Z ?_
   refine OJ.nil ?_
   exact EJ.meet (F' := [(0, .pointer (some pa0)), (22, .bool true)]) ⟨Z, Z, trivial⟩ ⟨true, H, Z, hS.pick [] [0] Z⟩
  replace H := pifb_f hb H
  refine OJ.pures oU 2 Z ?_
  refine OJ.st Z Z Z (SR.fieldAddr oU oI Z Z Z Z Z Z) ?_
  refine OJ.st Z Z Z (SR.load Z Z (fun w' hx => ld1 oU Z Z (CA.ext (CA.fld (hS.ca (i := 0) Z) (mid_part (fe_Pasture_1 _) (fl_Pasture_1 _) ((ci .i8).len _))) hx) Z)) ?_
  refine OJ.pures oU 1 Z ?_
  obtain ⟨t3, ht3, H⟩ := pbind H
  refine OJ.callF Z Z Z Z Z hb64 Z (spec_l00In.c _ (IntKind.i64.wrap a0.High) 1 10 _ ht3) ?_
  rintro _ w1 ⟨rfl, hs⟩
  replace hS := hS.grow hs
  refine OJ.pures oU 2 Z ?_
  refine OJ.nil ?_
  exact EJ.meet (F' := [(0, .pointer (some pa0)), (22, .bool (!t3))]) ⟨Z, Z, trivial⟩ ⟨(!t3), H, Z, hS.pick [] [0] Z⟩
 rintro F w1 ⟨y1, he, rfl, hS⟩
 obtain rfl := Option.some.inj he
 have H := K71
 refine CJ.cond Z (fun hb => ?_) (fun hb => ?_)
 ·replace H := pif_t hb H
  refine CJ.seq (CJ.region ?_)
  refine OJ.pures oU 1 Z (OJ.nil (EJ.next ?_))
  refine CJ.ret (EJ.skR (?_))
  obtain rfl := Option.some.inj H
  exact EJ.fin Z (.tmp Z .nil) ⟨Z, hS.ext⟩
 replace H := pifb_f hb H
 refine CJ.skip (EJ.next ?_)
 refine CJ.seq ?_
 refine CJ.seq (CJ.region ?_)
 refine OJ.pures oU 1 Z (OJ.nil (EJ.next ?_))
 obtain ⟨j72, H, K72⟩ := pbind H
 refine CJ.cut1 (fun F w1 => (some (Sum.inr ()) : Option (Bool ⊕ Unit)) = some j72 ∧ F = [] ∧ St w no w1 [] [roP pa0 (cPasture.enc a0)]) ?_ ?_
 ·skip
  refine CJ.block ?_
  refine CJ.loop (fun k F w1 => ∃ (y4 : Int), F = [(0, .pointer (some pa0)), (3, .int .i8 y4)] ∧ St w no w1 [] [roP pa0 (cPasture.enc a0)] ∧ spec_l01Ok.l1 a0 k y4 = some j72) k (F' := [(0, .pointer (some pa0)), (3, .int .i8 0)]) ⟨Z, Z, trivial⟩ ⟨0, Z, hS.pick [] [0] Z, H⟩ ?_
  rintro k F w1 ⟨y4, rfl, hS, H⟩
  cases k with
  | zero => rw [spec_l01Ok.l1] at H; cases H
  | succ k =>
    rw [spec_l01Ok.l1] at H
    refine CJ.seq ?_
    refine CJ.seq (CJ.region ?_)
    refine OJ.pures oU 2 Z (OJ.nil (EJ.next ?_))
    refine CJ.cond Z (fun hb => ?_) (fun hb => ?_)
    · replace H := pif_t (of_decide_eq_true hb) H
      refine CJ.skip (EJ.next ?_)
      obtain ⟨j79, H, K79⟩ := pbind H
      refine CJ.cut (fun F w1 => (some (Sum.inr ()) : Option ((Bool ⊕ Unit) ⊕ Unit)) = some j79 ∧ F = [(0, .pointer (some pa0)), (3, .int .i8 y4)] ∧ St w no w1 [] [roP pa0 (cPasture.enc a0)]) ?_ ?_
      · skip
        refine CJ.block ?_
        refine CJ.seq ?_
        refine CJ.seq (CJ.region ?_)
        refine OJ.pures oU 1 Z (OJ.nil (EJ.next ?_))
        obtain ⟨j81, H, K81⟩ := pbind H
        refine CJ.cut1 (fun F w1 => (some (Sum.inr ()) : Option (((Bool ⊕ Unit) ⊕ Unit) ⊕ Unit)) = some j81 ∧ F = [(0, .pointer (some pa0)), (3, .int .i8 y4)] ∧ St w no w1 [] [roP pa0 (cPasture.enc a0)]) ?_ ?_
        · skip
          refine CJ.block ?_
          refine CJ.loop (fun k F w1 => ∃ (y5 : Int), F = [(0, .pointer (some pa0)), (3, .int .i8 y4), (4, .int .i8 y5)] ∧ St w no w1 [] [roP pa0 (cPasture.enc a0)] ∧ spec_l01Ok.l2 a0 y4 k y5 = some j81) k (F' := [(0, .pointer (some pa0)), (3, .int .i8 y4), (4, .int .i8 0)]) ⟨Z, Z, Z, trivial⟩ ⟨0, Z, hS.pick [] [0] Z, H⟩ ?_
          rintro k F w1 ⟨y5, rfl, hS, H⟩
          cases k with
          | zero => rw [spec_l01Ok.l2] at H; cases H
          | succ k =>
            rw [spec_l01Ok.l2] at H
            refine CJ.seq ?_
            refine CJ.seq (CJ.region ?_)
            refine OJ.pures oU 2 Z (OJ.nil (EJ.next ?_))
            refine CJ.cond Z (fun hb => ?_) (fun hb => ?_)
            · replace H := pif_t (of_decide_eq_true hb) H
              refine CJ.skip (EJ.next ?_)
              refine CJ.seq ?_
              refine CJ.block ?_
              refine CJ.seq (CJ.region ?_)
              refine OJ.pures oU 4 Z ?_
              refine OJ.st Z Z Z (SR.fieldAddr oU oI Z Z Z Z Z Z) ?_
              obtain ⟨t6, ht6, H⟩ := pbind H
              refine OJ.st Z Z Z (SR.idxA oU oI Z Z Z Z Z (Arr.lt ht6)) ?_
              obtain ⟨t7, ht7, H⟩ := pbind H
              refine OJ.st Z Z Z (SR.idxA oU oI Z Z Z Z Z (Arr.lt ht7)) ?_
              refine OJ.st Z Z Z (SR.load Z Z (fun w' hx => ld1 oU Z Z (CA.ext (CA.idx (CA.idx (CA.fld (hS.ca (i := 0) Z) (mid_part (fe_Pasture_2 _) (fl_Pasture_2 _) ((carr 10 (carr 10 (ci .i16))).len _))) ht6) ht7) hx) Z)) ?_
              refine OJ.pures oU 2 Z (OJ.nil (EJ.next ?_))
              refine CJ.seq (CJ.region ?_)
              refine OJ.pures oU 1 Z ?_
              obtain ⟨t8, ht8, H⟩ := pbind H
              refine OJ.callF Z Z Z Z Z hb65 Z (spec_l01Grass.c _ (IntKind.i64.wrap t7) _ ht8) ?_
              rintro _ w1 ⟨rfl, hs⟩
              replace hS := hS.grow hs
              refine OJ.pures oU 2 Z ?_
              refine OJ.split (t := 43) Z (fun hb => ?_) (fun hb => ?_)
              · replace H := pif_t hb H
                refine OJ.pures oU 11 Z (OJ.nil (EJ.next ?_))
                refine CJ.condT Z ?_
                refine CJ.seq (CJ.region ?_)
                refine OJ.pures oU 1 Z (OJ.nil (EJ.next ?_))
                refine CJ.ret (EJ.bkR (EJ.skR (EJ.skR (EJ.bkR (EJ.skR (EJ.skR (EJ.bkR (EJ.skR (EJ.skR (EJ.bkR (EJ.skR (EJ.skR (?_)))))))))))))
                first | (obtain rfl := Option.some.inj H; have H := K81) | (obtain ⟨q81, H2, e81⟩ := pbind H; obtain rfl := Option.some.inj e81; obtain rfl := Option.some.inj K81; have H := H2)
                first | (obtain rfl := Option.some.inj H; have H := K79) | (obtain ⟨q79, H2, e79⟩ := pbind H; obtain rfl := Option.some.inj e79; obtain rfl := Option.some.inj K79; have H := H2)
                first | (obtain rfl := Option.some.inj H; have H := K72) | (obtain ⟨q72, H2, e72⟩ := pbind H; obtain rfl := Option.some.inj e72; obtain rfl := Option.some.inj K72; have H := H2)
                obtain rfl := Option.some.inj H
                exact EJ.fin Z (.tmp Z .nil) ⟨Z, hS.ext⟩
              · replace H := pifb_f hb H
                refine OJ.pures oU 3 Z ?_
                refine OJ.split (t := 46) Z (fun hb => ?_) (fun hb => ?_)
                · replace H := pif_t (of_decide_eq_true hb) H
                  refine OJ.pures oU 3 Z ?_
                  refine OJ.st Z Z Z (SR.build (C := cSpot) oU oI Z Z Z (zs := [.int .i8 0, .int .i8 0]) Z Z Z (⟨y5, y4⟩ : Spot) Z) ?_
                  obtain ⟨t9, ht9, H⟩ := pbind H
                  refine OJ.callF Z Z Z Z Z hb51 Z (spec_l01Is.c _ _ a0 (hS.ca (i := 0) Z) (⟨y5, y4⟩ : Spot) _ ht9) ?_
                  rintro _ w1 ⟨rfl, hs⟩
                  replace hS := hS.grow hs
                  refine OJ.pures oU 3 Z (OJ.nil (EJ.next ?_))
                  refine CJ.cond Z (fun hb => ?_) (fun hb => ?_)
                  · replace H := pif_t hb H
                    refine CJ.seq (CJ.region ?_)
                    refine OJ.pures oU 1 Z (OJ.nil (EJ.next ?_))
                    refine CJ.ret (EJ.bkR (EJ.skR (EJ.skR (EJ.bkR (EJ.skR (EJ.skR (EJ.bkR (EJ.skR (EJ.skR (EJ.bkR (EJ.skR (EJ.skR (?_)))))))))))))
                    first | (obtain rfl := Option.some.inj H; have H := K81) | (obtain ⟨q81, H2, e81⟩ := pbind H; obtain rfl := Option.some.inj e81; obtain rfl := Option.some.inj K81; have H := H2)
                    first | (obtain rfl := Option.some.inj H; have H := K79) | (obtain ⟨q79, H2, e79⟩ := pbind H; obtain rfl := Option.some.inj e79; obtain rfl := Option.some.inj K79; have H := H2)
                    first | (obtain rfl := Option.some.inj H; have H := K72) | (obtain ⟨q72, H2, e72⟩ := pbind H; obtain rfl := Option.some.inj e72; obtain rfl := Option.some.inj K72; have H := H2)
                    obtain rfl := Option.some.inj H
                    exact EJ.fin Z (.tmp Z .nil) ⟨Z, hS.ext⟩
                  · replace H := pifb_f hb H
                    refine CJ.skip (EJ.blk (EJ.next ?_))
                    refine CJ.region ?_
                    refine OJ.pures oU 3 Z ?_
                    refine OJ.nil ?_
                    exact EJ.round k (F' := [(0, .pointer (some pa0)), (3, .int .i8 y4), (4, .int .i8 (IntKind.i8.wrap (y5 + 1)))]) ⟨Z, Z, Z, trivial⟩ (Nat.lt_succ_self _) ⟨(IntKind.i8.wrap (y5 + 1)), Z, hS.pick [] [0] Z, H⟩
                · replace H := pif_f (of_decide_eq_false hb) H
                  refine OJ.pures oU 8 Z (OJ.nil (EJ.next ?_))
                  refine CJ.condF Z ?_
                  refine CJ.skip (EJ.blk (EJ.next ?_))
                  refine CJ.region ?_
                  refine OJ.pures oU 3 Z ?_
                  refine OJ.nil ?_
                  exact EJ.round k (F' := [(0, .pointer (some pa0)), (3, .int .i8 y4), (4, .int .i8 (IntKind.i8.wrap (y5 + 1)))]) ⟨Z, Z, Z, trivial⟩ (Nat.lt_succ_self _) ⟨(IntKind.i8.wrap (y5 + 1)), Z, hS.pick [] [0] Z, H⟩
            · replace H := pif_f (of_decide_eq_false hb) H
              refine CJ.exit (EJ.skE (EJ.skE (EJ.hit (?_))))
              exact EJ.meet (F' := [(0, .pointer (some pa0)), (3, .int .i8 y4)]) ⟨Z, Z, trivial⟩ ⟨H, Z, hS.pick [] [0] Z⟩
        · rintro F w1 ⟨he, rfl, hS⟩
          obtain rfl := Option.some.inj he
          have H := K81
          refine EJ.next ?_
          refine CJ.seq (CJ.region ?_)
          refine OJ.pures oU 2 Z ?_
          refine OJ.st Z Z Z (SR.fieldAddr oU oI Z Z Z Z Z Z) ?_
          refine OJ.st Z Z Z (SR.load Z Z (fun w' hx => ld1 oU Z Z (CA.ext (CA.fld (hS.ca (i := 0) Z) (mid_part (fe_Pasture_0 _) (fl_Pasture_0 _) ((ci .i8).len _))) hx) Z)) ?_
          refine OJ.pures oU 1 Z ?_
          obtain ⟨u10, hu10, H⟩ := pbind H
          refine OJ.st Z Z Z (SR.shl Z Z Z (chk_some hu10)) ?_
          refine OJ.pures oU 2 Z (OJ.nil (EJ.next ?_))
          refine CJ.seq ?_
          refine CJ.seq (CJ.region ?_)
          refine OJ.pures oU 3 Z ?_
          refine OJ.st Z Z Z (SR.fieldAddr oU oI Z Z Z Z Z Z) ?_
          refine OJ.st Z Z Z (SR.load Z Z (fun w' hx => ld1 oU Z Z (CA.ext (CA.fld (hS.ca (i := 0) Z) (mid_part (fe_Pasture_1 _) (fl_Pasture_1 _) ((ci .i8).len _))) hx) Z)) ?_
          refine OJ.pures oU 1 Z (OJ.nil (EJ.next ?_))
          refine CJ.cond Z (fun hb => ?_) (fun hb => ?_)
          · replace H := pif_t (of_decide_eq_true hb) H
            refine CJ.region ?_
            refine OJ.pures oU 1 Z (OJ.nil (EJ.next ?_))
            refine CJ.seq ?_
            refine CJ.seq (CJ.region ?_)
            refine OJ.pures oU 3 Z ?_
            refine OJ.st Z Z Z (SR.fieldAddr oU oI Z Z Z Z Z Z) ?_
            obtain ⟨t11, ht11, H⟩ := pbind H
            refine OJ.st Z Z Z (SR.idxA oU oI Z Z Z Z Z (Arr.lt ht11)) ?_
            refine OJ.st Z Z Z (SR.load Z Z (fun w' hx => ld1 oU Z Z (CA.ext (CA.idx (CA.fld (hS.ca (i := 0) Z) (mid_part (fe_Pasture_3 _) (fl_Pasture_3 _) ((carr 10 (ci .u16)).len _))) ht11) hx) Z)) ?_
            refine OJ.pures oU 1 Z ?_
            refine OJ.st rfl rfl rfl (SR.shr rfl rfl rfl (by decide)) ?_
            refine OJ.pures oU 2 Z (OJ.nil (EJ.next ?_))
            refine CJ.cond Z (fun hb => ?_) (fun hb => ?_)
            · replace H := pif_t (of_decide_eq_true hb) H
              refine CJ.seq (CJ.region ?_)
              refine OJ.pures oU 1 Z (OJ.nil (EJ.next ?_))
              refine CJ.ret (EJ.skR (EJ.bkR (EJ.skR (EJ.skR (EJ.bkR (EJ.skR (EJ.skR (?_))))))))
              first | (obtain rfl := Option.some.inj H; have H := K79) | (obtain ⟨q79, H2, e79⟩ := pbind H; obtain rfl := Option.some.inj e79; obtain rfl := Option.some.inj K79; have H := H2)
              first | (obtain rfl := Option.some.inj H; have H := K72) | (obtain ⟨q72, H2, e72⟩ := pbind H; obtain rfl := Option.some.inj e72; obtain rfl := Option.some.inj K72; have H := H2)
              obtain rfl := Option.some.inj H
              exact EJ.fin Z (.tmp Z .nil) ⟨Z, hS.ext⟩
            · replace H := pif_f (of_decide_eq_false hb) H
              refine CJ.skip (EJ.next ?_)
              refine CJ.seq ?_
              refine CJ.seq (CJ.region ?_)
              refine OJ.pures oU 3 Z ?_
              refine OJ.st Z Z Z (SR.fieldAddr oU oI Z Z Z Z Z Z) ?_
              refine OJ.st Z Z Z (SR.load Z Z (fun w' hx => ld1 oU Z Z (CA.ext (CA.fld (hS.ca (i := 0) Z) (mid_part (fe_Pasture_1 _) (fl_Pasture_1 _) ((ci .i8).len _))) hx) Z)) ?_
              refine OJ.pures oU 2 Z (OJ.nil (EJ.next ?_))
              refine CJ.cond Z (fun hb => ?_) (fun hb => ?_)
              · replace H := pif_t (of_decide_eq_true hb) H
                refine CJ.region ?_
                refine OJ.pures oU 1 Z (OJ.nil (EJ.next ?_))
                refine CJ.seq (CJ.region ?_)
                refine OJ.pures oU 3 Z ?_
                refine OJ.st Z Z Z (SR.fieldAddr oU oI Z Z Z Z Z Z) ?_
                obtain ⟨t12, ht12, H⟩ := pbind H
                refine OJ.st Z Z Z (SR.idxA oU oI Z Z Z Z Z (Arr.lt ht12)) ?_
                refine OJ.st Z Z Z (SR.load Z Z (fun w' hx => ld1 oU Z Z (CA.ext (CA.idx (CA.fld (hS.ca (i := 0) Z) (mid_part (fe_Pasture_4 _) (fl_Pasture_4 _) ((carr 10 (ci .u16)).len _))) ht12) hx) Z)) ?_
                refine OJ.pures oU 3 Z (OJ.nil (EJ.next ?_))
                refine CJ.cond Z (fun hb => ?_) (fun hb => ?_)
                · replace H := pif_t (of_decide_eq_true hb) H
                  refine CJ.seq (CJ.region ?_)
                  refine OJ.pures oU 1 Z (OJ.nil (EJ.next ?_))
                  refine CJ.ret (EJ.bkR (EJ.skR (EJ.skR (EJ.bkR (EJ.skR (EJ.skR (?_)))))))
                  first | (obtain rfl := Option.some.inj H; have H := K79) | (obtain ⟨q79, H2, e79⟩ := pbind H; obtain rfl := Option.some.inj e79; obtain rfl := Option.some.inj K79; have H := H2)
                  first | (obtain rfl := Option.some.inj H; have H := K72) | (obtain ⟨q72, H2, e72⟩ := pbind H; obtain rfl := Option.some.inj e72; obtain rfl := Option.some.inj K72; have H := H2)
                  obtain rfl := Option.some.inj H
                  exact EJ.fin Z (.tmp Z .nil) ⟨Z, hS.ext⟩
                · replace H := pif_f (of_decide_eq_false hb) H
                  refine CJ.skip (EJ.blk (?_))
                  exact EJ.meet (F' := [(0, .pointer (some pa0)), (3, .int .i8 y4)]) ⟨Z, Z, trivial⟩ ⟨H, Z, hS.pick [] [0] Z⟩
              · replace H := pif_f (of_decide_eq_false hb) H
                refine CJ.skip (EJ.next ?_)
                refine CJ.seq (CJ.region ?_)
                refine OJ.pures oU 3 Z ?_
                refine OJ.st Z Z Z (SR.fieldAddr oU oI Z Z Z Z Z Z) ?_
                obtain ⟨t13, ht13, H⟩ := pbind H
                refine OJ.st Z Z Z (SR.idxA oU oI Z Z Z Z Z (Arr.lt ht13)) ?_
                refine OJ.st Z Z Z (SR.load Z Z (fun w' hx => ld1 oU Z Z (CA.ext (CA.idx (CA.fld (hS.ca (i := 0) Z) (mid_part (fe_Pasture_4 _) (fl_Pasture_4 _) ((carr 10 (ci .u16)).len _))) ht13) hx) Z)) ?_
                refine OJ.pures oU 3 Z (OJ.nil (EJ.next ?_))
                refine CJ.cond Z (fun hb => ?_) (fun hb => ?_)
                · replace H := pif_t (of_decide_eq_true hb) H
                  refine CJ.seq (CJ.region ?_)
                  refine OJ.pures oU 1 Z (OJ.nil (EJ.next ?_))
                  refine CJ.ret (EJ.bkR (EJ.skR (EJ.skR (EJ.bkR (EJ.skR (EJ.skR (?_)))))))
                  first | (obtain rfl := Option.some.inj H; have H := K79) | (obtain ⟨q79, H2, e79⟩ := pbind H; obtain rfl := Option.some.inj e79; obtain rfl := Option.some.inj K79; have H := H2)
                  first | (obtain rfl := Option.some.inj H; have H := K72) | (obtain ⟨q72, H2, e72⟩ := pbind H; obtain rfl := Option.some.inj e72; obtain rfl := Option.some.inj K72; have H := H2)
                  obtain rfl := Option.some.inj H
                  exact EJ.fin Z (.tmp Z .nil) ⟨Z, hS.ext⟩
                · replace H := pif_f (of_decide_eq_false hb) H
                  refine CJ.skip (EJ.blk (?_))
                  exact EJ.meet (F' := [(0, .pointer (some pa0)), (3, .int .i8 y4)]) ⟨Z, Z, trivial⟩ ⟨H, Z, hS.pick [] [0] Z⟩
          · replace H := pif_f (of_decide_eq_false hb) H
            refine CJ.skip (EJ.next ?_)
            refine CJ.seq ?_
            refine CJ.seq (CJ.region ?_)
            refine OJ.pures oU 3 Z ?_
            refine OJ.st Z Z Z (SR.fieldAddr oU oI Z Z Z Z Z Z) ?_
            obtain ⟨t14, ht14, H⟩ := pbind H
            refine OJ.st Z Z Z (SR.idxA oU oI Z Z Z Z Z (Arr.lt ht14)) ?_
            refine OJ.st Z Z Z (SR.load Z Z (fun w' hx => ld1 oU Z Z (CA.ext (CA.idx (CA.fld (hS.ca (i := 0) Z) (mid_part (fe_Pasture_3 _) (fl_Pasture_3 _) ((carr 10 (ci .u16)).len _))) ht14) hx) Z)) ?_
            refine OJ.pures oU 1 Z ?_
            refine OJ.st rfl rfl rfl (SR.shr rfl rfl rfl (by decide)) ?_
            refine OJ.pures oU 2 Z (OJ.nil (EJ.next ?_))
            refine CJ.cond Z (fun hb => ?_) (fun hb => ?_)
            · replace H := pif_t (of_decide_eq_true hb) H
              refine CJ.seq (CJ.region ?_)
              refine OJ.pures oU 1 Z (OJ.nil (EJ.next ?_))
              refine CJ.ret (EJ.skR (EJ.bkR (EJ.skR (EJ.skR (EJ.bkR (EJ.skR (EJ.skR (?_))))))))
              first | (obtain rfl := Option.some.inj H; have H := K79) | (obtain ⟨q79, H2, e79⟩ := pbind H; obtain rfl := Option.some.inj e79; obtain rfl := Option.some.inj K79; have H := H2)
              first | (obtain rfl := Option.some.inj H; have H := K72) | (obtain ⟨q72, H2, e72⟩ := pbind H; obtain rfl := Option.some.inj e72; obtain rfl := Option.some.inj K72; have H := H2)
              obtain rfl := Option.some.inj H
              exact EJ.fin Z (.tmp Z .nil) ⟨Z, hS.ext⟩
            · replace H := pif_f (of_decide_eq_false hb) H
              refine CJ.skip (EJ.next ?_)
              refine CJ.seq ?_
              refine CJ.seq (CJ.region ?_)
              refine OJ.pures oU 3 Z ?_
              refine OJ.st Z Z Z (SR.fieldAddr oU oI Z Z Z Z Z Z) ?_
              refine OJ.st Z Z Z (SR.load Z Z (fun w' hx => ld1 oU Z Z (CA.ext (CA.fld (hS.ca (i := 0) Z) (mid_part (fe_Pasture_1 _) (fl_Pasture_1 _) ((ci .i8).len _))) hx) Z)) ?_
              refine OJ.pures oU 2 Z (OJ.nil (EJ.next ?_))
              refine CJ.cond Z (fun hb => ?_) (fun hb => ?_)
              · replace H := pif_t (of_decide_eq_true hb) H
                refine CJ.region ?_
                refine OJ.pures oU 1 Z (OJ.nil (EJ.next ?_))
                refine CJ.seq (CJ.region ?_)
                refine OJ.pures oU 3 Z ?_
                refine OJ.st Z Z Z (SR.fieldAddr oU oI Z Z Z Z Z Z) ?_
                obtain ⟨t15, ht15, H⟩ := pbind H
                refine OJ.st Z Z Z (SR.idxA oU oI Z Z Z Z Z (Arr.lt ht15)) ?_
                refine OJ.st Z Z Z (SR.load Z Z (fun w' hx => ld1 oU Z Z (CA.ext (CA.idx (CA.fld (hS.ca (i := 0) Z) (mid_part (fe_Pasture_4 _) (fl_Pasture_4 _) ((carr 10 (ci .u16)).len _))) ht15) hx) Z)) ?_
                refine OJ.pures oU 3 Z (OJ.nil (EJ.next ?_))
                refine CJ.cond Z (fun hb => ?_) (fun hb => ?_)
                · replace H := pif_t (of_decide_eq_true hb) H
                  refine CJ.seq (CJ.region ?_)
                  refine OJ.pures oU 1 Z (OJ.nil (EJ.next ?_))
                  refine CJ.ret (EJ.bkR (EJ.skR (EJ.skR (EJ.bkR (EJ.skR (EJ.skR (?_)))))))
                  first | (obtain rfl := Option.some.inj H; have H := K79) | (obtain ⟨q79, H2, e79⟩ := pbind H; obtain rfl := Option.some.inj e79; obtain rfl := Option.some.inj K79; have H := H2)
                  first | (obtain rfl := Option.some.inj H; have H := K72) | (obtain ⟨q72, H2, e72⟩ := pbind H; obtain rfl := Option.some.inj e72; obtain rfl := Option.some.inj K72; have H := H2)
                  obtain rfl := Option.some.inj H
                  exact EJ.fin Z (.tmp Z .nil) ⟨Z, hS.ext⟩
                · replace H := pif_f (of_decide_eq_false hb) H
                  refine CJ.skip (EJ.blk (?_))
                  exact EJ.meet (F' := [(0, .pointer (some pa0)), (3, .int .i8 y4)]) ⟨Z, Z, trivial⟩ ⟨H, Z, hS.pick [] [0] Z⟩
              · replace H := pif_f (of_decide_eq_false hb) H
                refine CJ.skip (EJ.next ?_)
                refine CJ.seq (CJ.region ?_)
                refine OJ.pures oU 3 Z ?_
                refine OJ.st Z Z Z (SR.fieldAddr oU oI Z Z Z Z Z Z) ?_
                obtain ⟨t16, ht16, H⟩ := pbind H
                refine OJ.st Z Z Z (SR.idxA oU oI Z Z Z Z Z (Arr.lt ht16)) ?_
                refine OJ.st Z Z Z (SR.load Z Z (fun w' hx => ld1 oU Z Z (CA.ext (CA.idx (CA.fld (hS.ca (i := 0) Z) (mid_part (fe_Pasture_4 _) (fl_Pasture_4 _) ((carr 10 (ci .u16)).len _))) ht16) hx) Z)) ?_
                refine OJ.pures oU 3 Z (OJ.nil (EJ.next ?_))
                refine CJ.cond Z (fun hb => ?_) (fun hb => ?_)
                · replace H := pif_t (of_decide_eq_true hb) H
                  refine CJ.seq (CJ.region ?_)
                  refine OJ.pures oU 1 Z (OJ.nil (EJ.next ?_))
                  refine CJ.ret (EJ.bkR (EJ.skR (EJ.skR (EJ.bkR (EJ.skR (EJ.skR (?_)))))))
                  first | (obtain rfl := Option.some.inj H; have H := K79) | (obtain ⟨q79, H2, e79⟩ := pbind H; obtain rfl := Option.some.inj e79; obtain rfl := Option.some.inj K79; have H := H2)
                  first | (obtain rfl := Option.some.inj H; have H := K72) | (obtain ⟨q72, H2, e72⟩ := pbind H; obtain rfl := Option.some.inj e72; obtain rfl := Option.some.inj K72; have H := H2)
                  obtain rfl := Option.some.inj H
                  exact EJ.fin Z (.tmp Z .nil) ⟨Z, hS.ext⟩
                · replace H := pif_f (of_decide_eq_false hb) H
                  refine CJ.skip (EJ.blk (?_))
                  exact EJ.meet (F' := [(0, .pointer (some pa0)), (3, .int .i8 y4)]) ⟨Z, Z, trivial⟩ ⟨H, Z, hS.pick [] [0] Z⟩
      · rintro F w1 ⟨he, rfl, hS⟩
        obtain rfl := Option.some.inj he
        have H := K79
        refine CJ.region ?_
        refine OJ.pures oU 3 Z ?_
        refine OJ.nil ?_
        exact EJ.round k (F' := [(0, .pointer (some pa0)), (3, .int .i8 (IntKind.i8.wrap (y4 + 1)))]) ⟨Z, Z, trivial⟩ (Nat.lt_succ_self _) ⟨(IntKind.i8.wrap (y4 + 1)), Z, hS.pick [] [0] Z, H⟩
    · replace H := pif_f (of_decide_eq_false hb) H
      refine CJ.exit (EJ.skE (EJ.skE (EJ.hit (?_))))
      exact EJ.meet (F' := []) trivial ⟨H, Z, hS.pick [] [0] Z⟩
 rintro F w1 ⟨he, rfl, hS⟩
 obtain rfl := Option.some.inj he
 have H := K72
 refine EJ.next ?_
 refine CJ.seq (CJ.region ?_)
 refine OJ.pures oU 1 Z (OJ.nil (EJ.next ?_))
 refine CJ.ret (?_)
 obtain rfl := Option.some.inj H
 exact EJ.fin Z (.tmp Z .nil) ⟨Z, hS.ext⟩

def spec_l01Closed.f (a0 : Pasture) (a1 : Spot) (a2 : Int) : Option Bool := (spec_l01Next.f a1 a2).bind fun t2 => (spec_l01Is.f a0 t2).bind fun t4 => if (!t4) = true then (some true) else (if a2 = 0 then ((getI a0.South.l t2.Y).bind fun t5 => (chk (0 ≤ (IntKind.u64.wrap a1.X))).bind fun u6 => some (decide ((andI .u16 (shrI .u16 t5 (IntKind.u64.wrap a1.X)) 1) = 1))) else (if a2 = 1 then ((getI a0.East.l a1.Y).bind fun t7 => (chk (0 ≤ (IntKind.u64.wrap a1.X))).bind fun u8 => some (decide ((andI .u16 (shrI .u16 t7 (IntKind.u64.wrap a1.X)) 1) = 1))) else (if a2 = 2 then ((getI a0.South.l a1.Y).bind fun t9 => (chk (0 ≤ (IntKind.u64.wrap a1.X))).bind fun u10 => some (decide ((andI .u16 (shrI .u16 t9 (IntKind.u64.wrap a1.X)) 1) = 1))) else ((getI a0.East.l a1.Y).bind fun t11 => (chk (0 ≤ (IntKind.u64.wrap t2.X))).bind fun u12 => some (decide ((andI .u16 (shrI .u16 t11 (IntKind.u64.wrap t2.X)) 1) = 1))))))
theorem spec_l01Closed.c (w : World) (pa0 : Addr) (a0 : Pasture) (hp0 : CA w pa0 (cPasture.enc a0)) (a1 : Spot) (a2 : Int) (r : Bool) (H : spec_l01Closed.f a0 a1 a2 = some r) :
 CV Tryz.prog 78 [.pointer (some pa0), .agg (cSpot.enc a1).toArray, .int .i64 a2].toArray w fun v w' => v = .bool r ∧ Ext w w' := by
 have hS := ((St.init w no).paramP pa0 (cPasture.enc a0) hp0)
 unfold spec_l01Closed.f at H
 refine CV.body Tryz.func78 Z Tryz.ntmps78 Z ?_
 refine CJ.seq (CJ.region ?_)
 refine OJ.ef Z Z Z (Ef.box hS Z Z (cSpot.enc a1) Z) ?_
 rintro _ w1 ⟨b1, rfl, hS⟩
 refine OJ.pures oU 1 Z (OJ.nil (EJ.next ?_))
 refine CJ.seq (CJ.region ?_)
 refine OJ.st Z Z Z (SR.load Z Z (fun w' hx => ldE oU oI Z Z Z (CA.ext (hS.cells (i := 0) Z) hx) Z)) ?_
 refine OJ.pures oU 1 Z ?_
 obtain ⟨t2, ht2, H⟩ := pbind H
 refine OJ.callF Z Z Z Z Z hb37 Z (spec_l01Next.c _ a1 a2 _ ht2) ?_
 rintro _ w1 ⟨rfl, hs⟩
 replace hS := hS.grow hs
 refine OJ.ef Z Z Z (Ef.alloc hS oI Z Z (cSpot.enc (⟨0, 0⟩ : Spot)) Z) ?_
 rintro _ w1 ⟨b3, rfl, hS⟩
 refine OJ.es Z Z (Es.store oI hS (i := 1) Z Z Z Z Z Z (vs := cSpot.enc t2) Z (cSpot.len _) (cSpot.one _) (Nat.le_of_ble_eq_true Z) (cSpot.enc t2) Z) ?_
 intro w1 hS
 refine OJ.nil (EJ.next ?_)
 refine CJ.seq ?_
 refine CJ.seq (CJ.region ?_)
 refine OJ.pures oU 1 Z ?_
 refine OJ.st Z Z Z (SR.load Z Z (fun w' hx => ldE oU oI Z Z Z (CA.ext (hS.cells (i := 1) Z) hx) Z)) ?_
 obtain ⟨t4, ht4, H⟩ := pbind H
 refine OJ.callF Z Z Z Z Z hb51 Z (spec_l01Is.c _ _ a0 (hS.ca (i := 0) Z) t2 _ ht4) ?_
 rintro _ w1 ⟨rfl, hs⟩
 replace hS := hS.grow hs
 refine OJ.pures oU 1 Z (OJ.nil (EJ.next ?_))
 refine CJ.cond Z (fun hb => ?_) (fun hb => ?_)
 ·replace H := pif_t hb H
  refine CJ.seq (CJ.region ?_)
  refine OJ.pures oU 1 Z (OJ.nil (EJ.next ?_))
  refine CJ.ret (EJ.skR (?_))
  obtain rfl := Option.some.inj H
  exact EJ.fin Z (.tmp Z .nil) ⟨Z, hS.ext⟩
 replace H := pifb_f hb H
 refine CJ.skip (EJ.next ?_)
 refine CJ.seq ?_
 refine CJ.seq (CJ.region ?_)
 refine OJ.pures oU 1 Z (OJ.nil (EJ.next ?_))
 refine CJ.block ?_
 refine CJ.seq (CJ.region ?_)
 refine OJ.pures oU 2 Z (OJ.nil (EJ.next ?_))
 refine CJ.cond Z (fun hb => ?_) (fun hb => ?_)
 ·replace H := pif_t (of_decide_eq_true hb) H
  refine CJ.seq ?_
  refine CJ.draw [] [0, 1, 2, 3, 4, 5, 6, 7, 8, 9, 10, 11, 12, 13] mixed (by kernel_rfl) hS fun w1 hS => ?_
  refine DJ.pures oU 1 Z ?_
  refine DJ.st Z Z Z Z Z (SR.fieldAddr oU oI Z Z Z Z Z Z) ?_
  refine DJ.st Z Z Z Z Z (SR.load Z Z (fun w' hx => ld1 oU Z Z (CA.ext (CA.sub (hS.cells (i := 1) Z) 1) hx) Z)) ?_
  refine DJ.pures oU 1 Z ?_
  refine DJ.st Z Z Z Z Z (SR.fieldAddr oU oI Z Z Z Z Z Z) ?_
  obtain ⟨t5, ht5, H⟩ := pbind H
  refine DJ.st Z Z Z Z Z (SR.idxA oU oI Z Z Z Z Z (Arr.lt ht5)) ?_
  refine DJ.st Z Z Z Z Z (SR.load Z Z (fun w' hx => ld1 oU Z Z (CA.ext (CA.idx (CA.fld (hS.ca (i := 0) Z) (mid_part (fe_Pasture_4 _) (fl_Pasture_4 _) ((carr 10 (ci .u16)).len _))) ht5) hx) Z)) ?_
  refine DJ.st Z Z Z Z Z (SR.fieldAddr oU oI Z Z Z Z Z Z) ?_
  refine DJ.st Z Z Z Z Z (SR.load Z Z (fun w' hx => ld1 oU Z Z (CA.ext (CA.sub (hS.cells (i := 0) Z) 0) hx) Z)) ?_
  refine DJ.pures oU 1 Z ?_
  obtain ⟨u6, hu6, H⟩ := pbind H
  refine DJ.st Z Z Z Z Z (SR.shr Z Z Z (chk_some hu6)) ?_
  refine DJ.pures oU 3 Z ?_
  refine DJ.nil (EJ.next ?_)
  refine CJ.ret (EJ.bkR (EJ.skR (?_)))
  obtain rfl := Option.some.inj H
  exact EJ.fin Z (.tmp Z .nil) ⟨Z, hS.ext⟩
 replace H := pif_f (of_decide_eq_false hb) H
 refine CJ.seq (CJ.region ?_)
 refine OJ.pures oU 2 Z (OJ.nil (EJ.next ?_))
 refine CJ.cond Z (fun hb => ?_) (fun hb => ?_)
 ·replace H := pif_t (of_decide_eq_true hb) H
  refine CJ.seq ?_
  refine CJ.draw [] [0, 1, 2, 3, 4, 5, 6, 7, 8, 9, 10, 11, 12, 13] mixed (by kernel_rfl) hS fun w1 hS => ?_
  refine DJ.pures oU 1 Z ?_
  refine DJ.st Z Z Z Z Z (SR.fieldAddr oU oI Z Z Z Z Z Z) ?_
  refine DJ.st Z Z Z Z Z (SR.load Z Z (fun w' hx => ld1 oU Z Z (CA.ext (CA.sub (hS.cells (i := 0) Z) 1) hx) Z)) ?_
  refine DJ.pures oU 1 Z ?_
  refine DJ.st Z Z Z Z Z (SR.fieldAddr oU oI Z Z Z Z Z Z) ?_
  obtain ⟨t7, ht7, H⟩ := pbind H
  refine DJ.st Z Z Z Z Z (SR.idxA oU oI Z Z Z Z Z (Arr.lt ht7)) ?_
  refine DJ.st Z Z Z Z Z (SR.load Z Z (fun w' hx => ld1 oU Z Z (CA.ext (CA.idx (CA.fld (hS.ca (i := 0) Z) (mid_part (fe_Pasture_3 _) (fl_Pasture_3 _) ((carr 10 (ci .u16)).len _))) ht7) hx) Z)) ?_
  refine DJ.st Z Z Z Z Z (SR.fieldAddr oU oI Z Z Z Z Z Z) ?_
  refine DJ.st Z Z Z Z Z (SR.load Z Z (fun w' hx => ld1 oU Z Z (CA.ext (CA.sub (hS.cells (i := 0) Z) 0) hx) Z)) ?_
  refine DJ.pures oU 1 Z ?_
  obtain ⟨u8, hu8, H⟩ := pbind H
  refine DJ.st Z Z Z Z Z (SR.shr Z Z Z (chk_some hu8)) ?_
  refine DJ.pures oU 3 Z ?_
  refine DJ.nil (EJ.next ?_)
  refine CJ.ret (EJ.bkR (EJ.skR (?_)))
  obtain rfl := Option.some.inj H
  exact EJ.fin Z (.tmp Z .nil) ⟨Z, hS.ext⟩
 replace H := pif_f (of_decide_eq_false hb) H
 refine CJ.seq (CJ.region ?_)
 refine OJ.pures oU 2 Z (OJ.nil (EJ.next ?_))
 refine CJ.cond Z (fun hb => ?_) (fun hb => ?_)
 ·replace H := pif_t (of_decide_eq_true hb) H
  refine CJ.seq ?_
  refine CJ.draw [] [0, 1, 2, 3, 4, 5, 6, 7, 8, 9, 10, 11, 12, 13] mixed (by kernel_rfl) hS fun w1 hS => ?_
  refine DJ.pures oU 1 Z ?_
  refine DJ.st Z Z Z Z Z (SR.fieldAddr oU oI Z Z Z Z Z Z) ?_
  refine DJ.st Z Z Z Z Z (SR.load Z Z (fun w' hx => ld1 oU Z Z (CA.ext (CA.sub (hS.cells (i := 0) Z) 1) hx) Z)) ?_
  refine DJ.pures oU 1 Z ?_
  refine DJ.st Z Z Z Z Z (SR.fieldAddr oU oI Z Z Z Z Z Z) ?_
  obtain ⟨t9, ht9, H⟩ := pbind H
  refine DJ.st Z Z Z Z Z (SR.idxA oU oI Z Z Z Z Z (Arr.lt ht9)) ?_
  refine DJ.st Z Z Z Z Z (SR.load Z Z (fun w' hx => ld1 oU Z Z (CA.ext (CA.idx (CA.fld (hS.ca (i := 0) Z) (mid_part (fe_Pasture_4 _) (fl_Pasture_4 _) ((carr 10 (ci .u16)).len _))) ht9) hx) Z)) ?_
  refine DJ.st Z Z Z Z Z (SR.fieldAddr oU oI Z Z Z Z Z Z) ?_
  refine DJ.st Z Z Z Z Z (SR.load Z Z (fun w' hx => ld1 oU Z Z (CA.ext (CA.sub (hS.cells (i := 0) Z) 0) hx) Z)) ?_
  refine DJ.pures oU 1 Z ?_
  obtain ⟨u10, hu10, H⟩ := pbind H
  refine DJ.st Z Z Z Z Z (SR.shr Z Z Z (chk_some hu10)) ?_
  refine DJ.pures oU 3 Z ?_
  refine DJ.nil (EJ.next ?_)
  refine CJ.ret (EJ.bkR (EJ.skR (?_)))
  obtain rfl := Option.some.inj H
  exact EJ.fin Z (.tmp Z .nil) ⟨Z, hS.ext⟩
 replace H := pif_f (of_decide_eq_false hb) H
 refine CJ.skip (EJ.blk (EJ.next ?_))
 refine CJ.seq ?_
 refine CJ.draw [] [0, 1, 2, 3, 4, 5, 6, 7, 8, 9, 10, 11, 12, 13] mixed (by kernel_rfl) hS fun w1 hS => ?_
 refine DJ.pures oU 1 Z ?_
 refine DJ.st Z Z Z Z Z (SR.fieldAddr oU oI Z Z Z Z Z Z) ?_
 refine DJ.st Z Z Z Z Z (SR.load Z Z (fun w' hx => ld1 oU Z Z (CA.ext (CA.sub (hS.cells (i := 0) Z) 1) hx) Z)) ?_
 refine DJ.pures oU 1 Z ?_
 refine DJ.st Z Z Z Z Z (SR.fieldAddr oU oI Z Z Z Z Z Z) ?_
 obtain ⟨t11, ht11, H⟩ := pbind H
 refine DJ.st Z Z Z Z Z (SR.idxA oU oI Z Z Z Z Z (Arr.lt ht11)) ?_
 refine DJ.st Z Z Z Z Z (SR.load Z Z (fun w' hx => ld1 oU Z Z (CA.ext (CA.idx (CA.fld (hS.ca (i := 0) Z) (mid_part (fe_Pasture_3 _) (fl_Pasture_3 _) ((carr 10 (ci .u16)).len _))) ht11) hx) Z)) ?_
 refine DJ.st Z Z Z Z Z (SR.fieldAddr oU oI Z Z Z Z Z Z) ?_
 refine DJ.st Z Z Z Z Z (SR.load Z Z (fun w' hx => ld1 oU Z Z (CA.ext (CA.sub (hS.cells (i := 1) Z) 0) hx) Z)) ?_
 refine DJ.pures oU 1 Z ?_
 obtain ⟨u12, hu12, H⟩ := pbind H
 refine DJ.st Z Z Z Z Z (SR.shr Z Z Z (chk_some hu12)) ?_
 refine DJ.pures oU 3 Z ?_
 refine DJ.nil (EJ.next ?_)
 refine CJ.ret (?_)
 obtain rfl := Option.some.inj H
 exact EJ.fin Z (.tmp Z .nil) ⟨Z, hS.ext⟩

def spec_l01Beside.l1 (a0 : Pasture) (a1 : Spot) : Nat → (List Spot) → Int → Option (List Spot)
  | 0, _, _ => none
  | k + 1, y6, y9 => if y9 < 4 then ((spec_l01Closed.f a0 a1 y9).bind fun t10 => if (!t10) = true then ((spec_l01Next.f a1 y9).bind fun t11 => (chk (y6.length + ([t11] : List Spot).length ≤ 4294967296)).bind fun u13 => spec_l01Beside.l1 a0 a1 k (y6 ++ ([t11] : List Spot)) (IntKind.i64.wrap (y9 + 1))) else (spec_l01Beside.l1 a0 a1 k y6 (IntKind.i64.wrap (y9 + 1)))) else (some y6)
def spec_l01Beside.f (k : Nat) (a0 : Pasture) (a1 : Spot) : Option (List Spot) := (spec_l01Beside.l1 a0 a1 k ([] : List Spot) 0).bind fun y3 => some y3
theorem spec_l01Beside.c (k : Nat) (w : World) (pa0 : Addr) (a0 : Pasture) (hp0 : CA w pa0 (cPasture.enc a0)) (a1 : Spot) (r : List Spot) (H : spec_l01Beside.f k a0 a1 = some r) :
 CV Tryz.prog 71 [.pointer (some pa0), .agg (cSpot.enc a1).toArray].toArray w fun v w' => ∃ (A0 : Option Addr) (c0 : Nat), v = .slice A0 r.length c0 ∧ St w no w' [rowC cSpot A0 c0 45 r] [] := by
 have hS := ((St.init w no).paramP pa0 (cPasture.enc a0) hp0)
 unfold spec_l01Beside.f at H
 refine CV.body Tryz.func71 Z Tryz.ntmps71 Z ?_
 refine CJ.seq (CJ.region ?_)
 refine OJ.ef Z Z Z (Ef.box hS Z Z (cSpot.enc a1) Z) ?_
 rintro _ w1 ⟨b1, rfl, hS⟩
 refine OJ.pures oU 1 Z (OJ.nil (EJ.next ?_))
 refine CJ.seq (CJ.region ?_)
 refine OJ.ef Z Z Z (Ef.lit oU oI hS (C := cSpot) Z Z Z Z Z Z ([] : List Spot) Z Z Z Z) ?_
 rintro _ w1 ⟨A2, rfl, hS⟩
 refine OJ.pures oU 1 Z (OJ.nil (EJ.next ?_))
 refine CJ.seq ?_
 refine CJ.seq (CJ.region ?_)
 refine OJ.pures oU 1 Z (OJ.nil (EJ.next ?_))
 obtain ⟨j88, H, K88⟩ := pbind H
 refine CJ.cut1 (fun F w1 => ∃ (y3 : List Spot) (A4 : Option Addr) (c5 : Nat), (some y3 : Option (List Spot)) = some j88 ∧ F = [(5, .slice A4 y3.length c5)] ∧ St w no w1 [rowC cSpot A4 c5 45 y3] [roP pa0 (cPasture.enc a0)]) ?_ ?_
 ·skip
  refine CJ.block ?_
  refine CJ.loop (fun k F w1 => ∃ (y6 : List Spot) (y9 : Int) (A7 : Option Addr) (c8 : Nat), F = [(0, .pointer (some pa0)), (3, .pointer (some ⟨b1, 0, none⟩)), (5, .slice A7 y6.length c8), (6, .int .i64 y9)] ∧ St w no w1 [box b1 (cSpot.enc a1) 45, rowC cSpot A7 c8 45 y6] [roP pa0 (cPasture.enc a0)] ∧ spec_l01Beside.l1 a0 a1 k y6 y9 = some j88) k (F' := [(0, .pointer (some pa0)), (3, .pointer (some ⟨b1, 0, none⟩)), (5, .slice A2 ([] : List Spot).length (([] : List Spot).length)), (6, .int .i64 0)]) ⟨Z, Z, Z, Z, trivial⟩ ⟨([] : List Spot), 0, A2, (([] : List Spot).length), Z, hS.pick [0, 1] [0] Z, H⟩ ?_
  rintro k F w1 ⟨y6, y9, A7, c8, rfl, hS, H⟩
  cases k with
  | zero => rw [spec_l01Beside.l1] at H; cases H
  | succ k =>
    rw [spec_l01Beside.l1] at H
    refine CJ.seq ?_
    refine CJ.seq (CJ.region ?_)
    refine OJ.pures oU 2 Z (OJ.nil (EJ.next ?_))
    refine CJ.cond Z (fun hb => ?_) (fun hb => ?_)
    · replace H := pif_t (of_decide_eq_true hb) H
      refine CJ.skip (EJ.next ?_)
      refine CJ.seq ?_
      refine CJ.block ?_
      refine CJ.seq (CJ.region ?_)
      refine OJ.pures oU 1 Z ?_
      refine OJ.st Z Z Z (SR.load Z Z (fun w' hx => ldE oU oI Z Z Z (CA.ext (hS.cells (i := 0) Z) hx) Z)) ?_
      refine OJ.pures oU 1 Z ?_
      obtain ⟨t10, ht10, H⟩ := pbind H
      refine OJ.callF Z Z Z Z Z hb78 Z (spec_l01Closed.c _ _ a0 (hS.ca (i := 0) Z) a1 y9 _ ht10) ?_
      rintro _ w1 ⟨rfl, hs⟩
      replace hS := hS.grow hs
      refine OJ.pures oU 1 Z (OJ.nil (EJ.next ?_))
      refine CJ.cond Z (fun hb => ?_) (fun hb => ?_)
      · replace H := pif_t hb H
        refine CJ.region ?_
        refine OJ.pures oU 1 Z ?_
        refine OJ.st Z Z Z (SR.load Z Z (fun w' hx => ldE oU oI Z Z Z (CA.ext (hS.cells (i := 0) Z) hx) Z)) ?_
        refine OJ.pures oU 1 Z ?_
        obtain ⟨t11, ht11, H⟩ := pbind H
        refine OJ.callF Z Z Z Z Z hb37 Z (spec_l01Next.c _ a1 y9 _ ht11) ?_
        rintro _ w1 ⟨rfl, hs⟩
        replace hS := hS.grow hs
        refine OJ.ef Z Z Z (Ef.lit oU oI hS (C := cSpot) Z Z Z Z Z Z ([t11] : List Spot) Z Z Z Z) ?_
        rintro _ w1 ⟨A12, rfl, hS⟩
        obtain ⟨u13, hu13, H⟩ := pbind H
        refine OJ.ew Z Z Z (Ew.append oU oI (C := cSpot) (xs := y6) (ys := ([t11] : List Spot)) hS (i := 1) Z Z Z Z Z Z Z Z Z Z Z Z Z (hS.rd (i := 2) Z) (chk_some hu13)) ?_
        rintro _ w1 ⟨A14, c15, rfl, hS⟩
        refine OJ.pures oU 1 Z ?_
        refine OJ.nil (EJ.blk (EJ.next ?_))
        refine CJ.region ?_
        refine OJ.pures oU 3 Z ?_
        refine OJ.nil ?_
        exact EJ.round k (F' := [(0, .pointer (some pa0)), (3, .pointer (some ⟨b1, 0, none⟩)), (5, .slice A14 (y6 ++ ([t11] : List Spot)).length c15), (6, .int .i64 (IntKind.i64.wrap (y9 + 1)))]) ⟨Z, Z, Z, Z, trivial⟩ (Nat.lt_succ_self _) ⟨(y6 ++ ([t11] : List Spot)), (IntKind.i64.wrap (y9 + 1)), A14, c15, Z, hS.pick [0, 1] [0] Z, H⟩
      · replace H := pifb_f hb H
        refine CJ.skip (EJ.blk (EJ.next ?_))
        refine CJ.region ?_
        refine OJ.pures oU 3 Z ?_
        refine OJ.nil ?_
        exact EJ.round k (F' := [(0, .pointer (some pa0)), (3, .pointer (some ⟨b1, 0, none⟩)), (5, .slice A7 y6.length c8), (6, .int .i64 (IntKind.i64.wrap (y9 + 1)))]) ⟨Z, Z, Z, Z, trivial⟩ (Nat.lt_succ_self _) ⟨y6, (IntKind.i64.wrap (y9 + 1)), A7, c8, Z, hS.pick [0, 1] [0] Z, H⟩
    · replace H := pif_f (of_decide_eq_false hb) H
      refine CJ.exit (EJ.skE (EJ.skE (EJ.hit (?_))))
      exact EJ.meet (F' := [(5, .slice A7 y6.length c8)]) ⟨Z, trivial⟩ ⟨y6, A7, c8, H, Z, hS.pick [1] [0] Z⟩
 rintro F w1 ⟨y3, A4, c5, he, rfl, hS⟩
 obtain rfl := Option.some.inj he
 have H := K88
 refine EJ.next ?_
 refine CJ.seq (CJ.region ?_)
 refine OJ.pures oU 2 Z (OJ.nil (EJ.next ?_))
 refine CJ.ret (?_)
 obtain rfl := Option.some.inj H
 exact EJ.fin Z (.tmp Z .nil) ⟨A4, c5, Z, hS.pick [0] [] Z⟩

def spec_l01Steps.l2 (t17 : Spot) (t19 : List Spot) : Nat → (Arr 10 (Arr 10 Int)) → (List Spot) → Int → Option ((Arr 10 (Arr 10 Int)) × (List Spot))
  | 0, _, _, _ => none
  | k + 1, y26, y27, y30 => if y30 < (t19.length : Int) then ((getI t19 y30).bind fun t31 => (getI t19 y30).bind fun t32 => (getI y26.l t31.Y).bind fun t33 => (getI t33.l t32.X).bind fun t34 => if t34 = 0 then ((getI t19 y30).bind fun t35 => (getI t19 y30).bind fun t36 => (getI y26.l t17.Y).bind fun t37 => (getI t37.l t17.X).bind fun t38 => (getI y26.l t35.Y).bind fun t39 => (getI t39.l t36.X).bind fun t40 => (getI t19 y30).bind fun t41 => (chk (y27.length + ([t41] : List Spot).length ≤ 4294967296)).bind fun u43 => spec_l01Steps.l2 t17 t19 k (aset y26 t35.Y.toNat (aset t39 t36.X.toNat (IntKind.i64.wrap (t38 + 1)))) (y27 ++ ([t41] : List Spot)) (IntKind.i64.wrap (y30 + 1))) else (spec_l01Steps.l2 t17 t19 k y26 y27 (IntKind.i64.wrap (y30 + 1)))) else (some (y26, y27))
def spec_l01Steps.l1 (a0 : Pasture) : Nat → (Arr 10 (Arr 10 Int)) → (List Spot) → Int → Option (Arr 10 (Arr 10 Int))
  | 0, _, _, _ => none
  | k + 1, y8, y9, y12 => if y12 < (y9.length : Int) then (((getI y9 y12).bind fun t17 => (spec_l01Beside.f k a0 t17).bind fun t19 => (spec_l01Steps.l2 t17 t19 k y8 y9 0).bind fun (y22, y23) => some (y22, y23)).bind fun (y13, y14) => spec_l01Steps.l1 a0 k y13 y14 (IntKind.i64.wrap (y12 + 1))) else (some y8)
def spec_l01Steps.f (k : Nat) (a0 : Pasture) (a1 : Spot) : Option (Arr 10 (Arr 10 Int)) := (getI (Arr.mk' (Arr.mk' 0 : Arr 10 Int) : Arr 10 (Arr 10 Int)).l a1.Y).bind fun t4 => (getI t4.l a1.X).bind fun t5 => (spec_l01Steps.l1 a0 k (aset (Arr.mk' (Arr.mk' 0 : Arr 10 Int) : Arr 10 (Arr 10 Int)) a1.Y.toNat (aset t4 a1.X.toNat 1)) ([a1] : List Spot) 0).bind fun y7 => some y7
theorem spec_l01Steps.c (k : Nat) (w : World) (pa0 : Addr) (a0 : Pasture) (hp0 : CA w pa0 (cPasture.enc a0)) (a1 : Spot) (r : Arr 10 (Arr 10 Int)) (H : spec_l01Steps.f k a0 a1 = some r) :
 CV Tryz.prog 36 [.pointer (some pa0), .agg (cSpot.enc a1).toArray].toArray w fun v w' => v = .agg ((carr 10 (carr 10 (ci .i64))).enc r).toArray ∧ Ext w w' := by
 have hS := ((St.init w no).paramP pa0 (cPasture.enc a0) hp0)
 unfold spec_l01Steps.f at H
 refine CV.body Tryz.func36 Z Tryz.ntmps36 Z ?_
 refine CJ.seq (CJ.region ?_)
 refine OJ.ef Z Z Z (Ef.box hS Z Z (cSpot.enc a1) Z) ?_
 rintro _ w1 ⟨b1, rfl, hS⟩
 refine OJ.ef rfl rfl rfl (Ef.alloc hS oI rfl rfl ((carr 10 (carr 10 (ci .i64))).enc (Arr.mk' (Arr.mk' 0 : Arr 10 Int) : Arr 10 (Arr 10 Int))) (by kernel_rfl)) ?_
 rintro _ w1 ⟨b2, rfl, hS⟩
 refine OJ.nil (EJ.next ?_)
 refine CJ.seq (CJ.region ?_)
 refine OJ.st rfl rfl rfl (SR.buildA oU oI rfl rfl rfl rfl (zs := [.int .i64 0, .int .i64 0, .int .i64 0, .int .i64 0, .int .i64 0, .int .i64 0, .int .i64 0, .int .i64 0, .int .i64 0, .int .i64 0, .int .i64 0, .int .i64 0, .int .i64 0, .int .i64 0, .int .i64 0, .int .i64 0, .int .i64 0, .int .i64 0, .int .i64 0, .int .i64 0, .int .i64 0, .int .i64 0, .int .i64 0, .int .i64 0, .int .i64 0, .int .i64 0, .int .i64 0, .int .i64 0, .int .i64 0, .int .i64 0, .int .i64 0, .int .i64 0, .int .i64 0, .int .i64 0, .int .i64 0, .int .i64 0, .int .i64 0, .int .i64 0, .int .i64 0, .int .i64 0, .int .i64 0, .int .i64 0, .int .i64 0, .int .i64 0, .int .i64 0, .int .i64 0, .int .i64 0, .int .i64 0, .int .i64 0, .int .i64 0, .int .i64 0, .int .i64 0, .int .i64 0, .int .i64 0, .int .i64 0, .int .i64 0, .int .i64 0, .int .i64 0, .int .i64 0, .int .i64 0, .int .i64 0, .int .i64 0, .int .i64 0, .int .i64 0, .int .i64 0, .int .i64 0, .int .i64 0, .int .i64 0, .int .i64 0, .int .i64 0, .int .i64 0, .int .i64 0, .int .i64 0, .int .i64 0, .int .i64 0, .int .i64 0, .int .i64 0, .int .i64 0, .int .i64 0, .int .i64 0, .int .i64 0, .int .i64 0, .int .i64 0, .int .i64 0, .int .i64 0, .int .i64 0, .int .i64 0, .int .i64 0, .int .i64 0, .int .i64 0, .int .i64 0, .int .i64 0, .int .i64 0, .int .i64 0, .int .i64 0, .int .i64 0, .int .i64 0, .int .i64 0, .int .i64 0, .int .i64 0]) rfl rfl ((carr 10 (carr 10 (ci .i64))).enc (Arr.mk' (Arr.mk' 0 : Arr 10 Int) : Arr 10 (Arr 10 Int))) (by kernel_rfl)) ?_
 refine OJ.ef rfl rfl rfl (Ef.alloc hS oI rfl rfl ((carr 10 (carr 10 (ci .i64))).enc (Arr.mk' (Arr.mk' 0 : Arr 10 Int) : Arr 10 (Arr 10 Int))) (by kernel_rfl)) ?_
 rintro _ w1 ⟨b3, rfl, hS⟩
 refine OJ.es rfl rfl (Es.put oI hS (i := 2) rfl rfl rfl rfl rfl (vs := (carr 10 (carr 10 (ci .i64))).enc (Arr.mk' (Arr.mk' 0 : Arr 10 Int) : Arr 10 (Arr 10 Int))) rfl ((carr 10 (carr 10 (ci .i64))).len _) ((carr 10 (carr 10 (ci .i64))).one _) (Put.all (carr 10 (carr 10 (ci .i64))) (Arr.mk' (Arr.mk' 0 : Arr 10 Int) : Arr 10 (Arr 10 Int)) (Arr.mk' (Arr.mk' 0 : Arr 10 Int) : Arr 10 (Arr 10 Int))) (by (try simp only [add_lit, Nat.add_assoc, Nat.zero_add, Nat.add_zero]) <;> rfl)) ?_
 intro w1 hS
 refine OJ.nil (EJ.next ?_)
 refine CJ.seq ?_
 refine CJ.draw [] [0, 1, 2, 3, 4, 5, 6] mixed (by kernel_rfl) hS fun w1 hS => ?_
 refine DJ.st Z Z Z Z Z (SR.fieldAddr oU oI Z Z Z Z Z Z) ?_
 refine DJ.st Z Z Z Z Z (SR.load Z Z (fun w' hx => ld1 oU Z Z (CA.ext (CA.sub (hS.cells (i := 0) Z) 1) hx) Z)) ?_
 refine DJ.st Z Z Z Z Z (SR.fieldAddr oU oI Z Z Z Z Z Z) ?_
 refine DJ.st Z Z Z Z Z (SR.load Z Z (fun w' hx => ld1 oU Z Z (CA.ext (CA.sub (hS.cells (i := 0) Z) 0) hx) Z)) ?_
 obtain ⟨t4, ht4, H⟩ := pbind H
 refine DJ.st Z Z Z Z Z (SR.idxA oU oI Z Z Z Z Z (Arr.lt ht4)) ?_
 obtain ⟨t5, ht5, H⟩ := pbind H
 refine DJ.st Z Z Z Z Z (SR.idxA oU oI Z Z Z Z Z (Arr.lt ht5)) ?_
 refine DJ.es rfl rfl rfl rfl (Es.put oI hS (i := 2) rfl rfl rfl rfl rfl (vs := (ci .i64).enc 1) rfl rfl (one1 rfl) (Put.idx (Put.idx (Put.all (ci .i64) t5 1) ht5) ht4) (by (try simp only [add_lit, Nat.add_assoc, Nat.zero_add, Nat.add_zero]) <;> rfl)) ?_
 intro w1 hS
 refine DJ.nil (EJ.next ?_)
 refine CJ.seq (CJ.region ?_)
 refine OJ.st Z Z Z (SR.load Z Z (fun w' hx => ldE oU oI Z Z Z (CA.ext (hS.cells (i := 0) Z) hx) Z)) ?_
 refine OJ.ef Z Z Z (Ef.lit oU oI hS (C := cSpot) Z Z Z Z Z Z ([a1] : List Spot) Z Z Z Z) ?_
 rintro _ w1 ⟨A6, rfl, hS⟩
 refine OJ.pures oU 1 Z (OJ.nil (EJ.next ?_))
 refine CJ.seq ?_
 refine CJ.seq (CJ.region ?_)
 refine OJ.pures oU 1 Z (OJ.nil (EJ.next ?_))
 obtain ⟨j86, H, K86⟩ := pbind H
 refine CJ.cut1 (fun F w1 => ∃ (y7 : Arr 10 (Arr 10 Int)) , (some y7 : Option (Arr 10 (Arr 10 Int))) = some j86 ∧ F = [(4, .pointer (some ⟨b2, 0, none⟩)), (5, .pointer (some ⟨b3, 0, none⟩))] ∧ St w no w1 [box b2 ((carr 10 (carr 10 (ci .i64))).enc (Arr.mk' (Arr.mk' 0 : Arr 10 Int) : Arr 10 (Arr 10 Int))) 59, box b3 ((carr 10 (carr 10 (ci .i64))).enc y7) 59] [roP pa0 (cPasture.enc a0)]) ?_ ?_
 ·skip
  refine CJ.block ?_
  refine CJ.loop (fun k F w1 => ∃ (y8 : Arr 10 (Arr 10 Int)) (y9 : List Spot) (y12 : Int) (A10 : Option Addr) (c11 : Nat), F = [(0, .pointer (some pa0)), (4, .pointer (some ⟨b2, 0, none⟩)), (5, .pointer (some ⟨b3, 0, none⟩)), (6, .slice A10 y9.length c11), (7, .int .i64 y12)] ∧ St w no w1 [box b2 ((carr 10 (carr 10 (ci .i64))).enc (Arr.mk' (Arr.mk' 0 : Arr 10 Int) : Arr 10 (Arr 10 Int))) 59, box b3 ((carr 10 (carr 10 (ci .i64))).enc y8) 59, rowC cSpot A10 c11 45 y9] [roP pa0 (cPasture.enc a0)] ∧ spec_l01Steps.l1 a0 k y8 y9 y12 = some j86) k (F' := [(0, .pointer (some pa0)), (4, .pointer (some ⟨b2, 0, none⟩)), (5, .pointer (some ⟨b3, 0, none⟩)), (6, .slice A6 ([a1] : List Spot).length (([a1] : List Spot).length)), (7, .int .i64 0)]) ⟨Z, Z, Z, Z, Z, trivial⟩ ⟨(aset (Arr.mk' (Arr.mk' 0 : Arr 10 Int) : Arr 10 (Arr 10 Int)) a1.Y.toNat (aset t4 a1.X.toNat 1)), ([a1] : List Spot), 0, A6, (([a1] : List Spot).length), Z, hS.pick [1, 2, 3] [0] Z, H⟩ ?_
  rintro k F w1 ⟨y8, y9, y12, A10, c11, rfl, hS, H⟩
  cases k with
  | zero => rw [spec_l01Steps.l1] at H; cases H
  | succ k =>
    rw [spec_l01Steps.l1] at H
    refine CJ.seq ?_
    refine CJ.seq (CJ.region ?_)
    refine OJ.pures oU 4 Z (OJ.nil (EJ.next ?_))
    refine CJ.cond Z (fun hb => ?_) (fun hb => ?_)
    · replace H := pif_t (of_decide_eq_true hb) H
      refine CJ.skip (EJ.next ?_)
      obtain ⟨j94, H, K94⟩ := pbind H
      refine CJ.cut (fun F w1 => ∃ (y13 : Arr 10 (Arr 10 Int)) (y14 : List Spot) (A15 : Option Addr) (c16 : Nat), (some (y13, y14) : Option ((Arr 10 (Arr 10 Int)) × (List Spot))) = some j94 ∧ F = [(0, .pointer (some pa0)), (4, .pointer (some ⟨b2, 0, none⟩)), (5, .pointer (some ⟨b3, 0, none⟩)), (6, .slice A15 y14.length c16), (7, .int .i64 y12)] ∧ St w no w1 [box b2 ((carr 10 (carr 10 (ci .i64))).enc (Arr.mk' (Arr.mk' 0 : Arr 10 Int) : Arr 10 (Arr 10 Int))) 59, box b3 ((carr 10 (carr 10 (ci .i64))).enc y13) 59, rowC cSpot A15 c16 45 y14] [roP pa0 (cPasture.enc a0)]) ?_ ?_
      · skip
        refine CJ.block ?_
        refine CJ.seq (CJ.region ?_)
        refine OJ.pures oU 2 Z ?_
        obtain ⟨t17, ht17, H⟩ := pbind H
        obtain ⟨ad17, e17⟩ := (hS.rd (i := 2) rfl).some' ht17
        refine OJ.st Z Z Z (SR.idxS oU oI Z Z Z Z e17 Z (getI_some ht17).1) ?_
        refine OJ.st Z Z Z (SR.load Z Z (fun w' hx => ldE oU oI Z Z Z (CA.ext ((hS.rd (i := 2) Z).at_ e17 ht17) hx) Z)) ?_
        refine OJ.ef Z Z Z (Ef.alloc hS oI Z Z (cSpot.enc (⟨0, 0⟩ : Spot)) Z) ?_
        rintro _ w1 ⟨b18, rfl, hS⟩
        refine OJ.es Z Z (Es.store oI hS (i := 3) Z Z Z Z Z Z (vs := cSpot.enc t17) Z (cSpot.len _) (cSpot.one _) (Nat.le_of_ble_eq_true Z) (cSpot.enc t17) Z) ?_
        intro w1 hS
        refine OJ.nil (EJ.next ?_)
        refine CJ.seq (CJ.region ?_)
        refine OJ.pures oU 1 Z ?_
        refine OJ.st Z Z Z (SR.load Z Z (fun w' hx => ldE oU oI Z Z Z (CA.ext (hS.cells (i := 3) Z) hx) Z)) ?_
        obtain ⟨t19, ht19, H⟩ := pbind H
        refine OJ.callF Z Z Z Z Z hb71 Z (spec_l01Beside.c k _ _ a0 (hS.ca (i := 0) Z) t17 _ ht19) ?_
        rintro _ w1 ⟨A20, c21, rfl, hs⟩
        replace hS := hS.addN hs
        refine OJ.pures oU 1 Z (OJ.nil (EJ.next ?_))
        refine CJ.seq (CJ.region ?_)
        refine OJ.pures oU 1 Z (OJ.nil (EJ.next ?_))
        obtain ⟨j96, H, K96⟩ := pbind H
        refine CJ.cut1 (fun F w1 => ∃ (y22 : Arr 10 (Arr 10 Int)) (y23 : List Spot) (A24 : Option Addr) (c25 : Nat), (some (y22, y23) : Option ((Arr 10 (Arr 10 Int)) × (List Spot))) = some j96 ∧ F = [(0, .pointer (some pa0)), (4, .pointer (some ⟨b2, 0, none⟩)), (5, .pointer (some ⟨b3, 0, none⟩)), (6, .slice A24 y23.length c25), (7, .int .i64 y12)] ∧ St w no w1 [box b2 ((carr 10 (carr 10 (ci .i64))).enc (Arr.mk' (Arr.mk' 0 : Arr 10 Int) : Arr 10 (Arr 10 Int))) 59, box b3 ((carr 10 (carr 10 (ci .i64))).enc y22) 59, rowC cSpot A24 c25 45 y23] [roP pa0 (cPasture.enc a0)]) ?_ ?_
        · skip
          refine CJ.block ?_
          refine CJ.loop (fun k F w1 => ∃ (y26 : Arr 10 (Arr 10 Int)) (y27 : List Spot) (y30 : Int) (A28 : Option Addr) (c29 : Nat), F = [(0, .pointer (some pa0)), (4, .pointer (some ⟨b2, 0, none⟩)), (5, .pointer (some ⟨b3, 0, none⟩)), (6, .slice A28 y27.length c29), (7, .int .i64 y12), (8, .pointer (some ⟨b18, 0, none⟩)), (9, .slice A20 t19.length c21), (10, .int .i64 y30)] ∧ St w no w1 [box b2 ((carr 10 (carr 10 (ci .i64))).enc (Arr.mk' (Arr.mk' 0 : Arr 10 Int) : Arr 10 (Arr 10 Int))) 59, box b3 ((carr 10 (carr 10 (ci .i64))).enc y26) 59, rowC cSpot A28 c29 45 y27, box b18 (cSpot.enc t17) 45, rowC cSpot A20 c21 45 t19] [roP pa0 (cPasture.enc a0)] ∧ spec_l01Steps.l2 t17 t19 k y26 y27 y30 = some j96) k (F' := [(0, .pointer (some pa0)), (4, .pointer (some ⟨b2, 0, none⟩)), (5, .pointer (some ⟨b3, 0, none⟩)), (6, .slice A10 y9.length c11), (7, .int .i64 y12), (8, .pointer (some ⟨b18, 0, none⟩)), (9, .slice A20 t19.length c21), (10, .int .i64 0)]) ⟨Z, Z, Z, Z, Z, Z, Z, Z, trivial⟩ ⟨y8, y9, 0, A10, c11, Z, hS.pick [0, 1, 2, 3, 4] [0] Z, H⟩ ?_
          rintro k F w1 ⟨y26, y27, y30, A28, c29, rfl, hS, H⟩
          cases k with
          | zero => rw [spec_l01Steps.l2] at H; cases H
          | succ k =>
            rw [spec_l01Steps.l2] at H
            refine CJ.seq ?_
            refine CJ.seq (CJ.region ?_)
            refine OJ.pures oU 4 Z (OJ.nil (EJ.next ?_))
            refine CJ.cond Z (fun hb => ?_) (fun hb => ?_)
            · replace H := pif_t (of_decide_eq_true hb) H
              refine CJ.skip (EJ.next ?_)
              refine CJ.seq ?_
              refine CJ.block ?_
              refine CJ.seq ?_
              refine CJ.draw [] [0, 1, 2, 3, 4, 5, 6, 7, 8, 9, 10, 11, 12, 13] mixed (by kernel_rfl) hS fun w1 hS => ?_
              refine DJ.pures oU 2 Z ?_
              obtain ⟨t31, ht31, H⟩ := pbind H
              obtain ⟨ad31, e31⟩ := (hS.rd (i := 4) rfl).some' ht31
              refine DJ.st Z Z Z Z Z (SR.idxS oU oI Z Z Z Z e31 Z (getI_some ht31).1) ?_
              refine DJ.st Z Z Z Z Z (SR.fieldAddr oU oI Z Z Z Z Z Z) ?_
              refine DJ.st Z Z Z Z Z (SR.load Z Z (fun w' hx => ld1 oU Z Z (CA.ext (CA.sub ((hS.rd (i := 4) Z).at_ e31 ht31) 1) hx) Z)) ?_
              refine DJ.pures oU 2 Z ?_
              obtain ⟨t32, ht32, H⟩ := pbind H
              obtain ⟨ad32, e32⟩ := (hS.rd (i := 4) rfl).some' ht32
              refine DJ.st Z Z Z Z Z (SR.idxS oU oI Z Z Z Z e32 Z (getI_some ht32).1) ?_
              refine DJ.st Z Z Z Z Z (SR.fieldAddr oU oI Z Z Z Z Z Z) ?_
              refine DJ.st Z Z Z Z Z (SR.load Z Z (fun w' hx => ld1 oU Z Z (CA.ext (CA.sub ((hS.rd (i := 4) Z).at_ e32 ht32) 0) hx) Z)) ?_
              obtain ⟨t33, ht33, H⟩ := pbind H
              refine DJ.st Z Z Z Z Z (SR.idxA oU oI Z Z Z Z Z (Arr.lt ht33)) ?_
              obtain ⟨t34, ht34, H⟩ := pbind H
              refine DJ.st Z Z Z Z Z (SR.idxA oU oI Z Z Z Z Z (Arr.lt ht34)) ?_
              refine DJ.st Z Z Z Z Z (SR.load Z Z (fun w' hx => ld1 oU Z Z (CA.ext (CA.idx (CA.idx (hS.cells (i := 1) Z) ht33) ht34) hx) Z)) ?_
              refine DJ.pures oU 1 Z ?_
              refine DJ.nil (EJ.next ?_)
              refine CJ.cond Z (fun hb => ?_) (fun hb => ?_)
              · replace H := pif_t (of_decide_eq_true hb) H
                refine CJ.seq ?_
                refine CJ.draw [] [0, 1, 2, 3, 4, 5, 6, 7, 8, 9, 10, 11, 12, 13, 14, 15, 16, 17, 18, 19, 20] mixed (by kernel_rfl) hS fun w1 hS => ?_
                refine DJ.pures oU 2 Z ?_
                obtain ⟨t35, ht35, H⟩ := pbind H
                obtain ⟨ad35, e35⟩ := (hS.rd (i := 4) rfl).some' ht35
                refine DJ.st Z Z Z Z Z (SR.idxS oU oI Z Z Z Z e35 Z (getI_some ht35).1) ?_
                refine DJ.st Z Z Z Z Z (SR.fieldAddr oU oI Z Z Z Z Z Z) ?_
                refine DJ.st Z Z Z Z Z (SR.load Z Z (fun w' hx => ld1 oU Z Z (CA.ext (CA.sub ((hS.rd (i := 4) Z).at_ e35 ht35) 1) hx) Z)) ?_
                refine DJ.pures oU 2 Z ?_
                obtain ⟨t36, ht36, H⟩ := pbind H
                obtain ⟨ad36, e36⟩ := (hS.rd (i := 4) rfl).some' ht36
                refine DJ.st Z Z Z Z Z (SR.idxS oU oI Z Z Z Z e36 Z (getI_some ht36).1) ?_
                refine DJ.st Z Z Z Z Z (SR.fieldAddr oU oI Z Z Z Z Z Z) ?_
                refine DJ.st Z Z Z Z Z (SR.load Z Z (fun w' hx => ld1 oU Z Z (CA.ext (CA.sub ((hS.rd (i := 4) Z).at_ e36 ht36) 0) hx) Z)) ?_
                refine DJ.st Z Z Z Z Z (SR.fieldAddr oU oI Z Z Z Z Z Z) ?_
                refine DJ.st Z Z Z Z Z (SR.load Z Z (fun w' hx => ld1 oU Z Z (CA.ext (CA.sub (hS.cells (i := 3) Z) 1) hx) Z)) ?_
                refine DJ.st Z Z Z Z Z (SR.fieldAddr oU oI Z Z Z Z Z Z) ?_
                refine DJ.st Z Z Z Z Z (SR.load Z Z (fun w' hx => ld1 oU Z Z (CA.ext (CA.sub (hS.cells (i := 3) Z) 0) hx) Z)) ?_
                obtain ⟨t37, ht37, H⟩ := pbind H
                refine DJ.st Z Z Z Z Z (SR.idxA oU oI Z Z Z Z Z (Arr.lt ht37)) ?_
                obtain ⟨t38, ht38, H⟩ := pbind H
                refine DJ.st Z Z Z Z Z (SR.idxA oU oI Z Z Z Z Z (Arr.lt ht38)) ?_
                refine DJ.st Z Z Z Z Z (SR.load Z Z (fun w' hx => ld1 oU Z Z (CA.ext (CA.idx (CA.idx (hS.cells (i := 1) Z) ht37) ht38) hx) Z)) ?_
                refine DJ.pures oU 1 Z ?_
                obtain ⟨t39, ht39, H⟩ := pbind H
                refine DJ.st Z Z Z Z Z (SR.idxA oU oI Z Z Z Z Z (Arr.lt ht39)) ?_
                obtain ⟨t40, ht40, H⟩ := pbind H
                refine DJ.st Z Z Z Z Z (SR.idxA oU oI Z Z Z Z Z (Arr.lt ht40)) ?_
                refine DJ.es rfl rfl rfl rfl (Es.put oI hS (i := 1) rfl rfl rfl rfl rfl (vs := (ci .i64).enc (IntKind.i64.wrap (t38 + 1))) rfl rfl (one1 rfl) (Put.idx (Put.idx (Put.all (ci .i64) t40 (IntKind.i64.wrap (t38 + 1))) ht40) ht39) (by (try simp only [add_lit, Nat.add_assoc, Nat.zero_add, Nat.add_zero]) <;> rfl)) ?_
                intro w1 hS
                refine DJ.nil (EJ.next ?_)
                refine CJ.region ?_
                refine OJ.pures oU 3 Z ?_
                obtain ⟨t41, ht41, H⟩ := pbind H
                obtain ⟨ad41, e41⟩ := (hS.rd (i := 4) rfl).some' ht41
                refine OJ.st Z Z Z (SR.idxS oU oI Z Z Z Z e41 Z (getI_some ht41).1) ?_
                refine OJ.st Z Z Z (SR.load Z Z (fun w' hx => ldE oU oI Z Z Z (CA.ext ((hS.rd (i := 4) Z).at_ e41 ht41) hx) Z)) ?_
                refine OJ.ef Z Z Z (Ef.lit oU oI hS (C := cSpot) Z Z Z Z Z Z ([t41] : List Spot) Z Z Z Z) ?_
                rintro _ w1 ⟨A42, rfl, hS⟩
                obtain ⟨u43, hu43, H⟩ := pbind H
                refine OJ.ew Z Z Z (Ew.append oU oI (C := cSpot) (xs := y27) (ys := ([t41] : List Spot)) hS (i := 2) Z Z Z Z Z Z Z Z Z Z Z Z Z (hS.rd (i := 5) Z) (chk_some hu43)) ?_
                rintro _ w1 ⟨A44, c45, rfl, hS⟩
                refine OJ.pures oU 1 Z ?_
                refine OJ.nil (EJ.blk (EJ.next ?_))
                refine CJ.region ?_
                refine OJ.pures oU 3 Z ?_
                refine OJ.nil ?_
                exact EJ.round k (F' := [(0, .pointer (some pa0)), (4, .pointer (some ⟨b2, 0, none⟩)), (5, .pointer (some ⟨b3, 0, none⟩)), (6, .slice A44 (y27 ++ ([t41] : List Spot)).length c45), (7, .int .i64 y12), (8, .pointer (some ⟨b18, 0, none⟩)), (9, .slice A20 t19.length c21), (10, .int .i64 (IntKind.i64.wrap (y30 + 1)))]) ⟨Z, Z, Z, Z, Z, Z, Z, Z, trivial⟩ (Nat.lt_succ_self _) ⟨(aset y26 t35.Y.toNat (aset t39 t36.X.toNat (IntKind.i64.wrap (t38 + 1)))), (y27 ++ ([t41] : List Spot)), (IntKind.i64.wrap (y30 + 1)), A44, c45, Z, hS.pick [0, 1, 2, 3, 4] [0] Z, H⟩
              · replace H := pif_f (of_decide_eq_false hb) H
                refine CJ.skip (EJ.blk (EJ.next ?_))
                refine CJ.region ?_
                refine OJ.pures oU 3 Z ?_
                refine OJ.nil ?_
                exact EJ.round k (F' := [(0, .pointer (some pa0)), (4, .pointer (some ⟨b2, 0, none⟩)), (5, .pointer (some ⟨b3, 0, none⟩)), (6, .slice A28 y27.length c29), (7, .int .i64 y12), (8, .pointer (some ⟨b18, 0, none⟩)), (9, .slice A20 t19.length c21), (10, .int .i64 (IntKind.i64.wrap (y30 + 1)))]) ⟨Z, Z, Z, Z, Z, Z, Z, Z, trivial⟩ (Nat.lt_succ_self _) ⟨y26, y27, (IntKind.i64.wrap (y30 + 1)), A28, c29, Z, hS.pick [0, 1, 2, 3, 4] [0] Z, H⟩
            · replace H := pif_f (of_decide_eq_false hb) H
              refine CJ.exit (EJ.skE (EJ.skE (EJ.hit (?_))))
              exact EJ.meet (F' := [(0, .pointer (some pa0)), (4, .pointer (some ⟨b2, 0, none⟩)), (5, .pointer (some ⟨b3, 0, none⟩)), (6, .slice A28 y27.length c29), (7, .int .i64 y12)]) ⟨Z, Z, Z, Z, Z, trivial⟩ ⟨y26, y27, A28, c29, H, Z, hS.pick [0, 1, 2] [0] Z⟩
        · rintro F w1 ⟨y22, y23, A24, c25, he, rfl, hS⟩
          obtain rfl := Option.some.inj he
          have H := K96
          refine EJ.blk (?_)
          exact EJ.meet (F' := [(0, .pointer (some pa0)), (4, .pointer (some ⟨b2, 0, none⟩)), (5, .pointer (some ⟨b3, 0, none⟩)), (6, .slice A24 y23.length c25), (7, .int .i64 y12)]) ⟨Z, Z, Z, Z, Z, trivial⟩ ⟨y22, y23, A24, c25, H, Z, hS.pick [0, 1, 2] [0] Z⟩
      · rintro F w1 ⟨y13, y14, A15, c16, he, rfl, hS⟩
        obtain rfl := Option.some.inj he
        have H := K94
        refine CJ.region ?_
        refine OJ.pures oU 3 Z ?_
        refine OJ.nil ?_
        exact EJ.round k (F' := [(0, .pointer (some pa0)), (4, .pointer (some ⟨b2, 0, none⟩)), (5, .pointer (some ⟨b3, 0, none⟩)), (6, .slice A15 y14.length c16), (7, .int .i64 (IntKind.i64.wrap (y12 + 1)))]) ⟨Z, Z, Z, Z, Z, trivial⟩ (Nat.lt_succ_self _) ⟨y13, y14, (IntKind.i64.wrap (y12 + 1)), A15, c16, Z, hS.pick [0, 1, 2] [0] Z, H⟩
    · replace H := pif_f (of_decide_eq_false hb) H
      refine CJ.exit (EJ.skE (EJ.skE (EJ.hit (?_))))
      exact EJ.meet (F' := [(4, .pointer (some ⟨b2, 0, none⟩)), (5, .pointer (some ⟨b3, 0, none⟩))]) ⟨Z, Z, trivial⟩ ⟨y8, H, Z, hS.pick [0, 1] [0] Z⟩
 rintro F w1 ⟨y7, he, rfl, hS⟩
 obtain rfl := Option.some.inj he
 have H := K86
 refine EJ.next ?_
 refine CJ.seq (CJ.region ?_)
 refine OJ.st Z Z Z (SR.load Z Z (fun w' hx => ldE oU oI Z Z Z (CA.ext (hS.cells (i := 1) Z) hx) Z)) ?_
 refine OJ.es rfl rfl (Es.put oI hS (i := 0) rfl rfl rfl rfl rfl (vs := (carr 10 (carr 10 (ci .i64))).enc y7) rfl ((carr 10 (carr 10 (ci .i64))).len _) ((carr 10 (carr 10 (ci .i64))).one _) (Put.all (carr 10 (carr 10 (ci .i64))) (Arr.mk' (Arr.mk' 0 : Arr 10 Int) : Arr 10 (Arr 10 Int)) y7) (by (try simp only [add_lit, Nat.add_assoc, Nat.zero_add, Nat.add_zero]) <;> rfl)) ?_
 intro w1 hS
 refine OJ.nil (EJ.next ?_)
 refine CJ.ret (?_)
 obtain rfl := Option.some.inj H
 exact EJ.fin Z (.cell Z (ldE oU oI Z Z Z (hS.cells (i := 0) Z) Z) .nil) ⟨Z, hS.ext⟩

def spec_l01Yard.l2 (a0 : Pasture) (t2 : Arr 10 (Arr 10 Int)) (y11 : Int) : Nat → (List Spot) → Int → Option (List Spot)
  | 0, _, _ => none
  | k + 1, y18, y21 => if y21 < a0.Wide then ((getI t2.l y11).bind fun t22 => (getI t22.l y21).bind fun t23 => if 0 < t23 then ((chk (y18.length + ([(⟨y21, y11⟩ : Spot)] : List Spot).length ≤ 4294967296)).bind fun u25 => spec_l01Yard.l2 a0 t2 y11 k (y18 ++ ([(⟨y21, y11⟩ : Spot)] : List Spot)) (IntKind.i8.wrap (y21 + 1))) else (spec_l01Yard.l2 a0 t2 y11 k y18 (IntKind.i8.wrap (y21 + 1)))) else (some y18)
def spec_l01Yard.l1 (a0 : Pasture) (t2 : Arr 10 (Arr 10 Int)) : Nat → (List Spot) → Int → Option (List Spot)
  | 0, _, _ => none
  | k + 1, y8, y11 => if y11 < a0.High then (((spec_l01Yard.l2 a0 t2 y11 k y8 0).bind fun y15 => some y15).bind fun y12 => spec_l01Yard.l1 a0 t2 k y12 (IntKind.i8.wrap (y11 + 1))) else (some y8)
def spec_l01Yard.f (k : Nat) (a0 : Pasture) (a1 : Spot) : Option (List Spot) := (spec_l01Steps.f k a0 a1).bind fun t2 => (spec_l01Yard.l1 a0 t2 k ([] : List Spot) 0).bind fun y5 => some y5
theorem spec_l01Yard.c (k : Nat) (w : World) (pa0 : Addr) (a0 : Pasture) (hp0 : CA w pa0 (cPasture.enc a0)) (a1 : Spot) (r : List Spot) (H : spec_l01Yard.f k a0 a1 = some r) :
 CV Tryz.prog 60 [.pointer (some pa0), .agg (cSpot.enc a1).toArray].toArray w fun v w' => ∃ (A0 : Option Addr) (c0 : Nat), v = .slice A0 r.length c0 ∧ St w no w' [rowC cSpot A0 c0 45 r] [] := by
 have hS := ((St.init w no).paramP pa0 (cPasture.enc a0) hp0)
 unfold spec_l01Yard.f at H
 refine CV.body Tryz.func60 Z Tryz.ntmps60 Z ?_
 refine CJ.seq (CJ.region ?_)
 refine OJ.ef Z Z Z (Ef.box hS Z Z (cSpot.enc a1) Z) ?_
 rintro _ w1 ⟨b1, rfl, hS⟩
 refine OJ.pures oU 1 Z (OJ.nil (EJ.next ?_))
 refine CJ.seq (CJ.region ?_)
 refine OJ.pures oU 1 Z ?_
 refine OJ.st Z Z Z (SR.load Z Z (fun w' hx => ldE oU oI Z Z Z (CA.ext (hS.cells (i := 0) Z) hx) Z)) ?_
 obtain ⟨t2, ht2, H⟩ := pbind H
 refine OJ.callF Z Z Z Z Z hb36 Z (spec_l01Steps.c k _ _ a0 (hS.ca (i := 0) Z) a1 _ ht2) ?_
 rintro _ w1 ⟨rfl, hs⟩
 replace hS := hS.grow hs
 refine OJ.ef rfl rfl rfl (Ef.alloc hS oI rfl rfl ((carr 10 (carr 10 (ci .i64))).enc (Arr.mk' (Arr.mk' 0 : Arr 10 Int) : Arr 10 (Arr 10 Int))) (by kernel_rfl)) ?_
 rintro _ w1 ⟨b3, rfl, hS⟩
 refine OJ.es rfl rfl (Es.put oI hS (i := 1) rfl rfl rfl rfl rfl (vs := (carr 10 (carr 10 (ci .i64))).enc t2) rfl ((carr 10 (carr 10 (ci .i64))).len _) ((carr 10 (carr 10 (ci .i64))).one _) (Put.all (carr 10 (carr 10 (ci .i64))) (Arr.mk' (Arr.mk' 0 : Arr 10 Int) : Arr 10 (Arr 10 Int)) t2) (by (try simp only [add_lit, Nat.add_assoc, Nat.zero_add, Nat.add_zero]) <;> rfl)) ?_
 intro w1 hS
 refine OJ.nil (EJ.next ?_)
 refine CJ.seq (CJ.region ?_)
 refine OJ.ef Z Z Z (Ef.lit oU oI hS (C := cSpot) Z Z Z Z Z Z ([] : List Spot) Z Z Z Z) ?_
 rintro _ w1 ⟨A4, rfl, hS⟩
 refine OJ.pures oU 1 Z (OJ.nil (EJ.next ?_))
 refine CJ.seq ?_
 refine CJ.seq (CJ.region ?_)
 refine OJ.pures oU 1 Z (OJ.nil (EJ.next ?_))
 obtain ⟨j97, H, K97⟩ := pbind H
 refine CJ.cut1 (fun F w1 => ∃ (y5 : List Spot) (A6 : Option Addr) (c7 : Nat), (some y5 : Option (List Spot)) = some j97 ∧ F = [(6, .slice A6 y5.length c7)] ∧ St w no w1 [rowC cSpot A6 c7 45 y5] [roP pa0 (cPasture.enc a0)]) ?_ ?_
 ·skip
  refine CJ.block ?_
  refine CJ.loop (fun k F w1 => ∃ (y8 : List Spot) (y11 : Int) (A9 : Option Addr) (c10 : Nat), F = [(0, .pointer (some pa0)), (5, .pointer (some ⟨b3, 0, none⟩)), (6, .slice A9 y8.length c10), (7, .int .i8 y11)] ∧ St w no w1 [box b3 ((carr 10 (carr 10 (ci .i64))).enc t2) 59, rowC cSpot A9 c10 45 y8] [roP pa0 (cPasture.enc a0)] ∧ spec_l01Yard.l1 a0 t2 k y8 y11 = some j97) k (F' := [(0, .pointer (some pa0)), (5, .pointer (some ⟨b3, 0, none⟩)), (6, .slice A4 ([] : List Spot).length (([] : List Spot).length)), (7, .int .i8 0)]) ⟨Z, Z, Z, Z, trivial⟩ ⟨([] : List Spot), 0, A4, (([] : List Spot).length), Z, hS.pick [1, 2] [0] Z, H⟩ ?_
  rintro k F w1 ⟨y8, y11, A9, c10, rfl, hS, H⟩
  cases k with
  | zero => rw [spec_l01Yard.l1] at H; cases H
  | succ k =>
    rw [spec_l01Yard.l1] at H
    refine CJ.seq ?_
    refine CJ.seq (CJ.region ?_)
    refine OJ.pures oU 3 Z ?_
    refine OJ.st Z Z Z (SR.fieldAddr oU oI Z Z Z Z Z Z) ?_
    refine OJ.st Z Z Z (SR.load Z Z (fun w' hx => ld1 oU Z Z (CA.ext (CA.fld (hS.ca (i := 0) Z) (mid_part (fe_Pasture_1 _) (fl_Pasture_1 _) ((ci .i8).len _))) hx) Z)) ?_
    refine OJ.pures oU 1 Z (OJ.nil (EJ.next ?_))
    refine CJ.cond Z (fun hb => ?_) (fun hb => ?_)
    · replace H := pif_t (of_decide_eq_true hb) H
      refine CJ.skip (EJ.next ?_)
      obtain ⟨j104, H, K104⟩ := pbind H
      refine CJ.cut (fun F w1 => ∃ (y12 : List Spot) (A13 : Option Addr) (c14 : Nat), (some y12 : Option (List Spot)) = some j104 ∧ F = [(0, .pointer (some pa0)), (5, .pointer (some ⟨b3, 0, none⟩)), (6, .slice A13 y12.length c14), (7, .int .i8 y11)] ∧ St w no w1 [box b3 ((carr 10 (carr 10 (ci .i64))).enc t2) 59, rowC cSpot A13 c14 45 y12] [roP pa0 (cPasture.enc a0)]) ?_ ?_
      · skip
        refine CJ.block ?_
        refine CJ.seq (CJ.region ?_)
        refine OJ.pures oU 1 Z (OJ.nil (EJ.next ?_))
        obtain ⟨j106, H, K106⟩ := pbind H
        refine CJ.cut1 (fun F w1 => ∃ (y15 : List Spot) (A16 : Option Addr) (c17 : Nat), (some y15 : Option (List Spot)) = some j106 ∧ F = [(0, .pointer (some pa0)), (5, .pointer (some ⟨b3, 0, none⟩)), (6, .slice A16 y15.length c17), (7, .int .i8 y11)] ∧ St w no w1 [box b3 ((carr 10 (carr 10 (ci .i64))).enc t2) 59, rowC cSpot A16 c17 45 y15] [roP pa0 (cPasture.enc a0)]) ?_ ?_
        · skip
          refine CJ.block ?_
          refine CJ.loop (fun k F w1 => ∃ (y18 : List Spot) (y21 : Int) (A19 : Option Addr) (c20 : Nat), F = [(0, .pointer (some pa0)), (5, .pointer (some ⟨b3, 0, none⟩)), (6, .slice A19 y18.length c20), (7, .int .i8 y11), (8, .int .i8 y21)] ∧ St w no w1 [box b3 ((carr 10 (carr 10 (ci .i64))).enc t2) 59, rowC cSpot A19 c20 45 y18] [roP pa0 (cPasture.enc a0)] ∧ spec_l01Yard.l2 a0 t2 y11 k y18 y21 = some j106) k (F' := [(0, .pointer (some pa0)), (5, .pointer (some ⟨b3, 0, none⟩)), (6, .slice A9 y8.length c10), (7, .int .i8 y11), (8, .int .i8 0)]) ⟨Z, Z, Z, Z, Z, trivial⟩ ⟨y8, 0, A9, c10, Z, hS.pick [0, 1] [0] Z, H⟩ ?_
          rintro k F w1 ⟨y18, y21, A19, c20, rfl, hS, H⟩
          cases k with
          | zero => rw [spec_l01Yard.l2] at H; cases H
          | succ k =>
            rw [spec_l01Yard.l2] at H
            refine CJ.seq ?_
            refine CJ.seq (CJ.region ?_)
            refine OJ.pures oU 3 Z ?_
            refine OJ.st Z Z Z (SR.fieldAddr oU oI Z Z Z Z Z Z) ?_
            refine OJ.st Z Z Z (SR.load Z Z (fun w' hx => ld1 oU Z Z (CA.ext (CA.fld (hS.ca (i := 0) Z) (mid_part (fe_Pasture_0 _) (fl_Pasture_0 _) ((ci .i8).len _))) hx) Z)) ?_
            refine OJ.pures oU 1 Z (OJ.nil (EJ.next ?_))
            refine CJ.cond Z (fun hb => ?_) (fun hb => ?_)
            · replace H := pif_t (of_decide_eq_true hb) H
              refine CJ.skip (EJ.next ?_)
              refine CJ.seq ?_
              refine CJ.block ?_
              refine CJ.seq (CJ.region ?_)
              refine OJ.pures oU 2 Z ?_
              obtain ⟨t22, ht22, H⟩ := pbind H
              refine OJ.st Z Z Z (SR.idxA oU oI Z Z Z Z Z (Arr.lt ht22)) ?_
              obtain ⟨t23, ht23, H⟩ := pbind H
              refine OJ.st Z Z Z (SR.idxA oU oI Z Z Z Z Z (Arr.lt ht23)) ?_
              refine OJ.st Z Z Z (SR.load Z Z (fun w' hx => ld1 oU Z Z (CA.ext (CA.idx (CA.idx (hS.cells (i := 0) Z) ht22) ht23) hx) Z)) ?_
              refine OJ.pures oU 1 Z (OJ.nil (EJ.next ?_))
              refine CJ.cond Z (fun hb => ?_) (fun hb => ?_)
              · replace H := pif_t (of_decide_eq_true hb) H
                refine CJ.region ?_
                refine OJ.pures oU 3 Z ?_
                refine OJ.st Z Z Z (SR.build (C := cSpot) oU oI Z Z Z (zs := [.int .i8 0, .int .i8 0]) Z Z Z (⟨y21, y11⟩ : Spot) Z) ?_
                refine OJ.ef Z Z Z (Ef.lit oU oI hS (C := cSpot) Z Z Z Z Z Z ([(⟨y21, y11⟩ : Spot)] : List Spot) Z Z Z Z) ?_
                rintro _ w1 ⟨A24, rfl, hS⟩
                obtain ⟨u25, hu25, H⟩ := pbind H
                refine OJ.ew Z Z Z (Ew.append oU oI (C := cSpot) (xs := y18) (ys := ([(⟨y21, y11⟩ : Spot)] : List Spot)) hS (i := 1) Z Z Z Z Z Z Z Z Z Z Z Z Z (hS.rd (i := 2) Z) (chk_some hu25)) ?_
                rintro _ w1 ⟨A26, c27, rfl, hS⟩
                refine OJ.pures oU 1 Z ?_
                refine OJ.nil (EJ.blk (EJ.next ?_))
                refine CJ.region ?_
                refine OJ.pures oU 3 Z ?_
                refine OJ.nil ?_
                exact EJ.round k (F' := [(0, .pointer (some pa0)), (5, .pointer (some ⟨b3, 0, none⟩)), (6, .slice A26 (y18 ++ ([(⟨y21, y11⟩ : Spot)] : List Spot)).length c27), (7, .int .i8 y11), (8, .int .i8 (IntKind.i8.wrap (y21 + 1)))]) ⟨Z, Z, Z, Z, Z, trivial⟩ (Nat.lt_succ_self _) ⟨(y18 ++ ([(⟨y21, y11⟩ : Spot)] : List Spot)), (IntKind.i8.wrap (y21 + 1)), A26, c27, Z, hS.pick [0, 1] [0] Z, H⟩
              · replace H := pif_f (of_decide_eq_false hb) H
                refine CJ.skip (EJ.blk (EJ.next ?_))
                refine CJ.region ?_
                refine OJ.pures oU 3 Z ?_
                refine OJ.nil ?_
                exact EJ.round k (F' := [(0, .pointer (some pa0)), (5, .pointer (some ⟨b3, 0, none⟩)), (6, .slice A19 y18.length c20), (7, .int .i8 y11), (8, .int .i8 (IntKind.i8.wrap (y21 + 1)))]) ⟨Z, Z, Z, Z, Z, trivial⟩ (Nat.lt_succ_self _) ⟨y18, (IntKind.i8.wrap (y21 + 1)), A19, c20, Z, hS.pick [0, 1] [0] Z, H⟩
            · replace H := pif_f (of_decide_eq_false hb) H
              refine CJ.exit (EJ.skE (EJ.skE (EJ.hit (?_))))
              exact EJ.meet (F' := [(0, .pointer (some pa0)), (5, .pointer (some ⟨b3, 0, none⟩)), (6, .slice A19 y18.length c20), (7, .int .i8 y11)]) ⟨Z, Z, Z, Z, trivial⟩ ⟨y18, A19, c20, H, Z, hS.pick [0, 1] [0] Z⟩
        · rintro F w1 ⟨y15, A16, c17, he, rfl, hS⟩
          obtain rfl := Option.some.inj he
          have H := K106
          refine EJ.blk (?_)
          exact EJ.meet (F' := [(0, .pointer (some pa0)), (5, .pointer (some ⟨b3, 0, none⟩)), (6, .slice A16 y15.length c17), (7, .int .i8 y11)]) ⟨Z, Z, Z, Z, trivial⟩ ⟨y15, A16, c17, H, Z, hS.pick [0, 1] [0] Z⟩
      · rintro F w1 ⟨y12, A13, c14, he, rfl, hS⟩
        obtain rfl := Option.some.inj he
        have H := K104
        refine CJ.region ?_
        refine OJ.pures oU 3 Z ?_
        refine OJ.nil ?_
        exact EJ.round k (F' := [(0, .pointer (some pa0)), (5, .pointer (some ⟨b3, 0, none⟩)), (6, .slice A13 y12.length c14), (7, .int .i8 (IntKind.i8.wrap (y11 + 1)))]) ⟨Z, Z, Z, Z, trivial⟩ (Nat.lt_succ_self _) ⟨y12, (IntKind.i8.wrap (y11 + 1)), A13, c14, Z, hS.pick [0, 1] [0] Z, H⟩
    · replace H := pif_f (of_decide_eq_false hb) H
      refine CJ.exit (EJ.skE (EJ.skE (EJ.hit (?_))))
      exact EJ.meet (F' := [(6, .slice A9 y8.length c10)]) ⟨Z, trivial⟩ ⟨y8, A9, c10, H, Z, hS.pick [1] [0] Z⟩
 rintro F w1 ⟨y5, A6, c7, he, rfl, hS⟩
 obtain rfl := Option.some.inj he
 have H := K97
 refine EJ.next ?_
 refine CJ.seq (CJ.region ?_)
 refine OJ.pures oU 2 Z (OJ.nil (EJ.next ?_))
 refine CJ.ret (?_)
 obtain rfl := Option.some.inj H
 exact EJ.fin Z (.tmp Z .nil) ⟨A6, c7, Z, hS.pick [0] [] Z⟩

def spec_l01Numbers.l3 (y26 : List (List Spot)) (t38 : List Spot) : Nat → (Arr 10 (Arr 10 Int)) → Int → Option (Arr 10 (Arr 10 Int))
  | 0, _, _ => none
  | k + 1, y47, y48 => if y48 < (t38.length : Int) then ((getI t38 y48).bind fun t49 => (getI t38 y48).bind fun t50 => (getI y47.l t49.Y).bind fun t51 => (getI t51.l t50.X).bind fun t52 => spec_l01Numbers.l3 y26 t38 k (aset y47 t49.Y.toNat (aset t51 t50.X.toNat ((y26 ++ [t38]).length : Int))) (IntKind.i64.wrap (y48 + 1))) else (some y47)
def spec_l01Numbers.l2 (a0 : Pasture) (y14 : Int) : Nat → (Arr 10 (Arr 10 Int)) → (List (List Spot)) → Int → Option ((Arr 10 (Arr 10 Int)) × (List (List Spot)))
  | 0, _, _, _ => none
  | k + 1, y25, y26, y30 => if y30 < a0.Wide then (((getI y25.l y14).bind fun t36 => (getI t36.l y30).bind fun t37 => if 0 < t37 then (some (y25, y26)) else ((spec_l01Yard.f k a0 (⟨y30, y14⟩ : Spot)).bind fun t38 => (chk (y26.length + [t38].length ≤ 4294967296)).bind fun u42 => (spec_l01Numbers.l3 y26 t38 k y25 0).bind fun y46 => some (y46, y26 ++ [t38]))).bind fun (y31, y32) => spec_l01Numbers.l2 a0 y14 k y31 y32 (IntKind.i8.wrap (y30 + 1))) else (some (y25, y26))
def spec_l01Numbers.l1 (a0 : Pasture) : Nat → (Arr 10 (Arr 10 Int)) → (List (List Spot)) → Int → Option ((Arr 10 (Arr 10 Int)) × (List (List Spot)))
  | 0, _, _, _ => none
  | k + 1, y9, y10, y14 => if y14 < a0.High then (((spec_l01Numbers.l2 a0 y14 k y9 y10 0).bind fun (y20, y21) => some (y20, y21)).bind fun (y15, y16) => spec_l01Numbers.l1 a0 k y15 y16 (IntKind.i8.wrap (y14 + 1))) else (some (y9, y10))
def spec_l01Numbers.f (k : Nat) (a0 : Pasture) : Option (Arr 10 (Arr 10 Int) × List (List Spot)) := (spec_l01Numbers.l1 a0 k (Arr.mk' (Arr.mk' 0 : Arr 10 Int) : Arr 10 (Arr 10 Int)) ([] : List (List Spot)) 0).bind fun (y4, y5) => some (y4, y5)
theorem spec_l01Numbers.c (k : Nat) (w : World) (pa0 : Addr) (a0 : Pasture) (hp0 : CA w pa0 (cPasture.enc a0)) (r : Arr 10 (Arr 10 Int) × List (List Spot)) (H : spec_l01Numbers.f k a0 = some r) :
 CV Tryz.prog 28 [.pointer (some pa0)].toArray w fun v w' => ∃ (A1 : Option Addr) (c1 : Nat) (D1 : List SH), v = .tuple #[.agg ((carr 10 (carr 10 (ci .i64))).enc r.1).toArray, .slice A1 r.2.length c1] ∧ St w no w' [rowsC cSpot A1 c1 85 45 D1 r.2] [] := by
 have hS := ((St.init w no).paramP pa0 (cPasture.enc a0) hp0)
 unfold spec_l01Numbers.f at H
 refine CV.body Tryz.func28 Z Tryz.ntmps28 Z ?_
 refine CJ.seq (CJ.region ?_)
 refine OJ.ef rfl rfl rfl (Ef.alloc hS oI rfl rfl ((carr 10 (carr 10 (ci .i64))).enc (Arr.mk' (Arr.mk' 0 : Arr 10 Int) : Arr 10 (Arr 10 Int))) (by kernel_rfl)) ?_
 rintro _ w1 ⟨b1, rfl, hS⟩
 refine OJ.pures oU 1 Z (OJ.nil (EJ.next ?_))
 refine CJ.seq (CJ.region ?_)
 refine OJ.st rfl rfl rfl (SR.buildA oU oI rfl rfl rfl rfl (zs := [.int .i64 0, .int .i64 0, .int .i64 0, .int .i64 0, .int .i64 0, .int .i64 0, .int .i64 0, .int .i64 0, .int .i64 0, .int .i64 0, .int .i64 0, .int .i64 0, .int .i64 0, .int .i64 0, .int .i64 0, .int .i64 0, .int .i64 0, .int .i64 0, .int .i64 0, .int .i64 0, .int .i64 0, .int .i64 0, .int .i64 0, .int .i64 0, .int .i64 0, .int .i64 0, .int .i64 0, .int .i64 0, .int .i64 0, .int .i64 0, .int .i64 0, .int .i64 0, .int .i64 0, .int .i64 0, .int .i64 0, .int .i64 0, .int .i64 0, .int .i64 0, .int .i64 0, .int .i64 0, .int .i64 0, .int .i64 0, .int .i64 0, .int .i64 0, .int .i64 0, .int .i64 0, .int .i64 0, .int .i64 0, .int .i64 0, .int .i64 0, .int .i64 0, .int .i64 0, .int .i64 0, .int .i64 0, .int .i64 0, .int .i64 0, .int .i64 0, .int .i64 0, .int .i64 0, .int .i64 0, .int .i64 0, .int .i64 0, .int .i64 0, .int .i64 0, .int .i64 0, .int .i64 0, .int .i64 0, .int .i64 0, .int .i64 0, .int .i64 0, .int .i64 0, .int .i64 0, .int .i64 0, .int .i64 0, .int .i64 0, .int .i64 0, .int .i64 0, .int .i64 0, .int .i64 0, .int .i64 0, .int .i64 0, .int .i64 0, .int .i64 0, .int .i64 0, .int .i64 0, .int .i64 0, .int .i64 0, .int .i64 0, .int .i64 0, .int .i64 0, .int .i64 0, .int .i64 0, .int .i64 0, .int .i64 0, .int .i64 0, .int .i64 0, .int .i64 0, .int .i64 0, .int .i64 0, .int .i64 0]) rfl rfl ((carr 10 (carr 10 (ci .i64))).enc (Arr.mk' (Arr.mk' 0 : Arr 10 Int) : Arr 10 (Arr 10 Int))) (by kernel_rfl)) ?_
 refine OJ.ef rfl rfl rfl (Ef.alloc hS oI rfl rfl ((carr 10 (carr 10 (ci .i64))).enc (Arr.mk' (Arr.mk' 0 : Arr 10 Int) : Arr 10 (Arr 10 Int))) (by kernel_rfl)) ?_
 rintro _ w1 ⟨b2, rfl, hS⟩
 refine OJ.es rfl rfl (Es.put oI hS (i := 1) rfl rfl rfl rfl rfl (vs := (carr 10 (carr 10 (ci .i64))).enc (Arr.mk' (Arr.mk' 0 : Arr 10 Int) : Arr 10 (Arr 10 Int))) rfl ((carr 10 (carr 10 (ci .i64))).len _) ((carr 10 (carr 10 (ci .i64))).one _) (Put.all (carr 10 (carr 10 (ci .i64))) (Arr.mk' (Arr.mk' 0 : Arr 10 Int) : Arr 10 (Arr 10 Int)) (Arr.mk' (Arr.mk' 0 : Arr 10 Int) : Arr 10 (Arr 10 Int))) (by (try simp only [add_lit, Nat.add_assoc, Nat.zero_add, Nat.add_zero]) <;> rfl)) ?_
 intro w1 hS
 refine OJ.nil (EJ.next ?_)
 refine CJ.seq (CJ.region ?_)
 refine OJ.ef Z Z Z (Ef.litS0 (e := 45) oU oI hS Z Z Z Z cSpot) ?_
 rintro _ w1 ⟨A3, rfl, hS⟩
 refine OJ.pures oU 1 Z (OJ.nil (EJ.next ?_))
 refine CJ.seq ?_
 refine CJ.seq (CJ.region ?_)
 refine OJ.pures oU 1 Z (OJ.nil (EJ.next ?_))
 obtain ⟨j82, H, K82⟩ := pbind H
 refine CJ.cut1 (fun F w1 => ∃ (y4 : Arr 10 (Arr 10 Int)) (y5 : List (List Spot)) (A6 : Option Addr) (c7 : Nat) (D8 : List SH), (some (y4, y5) : Option ((Arr 10 (Arr 10 Int)) × (List (List Spot)))) = some j82 ∧ F = [(2, .pointer (some ⟨b1, 0, none⟩)), (4, .pointer (some ⟨b2, 0, none⟩)), (5, .slice A6 y5.length c7)] ∧ St w no w1 [box b1 ((carr 10 (carr 10 (ci .i64))).enc (Arr.mk' (Arr.mk' 0 : Arr 10 Int) : Arr 10 (Arr 10 Int))) 59, box b2 ((carr 10 (carr 10 (ci .i64))).enc y4) 59, rowsC cSpot A6 c7 85 45 D8 y5] [roP pa0 (cPasture.enc a0)]) ?_ ?_
 ·skip
  refine CJ.block ?_
  refine CJ.loop (fun k F w1 => ∃ (y9 : Arr 10 (Arr 10 Int)) (y10 : List (List Spot)) (y14 : Int) (A11 : Option Addr) (c12 : Nat) (D13 : List SH), F = [(0, .pointer (some pa0)), (2, .pointer (some ⟨b1, 0, none⟩)), (4, .pointer (some ⟨b2, 0, none⟩)), (5, .slice A11 y10.length c12), (6, .int .i8 y14)] ∧ St w no w1 [box b1 ((carr 10 (carr 10 (ci .i64))).enc (Arr.mk' (Arr.mk' 0 : Arr 10 Int) : Arr 10 (Arr 10 Int))) 59, box b2 ((carr 10 (carr 10 (ci .i64))).enc y9) 59, rowsC cSpot A11 c12 85 45 D13 y10] [roP pa0 (cPasture.enc a0)] ∧ spec_l01Numbers.l1 a0 k y9 y10 y14 = some j82) k (F' := [(0, .pointer (some pa0)), (2, .pointer (some ⟨b1, 0, none⟩)), (4, .pointer (some ⟨b2, 0, none⟩)), (5, .slice A3 ([] : List (List Spot)).length (([] : List (List Spot)).length)), (6, .int .i8 0)]) ⟨Z, Z, Z, Z, Z, trivial⟩ ⟨(Arr.mk' (Arr.mk' 0 : Arr 10 Int) : Arr 10 (Arr 10 Int)), ([] : List (List Spot)), 0, A3, (([] : List (List Spot)).length), [], Z, hS.pick [0, 1, 2] [0] Z, H⟩ ?_
  rintro k F w1 ⟨y9, y10, y14, A11, c12, D13, rfl, hS, H⟩
  cases k with
  | zero => rw [spec_l01Numbers.l1] at H; cases H
  | succ k =>
    rw [spec_l01Numbers.l1] at H
    refine CJ.seq ?_
    refine CJ.seq (CJ.region ?_)
    refine OJ.pures oU 3 Z ?_
    refine OJ.st Z Z Z (SR.fieldAddr oU oI Z Z Z Z Z Z) ?_
    refine OJ.st Z Z Z (SR.load Z Z (fun w' hx => ld1 oU Z Z (CA.ext (CA.fld (hS.ca (i := 0) Z) (mid_part (fe_Pasture_1 _) (fl_Pasture_1 _) ((ci .i8).len _))) hx) Z)) ?_
    refine OJ.pures oU 1 Z (OJ.nil (EJ.next ?_))
    refine CJ.cond Z (fun hb => ?_) (fun hb => ?_)
    · replace H := pif_t (of_decide_eq_true hb) H
      refine CJ.skip (EJ.next ?_)
      obtain ⟨j146, H, K146⟩ := pbind H
      refine CJ.cut (fun F w1 => ∃ (y15 : Arr 10 (Arr 10 Int)) (y16 : List (List Spot)) (A17 : Option Addr) (c18 : Nat) (D19 : List SH), (some (y15, y16) : Option ((Arr 10 (Arr 10 Int)) × (List (List Spot)))) = some j146 ∧ F = [(0, .pointer (some pa0)), (2, .pointer (some ⟨b1, 0, none⟩)), (4, .pointer (some ⟨b2, 0, none⟩)), (5, .slice A17 y16.length c18), (6, .int .i8 y14)] ∧ St w no w1 [box b1 ((carr 10 (carr 10 (ci .i64))).enc (Arr.mk' (Arr.mk' 0 : Arr 10 Int) : Arr 10 (Arr 10 Int))) 59, box b2 ((carr 10 (carr 10 (ci .i64))).enc y15) 59, rowsC cSpot A17 c18 85 45 D19 y16] [roP pa0 (cPasture.enc a0)]) ?_ ?_
      · skip
        refine CJ.block ?_
        refine CJ.seq (CJ.region ?_)
        refine OJ.pures oU 1 Z (OJ.nil (EJ.next ?_))
        obtain ⟨j157, H, K157⟩ := pbind H
        refine CJ.cut1 (fun F w1 => ∃ (y20 : Arr 10 (Arr 10 Int)) (y21 : List (List Spot)) (A22 : Option Addr) (c23 : Nat) (D24 : List SH), (some (y20, y21) : Option ((Arr 10 (Arr 10 Int)) × (List (List Spot)))) = some j157 ∧ F = [(0, .pointer (some pa0)), (2, .pointer (some ⟨b1, 0, none⟩)), (4, .pointer (some ⟨b2, 0, none⟩)), (5, .slice A22 y21.length c23), (6, .int .i8 y14)] ∧ St w no w1 [box b1 ((carr 10 (carr 10 (ci .i64))).enc (Arr.mk' (Arr.mk' 0 : Arr 10 Int) : Arr 10 (Arr 10 Int))) 59, box b2 ((carr 10 (carr 10 (ci .i64))).enc y20) 59, rowsC cSpot A22 c23 85 45 D24 y21] [roP pa0 (cPasture.enc a0)]) ?_ ?_
        · skip
          refine CJ.block ?_
          refine CJ.loop (fun k F w1 => ∃ (y25 : Arr 10 (Arr 10 Int)) (y26 : List (List Spot)) (y30 : Int) (A27 : Option Addr) (c28 : Nat) (D29 : List SH), F = [(0, .pointer (some pa0)), (2, .pointer (some ⟨b1, 0, none⟩)), (4, .pointer (some ⟨b2, 0, none⟩)), (5, .slice A27 y26.length c28), (6, .int .i8 y14), (7, .int .i8 y30)] ∧ St w no w1 [box b1 ((carr 10 (carr 10 (ci .i64))).enc (Arr.mk' (Arr.mk' 0 : Arr 10 Int) : Arr 10 (Arr 10 Int))) 59, box b2 ((carr 10 (carr 10 (ci .i64))).enc y25) 59, rowsC cSpot A27 c28 85 45 D29 y26] [roP pa0 (cPasture.enc a0)] ∧ spec_l01Numbers.l2 a0 y14 k y25 y26 y30 = some j157) k (F' := [(0, .pointer (some pa0)), (2, .pointer (some ⟨b1, 0, none⟩)), (4, .pointer (some ⟨b2, 0, none⟩)), (5, .slice A11 y10.length c12), (6, .int .i8 y14), (7, .int .i8 0)]) ⟨Z, Z, Z, Z, Z, Z, trivial⟩ ⟨y9, y10, 0, A11, c12, D13, Z, hS.pick [0, 1, 2] [0] Z, H⟩ ?_
          rintro k F w1 ⟨y25, y26, y30, A27, c28, D29, rfl, hS, H⟩
          cases k with
          | zero => rw [spec_l01Numbers.l2] at H; cases H
          | succ k =>
            rw [spec_l01Numbers.l2] at H
            refine CJ.seq ?_
            refine CJ.seq (CJ.region ?_)
            refine OJ.pures oU 3 Z ?_
            refine OJ.st Z Z Z (SR.fieldAddr oU oI Z Z Z Z Z Z) ?_
            refine OJ.st Z Z Z (SR.load Z Z (fun w' hx => ld1 oU Z Z (CA.ext (CA.fld (hS.ca (i := 0) Z) (mid_part (fe_Pasture_0 _) (fl_Pasture_0 _) ((ci .i8).len _))) hx) Z)) ?_
            refine OJ.pures oU 1 Z (OJ.nil (EJ.next ?_))
            refine CJ.cond Z (fun hb => ?_) (fun hb => ?_)
            · replace H := pif_t (of_decide_eq_true hb) H
              refine CJ.skip (EJ.next ?_)
              obtain ⟨j164, H, K164⟩ := pbind H
              refine CJ.cut (fun F w1 => ∃ (y31 : Arr 10 (Arr 10 Int)) (y32 : List (List Spot)) (A33 : Option Addr) (c34 : Nat) (D35 : List SH), (some (y31, y32) : Option ((Arr 10 (Arr 10 Int)) × (List (List Spot)))) = some j164 ∧ F = [(0, .pointer (some pa0)), (2, .pointer (some ⟨b1, 0, none⟩)), (4, .pointer (some ⟨b2, 0, none⟩)), (5, .slice A33 y32.length c34), (6, .int .i8 y14), (7, .int .i8 y30)] ∧ St w no w1 [box b1 ((carr 10 (carr 10 (ci .i64))).enc (Arr.mk' (Arr.mk' 0 : Arr 10 Int) : Arr 10 (Arr 10 Int))) 59, box b2 ((carr 10 (carr 10 (ci .i64))).enc y31) 59, rowsC cSpot A33 c34 85 45 D35 y32] [roP pa0 (cPasture.enc a0)]) ?_ ?_
              · skip
                refine CJ.block ?_
                refine CJ.seq ?_
                refine CJ.seq (CJ.region ?_)
                refine OJ.pures oU 2 Z ?_
                obtain ⟨t36, ht36, H⟩ := pbind H
                refine OJ.st Z Z Z (SR.idxA oU oI Z Z Z Z Z (Arr.lt ht36)) ?_
                obtain ⟨t37, ht37, H⟩ := pbind H
                refine OJ.st Z Z Z (SR.idxA oU oI Z Z Z Z Z (Arr.lt ht37)) ?_
                refine OJ.st Z Z Z (SR.load Z Z (fun w' hx => ld1 oU Z Z (CA.ext (CA.idx (CA.idx (hS.cells (i := 1) Z) ht36) ht37) hx) Z)) ?_
                refine OJ.pures oU 1 Z (OJ.nil (EJ.next ?_))
                refine CJ.cond Z (fun hb => ?_) (fun hb => ?_)
                · replace H := pif_t (of_decide_eq_true hb) H
                  refine CJ.exit (EJ.skE (EJ.hit (?_)))
                  exact EJ.meet (F' := [(0, .pointer (some pa0)), (2, .pointer (some ⟨b1, 0, none⟩)), (4, .pointer (some ⟨b2, 0, none⟩)), (5, .slice A27 y26.length c28), (6, .int .i8 y14), (7, .int .i8 y30)]) ⟨Z, Z, Z, Z, Z, Z, trivial⟩ ⟨y25, y26, A27, c28, D29, H, Z, hS.pick [0, 1, 2] [0] Z⟩
                · replace H := pif_f (of_decide_eq_false hb) H
                  refine CJ.skip (EJ.next ?_)
                  refine CJ.seq (CJ.region ?_)
                  refine OJ.pures oU 3 Z ?_
                  refine OJ.st Z Z Z (SR.build (C := cSpot) oU oI Z Z Z (zs := [.int .i8 0, .int .i8 0]) Z Z Z (⟨y30, y14⟩ : Spot) Z) ?_
                  obtain ⟨t38, ht38, H⟩ := pbind H
                  refine OJ.callF Z Z Z Z Z hb60 Z (spec_l01Yard.c k _ _ a0 (hS.ca (i := 0) Z) (⟨y30, y14⟩ : Spot) _ ht38) ?_
                  rintro _ w1 ⟨A39, c40, rfl, hs⟩
                  replace hS := hS.addN hs
                  refine OJ.pures oU 1 Z (OJ.nil (EJ.next ?_))
                  refine CJ.seq (CJ.region ?_)
                  refine OJ.pures oU 2 Z ?_
                  refine OJ.ef Z Z Z (Ef.litS1 (C := cSpot) oU oI hS (k := 3) Z Z Z Z Z Z) ?_
                  rintro _ w1 ⟨A41, rfl, hS⟩
                  obtain ⟨u42, hu42, H⟩ := pbind H
                  have hdl := (hS.rowsRo (i := 2) rfl).1
                  have dd45 := subD (D := D29) hdl (show ([(A39, c40)] : List SH)[0]? = _ from rfl)
                  have xd45 := subD (D := y26) rfl (show ([t38] : List (List Spot))[0]? = _ from rfl)
                  refine OJ.ew Z Z Z (Ew.appendS oU oI hS (i := 2) (j := 4) Z Z Z Z Z Z Z Z Z Z Z Z Z Z (chk_some hu42)) ?_
                  rintro _ w1 ⟨A43, c44, rfl, hS⟩
                  refine OJ.pures oU 1 Z (OJ.nil (EJ.next ?_))
                  refine CJ.seq (CJ.region ?_)
                  refine OJ.pures oU 1 Z (OJ.nil (EJ.next ?_))
                  obtain ⟨j166, H, K166⟩ := pbind H
                  refine CJ.cut1 (fun F w1 => ∃ (y46 : Arr 10 (Arr 10 Int)) , (some y46 : Option (Arr 10 (Arr 10 Int))) = some j166 ∧ F = [(0, .pointer (some pa0)), (2, .pointer (some ⟨b1, 0, none⟩)), (4, .pointer (some ⟨b2, 0, none⟩)), (5, .slice A43 (y26 ++ [t38]).length c44), (6, .int .i8 y14), (7, .int .i8 y30)] ∧ St w no w1 [box b1 ((carr 10 (carr 10 (ci .i64))).enc (Arr.mk' (Arr.mk' 0 : Arr 10 Int) : Arr 10 (Arr 10 Int))) 59, box b2 ((carr 10 (carr 10 (ci .i64))).enc y46) 59, rowsC cSpot A43 c44 85 45 (D29 ++ [(A39, c40)]) (y26 ++ [t38])] [roP pa0 (cPasture.enc a0)]) ?_ ?_
                  · skip
                    refine CJ.block ?_
                    refine CJ.loop (fun k F w1 => ∃ (y47 : Arr 10 (Arr 10 Int)) (y48 : Int), F = [(0, .pointer (some pa0)), (2, .pointer (some ⟨b1, 0, none⟩)), (4, .pointer (some ⟨b2, 0, none⟩)), (5, .slice A43 (y26 ++ [t38]).length c44), (6, .int .i8 y14), (7, .int .i8 y30), (8, .slice A39 t38.length c40), (9, .int .i64 y48)] ∧ St w no w1 [box b1 ((carr 10 (carr 10 (ci .i64))).enc (Arr.mk' (Arr.mk' 0 : Arr 10 Int) : Arr 10 (Arr 10 Int))) 59, box b2 ((carr 10 (carr 10 (ci .i64))).enc y47) 59, rowsC cSpot A43 c44 85 45 (D29 ++ [(A39, c40)]) (y26 ++ [t38])] [roP pa0 (cPasture.enc a0)] ∧ spec_l01Numbers.l3 y26 t38 k y47 y48 = some j166) k (F' := [(0, .pointer (some pa0)), (2, .pointer (some ⟨b1, 0, none⟩)), (4, .pointer (some ⟨b2, 0, none⟩)), (5, .slice A43 (y26 ++ [t38]).length c44), (6, .int .i8 y14), (7, .int .i8 y30), (8, .slice A39 t38.length c40), (9, .int .i64 0)]) ⟨Z, Z, Z, Z, Z, Z, Z, Z, trivial⟩ ⟨y25, 0, Z, hS.pick [0, 1, 2] [0] Z, H⟩ ?_
                    rintro k F w1 ⟨y47, y48, rfl, hS, H⟩
                    cases k with
                    | zero => rw [spec_l01Numbers.l3] at H; cases H
                    | succ k =>
                      rw [spec_l01Numbers.l3] at H
                      refine CJ.seq ?_
                      refine CJ.seq (CJ.region ?_)
                      refine OJ.pures oU 4 Z (OJ.nil (EJ.next ?_))
                      refine CJ.cond Z (fun hb => ?_) (fun hb => ?_)
                      · replace H := pif_t (of_decide_eq_true hb) H
                        refine CJ.skip (EJ.next ?_)
                        refine CJ.seq ?_
                        refine CJ.block ?_
                        refine CJ.draw [] [0, 1, 2, 3, 4, 5, 6, 7, 8, 9, 10, 11, 12, 13, 14] mixed (by kernel_rfl) hS fun w1 hS => ?_
                        refine DJ.pures oU 2 Z ?_
                        obtain ⟨t49, ht49, H⟩ := pbind H
                        obtain ⟨ad49, e49⟩ := ((ros_sub (hS.rowsRo (i := 2) rfl) dd45 xd45)).some' ht49
                        refine DJ.st Z Z Z Z Z (SR.idxS oU oI Z Z Z Z e49 Z (getI_some ht49).1) ?_
                        refine DJ.st Z Z Z Z Z (SR.fieldAddr oU oI Z Z Z Z Z Z) ?_
                        refine DJ.st Z Z Z Z Z (SR.load Z Z (fun w' hx => ld1 oU Z Z (CA.ext (CA.sub ((ros_sub (hS.rowsRo (i := 2) Z) dd45 xd45).at_ e49 ht49) 1) hx) Z)) ?_
                        refine DJ.pures oU 2 Z ?_
                        obtain ⟨t50, ht50, H⟩ := pbind H
                        obtain ⟨ad50, e50⟩ := ((ros_sub (hS.rowsRo (i := 2) rfl) dd45 xd45)).some' ht50
                        refine DJ.st Z Z Z Z Z (SR.idxS oU oI Z Z Z Z e50 Z (getI_some ht50).1) ?_
                        refine DJ.st Z Z Z Z Z (SR.fieldAddr oU oI Z Z Z Z Z Z) ?_
                        refine DJ.st Z Z Z Z Z (SR.load Z Z (fun w' hx => ld1 oU Z Z (CA.ext (CA.sub ((ros_sub (hS.rowsRo (i := 2) Z) dd45 xd45).at_ e50 ht50) 0) hx) Z)) ?_
                        refine DJ.pures oU 2 Z ?_
                        obtain ⟨t51, ht51, H⟩ := pbind H
                        refine DJ.st Z Z Z Z Z (SR.idxA oU oI Z Z Z Z Z (Arr.lt ht51)) ?_
                        obtain ⟨t52, ht52, H⟩ := pbind H
                        refine DJ.st Z Z Z Z Z (SR.idxA oU oI Z Z Z Z Z (Arr.lt ht52)) ?_
                        refine DJ.es rfl rfl rfl rfl (Es.put oI hS (i := 1) rfl rfl rfl rfl rfl (vs := (ci .i64).enc ((y26 ++ [t38]).length : Int)) rfl rfl (one1 rfl) (Put.idx (Put.idx (Put.all (ci .i64) t52 ((y26 ++ [t38]).length : Int)) ht52) ht51) (by (try simp only [add_lit, Nat.add_assoc, Nat.zero_add, Nat.add_zero]) <;> rfl)) ?_
                        intro w1 hS
                        refine DJ.nil (EJ.blk (EJ.next ?_))
                        refine CJ.region ?_
                        refine OJ.pures oU 3 Z ?_
                        refine OJ.nil ?_
                        exact EJ.round k (F' := [(0, .pointer (some pa0)), (2, .pointer (some ⟨b1, 0, none⟩)), (4, .pointer (some ⟨b2, 0, none⟩)), (5, .slice A43 (y26 ++ [t38]).length c44), (6, .int .i8 y14), (7, .int .i8 y30), (8, .slice A39 t38.length c40), (9, .int .i64 (IntKind.i64.wrap (y48 + 1)))]) ⟨Z, Z, Z, Z, Z, Z, Z, Z, trivial⟩ (Nat.lt_succ_self _) ⟨(aset y47 t49.Y.toNat (aset t51 t50.X.toNat ((y26 ++ [t38]).length : Int))), (IntKind.i64.wrap (y48 + 1)), Z, hS.pick [0, 1, 2] [0] Z, H⟩
                      · replace H := pif_f (of_decide_eq_false hb) H
                        refine CJ.exit (EJ.skE (EJ.skE (EJ.hit (?_))))
                        exact EJ.meet (F' := [(0, .pointer (some pa0)), (2, .pointer (some ⟨b1, 0, none⟩)), (4, .pointer (some ⟨b2, 0, none⟩)), (5, .slice A43 (y26 ++ [t38]).length c44), (6, .int .i8 y14), (7, .int .i8 y30)]) ⟨Z, Z, Z, Z, Z, Z, trivial⟩ ⟨y47, H, Z, hS.pick [0, 1, 2] [0] Z⟩
                  · rintro F w1 ⟨y46, he, rfl, hS⟩
                    obtain rfl := Option.some.inj he
                    have H := K166
                    refine EJ.blk (?_)
                    exact EJ.meet (F' := [(0, .pointer (some pa0)), (2, .pointer (some ⟨b1, 0, none⟩)), (4, .pointer (some ⟨b2, 0, none⟩)), (5, .slice A43 (y26 ++ [t38]).length c44), (6, .int .i8 y14), (7, .int .i8 y30)]) ⟨Z, Z, Z, Z, Z, Z, trivial⟩ ⟨y46, (y26 ++ [t38]), A43, c44, (D29 ++ [(A39, c40)]), H, Z, hS.pick [0, 1, 2] [0] Z⟩
              · rintro F w1 ⟨y31, y32, A33, c34, D35, he, rfl, hS⟩
                obtain rfl := Option.some.inj he
                have H := K164
                refine CJ.region ?_
                refine OJ.pures oU 3 Z ?_
                refine OJ.nil ?_
                exact EJ.round k (F' := [(0, .pointer (some pa0)), (2, .pointer (some ⟨b1, 0, none⟩)), (4, .pointer (some ⟨b2, 0, none⟩)), (5, .slice A33 y32.length c34), (6, .int .i8 y14), (7, .int .i8 (IntKind.i8.wrap (y30 + 1)))]) ⟨Z, Z, Z, Z, Z, Z, trivial⟩ (Nat.lt_succ_self _) ⟨y31, y32, (IntKind.i8.wrap (y30 + 1)), A33, c34, D35, Z, hS.pick [0, 1, 2] [0] Z, H⟩
            · replace H := pif_f (of_decide_eq_false hb) H
              refine CJ.exit (EJ.skE (EJ.skE (EJ.hit (?_))))
              exact EJ.meet (F' := [(0, .pointer (some pa0)), (2, .pointer (some ⟨b1, 0, none⟩)), (4, .pointer (some ⟨b2, 0, none⟩)), (5, .slice A27 y26.length c28), (6, .int .i8 y14)]) ⟨Z, Z, Z, Z, Z, trivial⟩ ⟨y25, y26, A27, c28, D29, H, Z, hS.pick [0, 1, 2] [0] Z⟩
        · rintro F w1 ⟨y20, y21, A22, c23, D24, he, rfl, hS⟩
          obtain rfl := Option.some.inj he
          have H := K157
          refine EJ.blk (?_)
          exact EJ.meet (F' := [(0, .pointer (some pa0)), (2, .pointer (some ⟨b1, 0, none⟩)), (4, .pointer (some ⟨b2, 0, none⟩)), (5, .slice A22 y21.length c23), (6, .int .i8 y14)]) ⟨Z, Z, Z, Z, Z, trivial⟩ ⟨y20, y21, A22, c23, D24, H, Z, hS.pick [0, 1, 2] [0] Z⟩
      · rintro F w1 ⟨y15, y16, A17, c18, D19, he, rfl, hS⟩
        obtain rfl := Option.some.inj he
        have H := K146
        refine CJ.region ?_
        refine OJ.pures oU 3 Z ?_
        refine OJ.nil ?_
        exact EJ.round k (F' := [(0, .pointer (some pa0)), (2, .pointer (some ⟨b1, 0, none⟩)), (4, .pointer (some ⟨b2, 0, none⟩)), (5, .slice A17 y16.length c18), (6, .int .i8 (IntKind.i8.wrap (y14 + 1)))]) ⟨Z, Z, Z, Z, Z, trivial⟩ (Nat.lt_succ_self _) ⟨y15, y16, (IntKind.i8.wrap (y14 + 1)), A17, c18, D19, Z, hS.pick [0, 1, 2] [0] Z, H⟩
    · replace H := pif_f (of_decide_eq_false hb) H
      refine CJ.exit (EJ.skE (EJ.skE (EJ.hit (?_))))
      exact EJ.meet (F' := [(2, .pointer (some ⟨b1, 0, none⟩)), (4, .pointer (some ⟨b2, 0, none⟩)), (5, .slice A11 y10.length c12)]) ⟨Z, Z, Z, trivial⟩ ⟨y9, y10, A11, c12, D13, H, Z, hS.pick [0, 1, 2] [0] Z⟩
 rintro F w1 ⟨y4, y5, A6, c7, D8, he, rfl, hS⟩
 obtain rfl := Option.some.inj he
 have H := K82
 refine EJ.next ?_
 refine CJ.seq (CJ.region ?_)
 refine OJ.st Z Z Z (SR.load Z Z (fun w' hx => ldE oU oI Z Z Z (CA.ext (hS.cells (i := 1) Z) hx) Z)) ?_
 refine OJ.pures oU 1 Z ?_
 refine OJ.es rfl rfl (Es.put oI hS (i := 0) rfl rfl rfl rfl rfl (vs := (carr 10 (carr 10 (ci .i64))).enc y4) rfl ((carr 10 (carr 10 (ci .i64))).len _) ((carr 10 (carr 10 (ci .i64))).one _) (Put.all (carr 10 (carr 10 (ci .i64))) (Arr.mk' (Arr.mk' 0 : Arr 10 Int) : Arr 10 (Arr 10 Int)) y4) (by (try simp only [add_lit, Nat.add_assoc, Nat.zero_add, Nat.add_zero]) <;> rfl)) ?_
 intro w1 hS
 refine OJ.pures oU 1 Z (OJ.nil (EJ.next ?_))
 refine CJ.ret (?_)
 obtain rfl := Option.some.inj H
 exact EJ.fin Z (.cell Z (ldE oU oI Z Z Z (hS.cells (i := 0) Z) Z) (.tmp Z .nil)) ⟨A6, c7, D8, Z, hS.pick [2] [] Z⟩

def spec_YardsOf.f (k : Nat) (a0 : Pasture) : Option (List (List Spot) × Int) := (spec_l01Ok.f k a0).bind fun t2 => if (!t2) = true then (some (([] : List (List Spot)), 1)) else ((spec_l01Numbers.f k a0).bind fun t4 => some (t4.2, 0))
theorem spec_YardsOf.c (k : Nat) (w : World) (a0 : Pasture) (r : List (List Spot) × Int) (H : spec_YardsOf.f k a0 = some r) :
 CV Tryz.prog 6 [.agg (cPasture.enc a0).toArray].toArray w fun v w' => ∃ (A0 : Option Addr) (c0 : Nat) (D0 : List SH), v = .tuple #[.slice A0 r.1.length c0, .int .i64 r.2] ∧ St w no w' [rowsC cSpot A0 c0 85 45 D0 r.1] [] := by
 have hS := (St.init w no)
 unfold spec_YardsOf.f at H
 refine CV.body Tryz.func6 Z Tryz.ntmps6 Z ?_
 refine CJ.seq (CJ.region ?_)
 refine OJ.ef Z Z Z (Ef.box hS Z Z (cPasture.enc a0) Z) ?_
 rintro _ w1 ⟨b1, rfl, hS⟩
 refine OJ.pures oU 2 Z (OJ.nil (EJ.next ?_))
 refine CJ.seq ?_
 refine CJ.seq (CJ.region ?_)
 obtain ⟨t2, ht2, H⟩ := pbind H
 refine OJ.callF Z Z Z Z Z hb27 Z (spec_l01Ok.c k _ _ a0 (hS.cells (i := 0) Z) _ ht2) ?_
 rintro _ w1 ⟨rfl, hs⟩
 replace hS := hS.grow hs
 refine OJ.pures oU 1 Z (OJ.nil (EJ.next ?_))
 refine CJ.cond Z (fun hb => ?_) (fun hb => ?_)
 ·replace H := pif_t hb H
  refine CJ.seq (CJ.region ?_)
  refine OJ.ef Z Z Z (Ef.litS0 (e := 45) oU oI hS Z Z Z Z cSpot) ?_
  rintro _ w1 ⟨A3, rfl, hS⟩
  refine OJ.pures oU 2 Z (OJ.nil (EJ.next ?_))
  refine CJ.ret (EJ.skR (?_))
  obtain rfl := Option.some.inj H
  exact EJ.fin Z (.tmp Z (.tmp Z .nil)) ⟨A3, (([] : List (List Spot)).length), [], Z, hS.pick [1] [] Z⟩
 replace H := pifb_f hb H
 refine CJ.skip (EJ.next ?_)
 refine CJ.seq (CJ.region ?_)
 obtain ⟨t4, ht4, H⟩ := pbind H
 refine OJ.callF Z Z Z Z Z hb28 Z (spec_l01Numbers.c k _ _ a0 (hS.cells (i := 0) Z) _ ht4) ?_
 rintro _ w1 ⟨A5, c6, D7, rfl, hs⟩
 replace hS := hS.addN hs
 refine OJ.pures oU 3 Z ?_
 refine OJ.ef rfl rfl rfl (Ef.alloc hS oI rfl rfl ((carr 10 (carr 10 (ci .i64))).enc (Arr.mk' (Arr.mk' 0 : Arr 10 Int) : Arr 10 (Arr 10 Int))) (by kernel_rfl)) ?_
 rintro _ w1 ⟨b8, rfl, hS⟩
 refine OJ.es rfl rfl (Es.put oI hS (i := 2) rfl rfl rfl rfl rfl (vs := (carr 10 (carr 10 (ci .i64))).enc t4.1) rfl ((carr 10 (carr 10 (ci .i64))).len _) ((carr 10 (carr 10 (ci .i64))).one _) (Put.all (carr 10 (carr 10 (ci .i64))) (Arr.mk' (Arr.mk' 0 : Arr 10 Int) : Arr 10 (Arr 10 Int)) t4.1) (by (try simp only [add_lit, Nat.add_assoc, Nat.zero_add, Nat.add_zero]) <;> rfl)) ?_
 intro w1 hS
 refine OJ.pures oU 1 Z (OJ.nil (EJ.next ?_))
 refine CJ.seq (CJ.region ?_)
 refine OJ.pures oU 3 Z (OJ.nil (EJ.next ?_))
 refine CJ.ret (?_)
 obtain rfl := Option.some.inj H
 exact EJ.fin Z (.tmp Z (.tmp Z .nil)) ⟨A5, c6, D7, Z, hS.pick [1] [] Z⟩

def impl_within.f (a0 : Int) (a1 : Int) (a2 : Int) : Option Bool := if a1 ≤ a0 then (some (decide (a0 ≤ a2))) else (some false)
theorem impl_within.c (w : World) (a0 : Int) (a1 : Int) (a2 : Int) (r : Bool) (H : impl_within.f a0 a1 a2 = some r) :
 CV Tryz.prog 66 [.int .i64 a0, .int .i64 a1, .int .i64 a2].toArray w fun v w' => v = .bool r ∧ Ext w w' := by
 have hS := (St.init w no)
 unfold impl_within.f at H
 refine CV.body Tryz.func66 Z Tryz.ntmps66 Z ?_
 refine CJ.seq (CJ.region ?_)
 refine OJ.pures oU 1 Z (OJ.nil (EJ.next ?_))
 refine CJ.seq (CJ.region ?_)
 refine OJ.pures oU 4 Z ?_
 refine OJ.split (t := 10) Z (fun hb => ?_) (fun hb => ?_)
 ·replace H := pif_t (of_decide_eq_true hb) H
  refine OJ.pures oU 5 Z (OJ.nil (EJ.next ?_))
  refine CJ.ret (?_)
  obtain rfl := Option.some.inj H
  exact EJ.fin Z (.tmp Z .nil) ⟨Z, hS.ext⟩
 replace H := pif_f (of_decide_eq_false hb) H
 refine OJ.pures oU 5 Z (OJ.nil (EJ.next ?_))
 refine CJ.ret (?_)
 obtain rfl := Option.some.inj H
 exact EJ.fin Z (.tmp Z .nil) ⟨Z, hS.ext⟩

def impl_Pasture_isCell.f (a0 : Pasture) (a1 : Spot) : Option Bool := (impl_within.f (IntKind.i64.wrap a1.X) 0 (IntKind.i64.wrap ((if 10 < (IntKind.i64.wrap a0.Wide) then 10 else (IntKind.i64.wrap a0.Wide)) - 1))).bind fun t3 => if t3 = true then ((impl_within.f (IntKind.i64.wrap a1.Y) 0 (IntKind.i64.wrap ((if 10 < (IntKind.i64.wrap a0.High) then 10 else (IntKind.i64.wrap a0.High)) - 1))).bind fun t4 => some t4) else (some false)
theorem impl_Pasture_isCell.c (w : World) (a0 : Pasture) (a1 : Spot) (r : Bool) (H : impl_Pasture_isCell.f a0 a1 = some r) :
 CV Tryz.prog 67 [.agg (cPasture.enc a0).toArray, .agg (cSpot.enc a1).toArray].toArray w fun v w' => v = .bool r ∧ Ext w w' := by
 have hS := (St.init w no)
 unfold impl_Pasture_isCell.f at H
 refine CV.body Tryz.func67 Z Tryz.ntmps67 Z ?_
 refine CJ.seq (CJ.region ?_)
 refine OJ.ef Z Z Z (Ef.box hS Z Z (cPasture.enc a0) Z) ?_
 rintro _ w1 ⟨b1, rfl, hS⟩
 refine OJ.ef Z Z Z (Ef.box hS Z Z (cSpot.enc a1) Z) ?_
 rintro _ w1 ⟨b2, rfl, hS⟩
 refine OJ.pures oU 1 Z (OJ.nil (EJ.next ?_))
 refine CJ.seq (CJ.region ?_)
 refine OJ.st Z Z Z (SR.fieldAddr oU oI Z Z Z Z Z Z) ?_
 refine OJ.st Z Z Z (SR.load Z Z (fun w' hx => ld1 oU Z Z (CA.ext (CA.sub (hS.cells (i := 1) Z) 0) hx) Z)) ?_
 refine OJ.pures oU 1 Z ?_
 refine OJ.st Z Z Z (SR.fieldAddr oU oI Z Z Z Z Z Z) ?_
 refine OJ.st Z Z Z (SR.load Z Z (fun w' hx => ld1 oU Z Z (CA.ext (CA.fld (hS.cells (i := 0) Z) (mid_part (fe_Pasture_0 _) (fl_Pasture_0 _) ((ci .i8).len _))) hx) Z)) ?_
 refine OJ.pures oU 3 Z ?_
 obtain ⟨t3, ht3, H⟩ := pbind H
 refine OJ.callF Z Z Z Z Z hb66 Z (impl_within.c _ (IntKind.i64.wrap a1.X) 0 (IntKind.i64.wrap ((if 10 < (IntKind.i64.wrap a0.Wide) then 10 else (IntKind.i64.wrap a0.Wide)) - 1)) _ ht3) ?_
 rintro _ w1 ⟨rfl, hs⟩
 replace hS := hS.grow hs
 refine OJ.pures oU 1 Z ?_
 refine OJ.split (t := 14) Z (fun hb => ?_) (fun hb => ?_)
 ·replace H := pif_t hb H
  refine OJ.st Z Z Z (SR.fieldAddr oU oI Z Z Z Z Z Z) ?_
  refine OJ.st Z Z Z (SR.load Z Z (fun w' hx => ld1 oU Z Z (CA.ext (CA.sub (hS.cells (i := 1) Z) 1) hx) Z)) ?_
  refine OJ.pures oU 1 Z ?_
  refine OJ.st Z Z Z (SR.fieldAddr oU oI Z Z Z Z Z Z) ?_
  refine OJ.st Z Z Z (SR.load Z Z (fun w' hx => ld1 oU Z Z (CA.ext (CA.fld (hS.cells (i := 0) Z) (mid_part (fe_Pasture_1 _) (fl_Pasture_1 _) ((ci .i8).len _))) hx) Z)) ?_
  refine OJ.pures oU 3 Z ?_
  obtain ⟨t4, ht4, H⟩ := pbind H
  refine OJ.callF Z Z Z Z Z hb66 Z (impl_within.c _ (IntKind.i64.wrap a1.Y) 0 (IntKind.i64.wrap ((if 10 < (IntKind.i64.wrap a0.High) then 10 else (IntKind.i64.wrap a0.High)) - 1)) _ ht4) ?_
  rintro _ w1 ⟨rfl, hs⟩
  replace hS := hS.grow hs
  refine OJ.pures oU 2 Z (OJ.nil (EJ.next ?_))
  refine CJ.ret (?_)
  obtain rfl := Option.some.inj H
  exact EJ.fin Z (.tmp Z .nil) ⟨Z, hS.ext⟩
 replace H := pifb_f hb H
 refine OJ.pures oU 11 Z (OJ.nil (EJ.next ?_))
 refine CJ.ret (?_)
 obtain rfl := Option.some.inj H
 exact EJ.fin Z (.tmp Z .nil) ⟨Z, hS.ext⟩

def impl_bit.f (a0 : Bool) : Option Int := if a0 = true then (some 1) else (some 0)
theorem impl_bit.c (w : World) (a0 : Bool) (r : Int) (H : impl_bit.f a0 = some r) :
 CV Tryz.prog 68 [.bool a0].toArray w fun v w' => v = .int .i64 r ∧ Ext w w' := by
 have hS := (St.init w no)
 unfold impl_bit.f at H
 refine CV.body Tryz.func68 Z Tryz.ntmps68 Z ?_
 refine CJ.seq (CJ.region ?_)
 refine OJ.pures oU 1 Z (OJ.nil (EJ.next ?_))
 refine CJ.seq ?_
 refine CJ.seq (CJ.region ?_)
 refine OJ.pures oU 1 Z (OJ.nil (EJ.next ?_))
 refine CJ.cond Z (fun hb => ?_) (fun hb => ?_)
 ·replace H := pif_t hb H
  refine CJ.seq (CJ.region ?_)
  refine OJ.pures oU 1 Z (OJ.nil (EJ.next ?_))
  refine CJ.ret (EJ.skR (?_))
  obtain rfl := Option.some.inj H
  exact EJ.fin Z (.tmp Z .nil) ⟨Z, hS.ext⟩
 replace H := pifb_f hb H
 refine CJ.skip (EJ.next ?_)
 refine CJ.seq (CJ.region ?_)
 refine OJ.pures oU 1 Z (OJ.nil (EJ.next ?_))
 refine CJ.ret (?_)
 obtain rfl := Option.some.inj H
 exact EJ.fin Z (.tmp Z .nil) ⟨Z, hS.ext⟩

def impl_ValidPasture.l2 (a0 : Pasture) (y5 : Int) : Nat → Int → Int → Int → Option (((Bool ⊕ Unit) ⊕ Unit) ⊕ (Int × Int))
  | 0, _, _, _ => none
  | k + 1, y8, y9, y10 => if y10 < 10 then ((impl_Pasture_isCell.f a0 (⟨IntKind.i8.wrap y10, IntKind.i8.wrap y5⟩ : Spot)).bind fun t11 => if t11 = true then ((impl_Pasture_isCell.f a0 (⟨IntKind.i8.wrap (IntKind.i64.wrap (y10 + 1)), IntKind.i8.wrap y5⟩ : Spot)).bind fun t12 => (impl_bit.f t12).bind fun t13 => (chk (0 ≤ y10)).bind fun u14 => (impl_Pasture_isCell.f a0 (⟨IntKind.i8.wrap y10, IntKind.i8.wrap (IntKind.i64.wrap (y5 + 1))⟩ : Spot)).bind fun t15 => (impl_bit.f t15).bind fun t16 => (chk (0 ≤ y10)).bind fun u17 => (getI a0.Grass.l y5).bind fun t18 => (getI t18.l y10).bind fun t19 => (impl_within.f (IntKind.i64.wrap t19) 0 1000).bind fun t20 => if (!t20) = true then (some (Sum.inl (Sum.inl (Sum.inl false)))) else (impl_ValidPasture.l2 a0 y5 k (orI .u16 y8 (shlI .u16 (IntKind.u16.wrap t13) y10)) (orI .u16 y9 (shlI .u16 (IntKind.u16.wrap t16) y10)) (IntKind.i64.wrap (y10 + 1)))) else ((getI a0.Grass.l y5).bind fun t21 => (getI t21.l y10).bind fun t22 => (impl_within.f (IntKind.i64.wrap t22) 0 0).bind fun t23 => if (!t23) = true then (some (Sum.inl (Sum.inl (Sum.inl false)))) else (impl_ValidPasture.l2 a0 y5 k y8 y9 (IntKind.i64.wrap (y10 + 1))))) else (some (Sum.inr (y8, y9)))
def impl_ValidPasture.l1 (a0 : Pasture) : Nat → Int → Option (Bool ⊕ Unit)
  | 0, _ => none
  | k + 1, y5 => if y5 < 10 then (((impl_ValidPasture.l2 a0 y5 k 0 0 0).bind fun s177 => match s177 with | .inl r => some r | .inr (y6, y7) => (getI a0.East.l y5).bind fun t24 => if (andNotI .u16 t24 y6) ≠ 0 then (some (Sum.inl (Sum.inl false))) else ((getI a0.South.l y5).bind fun t25 => if (andNotI .u16 t25 y7) ≠ 0 then (some (Sum.inl (Sum.inl false))) else (some (Sum.inr ())))).bind fun s175 => match s175 with | .inl r => some r | .inr _ => impl_ValidPasture.l1 a0 k (IntKind.i64.wrap (y5 + 1))) else (some (Sum.inr ()))
def impl_ValidPasture.f (k : Nat) (a0 : Pasture) : Option Bool := ((impl_within.f (IntKind.i64.wrap a0.Wide) 1 10).bind fun t3 => if (!t3) = true then (some true) else ((impl_within.f (IntKind.i64.wrap a0.High) 1 10).bind fun t4 => some (!t4))).bind fun y2 => if y2 = true then (some false) else ((impl_ValidPasture.l1 a0 k 0).bind fun s168 => match s168 with | .inl r => some r | .inr _ => some true)
theorem impl_ValidPasture.c (k : Nat) (w : World) (a0 : Pasture) (r : Bool) (H : impl_ValidPasture.f k a0 = some r) :
 CV Tryz.prog 29 [.agg (cPasture.enc a0).toArray].toArray w fun v w' => v = .bool r ∧ Ext w w' := by
 have hS := (St.init w no)
 unfold impl_ValidPasture.f at H
 refine CV.body Tryz.func29 Z Tryz.ntmps29 Z ?_
 refine CJ.seq (CJ.region ?_)
 refine OJ.ef Z Z Z (Ef.box hS Z Z (cPasture.enc a0) Z) ?_
 rintro _ w1 ⟨b1, rfl, hS⟩
 refine OJ.pures oU 1 Z (OJ.nil (EJ.next ?_))
 refine CJ.seq ?_
 obtain ⟨j167, H, K167⟩ := pbind H
 refine CJ.cut (fun F w1 => ∃ (y2 : Bool) , (some y2 : Option Bool) = some j167 ∧ F = [(1, .pointer (some ⟨b1, 0, none⟩)), (19, .bool y2)] ∧ St w no w1 [box b1 (cPasture.enc a0) 31] []) ?_ ?_
 ·skip
  refine CJ.region ?_
  refine OJ.st Z Z Z (SR.fieldAddr oU oI Z Z Z Z Z Z) ?_
  refine OJ.st Z Z Z (SR.load Z Z (fun w' hx => ld1 oU Z Z (CA.ext (CA.fld (hS.cells (i := 0) Z) (mid_part (fe_Pasture_0 _) (fl_Pasture_0 _) ((ci .i8).len _))) hx) Z)) ?_
  refine OJ.pures oU 1 Z ?_
  obtain ⟨t3, ht3, H⟩ := pbind H
  refine OJ.callF Z Z Z Z Z hb66 Z (impl_within.c _ (IntKind.i64.wrap a0.Wide) 1 10 _ ht3) ?_
  rintro _ w1 ⟨rfl, hs⟩
  replace hS := hS.grow hs
  refine OJ.pures oU 2 Z ?_
  refine OJ.split (t := 13) Z (fun hb => ?_) (fun hb => ?_)
  ·replace H := pif_t hb H
   refine OJ.pures oU 6 Z ?_
   refine OJ.nil ?_
   exact EJ.meet (F' := [(1, .pointer (some ⟨b1, 0, none⟩)), (19, .bool true)]) ⟨Z, Z, trivial⟩ ⟨true, H, Z, hS.pick [0] [] Z⟩
  replace H := pifb_f hb H
  refine OJ.st Z Z Z (SR.fieldAddr oU oI Z Z Z Z Z Z) ?_
  refine OJ.st Z Z Z (SR.load Z Z (fun w' hx => ld1 oU Z Z (CA.ext (CA.fld (hS.cells (i := 0) Z) (mid_part (fe_Pasture_1 _) (fl_Pasture_1 _) ((ci .i8).len _))) hx) Z)) ?_
  refine OJ.pures oU 1 Z ?_
  obtain ⟨t4, ht4, H⟩ := pbind H
  refine OJ.callF Z Z Z Z Z hb66 Z (impl_within.c _ (IntKind.i64.wrap a0.High) 1 10 _ ht4) ?_
  rintro _ w1 ⟨rfl, hs⟩
  replace hS := hS.grow hs
  refine OJ.pures oU 2 Z ?_
  refine OJ.nil ?_
  exact EJ.meet (F' := [(1, .pointer (some ⟨b1, 0, none⟩)), (19, .bool (!t4))]) ⟨Z, Z, trivial⟩ ⟨(!t4), H, Z, hS.pick [0] [] Z⟩
 rintro F w1 ⟨y2, he, rfl, hS⟩
 obtain rfl := Option.some.inj he
 have H := K167
 refine CJ.cond Z (fun hb => ?_) (fun hb => ?_)
 ·replace H := pif_t hb H
  refine CJ.seq (CJ.region ?_)
  refine OJ.pures oU 1 Z (OJ.nil (EJ.next ?_))
  refine CJ.ret (EJ.skR (?_))
  obtain rfl := Option.some.inj H
  exact EJ.fin Z (.tmp Z .nil) ⟨Z, hS.ext⟩
 replace H := pifb_f hb H
 refine CJ.skip (EJ.next ?_)
 refine CJ.seq ?_
 refine CJ.seq (CJ.region ?_)
 refine OJ.pures oU 1 Z (OJ.nil (EJ.next ?_))
 obtain ⟨j168, H, K168⟩ := pbind H
 refine CJ.cut1 (fun F w1 => (some (Sum.inr ()) : Option (Bool ⊕ Unit)) = some j168 ∧ F = [] ∧ St w no w1 [] []) ?_ ?_
 ·skip
  refine CJ.block ?_
  refine CJ.loop (fun k F w1 => ∃ (y5 : Int), F = [(1, .pointer (some ⟨b1, 0, none⟩)), (20, .int .i64 y5)] ∧ St w no w1 [box b1 (cPasture.enc a0) 31] [] ∧ impl_ValidPasture.l1 a0 k y5 = some j168) k (F' := [(1, .pointer (some ⟨b1, 0, none⟩)), (20, .int .i64 0)]) ⟨Z, Z, trivial⟩ ⟨0, Z, hS.pick [0] [] Z, H⟩ ?_
  rintro k F w1 ⟨y5, rfl, hS, H⟩
  cases k with
  | zero => rw [impl_ValidPasture.l1] at H; cases H
  | succ k =>
    rw [impl_ValidPasture.l1] at H
    refine CJ.seq (CJ.region ?_)
    refine OJ.pures oU 1 Z (OJ.nil (EJ.next ?_))
    refine CJ.seq ?_
    refine CJ.cond Z (fun hb => ?_) (fun hb => ?_)
    · replace H := pif_t (of_decide_eq_true hb) H
      refine CJ.skip (EJ.next ?_)
      obtain ⟨j175, H, K175⟩ := pbind H
      refine CJ.cut (fun F w1 => (some (Sum.inr ()) : Option ((Bool ⊕ Unit) ⊕ Unit)) = some j175 ∧ F = [(1, .pointer (some ⟨b1, 0, none⟩)), (20, .int .i64 y5)] ∧ St w no w1 [box b1 (cPasture.enc a0) 31] []) ?_ ?_
      · skip
        refine CJ.block ?_
        refine CJ.seq (CJ.region ?_)
        refine OJ.pures oU 2 Z (OJ.nil (EJ.next ?_))
        refine CJ.seq (CJ.region ?_)
        refine OJ.pures oU 2 Z (OJ.nil (EJ.next ?_))
        refine CJ.seq ?_
        refine CJ.seq (CJ.region ?_)
        refine OJ.pures oU 1 Z (OJ.nil (EJ.next ?_))
        obtain ⟨j177, H, K177⟩ := pbind H
        refine CJ.cut1 (fun F w1 => ∃ (y6 : Int) (y7 : Int) , (some (Sum.inr (y6, y7)) : Option (((Bool ⊕ Unit) ⊕ Unit) ⊕ (Int × Int))) = some j177 ∧ F = [(1, .pointer (some ⟨b1, 0, none⟩)), (3, .int .i64 y5), (4, .int .u16 y6), (5, .int .u16 y7), (20, .int .i64 y5)] ∧ St w no w1 [box b1 (cPasture.enc a0) 31] []) ?_ ?_
        · skip
          refine CJ.block ?_
          refine CJ.loop (fun k F w1 => ∃ (y8 : Int) (y9 : Int) (y10 : Int), F = [(1, .pointer (some ⟨b1, 0, none⟩)), (3, .int .i64 y5), (4, .int .u16 y8), (5, .int .u16 y9), (20, .int .i64 y5), (23, .int .i64 y10)] ∧ St w no w1 [box b1 (cPasture.enc a0) 31] [] ∧ impl_ValidPasture.l2 a0 y5 k y8 y9 y10 = some j177) k (F' := [(1, .pointer (some ⟨b1, 0, none⟩)), (3, .int .i64 y5), (4, .int .u16 0), (5, .int .u16 0), (20, .int .i64 y5), (23, .int .i64 0)]) ⟨Z, Z, Z, Z, Z, Z, trivial⟩ ⟨0, 0, 0, Z, hS.pick [0] [] Z, H⟩ ?_
          rintro k F w1 ⟨y8, y9, y10, rfl, hS, H⟩
          cases k with
          | zero => rw [impl_ValidPasture.l2] at H; cases H
          | succ k =>
            rw [impl_ValidPasture.l2] at H
            refine CJ.seq (CJ.region ?_)
            refine OJ.pures oU 1 Z (OJ.nil (EJ.next ?_))
            refine CJ.seq ?_
            refine CJ.cond Z (fun hb => ?_) (fun hb => ?_)
            · replace H := pif_t (of_decide_eq_true hb) H
              refine CJ.skip (EJ.next ?_)
              refine CJ.seq ?_
              refine CJ.block ?_
              refine CJ.seq (CJ.region ?_)
              refine OJ.pures oU 2 Z (OJ.nil (EJ.next ?_))
              refine CJ.seq (CJ.region ?_)
              refine OJ.pures oU 1 Z (OJ.nil (EJ.next ?_))
              refine CJ.seq ?_
              refine CJ.seq (CJ.region ?_)
              refine OJ.st Z Z Z (SR.load Z Z (fun w' hx => ldE oU oI Z Z Z (CA.ext (hS.cells (i := 0) Z) hx) Z)) ?_
              refine OJ.pures oU 4 Z ?_
              refine OJ.st Z Z Z (SR.build (C := cSpot) oU oI Z Z Z (zs := [.int .i8 0, .int .i8 0]) Z Z Z (⟨IntKind.i8.wrap y10, IntKind.i8.wrap y5⟩ : Spot) Z) ?_
              obtain ⟨t11, ht11, H⟩ := pbind H
              refine OJ.callF Z Z Z Z Z hb67 Z (impl_Pasture_isCell.c _ a0 (⟨IntKind.i8.wrap y10, IntKind.i8.wrap y5⟩ : Spot) _ ht11) ?_
              rintro _ w1 ⟨rfl, hs⟩
              replace hS := hS.grow hs
              refine OJ.nil (EJ.next ?_)
              refine CJ.cond Z (fun hb => ?_) (fun hb => ?_)
              · replace H := pif_t hb H
                refine CJ.seq (CJ.region ?_)
                refine OJ.pures oU 1 Z (OJ.nil (EJ.next ?_))
                refine CJ.seq (CJ.region ?_)
                refine OJ.pures oU 1 Z ?_
                refine OJ.st Z Z Z (SR.load Z Z (fun w' hx => ldE oU oI Z Z Z (CA.ext (hS.cells (i := 0) Z) hx) Z)) ?_
                refine OJ.pures oU 5 Z ?_
                refine OJ.st Z Z Z (SR.build (C := cSpot) oU oI Z Z Z (zs := [.int .i8 0, .int .i8 0]) Z Z Z (⟨IntKind.i8.wrap (IntKind.i64.wrap (y10 + 1)), IntKind.i8.wrap y5⟩ : Spot) Z) ?_
                obtain ⟨t12, ht12, H⟩ := pbind H
                refine OJ.callF Z Z Z Z Z hb67 Z (impl_Pasture_isCell.c _ a0 (⟨IntKind.i8.wrap (IntKind.i64.wrap (y10 + 1)), IntKind.i8.wrap y5⟩ : Spot) _ ht12) ?_
                rintro _ w1 ⟨rfl, hs⟩
                replace hS := hS.grow hs
                obtain ⟨t13, ht13, H⟩ := pbind H
                refine OJ.callF Z Z Z Z Z hb68 Z (impl_bit.c _ t12 _ ht13) ?_
                rintro _ w1 ⟨rfl, hs⟩
                replace hS := hS.grow hs
                refine OJ.pures oU 2 Z ?_
                obtain ⟨u14, hu14, H⟩ := pbind H
                refine OJ.st Z Z Z (SR.shl Z Z Z (chk_some hu14)) ?_
                refine OJ.pures oU 2 Z (OJ.nil (EJ.next ?_))
                refine CJ.region ?_
                refine OJ.pures oU 1 Z ?_
                refine OJ.st Z Z Z (SR.load Z Z (fun w' hx => ldE oU oI Z Z Z (CA.ext (hS.cells (i := 0) Z) hx) Z)) ?_
                refine OJ.pures oU 5 Z ?_
                refine OJ.st Z Z Z (SR.build (C := cSpot) oU oI Z Z Z (zs := [.int .i8 0, .int .i8 0]) Z Z Z (⟨IntKind.i8.wrap y10, IntKind.i8.wrap (IntKind.i64.wrap (y5 + 1))⟩ : Spot) Z) ?_
                obtain ⟨t15, ht15, H⟩ := pbind H
                refine OJ.callF Z Z Z Z Z hb67 Z (impl_Pasture_isCell.c _ a0 (⟨IntKind.i8.wrap y10, IntKind.i8.wrap (IntKind.i64.wrap (y5 + 1))⟩ : Spot) _ ht15) ?_
                rintro _ w1 ⟨rfl, hs⟩
                replace hS := hS.grow hs
                obtain ⟨t16, ht16, H⟩ := pbind H
                refine OJ.callF Z Z Z Z Z hb68 Z (impl_bit.c _ t15 _ ht16) ?_
                rintro _ w1 ⟨rfl, hs⟩
                replace hS := hS.grow hs
                refine OJ.pures oU 2 Z ?_
                obtain ⟨u17, hu17, H⟩ := pbind H
                refine OJ.st Z Z Z (SR.shl Z Z Z (chk_some hu17)) ?_
                refine OJ.pures oU 2 Z (OJ.nil (EJ.next ?_))
                refine CJ.seq (CJ.region ?_)
                refine OJ.pures oU 2 Z ?_
                refine OJ.st Z Z Z (SR.fieldAddr oU oI Z Z Z Z Z Z) ?_
                obtain ⟨t18, ht18, H⟩ := pbind H
                refine OJ.st Z Z Z (SR.idxA oU oI Z Z Z Z Z (Arr.lt ht18)) ?_
                obtain ⟨t19, ht19, H⟩ := pbind H
                refine OJ.st Z Z Z (SR.idxA oU oI Z Z Z Z Z (Arr.lt ht19)) ?_
                refine OJ.st Z Z Z (SR.load Z Z (fun w' hx => ld1 oU Z Z (CA.ext (CA.idx (CA.idx (CA.fld (hS.cells (i := 0) Z) (mid_part (fe_Pasture_2 _) (fl_Pasture_2 _) ((carr 10 (carr 10 (ci .i16))).len _))) ht18) ht19) hx) Z)) ?_
                refine OJ.pures oU 2 Z ?_
                obtain ⟨t20, ht20, H⟩ := pbind H
                refine OJ.callF Z Z Z Z Z hb66 Z (impl_within.c _ (IntKind.i64.wrap t19) 0 1000 _ ht20) ?_
                rintro _ w1 ⟨rfl, hs⟩
                replace hS := hS.grow hs
                refine OJ.pures oU 1 Z (OJ.nil (EJ.next ?_))
                refine CJ.cond Z (fun hb => ?_) (fun hb => ?_)
                · replace H := pif_t hb H
                  refine CJ.seq (CJ.region ?_)
                  refine OJ.pures oU 1 Z (OJ.nil (EJ.next ?_))
                  refine CJ.ret (EJ.bkR (EJ.skR (EJ.skR (EJ.bkR (EJ.skR (EJ.skR (EJ.bkR (EJ.skR (EJ.skR (EJ.bkR (EJ.skR (EJ.skR (?_)))))))))))))
                  first | (obtain rfl := Option.some.inj H; have H := K177) | (obtain ⟨q177, H2, e177⟩ := pbind H; obtain rfl := Option.some.inj e177; obtain rfl := Option.some.inj K177; have H := H2)
                  first | (obtain rfl := Option.some.inj H; have H := K175) | (obtain ⟨q175, H2, e175⟩ := pbind H; obtain rfl := Option.some.inj e175; obtain rfl := Option.some.inj K175; have H := H2)
                  first | (obtain rfl := Option.some.inj H; have H := K168) | (obtain ⟨q168, H2, e168⟩ := pbind H; obtain rfl := Option.some.inj e168; obtain rfl := Option.some.inj K168; have H := H2)
                  obtain rfl := Option.some.inj H
                  exact EJ.fin Z (.tmp Z .nil) ⟨Z, hS.ext⟩
                · replace H := pifb_f hb H
                  refine CJ.skip (EJ.blk (EJ.next ?_))
                  refine CJ.region ?_
                  refine OJ.pures oU 2 Z ?_
                  refine OJ.nil ?_
                  exact EJ.round k (F' := [(1, .pointer (some ⟨b1, 0, none⟩)), (3, .int .i64 y5), (4, .int .u16 (orI .u16 y8 (shlI .u16 (IntKind.u16.wrap t13) y10))), (5, .int .u16 (orI .u16 y9 (shlI .u16 (IntKind.u16.wrap t16) y10))), (20, .int .i64 y5), (23, .int .i64 (IntKind.i64.wrap (y10 + 1)))]) ⟨Z, Z, Z, Z, Z, Z, trivial⟩ (Nat.lt_succ_self _) ⟨(orI .u16 y8 (shlI .u16 (IntKind.u16.wrap t13) y10)), (orI .u16 y9 (shlI .u16 (IntKind.u16.wrap t16) y10)), (IntKind.i64.wrap (y10 + 1)), Z, hS.pick [0] [] Z, H⟩
              · replace H := pifb_f hb H
                refine CJ.skip (EJ.next ?_)
                refine CJ.seq (CJ.region ?_)
                refine OJ.pures oU 2 Z ?_
                refine OJ.st Z Z Z (SR.fieldAddr oU oI Z Z Z Z Z Z) ?_
                obtain ⟨t21, ht21, H⟩ := pbind H
                refine OJ.st Z Z Z (SR.idxA oU oI Z Z Z Z Z (Arr.lt ht21)) ?_
                obtain ⟨t22, ht22, H⟩ := pbind H
                refine OJ.st Z Z Z (SR.idxA oU oI Z Z Z Z Z (Arr.lt ht22)) ?_
                refine OJ.st Z Z Z (SR.load Z Z (fun w' hx => ld1 oU Z Z (CA.ext (CA.idx (CA.idx (CA.fld (hS.cells (i := 0) Z) (mid_part (fe_Pasture_2 _) (fl_Pasture_2 _) ((carr 10 (carr 10 (ci .i16))).len _))) ht21) ht22) hx) Z)) ?_
                refine OJ.pures oU 2 Z ?_
                obtain ⟨t23, ht23, H⟩ := pbind H
                refine OJ.callF Z Z Z Z Z hb66 Z (impl_within.c _ (IntKind.i64.wrap t22) 0 0 _ ht23) ?_
                rintro _ w1 ⟨rfl, hs⟩
                replace hS := hS.grow hs
                refine OJ.pures oU 1 Z (OJ.nil (EJ.next ?_))
                refine CJ.cond Z (fun hb => ?_) (fun hb => ?_)
                · replace H := pif_t hb H
                  refine CJ.seq (CJ.region ?_)
                  refine OJ.pures oU 1 Z (OJ.nil (EJ.next ?_))
                  refine CJ.ret (EJ.bkR (EJ.skR (EJ.skR (EJ.bkR (EJ.skR (EJ.skR (EJ.bkR (EJ.skR (EJ.skR (EJ.bkR (EJ.skR (EJ.skR (?_)))))))))))))
                  first | (obtain rfl := Option.some.inj H; have H := K177) | (obtain ⟨q177, H2, e177⟩ := pbind H; obtain rfl := Option.some.inj e177; obtain rfl := Option.some.inj K177; have H := H2)
                  first | (obtain rfl := Option.some.inj H; have H := K175) | (obtain ⟨q175, H2, e175⟩ := pbind H; obtain rfl := Option.some.inj e175; obtain rfl := Option.some.inj K175; have H := H2)
                  first | (obtain rfl := Option.some.inj H; have H := K168) | (obtain ⟨q168, H2, e168⟩ := pbind H; obtain rfl := Option.some.inj e168; obtain rfl := Option.some.inj K168; have H := H2)
                  obtain rfl := Option.some.inj H
                  exact EJ.fin Z (.tmp Z .nil) ⟨Z, hS.ext⟩
                · replace H := pifb_f hb H
                  refine CJ.skip (EJ.blk (EJ.next ?_))
                  refine CJ.region ?_
                  refine OJ.pures oU 2 Z ?_
                  refine OJ.nil ?_
                  exact EJ.round k (F' := [(1, .pointer (some ⟨b1, 0, none⟩)), (3, .int .i64 y5), (4, .int .u16 y8), (5, .int .u16 y9), (20, .int .i64 y5), (23, .int .i64 (IntKind.i64.wrap (y10 + 1)))]) ⟨Z, Z, Z, Z, Z, Z, trivial⟩ (Nat.lt_succ_self _) ⟨y8, y9, (IntKind.i64.wrap (y10 + 1)), Z, hS.pick [0] [] Z, H⟩
            · replace H := pif_f (of_decide_eq_false hb) H
              refine CJ.exit (EJ.skE (EJ.skE (EJ.hit (?_))))
              exact EJ.meet (F' := [(1, .pointer (some ⟨b1, 0, none⟩)), (3, .int .i64 y5), (4, .int .u16 y8), (5, .int .u16 y9), (20, .int .i64 y5)]) ⟨Z, Z, Z, Z, Z, trivial⟩ ⟨y8, y9, H, Z, hS.pick [0] [] Z⟩
        · rintro F w1 ⟨y6, y7, he, rfl, hS⟩
          obtain rfl := Option.some.inj he
          have H := K177
          refine EJ.next ?_
          refine CJ.seq (CJ.region ?_)
          refine OJ.pures oU 1 Z ?_
          refine OJ.st Z Z Z (SR.fieldAddr oU oI Z Z Z Z Z Z) ?_
          obtain ⟨t24, ht24, H⟩ := pbind H
          refine OJ.st Z Z Z (SR.idxA oU oI Z Z Z Z Z (Arr.lt ht24)) ?_
          refine OJ.st Z Z Z (SR.load Z Z (fun w' hx => ld1 oU Z Z (CA.ext (CA.idx (CA.fld (hS.cells (i := 0) Z) (mid_part (fe_Pasture_3 _) (fl_Pasture_3 _) ((carr 10 (ci .u16)).len _))) ht24) hx) Z)) ?_
          refine OJ.pures oU 4 Z ?_
          refine OJ.split (t := 79) Z (fun hb => ?_) (fun hb => ?_)
          · replace H := pif_t (of_decide_eq_true hb) H
            refine OJ.pures oU 8 Z (OJ.nil (EJ.next ?_))
            refine CJ.condT Z ?_
            refine CJ.seq (CJ.region ?_)
            refine OJ.pures oU 1 Z (OJ.nil (EJ.next ?_))
            refine CJ.ret (EJ.bkR (EJ.skR (EJ.skR (EJ.bkR (EJ.skR (EJ.skR (?_)))))))
            first | (obtain rfl := Option.some.inj H; have H := K175) | (obtain ⟨q175, H2, e175⟩ := pbind H; obtain rfl := Option.some.inj e175; obtain rfl := Option.some.inj K175; have H := H2)
            first | (obtain rfl := Option.some.inj H; have H := K168) | (obtain ⟨q168, H2, e168⟩ := pbind H; obtain rfl := Option.some.inj e168; obtain rfl := Option.some.inj K168; have H := H2)
            obtain rfl := Option.some.inj H
            exact EJ.fin Z (.tmp Z .nil) ⟨Z, hS.ext⟩
          · replace H := pif_f (of_decide_eq_false hb) H
            refine OJ.pures oU 1 Z ?_
            refine OJ.st Z Z Z (SR.fieldAddr oU oI Z Z Z Z Z Z) ?_
            obtain ⟨t25, ht25, H⟩ := pbind H
            refine OJ.st Z Z Z (SR.idxA oU oI Z Z Z Z Z (Arr.lt ht25)) ?_
            refine OJ.st Z Z Z (SR.load Z Z (fun w' hx => ld1 oU Z Z (CA.ext (CA.idx (CA.fld (hS.cells (i := 0) Z) (mid_part (fe_Pasture_4 _) (fl_Pasture_4 _) ((carr 10 (ci .u16)).len _))) ht25) hx) Z)) ?_
            refine OJ.pures oU 4 Z (OJ.nil (EJ.next ?_))
            refine CJ.cond Z (fun hb => ?_) (fun hb => ?_)
            · replace H := pif_t (of_decide_eq_true hb) H
              refine CJ.seq (CJ.region ?_)
              refine OJ.pures oU 1 Z (OJ.nil (EJ.next ?_))
              refine CJ.ret (EJ.bkR (EJ.skR (EJ.skR (EJ.bkR (EJ.skR (EJ.skR (?_)))))))
              first | (obtain rfl := Option.some.inj H; have H := K175) | (obtain ⟨q175, H2, e175⟩ := pbind H; obtain rfl := Option.some.inj e175; obtain rfl := Option.some.inj K175; have H := H2)
              first | (obtain rfl := Option.some.inj H; have H := K168) | (obtain ⟨q168, H2, e168⟩ := pbind H; obtain rfl := Option.some.inj e168; obtain rfl := Option.some.inj K168; have H := H2)
              obtain rfl := Option.some.inj H
              exact EJ.fin Z (.tmp Z .nil) ⟨Z, hS.ext⟩
            · replace H := pif_f (of_decide_eq_false hb) H
              refine CJ.skip (EJ.blk (?_))
              exact EJ.meet (F' := [(1, .pointer (some ⟨b1, 0, none⟩)), (20, .int .i64 y5)]) ⟨Z, Z, trivial⟩ ⟨H, Z, hS.pick [0] [] Z⟩
      · rintro F w1 ⟨he, rfl, hS⟩
        obtain rfl := Option.some.inj he
        have H := K175
        refine CJ.region ?_
        refine OJ.pures oU 2 Z ?_
        refine OJ.nil ?_
        exact EJ.round k (F' := [(1, .pointer (some ⟨b1, 0, none⟩)), (20, .int .i64 (IntKind.i64.wrap (y5 + 1)))]) ⟨Z, Z, trivial⟩ (Nat.lt_succ_self _) ⟨(IntKind.i64.wrap (y5 + 1)), Z, hS.pick [0] [] Z, H⟩
    · replace H := pif_f (of_decide_eq_false hb) H
      refine CJ.exit (EJ.skE (EJ.skE (EJ.hit (?_))))
      exact EJ.meet (F' := []) trivial ⟨H, Z, hS.pick [] [] Z⟩
 rintro F w1 ⟨he, rfl, hS⟩
 obtain rfl := Option.some.inj he
 have H := K168
 refine EJ.next ?_
 refine CJ.seq (CJ.region ?_)
 refine OJ.pures oU 1 Z (OJ.nil (EJ.next ?_))
 refine CJ.ret (?_)
 obtain rfl := Option.some.inj H
 exact EJ.fin Z (.tmp Z .nil) ⟨Z, hS.ext⟩

def impl_Pasture_cells.l2 (a0 : Pasture) (a1 : Spot → Option Bool) (y9 : Int) : Nat → (List Spot) → Int → Option (List Spot)
  | 0, _, _ => none
  | k + 1, y16, y19 => if y19 < a0.Wide then ((a1 (⟨y19, y9⟩ : Spot)).bind fun t21 => if t21 = true then ((chk (y16.length + ([(⟨y19, y9⟩ : Spot)] : List Spot).length ≤ 4294967296)).bind fun u23 => impl_Pasture_cells.l2 a0 a1 y9 k (y16 ++ ([(⟨y19, y9⟩ : Spot)] : List Spot)) (IntKind.i8.wrap (y19 + 1))) else (impl_Pasture_cells.l2 a0 a1 y9 k y16 (IntKind.i8.wrap (y19 + 1)))) else (some y16)
def impl_Pasture_cells.l1 (a0 : Pasture) (a1 : Spot → Option Bool) : Nat → (List Spot) → Int → Option (List Spot)
  | 0, _, _ => none
  | k + 1, y6, y9 => if y9 < a0.High then (((impl_Pasture_cells.l2 a0 a1 y9 k y6 0).bind fun y13 => some y13).bind fun y10 => impl_Pasture_cells.l1 a0 a1 k y10 (IntKind.i8.wrap (y9 + 1))) else (some y6)
def impl_Pasture_cells.f (k : Nat) (a0 : Pasture) (a1 : Spot → Option Bool) : Option (List Spot) := (impl_Pasture_cells.l1 a0 a1 k ([] : List Spot) 0).bind fun y3 => some y3
theorem impl_Pasture_cells.c (k : Nat) (w : World) (a0 : Pasture) (na1 : Nat) (fsa1 capa1 : Array Value) (hb1 : hasBody Tryz.prog na1) (a1 : Spot → Option Bool) (hf1 : ∀ (z0 : Spot) (r : Bool), a1 z0 = some r → ∀ w', Chg no w w' → CV Tryz.prog na1 (fsa1 ++ [.agg (cSpot.enc z0).toArray].toArray ++ capa1) w' fun v w'' => v = .bool r ∧ Ext w' w'') (r : List Spot) (H : impl_Pasture_cells.f k a0 a1 = some r) :
 CV Tryz.prog 57 [.agg (cPasture.enc a0).toArray, .func (.func na1) fsa1 capa1].toArray w fun v w' => ∃ (A0 : Option Addr) (c0 : Nat), v = .slice A0 r.length c0 ∧ St w no w' [rowC cSpot A0 c0 45 r] [] := by
 have hS := (St.init w no)
 unfold impl_Pasture_cells.f at H
 refine CV.body Tryz.func57 Z Tryz.ntmps57 Z ?_
 refine CJ.seq (CJ.region ?_)
 refine OJ.ef Z Z Z (Ef.box hS Z Z (cPasture.enc a0) Z) ?_
 rintro _ w1 ⟨b1, rfl, hS⟩
 refine OJ.pures oU 1 Z (OJ.nil (EJ.next ?_))
 refine CJ.seq (CJ.region ?_)
 refine OJ.ef Z Z Z (Ef.lit oU oI hS (C := cSpot) Z Z Z Z Z Z ([] : List Spot) Z Z Z Z) ?_
 rintro _ w1 ⟨A2, rfl, hS⟩
 refine OJ.pures oU 1 Z (OJ.nil (EJ.next ?_))
 refine CJ.seq ?_
 refine CJ.seq (CJ.region ?_)
 refine OJ.st Z Z Z (SR.fieldAddr oU oI Z Z Z Z Z Z) ?_
 refine OJ.st Z Z Z (SR.load Z Z (fun w' hx => ld1 oU Z Z (CA.ext (CA.fld (hS.cells (i := 0) Z) (mid_part (fe_Pasture_1 _) (fl_Pasture_1 _) ((ci .i8).len _))) hx) Z)) ?_
 refine OJ.pures oU 1 Z (OJ.nil (EJ.next ?_))
 obtain ⟨j178, H, K178⟩ := pbind H
 refine CJ.cut1 (fun F w1 => ∃ (y3 : List Spot) (A4 : Option Addr) (c5 : Nat), (some y3 : Option (List Spot)) = some j178 ∧ F = [(5, .slice A4 y3.length c5)] ∧ St w no w1 [rowC cSpot A4 c5 45 y3] []) ?_ ?_
 ·skip
  refine CJ.block ?_
  refine CJ.loop (fun k F w1 => ∃ (y6 : List Spot) (y9 : Int) (A7 : Option Addr) (c8 : Nat), F = [(1, .func (.func na1) fsa1 capa1), (2, .pointer (some ⟨b1, 0, none⟩)), (5, .slice A7 y6.length c8), (11, .int .i8 a0.High), (12, .int .i8 y9)] ∧ St w no w1 [box b1 (cPasture.enc a0) 31, rowC cSpot A7 c8 45 y6] [] ∧ impl_Pasture_cells.l1 a0 a1 k y6 y9 = some j178) k (F' := [(1, .func (.func na1) fsa1 capa1), (2, .pointer (some ⟨b1, 0, none⟩)), (5, .slice A2 ([] : List Spot).length (([] : List Spot).length)), (11, .int .i8 a0.High), (12, .int .i8 0)]) ⟨Z, Z, Z, Z, Z, trivial⟩ ⟨([] : List Spot), 0, A2, (([] : List Spot).length), Z, hS.pick [0, 1] [] Z, H⟩ ?_
  rintro k F w1 ⟨y6, y9, A7, c8, rfl, hS, H⟩
  cases k with
  | zero => rw [impl_Pasture_cells.l1] at H; cases H
  | succ k =>
    rw [impl_Pasture_cells.l1] at H
    refine CJ.seq (CJ.region ?_)
    refine OJ.pures oU 1 Z (OJ.nil (EJ.next ?_))
    refine CJ.seq ?_
    refine CJ.cond Z (fun hb => ?_) (fun hb => ?_)
    · replace H := pif_t (of_decide_eq_true hb) H
      refine CJ.skip (EJ.next ?_)
      obtain ⟨j185, H, K185⟩ := pbind H
      refine CJ.cut (fun F w1 => ∃ (y10 : List Spot) (A11 : Option Addr) (c12 : Nat), (some y10 : Option (List Spot)) = some j185 ∧ F = [(1, .func (.func na1) fsa1 capa1), (2, .pointer (some ⟨b1, 0, none⟩)), (5, .slice A11 y10.length c12), (11, .int .i8 a0.High), (12, .int .i8 y9)] ∧ St w no w1 [box b1 (cPasture.enc a0) 31, rowC cSpot A11 c12 45 y10] []) ?_ ?_
      · skip
        refine CJ.block ?_
        refine CJ.seq (CJ.region ?_)
        refine OJ.pures oU 2 Z (OJ.nil (EJ.next ?_))
        refine CJ.seq (CJ.region ?_)
        refine OJ.st Z Z Z (SR.fieldAddr oU oI Z Z Z Z Z Z) ?_
        refine OJ.st Z Z Z (SR.load Z Z (fun w' hx => ld1 oU Z Z (CA.ext (CA.fld (hS.cells (i := 0) Z) (mid_part (fe_Pasture_0 _) (fl_Pasture_0 _) ((ci .i8).len _))) hx) Z)) ?_
        refine OJ.pures oU 1 Z (OJ.nil (EJ.next ?_))
        obtain ⟨j187, H, K187⟩ := pbind H
        refine CJ.cut1 (fun F w1 => ∃ (y13 : List Spot) (A14 : Option Addr) (c15 : Nat), (some y13 : Option (List Spot)) = some j187 ∧ F = [(1, .func (.func na1) fsa1 capa1), (2, .pointer (some ⟨b1, 0, none⟩)), (5, .slice A14 y13.length c15), (11, .int .i8 a0.High), (12, .int .i8 y9)] ∧ St w no w1 [box b1 (cPasture.enc a0) 31, rowC cSpot A14 c15 45 y13] []) ?_ ?_
        · skip
          refine CJ.block ?_
          refine CJ.loop (fun k F w1 => ∃ (y16 : List Spot) (y19 : Int) (A17 : Option Addr) (c18 : Nat), F = [(1, .func (.func na1) fsa1 capa1), (2, .pointer (some ⟨b1, 0, none⟩)), (5, .slice A17 y16.length c18), (6, .int .i8 y9), (11, .int .i8 a0.High), (12, .int .i8 y9), (16, .int .i8 a0.Wide), (17, .int .i8 y19)] ∧ St w no w1 [box b1 (cPasture.enc a0) 31, rowC cSpot A17 c18 45 y16] [] ∧ impl_Pasture_cells.l2 a0 a1 y9 k y16 y19 = some j187) k (F' := [(1, .func (.func na1) fsa1 capa1), (2, .pointer (some ⟨b1, 0, none⟩)), (5, .slice A7 y6.length c8), (6, .int .i8 y9), (11, .int .i8 a0.High), (12, .int .i8 y9), (16, .int .i8 a0.Wide), (17, .int .i8 0)]) ⟨Z, Z, Z, Z, Z, Z, Z, Z, trivial⟩ ⟨y6, 0, A7, c8, Z, hS.pick [0, 1] [] Z, H⟩ ?_
          rintro k F w1 ⟨y16, y19, A17, c18, rfl, hS, H⟩
          cases k with
          | zero => rw [impl_Pasture_cells.l2] at H; cases H
          | succ k =>
            rw [impl_Pasture_cells.l2] at H
            refine CJ.seq (CJ.region ?_)
            refine OJ.pures oU 1 Z (OJ.nil (EJ.next ?_))
            refine CJ.seq ?_
            refine CJ.cond Z (fun hb => ?_) (fun hb => ?_)
            · replace H := pif_t (of_decide_eq_true hb) H
              refine CJ.skip (EJ.next ?_)
              refine CJ.seq ?_
              refine CJ.block ?_
              refine CJ.seq (CJ.region ?_)
              refine OJ.pures oU 2 Z (OJ.nil (EJ.next ?_))
              refine CJ.seq (CJ.region ?_)
              refine OJ.pures oU 2 Z ?_
              refine OJ.st Z Z Z (SR.build (C := cSpot) oU oI Z Z Z (zs := [.int .i8 0, .int .i8 0]) Z Z Z (⟨y19, y9⟩ : Spot) Z) ?_
              refine OJ.ef Z Z Z (Ef.alloc hS oI Z Z (cSpot.enc (⟨0, 0⟩ : Spot)) Z) ?_
              rintro _ w1 ⟨b20, rfl, hS⟩
              refine OJ.es Z Z (Es.store oI hS (i := 2) Z Z Z Z Z Z (vs := cSpot.enc (⟨y19, y9⟩ : Spot)) Z (cSpot.len _) (cSpot.one _) (Nat.le_of_ble_eq_true Z) (cSpot.enc (⟨y19, y9⟩ : Spot)) Z) ?_
              intro w1 hS
              refine OJ.nil (EJ.next ?_)
              refine CJ.seq (CJ.region ?_)
              refine OJ.pures oU 1 Z ?_
              refine OJ.st Z Z Z (SR.load Z Z (fun w' hx => ldE oU oI Z Z Z (CA.ext (hS.cells (i := 2) Z) hx) Z)) ?_
              obtain ⟨t21, ht21, H⟩ := pbind H
              refine OJ.call Z Z (Nat.le_of_ble_eq_true Z) Z Z Z hb1 Z (hf1 (⟨y19, y9⟩ : Spot) _ ht21 _ hS.chg) ?_
              rintro _ w1 ⟨rfl, hs⟩
              replace hS := hS.grow hs
              refine OJ.nil (EJ.next ?_)
              refine CJ.cond Z (fun hb => ?_) (fun hb => ?_)
              · replace H := pif_t hb H
                refine CJ.region ?_
                refine OJ.pures oU 1 Z ?_
                refine OJ.st Z Z Z (SR.load Z Z (fun w' hx => ldE oU oI Z Z Z (CA.ext (hS.cells (i := 2) Z) hx) Z)) ?_
                refine OJ.ef Z Z Z (Ef.lit oU oI hS (C := cSpot) Z Z Z Z Z Z ([(⟨y19, y9⟩ : Spot)] : List Spot) Z Z Z Z) ?_
                rintro _ w1 ⟨A22, rfl, hS⟩
                obtain ⟨u23, hu23, H⟩ := pbind H
                refine OJ.ew Z Z Z (Ew.append oU oI (C := cSpot) (xs := y16) (ys := ([(⟨y19, y9⟩ : Spot)] : List Spot)) hS (i := 1) Z Z Z Z Z Z Z Z Z Z Z Z Z (hS.rd (i := 3) Z) (chk_some hu23)) ?_
                rintro _ w1 ⟨A24, c25, rfl, hS⟩
                refine OJ.pures oU 1 Z ?_
                refine OJ.nil (EJ.blk (EJ.next ?_))
                refine CJ.region ?_
                refine OJ.pures oU 2 Z ?_
                refine OJ.nil ?_
                exact EJ.round k (F' := [(1, .func (.func na1) fsa1 capa1), (2, .pointer (some ⟨b1, 0, none⟩)), (5, .slice A24 (y16 ++ ([(⟨y19, y9⟩ : Spot)] : List Spot)).length c25), (6, .int .i8 y9), (11, .int .i8 a0.High), (12, .int .i8 y9), (16, .int .i8 a0.Wide), (17, .int .i8 (IntKind.i8.wrap (y19 + 1)))]) ⟨Z, Z, Z, Z, Z, Z, Z, Z, trivial⟩ (Nat.lt_succ_self _) ⟨(y16 ++ ([(⟨y19, y9⟩ : Spot)] : List Spot)), (IntKind.i8.wrap (y19 + 1)), A24, c25, Z, hS.pick [0, 1] [] Z, H⟩
              · replace H := pifb_f hb H
                refine CJ.skip (EJ.blk (EJ.next ?_))
                refine CJ.region ?_
                refine OJ.pures oU 2 Z ?_
                refine OJ.nil ?_
                exact EJ.round k (F' := [(1, .func (.func na1) fsa1 capa1), (2, .pointer (some ⟨b1, 0, none⟩)), (5, .slice A17 y16.length c18), (6, .int .i8 y9), (11, .int .i8 a0.High), (12, .int .i8 y9), (16, .int .i8 a0.Wide), (17, .int .i8 (IntKind.i8.wrap (y19 + 1)))]) ⟨Z, Z, Z, Z, Z, Z, Z, Z, trivial⟩ (Nat.lt_succ_self _) ⟨y16, (IntKind.i8.wrap (y19 + 1)), A17, c18, Z, hS.pick [0, 1] [] Z, H⟩
            · replace H := pif_f (of_decide_eq_false hb) H
              refine CJ.exit (EJ.skE (EJ.skE (EJ.hit (?_))))
              exact EJ.meet (F' := [(1, .func (.func na1) fsa1 capa1), (2, .pointer (some ⟨b1, 0, none⟩)), (5, .slice A17 y16.length c18), (11, .int .i8 a0.High), (12, .int .i8 y9)]) ⟨Z, Z, Z, Z, Z, trivial⟩ ⟨y16, A17, c18, H, Z, hS.pick [0, 1] [] Z⟩
        · rintro F w1 ⟨y13, A14, c15, he, rfl, hS⟩
          obtain rfl := Option.some.inj he
          have H := K187
          refine EJ.blk (?_)
          exact EJ.meet (F' := [(1, .func (.func na1) fsa1 capa1), (2, .pointer (some ⟨b1, 0, none⟩)), (5, .slice A14 y13.length c15), (11, .int .i8 a0.High), (12, .int .i8 y9)]) ⟨Z, Z, Z, Z, Z, trivial⟩ ⟨y13, A14, c15, H, Z, hS.pick [0, 1] [] Z⟩
      · rintro F w1 ⟨y10, A11, c12, he, rfl, hS⟩
        obtain rfl := Option.some.inj he
        have H := K185
        refine CJ.region ?_
        refine OJ.pures oU 2 Z ?_
        refine OJ.nil ?_
        exact EJ.round k (F' := [(1, .func (.func na1) fsa1 capa1), (2, .pointer (some ⟨b1, 0, none⟩)), (5, .slice A11 y10.length c12), (11, .int .i8 a0.High), (12, .int .i8 (IntKind.i8.wrap (y9 + 1)))]) ⟨Z, Z, Z, Z, Z, trivial⟩ (Nat.lt_succ_self _) ⟨y10, (IntKind.i8.wrap (y9 + 1)), A11, c12, Z, hS.pick [0, 1] [] Z, H⟩
    · replace H := pif_f (of_decide_eq_false hb) H
      refine CJ.exit (EJ.skE (EJ.skE (EJ.hit (?_))))
      exact EJ.meet (F' := [(5, .slice A7 y6.length c8)]) ⟨Z, trivial⟩ ⟨y6, A7, c8, H, Z, hS.pick [1] [] Z⟩
 rintro F w1 ⟨y3, A4, c5, he, rfl, hS⟩
 obtain rfl := Option.some.inj he
 have H := K178
 refine EJ.next ?_
 refine CJ.seq (CJ.region ?_)
 refine OJ.pures oU 2 Z (OJ.nil (EJ.next ?_))
 refine CJ.ret (?_)
 obtain rfl := Option.some.inj H
 exact EJ.fin Z (.tmp Z .nil) ⟨A4, c5, Z, hS.pick [0] [] Z⟩

def impl_Pasture_all_1.f (a0 : Spot) : Option Bool := some true
theorem impl_Pasture_all_1.c (w : World) (a0 : Spot) (r : Bool) (H : impl_Pasture_all_1.f a0 = some r) :
 CV Tryz.prog 87 [.agg (cSpot.enc a0).toArray].toArray w fun v w' => v = .bool r ∧ Ext w w' := by
 have hS := (St.init w no)
 unfold impl_Pasture_all_1.f at H
 refine CV.body Tryz.func87 Z Tryz.ntmps87 Z ?_
 refine CJ.seq (CJ.region ?_)
 refine OJ.ef Z Z Z (Ef.box hS Z Z (cSpot.enc a0) Z) ?_
 rintro _ w1 ⟨b1, rfl, hS⟩
 refine OJ.pures oU 1 Z (OJ.nil (EJ.next ?_))
 refine CJ.seq (CJ.region ?_)
 refine OJ.pures oU 1 Z (OJ.nil (EJ.next ?_))
 refine CJ.ret (?_)
 obtain rfl := Option.some.inj H
 exact EJ.fin Z (.tmp Z .nil) ⟨Z, hS.ext⟩

def impl_Pasture_all.f (k : Nat) (a0 : Pasture) : Option (List Spot) := (impl_Pasture_cells.f k a0 impl_Pasture_all_1.f).bind fun t2 => some t2
theorem impl_Pasture_all.c (k : Nat) (w : World) (a0 : Pasture) (r : List Spot) (H : impl_Pasture_all.f k a0 = some r) :
 CV Tryz.prog 76 [.agg (cPasture.enc a0).toArray].toArray w fun v w' => ∃ (A0 : Option Addr) (c0 : Nat), v = .slice A0 r.length c0 ∧ St w no w' [rowC cSpot A0 c0 45 r] [] := by
 have hS := (St.init w no)
 unfold impl_Pasture_all.f at H
 refine CV.body Tryz.func76 Z Tryz.ntmps76 Z ?_
 refine CJ.seq (CJ.region ?_)
 refine OJ.ef Z Z Z (Ef.box hS Z Z (cPasture.enc a0) Z) ?_
 rintro _ w1 ⟨b1, rfl, hS⟩
 refine OJ.pures oU 1 Z (OJ.nil (EJ.next ?_))
 refine CJ.seq (CJ.region ?_)
 refine OJ.st Z Z Z (SR.load Z Z (fun w' hx => ldE oU oI Z Z Z (CA.ext (hS.cells (i := 0) Z) hx) Z)) ?_
 obtain ⟨t2, ht2, H⟩ := pbind H
 refine OJ.callF rfl rfl rfl rfl rfl hb57 rfl (impl_Pasture_cells.c k _ a0 87 #[] #[] hb87 impl_Pasture_all_1.f (fun z0 r h w' hx => CV.cast (impl_Pasture_all_1.c w'   z0 r h) (by simp)) _ ht2) ?_
 rintro _ w1 ⟨A3, c4, rfl, hs⟩
 replace hS := hS.addN hs
 refine OJ.pures oU 1 Z (OJ.nil (EJ.next ?_))
 refine CJ.ret (?_)
 obtain rfl := Option.some.inj H
 exact EJ.fin Z (.tmp Z .nil) ⟨A3, c4, Z, hS.pick [1] [] Z⟩

def impl_Spot_ahead.f (a0 : Spot) (a1 : Int) : Option Spot := if a1 = 0 then (some (⟨a0.X, IntKind.i8.wrap (a0.Y - 1)⟩ : Spot)) else (if a1 = 1 then (some (⟨IntKind.i8.wrap (a0.X + 1), a0.Y⟩ : Spot)) else (if a1 = 2 then (some (⟨a0.X, IntKind.i8.wrap (a0.Y + 1)⟩ : Spot)) else (some (⟨IntKind.i8.wrap (a0.X - 1), a0.Y⟩ : Spot))))
theorem impl_Spot_ahead.c (w : World) (a0 : Spot) (a1 : Int) (r : Spot) (H : impl_Spot_ahead.f a0 a1 = some r) :
 CV Tryz.prog 69 [.agg (cSpot.enc a0).toArray, .int .i64 a1].toArray w fun v w' => v = .agg (cSpot.enc r).toArray ∧ Ext w w' := by
 have hS := (St.init w no)
 unfold impl_Spot_ahead.f at H
 refine CV.body Tryz.func69 Z Tryz.ntmps69 Z ?_
 refine CJ.seq (CJ.region ?_)
 refine OJ.ef Z Z Z (Ef.box hS Z Z (cSpot.enc a0) Z) ?_
 rintro _ w1 ⟨b1, rfl, hS⟩
 refine OJ.ef Z Z Z (Ef.alloc hS oI Z Z (cSpot.enc (⟨0, 0⟩ : Spot)) Z) ?_
 rintro _ w1 ⟨b2, rfl, hS⟩
 refine OJ.nil (EJ.next ?_)
 refine CJ.seq ?_
 refine CJ.seq (CJ.region ?_)
 refine OJ.pures oU 1 Z (OJ.nil (EJ.next ?_))
 refine CJ.block ?_
 refine CJ.seq (CJ.region ?_)
 refine OJ.pures oU 2 Z (OJ.nil (EJ.next ?_))
 refine CJ.cond Z (fun hb => ?_) (fun hb => ?_)
 ·replace H := pif_t (of_decide_eq_true hb) H
  refine CJ.region ?_
  refine OJ.st Z Z Z (SR.fieldAddr oU oI Z Z Z Z Z Z) ?_
  refine OJ.st Z Z Z (SR.load Z Z (fun w' hx => ld1 oU Z Z (CA.ext (CA.sub (hS.cells (i := 0) Z) 1) hx) Z)) ?_
  refine OJ.pures oU 1 Z ?_
  refine OJ.st Z Z Z (SR.fieldAddr oU oI Z Z Z Z Z Z) ?_
  refine OJ.es Z Z (Es.store oI hS (i := 0) Z Z Z (G.ad1 _ _) Z Z (vs := (ci .i8).enc (IntKind.i8.wrap (a0.Y - 1))) Z Z (one1 Z) (Nat.le_of_ble_eq_true Z) (cSpot.enc (⟨a0.X, IntKind.i8.wrap (a0.Y - 1)⟩ : Spot)) Z) ?_
  intro w1 hS
  refine OJ.nil (EJ.blk (EJ.next ?_))
  refine CJ.seq (CJ.region ?_)
  refine OJ.st Z Z Z (SR.load Z Z (fun w' hx => ldE oU oI Z Z Z (CA.ext (hS.cells (i := 0) Z) hx) Z)) ?_
  refine OJ.es Z Z (Es.store oI hS (i := 1) Z Z Z Z Z Z (vs := cSpot.enc (⟨a0.X, IntKind.i8.wrap (a0.Y - 1)⟩ : Spot)) Z (cSpot.len _) (cSpot.one _) (Nat.le_of_ble_eq_true Z) (cSpot.enc (⟨a0.X, IntKind.i8.wrap (a0.Y - 1)⟩ : Spot)) Z) ?_
  intro w1 hS
  refine OJ.nil (EJ.next ?_)
  refine CJ.ret (?_)
  obtain rfl := Option.some.inj H
  exact EJ.fin Z (.cell Z (ldE oU oI Z Z Z (hS.cells (i := 1) Z) Z) .nil) ⟨Z, hS.ext⟩
 replace H := pif_f (of_decide_eq_false hb) H
 refine CJ.seq (CJ.region ?_)
 refine OJ.pures oU 2 Z (OJ.nil (EJ.next ?_))
 refine CJ.cond Z (fun hb => ?_) (fun hb => ?_)
 ·replace H := pif_t (of_decide_eq_true hb) H
  refine CJ.region ?_
  refine OJ.st Z Z Z (SR.fieldAddr oU oI Z Z Z Z Z Z) ?_
  refine OJ.st Z Z Z (SR.load Z Z (fun w' hx => ld1 oU Z Z (CA.ext (CA.sub (hS.cells (i := 0) Z) 0) hx) Z)) ?_
  refine OJ.pures oU 1 Z ?_
  refine OJ.st Z Z Z (SR.fieldAddr oU oI Z Z Z Z Z Z) ?_
  refine OJ.es Z Z (Es.store oI hS (i := 0) Z Z Z (G.ad1 _ _) Z Z (vs := (ci .i8).enc (IntKind.i8.wrap (a0.X + 1))) Z Z (one1 Z) (Nat.le_of_ble_eq_true Z) (cSpot.enc (⟨IntKind.i8.wrap (a0.X + 1), a0.Y⟩ : Spot)) Z) ?_
  intro w1 hS
  refine OJ.nil (EJ.blk (EJ.next ?_))
  refine CJ.seq (CJ.region ?_)
  refine OJ.st Z Z Z (SR.load Z Z (fun w' hx => ldE oU oI Z Z Z (CA.ext (hS.cells (i := 0) Z) hx) Z)) ?_
  refine OJ.es Z Z (Es.store oI hS (i := 1) Z Z Z Z Z Z (vs := cSpot.enc (⟨IntKind.i8.wrap (a0.X + 1), a0.Y⟩ : Spot)) Z (cSpot.len _) (cSpot.one _) (Nat.le_of_ble_eq_true Z) (cSpot.enc (⟨IntKind.i8.wrap (a0.X + 1), a0.Y⟩ : Spot)) Z) ?_
  intro w1 hS
  refine OJ.nil (EJ.next ?_)
  refine CJ.ret (?_)
  obtain rfl := Option.some.inj H
  exact EJ.fin Z (.cell Z (ldE oU oI Z Z Z (hS.cells (i := 1) Z) Z) .nil) ⟨Z, hS.ext⟩
 replace H := pif_f (of_decide_eq_false hb) H
 refine CJ.seq (CJ.region ?_)
 refine OJ.pures oU 2 Z (OJ.nil (EJ.next ?_))
 refine CJ.cond Z (fun hb => ?_) (fun hb => ?_)
 ·replace H := pif_t (of_decide_eq_true hb) H
  refine CJ.region ?_
  refine OJ.st Z Z Z (SR.fieldAddr oU oI Z Z Z Z Z Z) ?_
  refine OJ.st Z Z Z (SR.load Z Z (fun w' hx => ld1 oU Z Z (CA.ext (CA.sub (hS.cells (i := 0) Z) 1) hx) Z)) ?_
  refine OJ.pures oU 1 Z ?_
  refine OJ.st Z Z Z (SR.fieldAddr oU oI Z Z Z Z Z Z) ?_
  refine OJ.es Z Z (Es.store oI hS (i := 0) Z Z Z (G.ad1 _ _) Z Z (vs := (ci .i8).enc (IntKind.i8.wrap (a0.Y + 1))) Z Z (one1 Z) (Nat.le_of_ble_eq_true Z) (cSpot.enc (⟨a0.X, IntKind.i8.wrap (a0.Y + 1)⟩ : Spot)) Z) ?_
  intro w1 hS
  refine OJ.nil (EJ.blk (EJ.next ?_))
  refine CJ.seq (CJ.region ?_)
  refine OJ.st Z Z Z (SR.load Z Z (fun w' hx => ldE oU oI Z Z Z (CA.ext (hS.cells (i := 0) Z) hx) Z)) ?_
  refine OJ.es Z Z (Es.store oI hS (i := 1) Z Z Z Z Z Z (vs := cSpot.enc (⟨a0.X, IntKind.i8.wrap (a0.Y + 1)⟩ : Spot)) Z (cSpot.len _) (cSpot.one _) (Nat.le_of_ble_eq_true Z) (cSpot.enc (⟨a0.X, IntKind.i8.wrap (a0.Y + 1)⟩ : Spot)) Z) ?_
  intro w1 hS
  refine OJ.nil (EJ.next ?_)
  refine CJ.ret (?_)
  obtain rfl := Option.some.inj H
  exact EJ.fin Z (.cell Z (ldE oU oI Z Z Z (hS.cells (i := 1) Z) Z) .nil) ⟨Z, hS.ext⟩
 replace H := pif_f (of_decide_eq_false hb) H
 refine CJ.region ?_
 refine OJ.st Z Z Z (SR.fieldAddr oU oI Z Z Z Z Z Z) ?_
 refine OJ.st Z Z Z (SR.load Z Z (fun w' hx => ld1 oU Z Z (CA.ext (CA.sub (hS.cells (i := 0) Z) 0) hx) Z)) ?_
 refine OJ.pures oU 1 Z ?_
 refine OJ.st Z Z Z (SR.fieldAddr oU oI Z Z Z Z Z Z) ?_
 refine OJ.es Z Z (Es.store oI hS (i := 0) Z Z Z (G.ad1 _ _) Z Z (vs := (ci .i8).enc (IntKind.i8.wrap (a0.X - 1))) Z Z (one1 Z) (Nat.le_of_ble_eq_true Z) (cSpot.enc (⟨IntKind.i8.wrap (a0.X - 1), a0.Y⟩ : Spot)) Z) ?_
 intro w1 hS
 refine OJ.nil (EJ.blk (EJ.next ?_))
 refine CJ.seq (CJ.region ?_)
 refine OJ.st Z Z Z (SR.load Z Z (fun w' hx => ldE oU oI Z Z Z (CA.ext (hS.cells (i := 0) Z) hx) Z)) ?_
 refine OJ.es Z Z (Es.store oI hS (i := 1) Z Z Z Z Z Z (vs := cSpot.enc (⟨IntKind.i8.wrap (a0.X - 1), a0.Y⟩ : Spot)) Z (cSpot.len _) (cSpot.one _) (Nat.le_of_ble_eq_true Z) (cSpot.enc (⟨IntKind.i8.wrap (a0.X - 1), a0.Y⟩ : Spot)) Z) ?_
 intro w1 hS
 refine OJ.nil (EJ.next ?_)
 refine CJ.ret (?_)
 obtain rfl := Option.some.inj H
 exact EJ.fin Z (.cell Z (ldE oU oI Z Z Z (hS.cells (i := 1) Z) Z) .nil) ⟨Z, hS.ext⟩

def impl_Hurdle_other.f (a0 : Hurdle) : Option Spot := if a0.South = true then ((impl_Spot_ahead.f a0.At 2).bind fun t3 => some t3) else ((impl_Spot_ahead.f a0.At 1).bind fun t4 => some t4)
theorem impl_Hurdle_other.c (w : World) (a0 : Hurdle) (r : Spot) (H : impl_Hurdle_other.f a0 = some r) :
 CV Tryz.prog 33 [.agg (cHurdle.enc a0).toArray].toArray w fun v w' => v = .agg (cSpot.enc r).toArray ∧ Ext w w' := by
 have hS := (St.init w no)
 unfold impl_Hurdle_other.f at H
 refine CV.body Tryz.func33 Z Tryz.ntmps33 Z ?_
 refine CJ.seq (CJ.region ?_)
 refine OJ.ef Z Z Z (Ef.box hS Z Z (cHurdle.enc a0) Z) ?_
 rintro _ w1 ⟨b1, rfl, hS⟩
 refine OJ.ef Z Z Z (Ef.alloc hS oI Z Z (cSpot.enc (⟨0, 0⟩ : Spot)) Z) ?_
 rintro _ w1 ⟨b2, rfl, hS⟩
 refine OJ.nil (EJ.next ?_)
 refine CJ.seq ?_
 refine CJ.seq (CJ.region ?_)
 refine OJ.st Z Z Z (SR.fieldAddr oU oI Z Z Z Z Z Z) ?_
 refine OJ.st Z Z Z (SR.load Z Z (fun w' hx => ld1 oU Z Z (CA.ext (CA.sub (hS.cells (i := 0) Z) 2) hx) Z)) ?_
 refine OJ.nil (EJ.next ?_)
 refine CJ.cond Z (fun hb => ?_) (fun hb => ?_)
 ·replace H := pif_t hb H
  refine CJ.seq (CJ.region ?_)
  refine OJ.st Z Z Z (SR.fieldAddr oU oI Z Z Z Z Z Z) ?_
  refine OJ.st Z Z Z (SR.load Z Z (fun w' hx => ldN oU oI Z Z Z (CA.ext (CA.sub (hS.cells (i := 0) Z) 0) hx) (cSpot.len _) Z)) ?_
  obtain ⟨t3, ht3, H⟩ := pbind H
  refine OJ.callF Z Z Z Z Z hb69 Z (impl_Spot_ahead.c _ a0.At 2 _ ht3) ?_
  rintro _ w1 ⟨rfl, hs⟩
  replace hS := hS.grow hs
  refine OJ.es Z Z (Es.store oI hS (i := 1) Z Z Z Z Z Z (vs := cSpot.enc t3) Z (cSpot.len _) (cSpot.one _) (Nat.le_of_ble_eq_true Z) (cSpot.enc t3) Z) ?_
  intro w1 hS
  refine OJ.nil (EJ.next ?_)
  refine CJ.ret (EJ.skR (?_))
  obtain rfl := Option.some.inj H
  exact EJ.fin Z (.cell Z (ldE oU oI Z Z Z (hS.cells (i := 1) Z) Z) .nil) ⟨Z, hS.ext⟩
 replace H := pifb_f hb H
 refine CJ.skip (EJ.next ?_)
 refine CJ.seq (CJ.region ?_)
 refine OJ.st Z Z Z (SR.fieldAddr oU oI Z Z Z Z Z Z) ?_
 refine OJ.st Z Z Z (SR.load Z Z (fun w' hx => ldN oU oI Z Z Z (CA.ext (CA.sub (hS.cells (i := 0) Z) 0) hx) (cSpot.len _) Z)) ?_
 obtain ⟨t4, ht4, H⟩ := pbind H
 refine OJ.callF Z Z Z Z Z hb69 Z (impl_Spot_ahead.c _ a0.At 1 _ ht4) ?_
 rintro _ w1 ⟨rfl, hs⟩
 replace hS := hS.grow hs
 refine OJ.es Z Z (Es.store oI hS (i := 1) Z Z Z Z Z Z (vs := cSpot.enc t4) Z (cSpot.len _) (cSpot.one _) (Nat.le_of_ble_eq_true Z) (cSpot.enc t4) Z) ?_
 intro w1 hS
 refine OJ.nil (EJ.next ?_)
 refine CJ.ret (?_)
 obtain rfl := Option.some.inj H
 exact EJ.fin Z (.cell Z (ldE oU oI Z Z Z (hS.cells (i := 1) Z) Z) .nil) ⟨Z, hS.ext⟩

def impl_Pasture_isHurdle.f (a0 : Pasture) (a1 : Hurdle) : Option Bool := (impl_Pasture_isCell.f a0 a1.At).bind fun t3 => if t3 = true then ((impl_Hurdle_other.f a1).bind fun t4 => (impl_Pasture_isCell.f a0 t4).bind fun t5 => some t5) else (some false)
theorem impl_Pasture_isHurdle.c (w : World) (a0 : Pasture) (a1 : Hurdle) (r : Bool) (H : impl_Pasture_isHurdle.f a0 a1 = some r) :
 CV Tryz.prog 75 [.agg (cPasture.enc a0).toArray, .agg (cHurdle.enc a1).toArray].toArray w fun v w' => v = .bool r ∧ Ext w w' := by
 have hS := (St.init w no)
 unfold impl_Pasture_isHurdle.f at H
 refine CV.body Tryz.func75 Z Tryz.ntmps75 Z ?_
 refine CJ.seq (CJ.region ?_)
 refine OJ.ef Z Z Z (Ef.box hS Z Z (cPasture.enc a0) Z) ?_
 rintro _ w1 ⟨b1, rfl, hS⟩
 refine OJ.ef Z Z Z (Ef.box hS Z Z (cHurdle.enc a1) Z) ?_
 rintro _ w1 ⟨b2, rfl, hS⟩
 refine OJ.pures oU 1 Z (OJ.nil (EJ.next ?_))
 refine CJ.seq ?_
 refine CJ.draw [] [0, 1, 2, 3, 4, 5, 6, 7, 8, 9, 10] mixed (by kernel_rfl) hS fun w1 hS => ?_
 refine DJ.st Z Z Z Z Z (SR.load Z Z (fun w' hx => ldE oU oI Z Z Z (CA.ext (hS.cells (i := 0) Z) hx) Z)) ?_
 refine DJ.st Z Z Z Z Z (SR.fieldAddr oU oI Z Z Z Z Z Z) ?_
 refine DJ.st Z Z Z Z Z (SR.load Z Z (fun w' hx => ldN oU oI Z Z Z (CA.ext (CA.sub (hS.cells (i := 1) Z) 0) hx) (cSpot.len _) Z)) ?_
 obtain ⟨t3, ht3, H⟩ := pbind H
 refine DJ.callF rfl rfl rfl rfl rfl rfl rfl hb67 rfl (impl_Pasture_isCell.c _ a0 a1.At _ ht3) (by rintro v w' ⟨rfl, hs⟩; exact hs) ?_
 rintro _ w1 ⟨rfl, hs⟩
 replace hS := hS.grow hs
 refine DJ.pures oU 1 Z ?_
 refine DJ.split (t := 9) Z (fun hb => ?_) (fun hb => ?_)
 ·replace H := pif_t hb H
  refine DJ.st Z Z Z Z Z (SR.load Z Z (fun w' hx => ldE oU oI Z Z Z (CA.ext (hS.cells (i := 0) Z) hx) Z)) ?_
  refine DJ.st Z Z Z Z Z (SR.load Z Z (fun w' hx => ldE oU oI Z Z Z (CA.ext (hS.cells (i := 1) Z) hx) Z)) ?_
  obtain ⟨t4, ht4, H⟩ := pbind H
  refine DJ.callF rfl rfl rfl rfl rfl rfl rfl hb33 rfl (impl_Hurdle_other.c _ a1 _ ht4) (by rintro v w' ⟨rfl, hs⟩; exact hs) ?_
  rintro _ w1 ⟨rfl, hs⟩
  replace hS := hS.grow hs
  obtain ⟨t5, ht5, H⟩ := pbind H
  refine DJ.callF rfl rfl rfl rfl rfl rfl rfl hb67 rfl (impl_Pasture_isCell.c _ a0 t4 _ ht5) (by rintro v w' ⟨rfl, hs⟩; exact hs) ?_
  rintro _ w1 ⟨rfl, hs⟩
  replace hS := hS.grow hs
  refine DJ.pures oU 2 Z ?_
  refine DJ.nil (EJ.next ?_)
  refine CJ.ret (?_)
  obtain rfl := Option.some.inj H
  exact EJ.fin Z (.tmp Z .nil) ⟨Z, hS.ext⟩
 replace H := pifb_f hb H
 refine DJ.pures oU 6 Z ?_
 refine DJ.nil (EJ.next ?_)
 refine CJ.ret (?_)
 obtain rfl := Option.some.inj H
 exact EJ.fin Z (.tmp Z .nil) ⟨Z, hS.ext⟩
end Go.Proofs.YtloljfkfnpgjfaaGreat
