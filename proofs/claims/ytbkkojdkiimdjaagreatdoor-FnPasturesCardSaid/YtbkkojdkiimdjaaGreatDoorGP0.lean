/-
  What the functions come to.
-/
import Derived.Test.YtbkkojdkiimdjaaGreatDoorGT
namespace Go.Proofs.YtbkkojdkiimdjaaGreatDoor
open G
set_option linter.unusedVariables false
set_option linter.unusedSimpArgs false
set_option maxRecDepth 100000
set_option maxHeartbeats 4000000
def laws_f6big.f (a0 : List Int) : Option Bool := some (decide (4096 < (a0.length : Int)))
theorem laws_f6big.c (w : World) (Aa0 : Option Addr) (ca0 : Nat) (a0 : List Int) (hr0 : Rd (ci .u8) w Aa0 a0) (hc0 : a0.length ≤ ca0) (r : Bool) (H : laws_f6big.f a0 = some r) :
    CV Tryz.prog 4 [.slice Aa0 a0.length ca0].toArray w fun v w' => v = .bool r ∧ Ext w w' := by
  have hS := ((St.init w no).param (ci .u8) Aa0 ca0 a0 hr0 hc0)
  unfold laws_f6big.f at H
  refine CV.body Tryz.func4 rfl Tryz.ntmps4 rfl ?_
  refine CJ.seq ?_
  refine CJ.region ?_
  refine OJ.pures tU_ok 1 rfl ?_
  refine OJ.nil (EJ.next ?_)
  refine CJ.seq ?_
  refine CJ.region ?_
  refine OJ.pures tU_ok 4 rfl ?_
  refine OJ.nil (EJ.next ?_)
  refine CJ.ret (?_)
  obtain rfl := Option.some.inj H
  exact EJ.fin rfl (.tmp rfl .nil) ⟨rfl, hS.ext⟩

def spec_l00From.f (a0 : List Int) : Option l00Src := some (⟨a0, 0, 0⟩ : l00Src)
theorem spec_l00From.c (w : World) (Aa0 : Option Addr) (ca0 : Nat) (a0 : List Int) (hr0 : Rd (ci .u8) w Aa0 a0) (hc0 : a0.length ≤ ca0) (r : l00Src) (H : spec_l00From.f a0 = some r) :
    CV Tryz.prog 27 [.slice Aa0 a0.length ca0].toArray w fun v w' => ∃ (bn : Nat), v = .pointer (some ⟨bn, 0, none⟩) ∧ St w no w' [box bn ([.slice Aa0 a0.length ca0, .int .i64 r.at_, .int .u64 r.seed]) 108] [] := by
  have hS := ((St.init w no).param (ci .u8) Aa0 ca0 a0 hr0 hc0)
  unfold spec_l00From.f at H
  refine CV.body Tryz.func27 rfl Tryz.ntmps27 rfl ?_
  refine CJ.seq ?_
  refine CJ.region ?_
  refine OJ.pures tU_ok 1 rfl ?_
  refine OJ.nil (EJ.next ?_)
  refine CJ.seq ?_
  refine CJ.region ?_
  refine OJ.pures tU_ok 1 rfl ?_
  refine OJ.st rfl rfl rfl (SR.build' tU_ok tI_ok rfl rfl rfl (zs := [.slice none 0 0, .int .i64 0, .int .u64 0]) rfl rfl rfl ([.slice Aa0 a0.length ca0, .int .i64 0, .int .u64 0]) rfl) ?_
  refine OJ.ef rfl rfl rfl (Ef.box hS rfl rfl ([.slice Aa0 a0.length ca0, .int .i64 0, .int .u64 0]) rfl) ?_
  rintro _ w1 ⟨b1, rfl, hS⟩
  refine OJ.pures tU_ok 1 rfl ?_
  refine OJ.nil (EJ.next ?_)
  refine CJ.ret (?_)
  obtain rfl := Option.some.inj H
  exact EJ.fin rfl (.tmp rfl .nil) ⟨b1, rfl, hS.pick [0] [] rfl⟩

def spec_l00Src_next.f (a0 : l00Src) : Option (Int × l00Src) := if a0.at_ < (a0.code.length : Int) then ((getI a0.code a0.at_).bind fun t1 => if (IntKind.i64.wrap (a0.at_ + 1)) ≤ (a0.code.length : Int) then (some (IntKind.i64.wrap t1, (⟨a0.code, IntKind.i64.wrap (a0.at_ + 1), IntKind.u64.wrap ((IntKind.u64.wrap ((IntKind.u64.wrap (a0.seed * 6364136223846793005)) + (IntKind.u64.wrap (IntKind.i64.wrap t1)))) + 1442695040888963407)⟩ : l00Src))) else (some (IntKind.i64.wrap (andI .u64 (shrI .u64 (IntKind.u64.wrap ((IntKind.u64.wrap ((IntKind.u64.wrap (a0.seed * 6364136223846793005)) + (IntKind.u64.wrap (IntKind.i64.wrap t1)))) + 1442695040888963407)) 40) 255), (⟨a0.code, IntKind.i64.wrap (a0.at_ + 1), IntKind.u64.wrap ((IntKind.u64.wrap ((IntKind.u64.wrap (a0.seed * 6364136223846793005)) + (IntKind.u64.wrap (IntKind.i64.wrap t1)))) + 1442695040888963407)⟩ : l00Src)))) else (if (IntKind.i64.wrap (a0.at_ + 1)) ≤ (a0.code.length : Int) then (some (0, (⟨a0.code, IntKind.i64.wrap (a0.at_ + 1), IntKind.u64.wrap ((IntKind.u64.wrap ((IntKind.u64.wrap (a0.seed * 6364136223846793005)) + (IntKind.u64.wrap 0))) + 1442695040888963407)⟩ : l00Src))) else (some (IntKind.i64.wrap (andI .u64 (shrI .u64 (IntKind.u64.wrap ((IntKind.u64.wrap ((IntKind.u64.wrap (a0.seed * 6364136223846793005)) + (IntKind.u64.wrap 0))) + 1442695040888963407)) 40) 255), (⟨a0.code, IntKind.i64.wrap (a0.at_ + 1), IntKind.u64.wrap ((IntKind.u64.wrap ((IntKind.u64.wrap (a0.seed * 6364136223846793005)) + (IntKind.u64.wrap 0))) + 1442695040888963407)⟩ : l00Src))))
theorem spec_l00Src_next.c (w : World) (Aa0_0 : Option Addr) (ca0_0 : Nat) (a0 : l00Src) (ba0 : Nat) (hin : St w (fpU [box ba0 ([.slice Aa0_0 a0.code.length ca0_0, .int .i64 a0.at_, .int .u64 a0.seed]) 108]) w [box ba0 ([.slice Aa0_0 a0.code.length ca0_0, .int .i64 a0.at_, .int .u64 a0.seed]) 108] [roC (ci .u8) Aa0_0 ca0_0 a0.code]) (r : Int × l00Src) (H : spec_l00Src_next.f a0 = some r) :
    CV Tryz.prog 65 [.pointer (some ⟨ba0, 0, none⟩)].toArray w fun v w' => v = .int .i64 r.1 ∧ St w (fpU [box ba0 ([.slice Aa0_0 a0.code.length ca0_0, .int .i64 a0.at_, .int .u64 a0.seed]) 108]) w' [box ba0 ([.slice Aa0_0 a0.code.length ca0_0, .int .i64 r.2.at_, .int .u64 r.2.seed]) 108] [] := by
  have hS := hin
  unfold spec_l00Src_next.f at H
  refine CV.body Tryz.func65 rfl Tryz.ntmps65 rfl ?_
  refine CJ.seq ?_
  refine CJ.region ?_
  refine OJ.pures tU_ok 1 rfl ?_
  refine OJ.nil (EJ.next ?_)
  refine CJ.seq ?_
  refine CJ.region ?_
  refine OJ.pures tU_ok 1 rfl ?_
  refine OJ.nil (EJ.next ?_)
  refine CJ.seq ?_
  refine CJ.seq ?_
  refine CJ.draw [] [0, 1, 2, 3, 4, 5, 6, 7, 8, 9] mixed (by kernel_rfl) hS fun w1 hS => ?_
  refine DJ.pures tU_ok 2 rfl ?_
  refine DJ.st rfl rfl rfl rfl rfl (SR.fieldAddr tU_ok tI_ok rfl rfl rfl rfl rfl rfl) ?_
  refine DJ.st rfl rfl rfl rfl rfl (SR.load rfl rfl (fun w' hx => ld1 tU_ok rfl rfl (CA.ext (CA.sub (hS.cells (i := 0) rfl) 1) hx) rfl)) ?_
  refine DJ.pures tU_ok 2 rfl ?_
  refine DJ.st rfl rfl rfl rfl rfl (SR.fieldAddr tU_ok tI_ok rfl rfl rfl rfl rfl rfl) ?_
  refine DJ.st rfl rfl rfl rfl rfl (SR.load rfl rfl (fun w' hx => ld1 tU_ok rfl rfl (CA.ext (CA.sub (hS.cells (i := 0) rfl) 0) hx) rfl)) ?_
  refine DJ.pures tU_ok 2 rfl ?_
  refine DJ.nil (EJ.next ?_)
  refine CJ.cond rfl (fun hb => ?_) (fun hb => ?_)
  · replace H := pif_t (of_decide_eq_true hb) H
    refine CJ.draw [] [0, 1, 2, 3, 4, 5, 6, 7, 8, 9, 10, 11] mixed (by kernel_rfl) hS fun w1 hS => ?_
    refine DJ.pures tU_ok 2 rfl ?_
    refine DJ.st rfl rfl rfl rfl rfl (SR.fieldAddr tU_ok tI_ok rfl rfl rfl rfl rfl rfl) ?_
    refine DJ.st rfl rfl rfl rfl rfl (SR.load rfl rfl (fun w' hx => ld1 tU_ok rfl rfl (CA.ext (CA.sub (hS.cells (i := 0) rfl) 0) hx) rfl)) ?_
    refine DJ.pures tU_ok 2 rfl ?_
    refine DJ.st rfl rfl rfl rfl rfl (SR.fieldAddr tU_ok tI_ok rfl rfl rfl rfl rfl rfl) ?_
    refine DJ.st rfl rfl rfl rfl rfl (SR.load rfl rfl (fun w' hx => ld1 tU_ok rfl rfl (CA.ext (CA.sub (hS.cells (i := 0) rfl) 1) hx) rfl)) ?_
    obtain ⟨t1, ht1, H⟩ := pbind H
    obtain ⟨ad1, e1⟩ := (hS.rd' (i := 0) rfl).some' ht1
    refine DJ.st rfl rfl rfl rfl rfl (SR.idxS tU_ok tI_ok rfl rfl rfl rfl e1 rfl (getI_some ht1).1) ?_
    refine DJ.st rfl rfl rfl rfl rfl (SR.load rfl rfl (fun w' hx => ld1 tU_ok rfl rfl (CA.ext ((hS.rd' (i := 0) rfl).at_ e1 ht1) hx) rfl)) ?_
    refine DJ.pures tU_ok 2 rfl ?_
    refine DJ.nil (EJ.next ?_)
    refine CJ.seq ?_
    refine CJ.region ?_
    refine OJ.pures tU_ok 2 rfl ?_
    refine OJ.st rfl rfl rfl (SR.fieldAddr tU_ok tI_ok rfl rfl rfl rfl rfl rfl) ?_
    refine OJ.st rfl rfl rfl (SR.load rfl rfl (fun w' hx => ld1 tU_ok rfl rfl (CA.ext (CA.sub (hS.cells (i := 0) rfl) 1) hx) rfl)) ?_
    refine OJ.pures tU_ok 2 rfl ?_
    refine OJ.st rfl rfl rfl (SR.fieldAddr tU_ok tI_ok rfl rfl rfl rfl rfl rfl) ?_
    refine OJ.es rfl rfl (Es.store tI_ok hS (i := 0) (vs := [.int .i64 (IntKind.i64.wrap (a0.at_ + 1))]) rfl rfl rfl (G.ad1 _ _) rfl rfl rfl rfl (one1 rfl) (Nat.le_of_ble_eq_true rfl) ([.slice Aa0_0 a0.code.length ca0_0, .int .i64 (IntKind.i64.wrap (a0.at_ + 1)), .int .u64 a0.seed]) rfl) ?_
    intro w1 hS
    refine OJ.nil (EJ.next ?_)
    refine CJ.seq ?_
    refine CJ.region ?_
    refine OJ.pures tU_ok 3 rfl ?_
    refine OJ.st rfl rfl rfl (SR.fieldAddr tU_ok tI_ok rfl rfl rfl rfl rfl rfl) ?_
    refine OJ.st rfl rfl rfl (SR.load rfl rfl (fun w' hx => ld1 tU_ok rfl rfl (CA.ext (CA.sub (hS.cells (i := 0) rfl) 2) hx) rfl)) ?_
    refine OJ.pures tU_ok 6 rfl ?_
    refine OJ.st rfl rfl rfl (SR.fieldAddr tU_ok tI_ok rfl rfl rfl rfl rfl rfl) ?_
    refine OJ.es rfl rfl (Es.store tI_ok hS (i := 0) (vs := [.int .u64 (IntKind.u64.wrap ((IntKind.u64.wrap ((IntKind.u64.wrap (a0.seed * 6364136223846793005)) + (IntKind.u64.wrap (IntKind.i64.wrap t1)))) + 1442695040888963407))]) rfl rfl rfl (G.ad1 _ _) rfl rfl rfl rfl (one1 rfl) (Nat.le_of_ble_eq_true rfl) ([.slice Aa0_0 a0.code.length ca0_0, .int .i64 (IntKind.i64.wrap (a0.at_ + 1)), .int .u64 (IntKind.u64.wrap ((IntKind.u64.wrap ((IntKind.u64.wrap (a0.seed * 6364136223846793005)) + (IntKind.u64.wrap (IntKind.i64.wrap t1)))) + 1442695040888963407))]) rfl) ?_
    intro w1 hS
    refine OJ.nil (EJ.next ?_)
    refine CJ.seq ?_
    refine CJ.seq ?_
    refine CJ.draw [] [0, 1, 2, 3, 4, 5, 6, 7, 8, 9] mixed (by kernel_rfl) hS fun w1 hS => ?_
    refine DJ.pures tU_ok 2 rfl ?_
    refine DJ.st rfl rfl rfl rfl rfl (SR.fieldAddr tU_ok tI_ok rfl rfl rfl rfl rfl rfl) ?_
    refine DJ.st rfl rfl rfl rfl rfl (SR.load rfl rfl (fun w' hx => ld1 tU_ok rfl rfl (CA.ext (CA.sub (hS.cells (i := 0) rfl) 1) hx) rfl)) ?_
    refine DJ.pures tU_ok 2 rfl ?_
    refine DJ.st rfl rfl rfl rfl rfl (SR.fieldAddr tU_ok tI_ok rfl rfl rfl rfl rfl rfl) ?_
    refine DJ.st rfl rfl rfl rfl rfl (SR.load rfl rfl (fun w' hx => ld1 tU_ok rfl rfl (CA.ext (CA.sub (hS.cells (i := 0) rfl) 0) hx) rfl)) ?_
    refine DJ.pures tU_ok 2 rfl ?_
    refine DJ.nil (EJ.next ?_)
    refine CJ.cond rfl (fun hb => ?_) (fun hb => ?_)
    · replace H := pif_t (of_decide_eq_true hb) H
      refine CJ.seq ?_
      refine CJ.region ?_
      refine OJ.pures tU_ok 2 rfl ?_
      refine OJ.nil (EJ.next ?_)
      refine CJ.ret (EJ.skR (?_))
      obtain rfl := Option.some.inj H
      exact EJ.fin rfl (.tmp rfl .nil) ⟨rfl, hS.pick [0] [] rfl⟩
    · replace H := pif_f (of_decide_eq_false hb) H
      refine CJ.skip (EJ.next ?_)
      refine CJ.seq ?_
      refine CJ.region ?_
      refine OJ.pures tU_ok 2 rfl ?_
      refine OJ.st rfl rfl rfl (SR.fieldAddr tU_ok tI_ok rfl rfl rfl rfl rfl rfl) ?_
      refine OJ.st rfl rfl rfl (SR.load rfl rfl (fun w' hx => ld1 tU_ok rfl rfl (CA.ext (CA.sub (hS.cells (i := 0) rfl) 2) hx) rfl)) ?_
      refine OJ.st rfl rfl rfl (SR.shr rfl rfl rfl (by decide)) ?_
      refine OJ.pures tU_ok 3 rfl ?_
      refine OJ.nil (EJ.next ?_)
      refine CJ.ret (?_)
      obtain rfl := Option.some.inj H
      exact EJ.fin rfl (.tmp rfl .nil) ⟨rfl, hS.pick [0] [] rfl⟩
  · replace H := pif_f (of_decide_eq_false hb) H
    refine CJ.skip (EJ.next ?_)
    refine CJ.seq ?_
    refine CJ.region ?_
    refine OJ.pures tU_ok 2 rfl ?_
    refine OJ.st rfl rfl rfl (SR.fieldAddr tU_ok tI_ok rfl rfl rfl rfl rfl rfl) ?_
    refine OJ.st rfl rfl rfl (SR.load rfl rfl (fun w' hx => ld1 tU_ok rfl rfl (CA.ext (CA.sub (hS.cells (i := 0) rfl) 1) hx) rfl)) ?_
    refine OJ.pures tU_ok 2 rfl ?_
    refine OJ.st rfl rfl rfl (SR.fieldAddr tU_ok tI_ok rfl rfl rfl rfl rfl rfl) ?_
    refine OJ.es rfl rfl (Es.store tI_ok hS (i := 0) (vs := [.int .i64 (IntKind.i64.wrap (a0.at_ + 1))]) rfl rfl rfl (G.ad1 _ _) rfl rfl rfl rfl (one1 rfl) (Nat.le_of_ble_eq_true rfl) ([.slice Aa0_0 a0.code.length ca0_0, .int .i64 (IntKind.i64.wrap (a0.at_ + 1)), .int .u64 a0.seed]) rfl) ?_
    intro w1 hS
    refine OJ.nil (EJ.next ?_)
    refine CJ.seq ?_
    refine CJ.region ?_
    refine OJ.pures tU_ok 3 rfl ?_
    refine OJ.st rfl rfl rfl (SR.fieldAddr tU_ok tI_ok rfl rfl rfl rfl rfl rfl) ?_
    refine OJ.st rfl rfl rfl (SR.load rfl rfl (fun w' hx => ld1 tU_ok rfl rfl (CA.ext (CA.sub (hS.cells (i := 0) rfl) 2) hx) rfl)) ?_
    refine OJ.pures tU_ok 6 rfl ?_
    refine OJ.st rfl rfl rfl (SR.fieldAddr tU_ok tI_ok rfl rfl rfl rfl rfl rfl) ?_
    refine OJ.es rfl rfl (Es.store tI_ok hS (i := 0) (vs := [.int .u64 (IntKind.u64.wrap ((IntKind.u64.wrap ((IntKind.u64.wrap (a0.seed * 6364136223846793005)) + (IntKind.u64.wrap 0))) + 1442695040888963407))]) rfl rfl rfl (G.ad1 _ _) rfl rfl rfl rfl (one1 rfl) (Nat.le_of_ble_eq_true rfl) ([.slice Aa0_0 a0.code.length ca0_0, .int .i64 (IntKind.i64.wrap (a0.at_ + 1)), .int .u64 (IntKind.u64.wrap ((IntKind.u64.wrap ((IntKind.u64.wrap (a0.seed * 6364136223846793005)) + (IntKind.u64.wrap 0))) + 1442695040888963407))]) rfl) ?_
    intro w1 hS
    refine OJ.nil (EJ.next ?_)
    refine CJ.seq ?_
    refine CJ.seq ?_
    refine CJ.draw [] [0, 1, 2, 3, 4, 5, 6, 7, 8, 9] mixed (by kernel_rfl) hS fun w1 hS => ?_
    refine DJ.pures tU_ok 2 rfl ?_
    refine DJ.st rfl rfl rfl rfl rfl (SR.fieldAddr tU_ok tI_ok rfl rfl rfl rfl rfl rfl) ?_
    refine DJ.st rfl rfl rfl rfl rfl (SR.load rfl rfl (fun w' hx => ld1 tU_ok rfl rfl (CA.ext (CA.sub (hS.cells (i := 0) rfl) 1) hx) rfl)) ?_
    refine DJ.pures tU_ok 2 rfl ?_
    refine DJ.st rfl rfl rfl rfl rfl (SR.fieldAddr tU_ok tI_ok rfl rfl rfl rfl rfl rfl) ?_
    refine DJ.st rfl rfl rfl rfl rfl (SR.load rfl rfl (fun w' hx => ld1 tU_ok rfl rfl (CA.ext (CA.sub (hS.cells (i := 0) rfl) 0) hx) rfl)) ?_
    refine DJ.pures tU_ok 2 rfl ?_
    refine DJ.nil (EJ.next ?_)
    refine CJ.cond rfl (fun hb => ?_) (fun hb => ?_)
    · replace H := pif_t (of_decide_eq_true hb) H
      refine CJ.seq ?_
      refine CJ.region ?_
      refine OJ.pures tU_ok 2 rfl ?_
      refine OJ.nil (EJ.next ?_)
      refine CJ.ret (EJ.skR (?_))
      obtain rfl := Option.some.inj H
      exact EJ.fin rfl (.tmp rfl .nil) ⟨rfl, hS.pick [0] [] rfl⟩
    · replace H := pif_f (of_decide_eq_false hb) H
      refine CJ.skip (EJ.next ?_)
      refine CJ.seq ?_
      refine CJ.region ?_
      refine OJ.pures tU_ok 2 rfl ?_
      refine OJ.st rfl rfl rfl (SR.fieldAddr tU_ok tI_ok rfl rfl rfl rfl rfl rfl) ?_
      refine OJ.st rfl rfl rfl (SR.load rfl rfl (fun w' hx => ld1 tU_ok rfl rfl (CA.ext (CA.sub (hS.cells (i := 0) rfl) 2) hx) rfl)) ?_
      refine OJ.st rfl rfl rfl (SR.shr rfl rfl rfl (by decide)) ?_
      refine OJ.pures tU_ok 3 rfl ?_
      refine OJ.nil (EJ.next ?_)
      refine CJ.ret (?_)
      obtain rfl := Option.some.inj H
      exact EJ.fin rfl (.tmp rfl .nil) ⟨rfl, hS.pick [0] [] rfl⟩

def spec_l00Src_pick.f (a0 : l00Src) (a1 : Int) : Option (Int × l00Src) := if a1 ≤ 1 then (some (0, a0)) else ((spec_l00Src_next.f a0).bind fun t1 => if 200 < a1 then ((spec_l00Src_next.f (⟨a0.code, t1.2.at_, t1.2.seed⟩ : l00Src)).bind fun t2 => (chk (a1 ≠ 0)).bind fun u3 => some (Int.tmod (IntKind.i64.wrap ((IntKind.i64.wrap (t1.1 * 256)) + t2.1)) a1, (⟨a0.code, t2.2.at_, t2.2.seed⟩ : l00Src))) else ((chk (a1 ≠ 0)).bind fun u4 => some (Int.tmod t1.1 a1, (⟨a0.code, t1.2.at_, t1.2.seed⟩ : l00Src))))
theorem spec_l00Src_pick.c (w : World) (Aa0_0 : Option Addr) (ca0_0 : Nat) (a0 : l00Src) (ba0 : Nat) (a1 : Int) (hin : St w (fpU [box ba0 ([.slice Aa0_0 a0.code.length ca0_0, .int .i64 a0.at_, .int .u64 a0.seed]) 108]) w [box ba0 ([.slice Aa0_0 a0.code.length ca0_0, .int .i64 a0.at_, .int .u64 a0.seed]) 108] [roC (ci .u8) Aa0_0 ca0_0 a0.code]) (r : Int × l00Src) (H : spec_l00Src_pick.f a0 a1 = some r) :
    CV Tryz.prog 28 [.pointer (some ⟨ba0, 0, none⟩), .int .i64 a1].toArray w fun v w' => v = .int .i64 r.1 ∧ St w (fpU [box ba0 ([.slice Aa0_0 a0.code.length ca0_0, .int .i64 a0.at_, .int .u64 a0.seed]) 108]) w' [box ba0 ([.slice Aa0_0 a0.code.length ca0_0, .int .i64 r.2.at_, .int .u64 r.2.seed]) 108] [] := by
  have hS := hin
  unfold spec_l00Src_pick.f at H
  refine CV.body Tryz.func28 rfl Tryz.ntmps28 rfl ?_
  refine CJ.seq ?_
  refine CJ.region ?_
  refine OJ.pures tU_ok 1 rfl ?_
  refine OJ.nil (EJ.next ?_)
  refine CJ.seq ?_
  refine CJ.seq ?_
  refine CJ.region ?_
  refine OJ.pures tU_ok 2 rfl ?_
  refine OJ.nil (EJ.next ?_)
  refine CJ.cond rfl (fun hb => ?_) (fun hb => ?_)
  · replace H := pif_t (of_decide_eq_true hb) H
    refine CJ.seq ?_
    refine CJ.region ?_
    refine OJ.pures tU_ok 1 rfl ?_
    refine OJ.nil (EJ.next ?_)
    refine CJ.ret (EJ.skR (?_))
    obtain rfl := Option.some.inj H
    exact EJ.fin rfl (.tmp rfl .nil) ⟨rfl, hS.pick [0] [] rfl⟩
  · replace H := pif_f (of_decide_eq_false hb) H
    refine CJ.skip (EJ.next ?_)
    refine CJ.seq ?_
    refine CJ.region ?_
    refine OJ.pures tU_ok 1 rfl ?_
    obtain ⟨t1, ht1, H⟩ := pbind H
    refine OJ.callF rfl rfl rfl rfl rfl hb65 rfl (spec_l00Src_next.c _ Aa0_0 ca0_0 a0 ba0 ((hS.subs [0] [0] [] rfl).pick [0] [0] rfl) _ ht1) ?_
    rintro _ w1 ⟨rfl, hs⟩
    replace hS := hS.back [0] rfl rfl [box ba0 ([.slice Aa0_0 a0.code.length ca0_0, .int .i64 t1.2.at_, .int .u64 t1.2.seed]) 108] [] hs ⟨fun _ => Iff.rfl, trivial⟩
    refine OJ.pures tU_ok 1 rfl ?_
    refine OJ.nil (EJ.next ?_)
    refine CJ.seq ?_
    refine CJ.seq ?_
    refine CJ.region ?_
    refine OJ.pures tU_ok 2 rfl ?_
    refine OJ.nil (EJ.next ?_)
    refine CJ.cond rfl (fun hb => ?_) (fun hb => ?_)
    · replace H := pif_t (of_decide_eq_true hb) H
      refine CJ.region ?_
      refine OJ.pures tU_ok 3 rfl ?_
      obtain ⟨t2, ht2, H⟩ := pbind H
      refine OJ.callF rfl rfl rfl rfl rfl hb65 rfl (spec_l00Src_next.c _ Aa0_0 ca0_0 (⟨a0.code, t1.2.at_, t1.2.seed⟩ : l00Src) ba0 ((hS.subs [0] [0] [] rfl).pick [0] [0] rfl) _ ht2) ?_
      rintro _ w1 ⟨rfl, hs⟩
      replace hS := hS.back [0] rfl rfl [box ba0 ([.slice Aa0_0 a0.code.length ca0_0, .int .i64 t2.2.at_, .int .u64 t2.2.seed]) 108] [] hs ⟨fun _ => Iff.rfl, trivial⟩
      refine OJ.pures tU_ok 2 rfl ?_
      refine OJ.nil (EJ.next ?_)
      refine CJ.seq ?_
      refine CJ.region ?_
      refine OJ.pures tU_ok 2 rfl ?_
      obtain ⟨u3, hu3, H⟩ := pbind H
      refine OJ.st rfl rfl rfl (SR.rem rfl rfl rfl (chk_some hu3)) ?_
      refine OJ.pures tU_ok 1 rfl ?_
      refine OJ.nil (EJ.next ?_)
      refine CJ.ret (?_)
      obtain rfl := Option.some.inj H
      exact EJ.fin rfl (.tmp rfl .nil) ⟨rfl, hS.pick [0] [] rfl⟩
    · replace H := pif_f (of_decide_eq_false hb) H
      refine CJ.skip (EJ.next ?_)
      refine CJ.seq ?_
      refine CJ.region ?_
      refine OJ.pures tU_ok 2 rfl ?_
      obtain ⟨u4, hu4, H⟩ := pbind H
      refine OJ.st rfl rfl rfl (SR.rem rfl rfl rfl (chk_some hu4)) ?_
      refine OJ.pures tU_ok 1 rfl ?_
      refine OJ.nil (EJ.next ?_)
      refine CJ.ret (?_)
      obtain rfl := Option.some.inj H
      exact EJ.fin rfl (.tmp rfl .nil) ⟨rfl, hS.pick [0] [] rfl⟩

def spec_l01Next.f (a0 : Spot) (a1 : Int) : Option Spot := if a1 = 0 then (some (⟨a0.X, IntKind.i8.wrap (a0.Y - 1)⟩ : Spot)) else (if a1 = 1 then (some (⟨IntKind.i8.wrap (a0.X + 1), a0.Y⟩ : Spot)) else (if a1 = 2 then (some (⟨a0.X, IntKind.i8.wrap (a0.Y + 1)⟩ : Spot)) else (some (⟨IntKind.i8.wrap (a0.X - 1), a0.Y⟩ : Spot))))
theorem spec_l01Next.c (w : World) (a0 : Spot) (a1 : Int) (r : Spot) (H : spec_l01Next.f a0 a1 = some r) :
    CV Tryz.prog 60 [.agg (cSpot.enc a0).toArray, .int .i64 a1].toArray w fun v w' => v = .agg (cSpot.enc r).toArray ∧ Ext w w' := by
  have hS := (St.init w no)
  unfold spec_l01Next.f at H
  refine CV.body Tryz.func60 rfl Tryz.ntmps60 rfl ?_
  refine CJ.seq ?_
  refine CJ.region ?_
  refine OJ.ef rfl rfl rfl (Ef.box hS rfl rfl (cSpot.enc a0) rfl) ?_
  rintro _ w1 ⟨b1, rfl, hS⟩
  refine OJ.ef rfl rfl rfl (Ef.alloc hS tI_ok rfl rfl (cSpot.enc (⟨0, 0⟩ : Spot)) rfl) ?_
  rintro _ w1 ⟨b2, rfl, hS⟩
  refine OJ.nil (EJ.next ?_)
  refine CJ.seq ?_
  refine CJ.seq ?_
  refine CJ.region ?_
  refine OJ.pures tU_ok 1 rfl ?_
  refine OJ.nil (EJ.next ?_)
  refine CJ.block ?_
  refine CJ.seq ?_
  refine CJ.region ?_
  refine OJ.pures tU_ok 2 rfl ?_
  refine OJ.nil (EJ.next ?_)
  refine CJ.cond rfl (fun hb => ?_) (fun hb => ?_)
  · replace H := pif_t (of_decide_eq_true hb) H
    refine CJ.region ?_
    refine OJ.st rfl rfl rfl (SR.fieldAddr tU_ok tI_ok rfl rfl rfl rfl rfl rfl) ?_
    refine OJ.st rfl rfl rfl (SR.load rfl rfl (fun w' hx => ld1 tU_ok rfl rfl (CA.ext (CA.sub (hS.cells (i := 0) rfl) 1) hx) rfl)) ?_
    refine OJ.pures tU_ok 1 rfl ?_
    refine OJ.st rfl rfl rfl (SR.fieldAddr tU_ok tI_ok rfl rfl rfl rfl rfl rfl) ?_
    refine OJ.es rfl rfl (Es.store tI_ok hS (i := 0) rfl rfl rfl (G.ad1 _ _) rfl rfl (vs := (ci .i8).enc (IntKind.i8.wrap (a0.Y - 1))) rfl rfl (one1 rfl) (Nat.le_of_ble_eq_true rfl) (cSpot.enc (⟨a0.X, IntKind.i8.wrap (a0.Y - 1)⟩ : Spot)) rfl) ?_
    intro w1 hS
    refine OJ.nil (EJ.blk (EJ.next ?_))
    refine CJ.seq ?_
    refine CJ.region ?_
    refine OJ.st rfl rfl rfl (SR.load rfl rfl (fun w' hx => ldE tU_ok tI_ok rfl rfl rfl (CA.ext (hS.cells (i := 0) rfl) hx) rfl)) ?_
    refine OJ.es rfl rfl (Es.store tI_ok hS (i := 1) rfl rfl rfl rfl rfl rfl (vs := cSpot.enc (⟨a0.X, IntKind.i8.wrap (a0.Y - 1)⟩ : Spot)) rfl (cSpot.len _) (cSpot.one _) (Nat.le_of_ble_eq_true rfl) (cSpot.enc (⟨a0.X, IntKind.i8.wrap (a0.Y - 1)⟩ : Spot)) rfl) ?_
    intro w1 hS
    refine OJ.nil (EJ.next ?_)
    refine CJ.ret (?_)
    obtain rfl := Option.some.inj H
    exact EJ.fin rfl (.cell rfl (ldE tU_ok tI_ok rfl rfl rfl (hS.cells (i := 1) rfl) rfl) .nil) ⟨rfl, hS.ext⟩
  · replace H := pif_f (of_decide_eq_false hb) H
    refine CJ.seq ?_
    refine CJ.region ?_
    refine OJ.pures tU_ok 2 rfl ?_
    refine OJ.nil (EJ.next ?_)
    refine CJ.cond rfl (fun hb => ?_) (fun hb => ?_)
    · replace H := pif_t (of_decide_eq_true hb) H
      refine CJ.region ?_
      refine OJ.st rfl rfl rfl (SR.fieldAddr tU_ok tI_ok rfl rfl rfl rfl rfl rfl) ?_
      refine OJ.st rfl rfl rfl (SR.load rfl rfl (fun w' hx => ld1 tU_ok rfl rfl (CA.ext (CA.sub (hS.cells (i := 0) rfl) 0) hx) rfl)) ?_
      refine OJ.pures tU_ok 1 rfl ?_
      refine OJ.st rfl rfl rfl (SR.fieldAddr tU_ok tI_ok rfl rfl rfl rfl rfl rfl) ?_
      refine OJ.es rfl rfl (Es.store tI_ok hS (i := 0) rfl rfl rfl (G.ad1 _ _) rfl rfl (vs := (ci .i8).enc (IntKind.i8.wrap (a0.X + 1))) rfl rfl (one1 rfl) (Nat.le_of_ble_eq_true rfl) (cSpot.enc (⟨IntKind.i8.wrap (a0.X + 1), a0.Y⟩ : Spot)) rfl) ?_
      intro w1 hS
      refine OJ.nil (EJ.blk (EJ.next ?_))
      refine CJ.seq ?_
      refine CJ.region ?_
      refine OJ.st rfl rfl rfl (SR.load rfl rfl (fun w' hx => ldE tU_ok tI_ok rfl rfl rfl (CA.ext (hS.cells (i := 0) rfl) hx) rfl)) ?_
      refine OJ.es rfl rfl (Es.store tI_ok hS (i := 1) rfl rfl rfl rfl rfl rfl (vs := cSpot.enc (⟨IntKind.i8.wrap (a0.X + 1), a0.Y⟩ : Spot)) rfl (cSpot.len _) (cSpot.one _) (Nat.le_of_ble_eq_true rfl) (cSpot.enc (⟨IntKind.i8.wrap (a0.X + 1), a0.Y⟩ : Spot)) rfl) ?_
      intro w1 hS
      refine OJ.nil (EJ.next ?_)
      refine CJ.ret (?_)
      obtain rfl := Option.some.inj H
      exact EJ.fin rfl (.cell rfl (ldE tU_ok tI_ok rfl rfl rfl (hS.cells (i := 1) rfl) rfl) .nil) ⟨rfl, hS.ext⟩
    · replace H := pif_f (of_decide_eq_false hb) H
      refine CJ.seq ?_
      refine CJ.region ?_
      refine OJ.pures tU_ok 2 rfl ?_
      refine OJ.nil (EJ.next ?_)
      refine CJ.cond rfl (fun hb => ?_) (fun hb => ?_)
      · replace H := pif_t (of_decide_eq_true hb) H
        refine CJ.region ?_
        refine OJ.st rfl rfl rfl (SR.fieldAddr tU_ok tI_ok rfl rfl rfl rfl rfl rfl) ?_
        refine OJ.st rfl rfl rfl (SR.load rfl rfl (fun w' hx => ld1 tU_ok rfl rfl (CA.ext (CA.sub (hS.cells (i := 0) rfl) 1) hx) rfl)) ?_
        refine OJ.pures tU_ok 1 rfl ?_
        refine OJ.st rfl rfl rfl (SR.fieldAddr tU_ok tI_ok rfl rfl rfl rfl rfl rfl) ?_
        refine OJ.es rfl rfl (Es.store tI_ok hS (i := 0) rfl rfl rfl (G.ad1 _ _) rfl rfl (vs := (ci .i8).enc (IntKind.i8.wrap (a0.Y + 1))) rfl rfl (one1 rfl) (Nat.le_of_ble_eq_true rfl) (cSpot.enc (⟨a0.X, IntKind.i8.wrap (a0.Y + 1)⟩ : Spot)) rfl) ?_
        intro w1 hS
        refine OJ.nil (EJ.blk (EJ.next ?_))
        refine CJ.seq ?_
        refine CJ.region ?_
        refine OJ.st rfl rfl rfl (SR.load rfl rfl (fun w' hx => ldE tU_ok tI_ok rfl rfl rfl (CA.ext (hS.cells (i := 0) rfl) hx) rfl)) ?_
        refine OJ.es rfl rfl (Es.store tI_ok hS (i := 1) rfl rfl rfl rfl rfl rfl (vs := cSpot.enc (⟨a0.X, IntKind.i8.wrap (a0.Y + 1)⟩ : Spot)) rfl (cSpot.len _) (cSpot.one _) (Nat.le_of_ble_eq_true rfl) (cSpot.enc (⟨a0.X, IntKind.i8.wrap (a0.Y + 1)⟩ : Spot)) rfl) ?_
        intro w1 hS
        refine OJ.nil (EJ.next ?_)
        refine CJ.ret (?_)
        obtain rfl := Option.some.inj H
        exact EJ.fin rfl (.cell rfl (ldE tU_ok tI_ok rfl rfl rfl (hS.cells (i := 1) rfl) rfl) .nil) ⟨rfl, hS.ext⟩
      · replace H := pif_f (of_decide_eq_false hb) H
        refine CJ.region ?_
        refine OJ.st rfl rfl rfl (SR.fieldAddr tU_ok tI_ok rfl rfl rfl rfl rfl rfl) ?_
        refine OJ.st rfl rfl rfl (SR.load rfl rfl (fun w' hx => ld1 tU_ok rfl rfl (CA.ext (CA.sub (hS.cells (i := 0) rfl) 0) hx) rfl)) ?_
        refine OJ.pures tU_ok 1 rfl ?_
        refine OJ.st rfl rfl rfl (SR.fieldAddr tU_ok tI_ok rfl rfl rfl rfl rfl rfl) ?_
        refine OJ.es rfl rfl (Es.store tI_ok hS (i := 0) rfl rfl rfl (G.ad1 _ _) rfl rfl (vs := (ci .i8).enc (IntKind.i8.wrap (a0.X - 1))) rfl rfl (one1 rfl) (Nat.le_of_ble_eq_true rfl) (cSpot.enc (⟨IntKind.i8.wrap (a0.X - 1), a0.Y⟩ : Spot)) rfl) ?_
        intro w1 hS
        refine OJ.nil (EJ.blk (EJ.next ?_))
        refine CJ.seq ?_
        refine CJ.region ?_
        refine OJ.st rfl rfl rfl (SR.load rfl rfl (fun w' hx => ldE tU_ok tI_ok rfl rfl rfl (CA.ext (hS.cells (i := 0) rfl) hx) rfl)) ?_
        refine OJ.es rfl rfl (Es.store tI_ok hS (i := 1) rfl rfl rfl rfl rfl rfl (vs := cSpot.enc (⟨IntKind.i8.wrap (a0.X - 1), a0.Y⟩ : Spot)) rfl (cSpot.len _) (cSpot.one _) (Nat.le_of_ble_eq_true rfl) (cSpot.enc (⟨IntKind.i8.wrap (a0.X - 1), a0.Y⟩ : Spot)) rfl) ?_
        intro w1 hS
        refine OJ.nil (EJ.next ?_)
        refine CJ.ret (?_)
        obtain rfl := Option.some.inj H
        exact EJ.fin rfl (.cell rfl (ldE tU_ok tI_ok rfl rfl rfl (hS.cells (i := 1) rfl) rfl) .nil) ⟨rfl, hS.ext⟩

def spec_l00In.f (a0 : Int) (a1 : Int) (a2 : Int) : Option Bool := if a1 ≤ a0 then (some (decide (a0 ≤ a2))) else (some false)
theorem spec_l00In.c (w : World) (a0 : Int) (a1 : Int) (a2 : Int) (r : Bool) (H : spec_l00In.f a0 a1 a2 = some r) :
    CV Tryz.prog 72 [.int .i64 a0, .int .i64 a1, .int .i64 a2].toArray w fun v w' => v = .bool r ∧ Ext w w' := by
  have hS := (St.init w no)
  unfold spec_l00In.f at H
  refine CV.body Tryz.func72 rfl Tryz.ntmps72 rfl ?_
  refine CJ.seq ?_
  refine CJ.region ?_
  refine OJ.pures tU_ok 1 rfl ?_
  refine OJ.nil (EJ.next ?_)
  refine CJ.seq ?_
  refine CJ.region ?_
  refine OJ.pures tU_ok 4 rfl ?_
  refine OJ.split (t := 10) rfl (fun hb => ?_) (fun hb => ?_)
  · replace H := pif_t (of_decide_eq_true hb) H
    refine OJ.pures tU_ok 5 rfl ?_
    refine OJ.nil (EJ.next ?_)
    refine CJ.ret (?_)
    obtain rfl := Option.some.inj H
    exact EJ.fin rfl (.tmp rfl .nil) ⟨rfl, hS.ext⟩
  · replace H := pif_f (of_decide_eq_false hb) H
    refine OJ.pures tU_ok 5 rfl ?_
    refine OJ.nil (EJ.next ?_)
    refine CJ.ret (?_)
    obtain rfl := Option.some.inj H
    exact EJ.fin rfl (.tmp rfl .nil) ⟨rfl, hS.ext⟩

def spec_l01Is.f (a0 : Pasture) (a1 : Spot) : Option Bool := (spec_l00In.f (IntKind.i64.wrap a1.X) 0 (IntKind.i64.wrap ((IntKind.i64.wrap a0.Wide) - 1))).bind fun t2 => if t2 = true then ((spec_l00In.f (IntKind.i64.wrap a1.Y) 0 (IntKind.i64.wrap ((IntKind.i64.wrap a0.High) - 1))).bind fun t3 => some t3) else (some false)
theorem spec_l01Is.c (w : World) (pa0 : Addr) (a0 : Pasture) (hp0 : CA w pa0 (cPasture.enc a0)) (a1 : Spot) (r : Bool) (H : spec_l01Is.f a0 a1 = some r) :
    CV Tryz.prog 59 [.pointer (some pa0), .agg (cSpot.enc a1).toArray].toArray w fun v w' => v = .bool r ∧ Ext w w' := by
  have hS := ((St.init w no).paramP pa0 (cPasture.enc a0) hp0)
  unfold spec_l01Is.f at H
  refine CV.body Tryz.func59 rfl Tryz.ntmps59 rfl ?_
  refine CJ.seq ?_
  refine CJ.region ?_
  refine OJ.ef rfl rfl rfl (Ef.box hS rfl rfl (cSpot.enc a1) rfl) ?_
  rintro _ w1 ⟨b1, rfl, hS⟩
  refine OJ.pures tU_ok 1 rfl ?_
  refine OJ.nil (EJ.next ?_)
  refine CJ.seq ?_
  refine CJ.draw [] [0, 1, 2, 3, 4, 5, 6, 7, 8, 9, 10, 11, 12, 13, 14, 15, 16, 17, 18, 19, 20, 21, 22] mixed (by kernel_rfl) hS fun w1 hS => ?_
  refine DJ.st rfl rfl rfl rfl rfl (SR.fieldAddr tU_ok tI_ok rfl rfl rfl rfl rfl rfl) ?_
  refine DJ.st rfl rfl rfl rfl rfl (SR.load rfl rfl (fun w' hx => ld1 tU_ok rfl rfl (CA.ext (CA.sub (hS.cells (i := 0) rfl) 0) hx) rfl)) ?_
  refine DJ.pures tU_ok 3 rfl ?_
  refine DJ.st rfl rfl rfl rfl rfl (SR.fieldAddr tU_ok tI_ok rfl rfl rfl rfl rfl rfl) ?_
  refine DJ.st rfl rfl rfl rfl rfl (SR.load rfl rfl (fun w' hx => ld1 tU_ok rfl rfl (CA.ext (CA.fld (hS.ca (i := 0) rfl) (mid_part (fe_Pasture_0 _) (fl_Pasture_0 _) ((ci .i8).len _))) hx) rfl)) ?_
  refine DJ.pures tU_ok 2 rfl ?_
  obtain ⟨t2, ht2, H⟩ := pbind H
  refine DJ.callF rfl rfl rfl rfl rfl rfl rfl hb72 rfl (spec_l00In.c _ (IntKind.i64.wrap a1.X) 0 (IntKind.i64.wrap ((IntKind.i64.wrap a0.Wide) - 1)) _ ht2) (by rintro v w' ⟨rfl, hs⟩; exact hs) ?_
  rintro _ w1 ⟨rfl, hs⟩
  replace hS := hS.grow hs
  refine DJ.pures tU_ok 1 rfl ?_
  refine DJ.split (t := 15) rfl (fun hb => ?_) (fun hb => ?_)
  · replace H := pif_t hb H
    refine DJ.st rfl rfl rfl rfl rfl (SR.fieldAddr tU_ok tI_ok rfl rfl rfl rfl rfl rfl) ?_
    refine DJ.st rfl rfl rfl rfl rfl (SR.load rfl rfl (fun w' hx => ld1 tU_ok rfl rfl (CA.ext (CA.sub (hS.cells (i := 0) rfl) 1) hx) rfl)) ?_
    refine DJ.pures tU_ok 3 rfl ?_
    refine DJ.st rfl rfl rfl rfl rfl (SR.fieldAddr tU_ok tI_ok rfl rfl rfl rfl rfl rfl) ?_
    refine DJ.st rfl rfl rfl rfl rfl (SR.load rfl rfl (fun w' hx => ld1 tU_ok rfl rfl (CA.ext (CA.fld (hS.ca (i := 0) rfl) (mid_part (fe_Pasture_1 _) (fl_Pasture_1 _) ((ci .i8).len _))) hx) rfl)) ?_
    refine DJ.pures tU_ok 2 rfl ?_
    obtain ⟨t3, ht3, H⟩ := pbind H
    refine DJ.callF rfl rfl rfl rfl rfl rfl rfl hb72 rfl (spec_l00In.c _ (IntKind.i64.wrap a1.Y) 0 (IntKind.i64.wrap ((IntKind.i64.wrap a0.High) - 1)) _ ht3) (by rintro v w' ⟨rfl, hs⟩; exact hs) ?_
    rintro _ w1 ⟨rfl, hs⟩
    replace hS := hS.grow hs
    refine DJ.pures tU_ok 2 rfl ?_
    refine DJ.nil (EJ.next ?_)
    refine CJ.ret (?_)
    obtain rfl := Option.some.inj H
    exact EJ.fin rfl (.tmp rfl .nil) ⟨rfl, hS.ext⟩
  · replace H := pifb_f hb H
    refine DJ.pures tU_ok 12 rfl ?_
    refine DJ.nil (EJ.next ?_)
    refine CJ.ret (?_)
    obtain rfl := Option.some.inj H
    exact EJ.fin rfl (.tmp rfl .nil) ⟨rfl, hS.ext⟩

def spec_l00Src_one.f (a0 : l00Src) (a1 : Int) : Option (Bool × l00Src) := (spec_l00Src_pick.f a0 a1).bind fun t1 => some (decide (t1.1 = 0), (⟨a0.code, t1.2.at_, t1.2.seed⟩ : l00Src))
theorem spec_l00Src_one.c (w : World) (Aa0_0 : Option Addr) (ca0_0 : Nat) (a0 : l00Src) (ba0 : Nat) (a1 : Int) (hin : St w (fpU [box ba0 ([.slice Aa0_0 a0.code.length ca0_0, .int .i64 a0.at_, .int .u64 a0.seed]) 108]) w [box ba0 ([.slice Aa0_0 a0.code.length ca0_0, .int .i64 a0.at_, .int .u64 a0.seed]) 108] [roC (ci .u8) Aa0_0 ca0_0 a0.code]) (r : Bool × l00Src) (H : spec_l00Src_one.f a0 a1 = some r) :
    CV Tryz.prog 64 [.pointer (some ⟨ba0, 0, none⟩), .int .i64 a1].toArray w fun v w' => v = .bool r.1 ∧ St w (fpU [box ba0 ([.slice Aa0_0 a0.code.length ca0_0, .int .i64 a0.at_, .int .u64 a0.seed]) 108]) w' [box ba0 ([.slice Aa0_0 a0.code.length ca0_0, .int .i64 r.2.at_, .int .u64 r.2.seed]) 108] [] := by
  have hS := hin
  unfold spec_l00Src_one.f at H
  refine CV.body Tryz.func64 rfl Tryz.ntmps64 rfl ?_
  refine CJ.seq ?_
  refine CJ.region ?_
  refine OJ.pures tU_ok 1 rfl ?_
  refine OJ.nil (EJ.next ?_)
  refine CJ.seq ?_
  refine CJ.region ?_
  refine OJ.pures tU_ok 2 rfl ?_
  obtain ⟨t1, ht1, H⟩ := pbind H
  refine OJ.callF rfl rfl rfl rfl rfl hb28 rfl (spec_l00Src_pick.c _ Aa0_0 ca0_0 a0 ba0 a1 ((hS.subs [0] [0] [] rfl).pick [0] [0] rfl) _ ht1) ?_
  rintro _ w1 ⟨rfl, hs⟩
  replace hS := hS.back [0] rfl rfl [box ba0 ([.slice Aa0_0 a0.code.length ca0_0, .int .i64 t1.2.at_, .int .u64 t1.2.seed]) 108] [] hs ⟨fun _ => Iff.rfl, trivial⟩
  refine OJ.pures tU_ok 2 rfl ?_
  refine OJ.nil (EJ.next ?_)
  refine CJ.ret (?_)
  obtain rfl := Option.some.inj H
  exact EJ.fin rfl (.tmp rfl .nil) ⟨rfl, hS.pick [0] [] rfl⟩

def spec_l01Set.f (a0 : Pasture) (a1 : Spot) (a2 : Int) (a3 : Bool) : Option Pasture := (if a2 = 0 then (some true) else (some (decide (a2 = 3)))).bind fun y2 => if y2 = true then ((spec_l01Next.f a1 a2).bind fun t3 => (chk (0 ≤ (IntKind.u64.wrap t3.X))).bind fun u4 => (if a2 = 1 then (some true) else (some (decide (a2 = 3)))).bind fun y5 => if y5 = true then ((getI a0.East.l t3.Y).bind fun t6 => (getI a0.East.l t3.Y).bind fun t7 => if a3 = true then ((getI (aset a0.East t3.Y.toNat (andNotI .u16 t6 (shlI .u16 1 (IntKind.u64.wrap t3.X)))).l t3.Y).bind fun t8 => (getI (aset a0.East t3.Y.toNat (andNotI .u16 t6 (shlI .u16 1 (IntKind.u64.wrap t3.X)))).l t3.Y).bind fun t9 => some (⟨a0.Wide, a0.High, a0.Grass, (aset (aset a0.East t3.Y.toNat (andNotI .u16 t6 (shlI .u16 1 (IntKind.u64.wrap t3.X)))) t3.Y.toNat (orI .u16 t8 (shlI .u16 1 (IntKind.u64.wrap t3.X)))), a0.South⟩ : Pasture)) else (some (⟨a0.Wide, a0.High, a0.Grass, (aset a0.East t3.Y.toNat (andNotI .u16 t6 (shlI .u16 1 (IntKind.u64.wrap t3.X)))), a0.South⟩ : Pasture))) else ((getI a0.South.l t3.Y).bind fun t10 => (getI a0.South.l t3.Y).bind fun t11 => if a3 = true then ((getI (aset a0.South t3.Y.toNat (andNotI .u16 t10 (shlI .u16 1 (IntKind.u64.wrap t3.X)))).l t3.Y).bind fun t12 => (getI (aset a0.South t3.Y.toNat (andNotI .u16 t10 (shlI .u16 1 (IntKind.u64.wrap t3.X)))).l t3.Y).bind fun t13 => some (⟨a0.Wide, a0.High, a0.Grass, a0.East, (aset (aset a0.South t3.Y.toNat (andNotI .u16 t10 (shlI .u16 1 (IntKind.u64.wrap t3.X)))) t3.Y.toNat (orI .u16 t12 (shlI .u16 1 (IntKind.u64.wrap t3.X))))⟩ : Pasture)) else (some (⟨a0.Wide, a0.High, a0.Grass, a0.East, (aset a0.South t3.Y.toNat (andNotI .u16 t10 (shlI .u16 1 (IntKind.u64.wrap t3.X))))⟩ : Pasture)))) else ((chk (0 ≤ (IntKind.u64.wrap a1.X))).bind fun u14 => (if a2 = 1 then (some true) else (some (decide (a2 = 3)))).bind fun y15 => if y15 = true then ((getI a0.East.l a1.Y).bind fun t16 => (getI a0.East.l a1.Y).bind fun t17 => if a3 = true then ((getI (aset a0.East a1.Y.toNat (andNotI .u16 t16 (shlI .u16 1 (IntKind.u64.wrap a1.X)))).l a1.Y).bind fun t18 => (getI (aset a0.East a1.Y.toNat (andNotI .u16 t16 (shlI .u16 1 (IntKind.u64.wrap a1.X)))).l a1.Y).bind fun t19 => some (⟨a0.Wide, a0.High, a0.Grass, (aset (aset a0.East a1.Y.toNat (andNotI .u16 t16 (shlI .u16 1 (IntKind.u64.wrap a1.X)))) a1.Y.toNat (orI .u16 t18 (shlI .u16 1 (IntKind.u64.wrap a1.X)))), a0.South⟩ : Pasture)) else (some (⟨a0.Wide, a0.High, a0.Grass, (aset a0.East a1.Y.toNat (andNotI .u16 t16 (shlI .u16 1 (IntKind.u64.wrap a1.X)))), a0.South⟩ : Pasture))) else ((getI a0.South.l a1.Y).bind fun t20 => (getI a0.South.l a1.Y).bind fun t21 => if a3 = true then ((getI (aset a0.South a1.Y.toNat (andNotI .u16 t20 (shlI .u16 1 (IntKind.u64.wrap a1.X)))).l a1.Y).bind fun t22 => (getI (aset a0.South a1.Y.toNat (andNotI .u16 t20 (shlI .u16 1 (IntKind.u64.wrap a1.X)))).l a1.Y).bind fun t23 => some (⟨a0.Wide, a0.High, a0.Grass, a0.East, (aset (aset a0.South a1.Y.toNat (andNotI .u16 t20 (shlI .u16 1 (IntKind.u64.wrap a1.X)))) a1.Y.toNat (orI .u16 t22 (shlI .u16 1 (IntKind.u64.wrap a1.X))))⟩ : Pasture)) else (some (⟨a0.Wide, a0.High, a0.Grass, a0.East, (aset a0.South a1.Y.toNat (andNotI .u16 t20 (shlI .u16 1 (IntKind.u64.wrap a1.X))))⟩ : Pasture))))
theorem spec_l01Set.c (w : World) (ba0 : Nat) (a0 : Pasture) (a1 : Spot) (a2 : Int) (a3 : Bool) (hin : St w (fpU [box ba0 (cPasture.enc a0) 31]) w [box ba0 (cPasture.enc a0) 31] []) (r : Pasture) (H : spec_l01Set.f a0 a1 a2 a3 = some r) :
    CV Tryz.prog 44 [.pointer (some ⟨ba0, 0, none⟩), .agg (cSpot.enc a1).toArray, .int .i64 a2, .bool a3].toArray w fun v w' => v = .tuple #[] ∧ St w (fpU [box ba0 (cPasture.enc a0) 31]) w' [box ba0 (cPasture.enc r) 31] [] := by
  have hS := hin
  unfold spec_l01Set.f at H
  refine CV.body Tryz.func44 rfl Tryz.ntmps44 rfl ?_
  refine CJ.seq ?_
  refine CJ.region ?_
  refine OJ.ef rfl rfl rfl (Ef.box hS rfl rfl (cSpot.enc a1) rfl) ?_
  rintro _ w1 ⟨b1, rfl, hS⟩
  refine OJ.nil (EJ.next ?_)
  refine CJ.seq ?_
  obtain ⟨j9, H, K9⟩ := pbind H
  refine CJ.cut (fun F w1 => ∃ (y2 : Bool) , (some y2 : Option Bool) = some j9 ∧ F = [(0, .pointer (some ⟨ba0, 0, none⟩)), (2, .int .i64 a2), (3, .bool a3), (5, .pointer (some ⟨b1, 0, none⟩)), (14, .bool y2)] ∧ St w (fpU [box ba0 (cPasture.enc a0) 31]) w1 [box ba0 (cPasture.enc a0) 31, box b1 (cSpot.enc a1) 34] []) ?_ ?_
  · skip
    refine CJ.region ?_
    refine OJ.pures tU_ok 3 rfl ?_
    refine OJ.split (t := 11) rfl (fun hb => ?_) (fun hb => ?_)
    · replace H := pif_t (of_decide_eq_true hb) H
      refine OJ.pures tU_ok 3 rfl ?_
      refine OJ.nil ?_
      exact EJ.meet (F' := [(0, .pointer (some ⟨ba0, 0, none⟩)), (2, .int .i64 a2), (3, .bool a3), (5, .pointer (some ⟨b1, 0, none⟩)), (14, .bool true)]) ⟨rfl, rfl, rfl, rfl, rfl, trivial⟩ ⟨true, H, rfl, hS.pick [0, 1] [] rfl⟩
    · replace H := pif_f (of_decide_eq_false hb) H
      refine OJ.pures tU_ok 3 rfl ?_
      refine OJ.nil ?_
      exact EJ.meet (F' := [(0, .pointer (some ⟨ba0, 0, none⟩)), (2, .int .i64 a2), (3, .bool a3), (5, .pointer (some ⟨b1, 0, none⟩)), (14, .bool (decide (a2 = 3)))]) ⟨rfl, rfl, rfl, rfl, rfl, trivial⟩ ⟨(decide (a2 = 3)), H, rfl, hS.pick [0, 1] [] rfl⟩
  · rintro F w1 ⟨y2, he, rfl, hS⟩
    obtain rfl := Option.some.inj he
    have H := K9
    refine CJ.cond rfl (fun hb => ?_) (fun hb => ?_)
    · replace H := pif_t hb H
      refine CJ.region ?_
      refine OJ.st rfl rfl rfl (SR.load rfl rfl (fun w' hx => ldE tU_ok tI_ok rfl rfl rfl (CA.ext (hS.cells (i := 1) rfl) hx) rfl)) ?_
      refine OJ.pures tU_ok 1 rfl ?_
      obtain ⟨t3, ht3, H⟩ := pbind H
      refine OJ.callF rfl rfl rfl rfl rfl hb60 rfl (spec_l01Next.c _ a1 a2 _ ht3) ?_
      rintro _ w1 ⟨rfl, hs⟩
      replace hS := hS.grow hs
      refine OJ.es rfl rfl (Es.store tI_ok hS (i := 1) rfl rfl rfl rfl rfl rfl (vs := cSpot.enc t3) rfl (cSpot.len _) (cSpot.one _) (Nat.le_of_ble_eq_true rfl) (cSpot.enc t3) rfl) ?_
      intro w1 hS
      refine OJ.nil (EJ.next ?_)
      refine CJ.seq ?_
      refine CJ.region ?_
      refine OJ.st rfl rfl rfl (SR.fieldAddr tU_ok tI_ok rfl rfl rfl rfl rfl rfl) ?_
      refine OJ.st rfl rfl rfl (SR.load rfl rfl (fun w' hx => ld1 tU_ok rfl rfl (CA.ext (CA.sub (hS.cells (i := 1) rfl) 0) hx) rfl)) ?_
      refine OJ.pures tU_ok 1 rfl ?_
      obtain ⟨u4, hu4, H⟩ := pbind H
      refine OJ.st rfl rfl rfl (SR.shl rfl rfl rfl (chk_some hu4)) ?_
      refine OJ.pures tU_ok 1 rfl ?_
      refine OJ.nil (EJ.next ?_)
      refine CJ.seq ?_
      obtain ⟨j10, H, K10⟩ := pbind H
      refine CJ.cut (fun F w1 => ∃ (y5 : Bool) , (some y5 : Option Bool) = some j10 ∧ F = [(0, .pointer (some ⟨ba0, 0, none⟩)), (3, .bool a3), (5, .pointer (some ⟨b1, 0, none⟩)), (8, .int .u16 (shlI .u16 1 (IntKind.u64.wrap t3.X))), (27, .bool y5)] ∧ St w (fpU [box ba0 (cPasture.enc a0) 31]) w1 [box ba0 (cPasture.enc a0) 31, box b1 (cSpot.enc t3) 34] []) ?_ ?_
      · skip
        refine CJ.region ?_
        refine OJ.pures tU_ok 3 rfl ?_
        refine OJ.split (t := 24) rfl (fun hb => ?_) (fun hb => ?_)
        · replace H := pif_t (of_decide_eq_true hb) H
          refine OJ.pures tU_ok 3 rfl ?_
          refine OJ.nil ?_
          exact EJ.meet (F' := [(0, .pointer (some ⟨ba0, 0, none⟩)), (3, .bool a3), (5, .pointer (some ⟨b1, 0, none⟩)), (8, .int .u16 (shlI .u16 1 (IntKind.u64.wrap t3.X))), (27, .bool true)]) ⟨rfl, rfl, rfl, rfl, rfl, trivial⟩ ⟨true, H, rfl, hS.pick [0, 1] [] rfl⟩
        · replace H := pif_f (of_decide_eq_false hb) H
          refine OJ.pures tU_ok 3 rfl ?_
          refine OJ.nil ?_
          exact EJ.meet (F' := [(0, .pointer (some ⟨ba0, 0, none⟩)), (3, .bool a3), (5, .pointer (some ⟨b1, 0, none⟩)), (8, .int .u16 (shlI .u16 1 (IntKind.u64.wrap t3.X))), (27, .bool (decide (a2 = 3)))]) ⟨rfl, rfl, rfl, rfl, rfl, trivial⟩ ⟨(decide (a2 = 3)), H, rfl, hS.pick [0, 1] [] rfl⟩
      · rintro F w1 ⟨y5, he, rfl, hS⟩
        obtain rfl := Option.some.inj he
        have H := K10
        refine CJ.cond rfl (fun hb => ?_) (fun hb => ?_)
        · replace H := pif_t hb H
          refine CJ.seq ?_
          refine CJ.draw [] [0, 1, 2, 3, 4, 5, 6, 7, 8, 9, 10, 11, 12] mixed (by kernel_rfl) hS fun w1 hS => ?_
          refine DJ.pures tU_ok 1 rfl ?_
          refine DJ.st rfl rfl rfl rfl rfl (SR.fieldAddr tU_ok tI_ok rfl rfl rfl rfl rfl rfl) ?_
          refine DJ.st rfl rfl rfl rfl rfl (SR.load rfl rfl (fun w' hx => ld1 tU_ok rfl rfl (CA.ext (CA.sub (hS.cells (i := 1) rfl) 1) hx) rfl)) ?_
          refine DJ.pures tU_ok 1 rfl ?_
          refine DJ.st rfl rfl rfl rfl rfl (SR.fieldAddr tU_ok tI_ok rfl rfl rfl rfl rfl rfl) ?_
          obtain ⟨t6, ht6, H⟩ := pbind H
          refine DJ.st rfl rfl rfl rfl rfl (SR.idxA tU_ok tI_ok rfl rfl rfl rfl rfl (Arr.lt ht6)) ?_
          refine DJ.st rfl rfl rfl rfl rfl (SR.load rfl rfl (fun w' hx => ld1 tU_ok rfl rfl (CA.ext (CA.idx (CA.fld (hS.cells (i := 0) rfl) (mid_part (fe_Pasture_3 _) (fl_Pasture_3 _) ((carr 10 (ci .u16)).len _))) ht6) hx) rfl)) ?_
          refine DJ.pures tU_ok 3 rfl ?_
          refine DJ.st rfl rfl rfl rfl rfl (SR.fieldAddr tU_ok tI_ok rfl rfl rfl rfl rfl rfl) ?_
          obtain ⟨t7, ht7, H⟩ := pbind H
          refine DJ.st rfl rfl rfl rfl rfl (SR.idxA tU_ok tI_ok rfl rfl rfl rfl rfl (Arr.lt ht7)) ?_
          refine DJ.es rfl rfl rfl rfl (Es.put tI_ok hS (i := 0) rfl rfl rfl rfl rfl (vs := (ci .u16).enc (andNotI .u16 t6 (shlI .u16 1 (IntKind.u64.wrap t3.X)))) rfl rfl (one1 rfl) (put_Pasture_3 (Put.idx (Put.all (ci .u16) t7 (andNotI .u16 t6 (shlI .u16 1 (IntKind.u64.wrap t3.X)))) ht7)) (by (try simp only [add_lit, Nat.add_assoc, Nat.zero_add, Nat.add_zero]) <;> rfl)) ?_
          intro w1 hS
          refine DJ.nil (EJ.next ?_)
          refine CJ.seq ?_
          refine CJ.seq ?_
          refine CJ.region ?_
          refine OJ.pures tU_ok 1 rfl ?_
          refine OJ.nil (EJ.next ?_)
          refine CJ.cond rfl (fun hb => ?_) (fun hb => ?_)
          · replace H := pif_t hb H
            refine CJ.draw [] [0, 1, 2, 3, 4, 5, 6, 7, 8, 9, 10, 11, 12] mixed (by kernel_rfl) hS fun w1 hS => ?_
            refine DJ.pures tU_ok 1 rfl ?_
            refine DJ.st rfl rfl rfl rfl rfl (SR.fieldAddr tU_ok tI_ok rfl rfl rfl rfl rfl rfl) ?_
            refine DJ.st rfl rfl rfl rfl rfl (SR.load rfl rfl (fun w' hx => ld1 tU_ok rfl rfl (CA.ext (CA.sub (hS.cells (i := 1) rfl) 1) hx) rfl)) ?_
            refine DJ.pures tU_ok 1 rfl ?_
            refine DJ.st rfl rfl rfl rfl rfl (SR.fieldAddr tU_ok tI_ok rfl rfl rfl rfl rfl rfl) ?_
            obtain ⟨t8, ht8, H⟩ := pbind H
            refine DJ.st rfl rfl rfl rfl rfl (SR.idxA tU_ok tI_ok rfl rfl rfl rfl rfl (Arr.lt ht8)) ?_
            refine DJ.st rfl rfl rfl rfl rfl (SR.load rfl rfl (fun w' hx => ld1 tU_ok rfl rfl (CA.ext (CA.idx (CA.fld (hS.cells (i := 0) rfl) (mid_part (fe_Pasture_3 _) (fl_Pasture_3 _) ((carr 10 (ci .u16)).len _))) ht8) hx) rfl)) ?_
            refine DJ.pures tU_ok 3 rfl ?_
            refine DJ.st rfl rfl rfl rfl rfl (SR.fieldAddr tU_ok tI_ok rfl rfl rfl rfl rfl rfl) ?_
            obtain ⟨t9, ht9, H⟩ := pbind H
            refine DJ.st rfl rfl rfl rfl rfl (SR.idxA tU_ok tI_ok rfl rfl rfl rfl rfl (Arr.lt ht9)) ?_
            refine DJ.es rfl rfl rfl rfl (Es.put tI_ok hS (i := 0) rfl rfl rfl rfl rfl (vs := (ci .u16).enc (orI .u16 t8 (shlI .u16 1 (IntKind.u64.wrap t3.X)))) rfl rfl (one1 rfl) (put_Pasture_3 (Put.idx (Put.all (ci .u16) t9 (orI .u16 t8 (shlI .u16 1 (IntKind.u64.wrap t3.X)))) ht9)) (by (try simp only [add_lit, Nat.add_assoc, Nat.zero_add, Nat.add_zero]) <;> rfl)) ?_
            intro w1 hS
            refine DJ.nil (EJ.next ?_)
            refine CJ.ret (EJ.skR (?_))
            obtain rfl := Option.some.inj H
            exact EJ.fin rfl .nil ⟨rfl, hS.pick [0] [] rfl⟩
          · replace H := pifb_f hb H
            refine CJ.skip (EJ.next ?_)
            refine CJ.ret (EJ.skR (?_))
            obtain rfl := Option.some.inj H
            exact EJ.fin rfl .nil ⟨rfl, hS.pick [0] [] rfl⟩
        · replace H := pifb_f hb H
          refine CJ.skip (EJ.next ?_)
          refine CJ.seq ?_
          refine CJ.draw [] [0, 1, 2, 3, 4, 5, 6, 7, 8, 9, 10, 11, 12] mixed (by kernel_rfl) hS fun w1 hS => ?_
          refine DJ.pures tU_ok 1 rfl ?_
          refine DJ.st rfl rfl rfl rfl rfl (SR.fieldAddr tU_ok tI_ok rfl rfl rfl rfl rfl rfl) ?_
          refine DJ.st rfl rfl rfl rfl rfl (SR.load rfl rfl (fun w' hx => ld1 tU_ok rfl rfl (CA.ext (CA.sub (hS.cells (i := 1) rfl) 1) hx) rfl)) ?_
          refine DJ.pures tU_ok 1 rfl ?_
          refine DJ.st rfl rfl rfl rfl rfl (SR.fieldAddr tU_ok tI_ok rfl rfl rfl rfl rfl rfl) ?_
          obtain ⟨t10, ht10, H⟩ := pbind H
          refine DJ.st rfl rfl rfl rfl rfl (SR.idxA tU_ok tI_ok rfl rfl rfl rfl rfl (Arr.lt ht10)) ?_
          refine DJ.st rfl rfl rfl rfl rfl (SR.load rfl rfl (fun w' hx => ld1 tU_ok rfl rfl (CA.ext (CA.idx (CA.fld (hS.cells (i := 0) rfl) (mid_part (fe_Pasture_4 _) (fl_Pasture_4 _) ((carr 10 (ci .u16)).len _))) ht10) hx) rfl)) ?_
          refine DJ.pures tU_ok 3 rfl ?_
          refine DJ.st rfl rfl rfl rfl rfl (SR.fieldAddr tU_ok tI_ok rfl rfl rfl rfl rfl rfl) ?_
          obtain ⟨t11, ht11, H⟩ := pbind H
          refine DJ.st rfl rfl rfl rfl rfl (SR.idxA tU_ok tI_ok rfl rfl rfl rfl rfl (Arr.lt ht11)) ?_
          refine DJ.es rfl rfl rfl rfl (Es.put tI_ok hS (i := 0) rfl rfl rfl rfl rfl (vs := (ci .u16).enc (andNotI .u16 t10 (shlI .u16 1 (IntKind.u64.wrap t3.X)))) rfl rfl (one1 rfl) (put_Pasture_4 (Put.idx (Put.all (ci .u16) t11 (andNotI .u16 t10 (shlI .u16 1 (IntKind.u64.wrap t3.X)))) ht11)) (by (try simp only [add_lit, Nat.add_assoc, Nat.zero_add, Nat.add_zero]) <;> rfl)) ?_
          intro w1 hS
          refine DJ.nil (EJ.next ?_)
          refine CJ.seq ?_
          refine CJ.region ?_
          refine OJ.pures tU_ok 1 rfl ?_
          refine OJ.nil (EJ.next ?_)
          refine CJ.cond rfl (fun hb => ?_) (fun hb => ?_)
          · replace H := pif_t hb H
            refine CJ.draw [] [0, 1, 2, 3, 4, 5, 6, 7, 8, 9, 10, 11, 12] mixed (by kernel_rfl) hS fun w1 hS => ?_
            refine DJ.pures tU_ok 1 rfl ?_
            refine DJ.st rfl rfl rfl rfl rfl (SR.fieldAddr tU_ok tI_ok rfl rfl rfl rfl rfl rfl) ?_
            refine DJ.st rfl rfl rfl rfl rfl (SR.load rfl rfl (fun w' hx => ld1 tU_ok rfl rfl (CA.ext (CA.sub (hS.cells (i := 1) rfl) 1) hx) rfl)) ?_
            refine DJ.pures tU_ok 1 rfl ?_
            refine DJ.st rfl rfl rfl rfl rfl (SR.fieldAddr tU_ok tI_ok rfl rfl rfl rfl rfl rfl) ?_
            obtain ⟨t12, ht12, H⟩ := pbind H
            refine DJ.st rfl rfl rfl rfl rfl (SR.idxA tU_ok tI_ok rfl rfl rfl rfl rfl (Arr.lt ht12)) ?_
            refine DJ.st rfl rfl rfl rfl rfl (SR.load rfl rfl (fun w' hx => ld1 tU_ok rfl rfl (CA.ext (CA.idx (CA.fld (hS.cells (i := 0) rfl) (mid_part (fe_Pasture_4 _) (fl_Pasture_4 _) ((carr 10 (ci .u16)).len _))) ht12) hx) rfl)) ?_
            refine DJ.pures tU_ok 3 rfl ?_
            refine DJ.st rfl rfl rfl rfl rfl (SR.fieldAddr tU_ok tI_ok rfl rfl rfl rfl rfl rfl) ?_
            obtain ⟨t13, ht13, H⟩ := pbind H
            refine DJ.st rfl rfl rfl rfl rfl (SR.idxA tU_ok tI_ok rfl rfl rfl rfl rfl (Arr.lt ht13)) ?_
            refine DJ.es rfl rfl rfl rfl (Es.put tI_ok hS (i := 0) rfl rfl rfl rfl rfl (vs := (ci .u16).enc (orI .u16 t12 (shlI .u16 1 (IntKind.u64.wrap t3.X)))) rfl rfl (one1 rfl) (put_Pasture_4 (Put.idx (Put.all (ci .u16) t13 (orI .u16 t12 (shlI .u16 1 (IntKind.u64.wrap t3.X)))) ht13)) (by (try simp only [add_lit, Nat.add_assoc, Nat.zero_add, Nat.add_zero]) <;> rfl)) ?_
            intro w1 hS
            refine DJ.nil ?_
            obtain rfl := Option.some.inj H
            exact EJ.fin' rfl .nil ⟨rfl, hS.pick [0] [] rfl⟩
          · replace H := pifb_f hb H
            refine CJ.skip (?_)
            obtain rfl := Option.some.inj H
            exact EJ.fin' rfl .nil ⟨rfl, hS.pick [0] [] rfl⟩
    · replace H := pifb_f hb H
      refine CJ.skip (EJ.next ?_)
      refine CJ.seq ?_
      refine CJ.region ?_
      refine OJ.st rfl rfl rfl (SR.fieldAddr tU_ok tI_ok rfl rfl rfl rfl rfl rfl) ?_
      refine OJ.st rfl rfl rfl (SR.load rfl rfl (fun w' hx => ld1 tU_ok rfl rfl (CA.ext (CA.sub (hS.cells (i := 1) rfl) 0) hx) rfl)) ?_
      refine OJ.pures tU_ok 1 rfl ?_
      obtain ⟨u14, hu14, H⟩ := pbind H
      refine OJ.st rfl rfl rfl (SR.shl rfl rfl rfl (chk_some hu14)) ?_
      refine OJ.pures tU_ok 1 rfl ?_
      refine OJ.nil (EJ.next ?_)
      refine CJ.seq ?_
      obtain ⟨j11, H, K11⟩ := pbind H
      refine CJ.cut (fun F w1 => ∃ (y15 : Bool) , (some y15 : Option Bool) = some j11 ∧ F = [(0, .pointer (some ⟨ba0, 0, none⟩)), (3, .bool a3), (5, .pointer (some ⟨b1, 0, none⟩)), (8, .int .u16 (shlI .u16 1 (IntKind.u64.wrap a1.X))), (27, .bool y15)] ∧ St w (fpU [box ba0 (cPasture.enc a0) 31]) w1 [box ba0 (cPasture.enc a0) 31, box b1 (cSpot.enc a1) 34] []) ?_ ?_
      · skip
        refine CJ.region ?_
        refine OJ.pures tU_ok 3 rfl ?_
        refine OJ.split (t := 24) rfl (fun hb => ?_) (fun hb => ?_)
        · replace H := pif_t (of_decide_eq_true hb) H
          refine OJ.pures tU_ok 3 rfl ?_
          refine OJ.nil ?_
          exact EJ.meet (F' := [(0, .pointer (some ⟨ba0, 0, none⟩)), (3, .bool a3), (5, .pointer (some ⟨b1, 0, none⟩)), (8, .int .u16 (shlI .u16 1 (IntKind.u64.wrap a1.X))), (27, .bool true)]) ⟨rfl, rfl, rfl, rfl, rfl, trivial⟩ ⟨true, H, rfl, hS.pick [0, 1] [] rfl⟩
        · replace H := pif_f (of_decide_eq_false hb) H
          refine OJ.pures tU_ok 3 rfl ?_
          refine OJ.nil ?_
          exact EJ.meet (F' := [(0, .pointer (some ⟨ba0, 0, none⟩)), (3, .bool a3), (5, .pointer (some ⟨b1, 0, none⟩)), (8, .int .u16 (shlI .u16 1 (IntKind.u64.wrap a1.X))), (27, .bool (decide (a2 = 3)))]) ⟨rfl, rfl, rfl, rfl, rfl, trivial⟩ ⟨(decide (a2 = 3)), H, rfl, hS.pick [0, 1] [] rfl⟩
      · rintro F w1 ⟨y15, he, rfl, hS⟩
        obtain rfl := Option.some.inj he
        have H := K11
        refine CJ.cond rfl (fun hb => ?_) (fun hb => ?_)
        · replace H := pif_t hb H
          refine CJ.seq ?_
          refine CJ.draw [] [0, 1, 2, 3, 4, 5, 6, 7, 8, 9, 10, 11, 12] mixed (by kernel_rfl) hS fun w1 hS => ?_
          refine DJ.pures tU_ok 1 rfl ?_
          refine DJ.st rfl rfl rfl rfl rfl (SR.fieldAddr tU_ok tI_ok rfl rfl rfl rfl rfl rfl) ?_
          refine DJ.st rfl rfl rfl rfl rfl (SR.load rfl rfl (fun w' hx => ld1 tU_ok rfl rfl (CA.ext (CA.sub (hS.cells (i := 1) rfl) 1) hx) rfl)) ?_
          refine DJ.pures tU_ok 1 rfl ?_
          refine DJ.st rfl rfl rfl rfl rfl (SR.fieldAddr tU_ok tI_ok rfl rfl rfl rfl rfl rfl) ?_
          obtain ⟨t16, ht16, H⟩ := pbind H
          refine DJ.st rfl rfl rfl rfl rfl (SR.idxA tU_ok tI_ok rfl rfl rfl rfl rfl (Arr.lt ht16)) ?_
          refine DJ.st rfl rfl rfl rfl rfl (SR.load rfl rfl (fun w' hx => ld1 tU_ok rfl rfl (CA.ext (CA.idx (CA.fld (hS.cells (i := 0) rfl) (mid_part (fe_Pasture_3 _) (fl_Pasture_3 _) ((carr 10 (ci .u16)).len _))) ht16) hx) rfl)) ?_
          refine DJ.pures tU_ok 3 rfl ?_
          refine DJ.st rfl rfl rfl rfl rfl (SR.fieldAddr tU_ok tI_ok rfl rfl rfl rfl rfl rfl) ?_
          obtain ⟨t17, ht17, H⟩ := pbind H
          refine DJ.st rfl rfl rfl rfl rfl (SR.idxA tU_ok tI_ok rfl rfl rfl rfl rfl (Arr.lt ht17)) ?_
          refine DJ.es rfl rfl rfl rfl (Es.put tI_ok hS (i := 0) rfl rfl rfl rfl rfl (vs := (ci .u16).enc (andNotI .u16 t16 (shlI .u16 1 (IntKind.u64.wrap a1.X)))) rfl rfl (one1 rfl) (put_Pasture_3 (Put.idx (Put.all (ci .u16) t17 (andNotI .u16 t16 (shlI .u16 1 (IntKind.u64.wrap a1.X)))) ht17)) (by (try simp only [add_lit, Nat.add_assoc, Nat.zero_add, Nat.add_zero]) <;> rfl)) ?_
          intro w1 hS
          refine DJ.nil (EJ.next ?_)
          refine CJ.seq ?_
          refine CJ.seq ?_
          refine CJ.region ?_
          refine OJ.pures tU_ok 1 rfl ?_
          refine OJ.nil (EJ.next ?_)
          refine CJ.cond rfl (fun hb => ?_) (fun hb => ?_)
          · replace H := pif_t hb H
            refine CJ.draw [] [0, 1, 2, 3, 4, 5, 6, 7, 8, 9, 10, 11, 12] mixed (by kernel_rfl) hS fun w1 hS => ?_
            refine DJ.pures tU_ok 1 rfl ?_
            refine DJ.st rfl rfl rfl rfl rfl (SR.fieldAddr tU_ok tI_ok rfl rfl rfl rfl rfl rfl) ?_
            refine DJ.st rfl rfl rfl rfl rfl (SR.load rfl rfl (fun w' hx => ld1 tU_ok rfl rfl (CA.ext (CA.sub (hS.cells (i := 1) rfl) 1) hx) rfl)) ?_
            refine DJ.pures tU_ok 1 rfl ?_
            refine DJ.st rfl rfl rfl rfl rfl (SR.fieldAddr tU_ok tI_ok rfl rfl rfl rfl rfl rfl) ?_
            obtain ⟨t18, ht18, H⟩ := pbind H
            refine DJ.st rfl rfl rfl rfl rfl (SR.idxA tU_ok tI_ok rfl rfl rfl rfl rfl (Arr.lt ht18)) ?_
            refine DJ.st rfl rfl rfl rfl rfl (SR.load rfl rfl (fun w' hx => ld1 tU_ok rfl rfl (CA.ext (CA.idx (CA.fld (hS.cells (i := 0) rfl) (mid_part (fe_Pasture_3 _) (fl_Pasture_3 _) ((carr 10 (ci .u16)).len _))) ht18) hx) rfl)) ?_
            refine DJ.pures tU_ok 3 rfl ?_
            refine DJ.st rfl rfl rfl rfl rfl (SR.fieldAddr tU_ok tI_ok rfl rfl rfl rfl rfl rfl) ?_
            obtain ⟨t19, ht19, H⟩ := pbind H
            refine DJ.st rfl rfl rfl rfl rfl (SR.idxA tU_ok tI_ok rfl rfl rfl rfl rfl (Arr.lt ht19)) ?_
            refine DJ.es rfl rfl rfl rfl (Es.put tI_ok hS (i := 0) rfl rfl rfl rfl rfl (vs := (ci .u16).enc (orI .u16 t18 (shlI .u16 1 (IntKind.u64.wrap a1.X)))) rfl rfl (one1 rfl) (put_Pasture_3 (Put.idx (Put.all (ci .u16) t19 (orI .u16 t18 (shlI .u16 1 (IntKind.u64.wrap a1.X)))) ht19)) (by (try simp only [add_lit, Nat.add_assoc, Nat.zero_add, Nat.add_zero]) <;> rfl)) ?_
            intro w1 hS
            refine DJ.nil (EJ.next ?_)
            refine CJ.ret (EJ.skR (?_))
            obtain rfl := Option.some.inj H
            exact EJ.fin rfl .nil ⟨rfl, hS.pick [0] [] rfl⟩
          · replace H := pifb_f hb H
            refine CJ.skip (EJ.next ?_)
            refine CJ.ret (EJ.skR (?_))
            obtain rfl := Option.some.inj H
            exact EJ.fin rfl .nil ⟨rfl, hS.pick [0] [] rfl⟩
        · replace H := pifb_f hb H
          refine CJ.skip (EJ.next ?_)
          refine CJ.seq ?_
          refine CJ.draw [] [0, 1, 2, 3, 4, 5, 6, 7, 8, 9, 10, 11, 12] mixed (by kernel_rfl) hS fun w1 hS => ?_
          refine DJ.pures tU_ok 1 rfl ?_
          refine DJ.st rfl rfl rfl rfl rfl (SR.fieldAddr tU_ok tI_ok rfl rfl rfl rfl rfl rfl) ?_
          refine DJ.st rfl rfl rfl rfl rfl (SR.load rfl rfl (fun w' hx => ld1 tU_ok rfl rfl (CA.ext (CA.sub (hS.cells (i := 1) rfl) 1) hx) rfl)) ?_
          refine DJ.pures tU_ok 1 rfl ?_
          refine DJ.st rfl rfl rfl rfl rfl (SR.fieldAddr tU_ok tI_ok rfl rfl rfl rfl rfl rfl) ?_
          obtain ⟨t20, ht20, H⟩ := pbind H
          refine DJ.st rfl rfl rfl rfl rfl (SR.idxA tU_ok tI_ok rfl rfl rfl rfl rfl (Arr.lt ht20)) ?_
          refine DJ.st rfl rfl rfl rfl rfl (SR.load rfl rfl (fun w' hx => ld1 tU_ok rfl rfl (CA.ext (CA.idx (CA.fld (hS.cells (i := 0) rfl) (mid_part (fe_Pasture_4 _) (fl_Pasture_4 _) ((carr 10 (ci .u16)).len _))) ht20) hx) rfl)) ?_
          refine DJ.pures tU_ok 3 rfl ?_
          refine DJ.st rfl rfl rfl rfl rfl (SR.fieldAddr tU_ok tI_ok rfl rfl rfl rfl rfl rfl) ?_
          obtain ⟨t21, ht21, H⟩ := pbind H
          refine DJ.st rfl rfl rfl rfl rfl (SR.idxA tU_ok tI_ok rfl rfl rfl rfl rfl (Arr.lt ht21)) ?_
          refine DJ.es rfl rfl rfl rfl (Es.put tI_ok hS (i := 0) rfl rfl rfl rfl rfl (vs := (ci .u16).enc (andNotI .u16 t20 (shlI .u16 1 (IntKind.u64.wrap a1.X)))) rfl rfl (one1 rfl) (put_Pasture_4 (Put.idx (Put.all (ci .u16) t21 (andNotI .u16 t20 (shlI .u16 1 (IntKind.u64.wrap a1.X)))) ht21)) (by (try simp only [add_lit, Nat.add_assoc, Nat.zero_add, Nat.add_zero]) <;> rfl)) ?_
          intro w1 hS
          refine DJ.nil (EJ.next ?_)
          refine CJ.seq ?_
          refine CJ.region ?_
          refine OJ.pures tU_ok 1 rfl ?_
          refine OJ.nil (EJ.next ?_)
          refine CJ.cond rfl (fun hb => ?_) (fun hb => ?_)
          · replace H := pif_t hb H
            refine CJ.draw [] [0, 1, 2, 3, 4, 5, 6, 7, 8, 9, 10, 11, 12] mixed (by kernel_rfl) hS fun w1 hS => ?_
            refine DJ.pures tU_ok 1 rfl ?_
            refine DJ.st rfl rfl rfl rfl rfl (SR.fieldAddr tU_ok tI_ok rfl rfl rfl rfl rfl rfl) ?_
            refine DJ.st rfl rfl rfl rfl rfl (SR.load rfl rfl (fun w' hx => ld1 tU_ok rfl rfl (CA.ext (CA.sub (hS.cells (i := 1) rfl) 1) hx) rfl)) ?_
            refine DJ.pures tU_ok 1 rfl ?_
            refine DJ.st rfl rfl rfl rfl rfl (SR.fieldAddr tU_ok tI_ok rfl rfl rfl rfl rfl rfl) ?_
            obtain ⟨t22, ht22, H⟩ := pbind H
            refine DJ.st rfl rfl rfl rfl rfl (SR.idxA tU_ok tI_ok rfl rfl rfl rfl rfl (Arr.lt ht22)) ?_
            refine DJ.st rfl rfl rfl rfl rfl (SR.load rfl rfl (fun w' hx => ld1 tU_ok rfl rfl (CA.ext (CA.idx (CA.fld (hS.cells (i := 0) rfl) (mid_part (fe_Pasture_4 _) (fl_Pasture_4 _) ((carr 10 (ci .u16)).len _))) ht22) hx) rfl)) ?_
            refine DJ.pures tU_ok 3 rfl ?_
            refine DJ.st rfl rfl rfl rfl rfl (SR.fieldAddr tU_ok tI_ok rfl rfl rfl rfl rfl rfl) ?_
            obtain ⟨t23, ht23, H⟩ := pbind H
            refine DJ.st rfl rfl rfl rfl rfl (SR.idxA tU_ok tI_ok rfl rfl rfl rfl rfl (Arr.lt ht23)) ?_
            refine DJ.es rfl rfl rfl rfl (Es.put tI_ok hS (i := 0) rfl rfl rfl rfl rfl (vs := (ci .u16).enc (orI .u16 t22 (shlI .u16 1 (IntKind.u64.wrap a1.X)))) rfl rfl (one1 rfl) (put_Pasture_4 (Put.idx (Put.all (ci .u16) t23 (orI .u16 t22 (shlI .u16 1 (IntKind.u64.wrap a1.X)))) ht23)) (by (try simp only [add_lit, Nat.add_assoc, Nat.zero_add, Nat.add_zero]) <;> rfl)) ?_
            intro w1 hS
            refine DJ.nil ?_
            obtain rfl := Option.some.inj H
            exact EJ.fin' rfl .nil ⟨rfl, hS.pick [0] [] rfl⟩
          · replace H := pifb_f hb H
            refine CJ.skip (?_)
            obtain rfl := Option.some.inj H
            exact EJ.fin' rfl .nil ⟨rfl, hS.pick [0] [] rfl⟩

def spec_l01Drawn.l3 (a0 : l00Src) (t5 : Int × l00Src) (y10 : Int) (y20 : Int) : Nat → Pasture → Int → Int → Int → Option (Pasture × Int × Int)
  | 0, _, _, _, _ => none
  | k + 1, y32, y33, y34, y35 => if y33 ≤ 2 then ((spec_l01Next.f (⟨y20, y10⟩ : Spot) y33).bind fun t37 => (spec_l01Is.f y32 t37).bind fun t38 => if t38 = true then ((spec_l00Src_one.f (⟨a0.code, y34, y35⟩ : l00Src) (IntKind.i64.wrap (2 + t5.1))).bind fun t39 => if t39.1 = true then ((spec_l01Set.f y32 (⟨y20, y10⟩ : Spot) y33 true).bind fun t40 => spec_l01Drawn.l3 a0 t5 y10 y20 k t40 (IntKind.i64.wrap (y33 + 1)) t39.2.at_ t39.2.seed) else (spec_l01Drawn.l3 a0 t5 y10 y20 k y32 (IntKind.i64.wrap (y33 + 1)) t39.2.at_ t39.2.seed)) else (spec_l01Drawn.l3 a0 t5 y10 y20 k y32 (IntKind.i64.wrap (y33 + 1)) y34 y35)) else (some (y32, y34, y35))
def spec_l01Drawn.l2 (a0 : l00Src) (t5 : Int × l00Src) (y10 : Int) : Nat → Pasture → Int → Int → Int → Option (Pasture × Int × Int)
  | 0, _, _, _, _ => none
  | k + 1, y19, y20, y21, y22 => if y20 < y19.Wide then (((getI y19.Grass.l y10).bind fun t26 => (spec_l00Src_pick.f (⟨a0.code, y21, y22⟩ : l00Src) 12).bind fun t27 => (getI t26.l y20).bind fun t28 => (spec_l01Drawn.l3 a0 t5 y10 y20 k (⟨y19.Wide, y19.High, (aset y19.Grass y10.toNat (aset t26 y20.toNat (IntKind.i16.wrap t27.1))), y19.East, y19.South⟩ : Pasture) 1 t27.2.at_ t27.2.seed).bind fun (y29, y30, y31) => some (y29, y30, y31)).bind fun (y23, y24, y25) => spec_l01Drawn.l2 a0 t5 y10 k y23 (IntKind.i8.wrap (y20 + 1)) y24 y25) else (some (y19, y21, y22))
def spec_l01Drawn.l1 (a0 : l00Src) (t5 : Int × l00Src) : Nat → Pasture → Int → Int → Int → Option (Pasture × Int × Int)
  | 0, _, _, _, _ => none
  | k + 1, y9, y10, y11, y12 => if y10 < y9.High then (((spec_l01Drawn.l2 a0 t5 y10 k y9 0 y11 y12).bind fun (y16, y17, y18) => some (y16, y17, y18)).bind fun (y13, y14, y15) => spec_l01Drawn.l1 a0 t5 k y13 (IntKind.i8.wrap (y10 + 1)) y14 y15) else (some (y9, y11, y12))
def spec_l01Drawn.f (k : Nat) (a0 : l00Src) : Option (Pasture × l00Src) := (spec_l00Src_pick.f a0 5).bind fun t2 => (spec_l00Src_pick.f (⟨a0.code, t2.2.at_, t2.2.seed⟩ : l00Src) 5).bind fun t4 => (spec_l00Src_pick.f (⟨a0.code, t4.2.at_, t4.2.seed⟩ : l00Src) 5).bind fun t5 => (spec_l01Drawn.l1 a0 t5 k (⟨IntKind.i8.wrap (IntKind.i64.wrap (1 + t2.1)), IntKind.i8.wrap (IntKind.i64.wrap (1 + t4.1)), (Arr.mk' (Arr.mk' 0 : Arr 10 Int) : Arr 10 (Arr 10 Int)), (Arr.mk' 0 : Arr 10 Int), (Arr.mk' 0 : Arr 10 Int)⟩ : Pasture) 0 t5.2.at_ t5.2.seed).bind fun (y6, y7, y8) => some (y6, (⟨a0.code, y7, y8⟩ : l00Src))
theorem spec_l01Drawn.c (k : Nat) (w : World) (Aa0_0 : Option Addr) (ca0_0 : Nat) (a0 : l00Src) (ba0 : Nat) (hin : St w (fpU [box ba0 ([.slice Aa0_0 a0.code.length ca0_0, .int .i64 a0.at_, .int .u64 a0.seed]) 108]) w [box ba0 ([.slice Aa0_0 a0.code.length ca0_0, .int .i64 a0.at_, .int .u64 a0.seed]) 108] [roC (ci .u8) Aa0_0 ca0_0 a0.code]) (r : Pasture × l00Src) (H : spec_l01Drawn.f k a0 = some r) :
    CV Tryz.prog 26 [.pointer (some ⟨ba0, 0, none⟩)].toArray w fun v w' => v = .agg (cPasture.enc r.1).toArray ∧ St w (fpU [box ba0 ([.slice Aa0_0 a0.code.length ca0_0, .int .i64 a0.at_, .int .u64 a0.seed]) 108]) w' [box ba0 ([.slice Aa0_0 a0.code.length ca0_0, .int .i64 r.2.at_, .int .u64 r.2.seed]) 108] [] := by
  have hS := hin
  unfold spec_l01Drawn.f at H
  refine CV.body Tryz.func26 rfl Tryz.ntmps26 rfl ?_
  refine CJ.seq ?_
  refine CJ.region ?_
  refine OJ.ef rfl rfl rfl (Ef.alloc hS tI_ok rfl rfl (cPasture.enc (⟨0, 0, (Arr.mk' (Arr.mk' 0 : Arr 10 Int) : Arr 10 (Arr 10 Int)), (Arr.mk' 0 : Arr 10 Int), (Arr.mk' 0 : Arr 10 Int)⟩ : Pasture)) (by kernel_rfl)) ?_
  rintro _ w1 ⟨b1, rfl, hS⟩
  refine OJ.nil (EJ.next ?_)
  refine CJ.seq ?_
  refine CJ.region ?_
  refine OJ.pures tU_ok 1 rfl ?_
  obtain ⟨t2, ht2, H⟩ := pbind H
  refine OJ.callF rfl rfl rfl rfl rfl hb28 rfl (spec_l00Src_pick.c _ Aa0_0 ca0_0 a0 ba0 5 ((hS.subs [0] [0] [] rfl).pick [0] [0] rfl) _ ht2) ?_
  rintro _ w1 ⟨rfl, hs⟩
  replace hS := hS.back [0] rfl rfl [box ba0 ([.slice Aa0_0 a0.code.length ca0_0, .int .i64 t2.2.at_, .int .u64 t2.2.seed]) 108] [] hs ⟨fun _ => Iff.rfl, trivial⟩
  refine OJ.pures tU_ok 2 rfl ?_
  refine OJ.st rfl rfl rfl (SR.build (C := cPasture) tU_ok tI_ok rfl rfl rfl (zs := [.int .i8 0, .int .i8 0, .int .i16 0, .int .i16 0, .int .i16 0, .int .i16 0, .int .i16 0, .int .i16 0, .int .i16 0, .int .i16 0, .int .i16 0, .int .i16 0, .int .i16 0, .int .i16 0, .int .i16 0, .int .i16 0, .int .i16 0, .int .i16 0, .int .i16 0, .int .i16 0, .int .i16 0, .int .i16 0, .int .i16 0, .int .i16 0, .int .i16 0, .int .i16 0, .int .i16 0, .int .i16 0, .int .i16 0, .int .i16 0, .int .i16 0, .int .i16 0, .int .i16 0, .int .i16 0, .int .i16 0, .int .i16 0, .int .i16 0, .int .i16 0, .int .i16 0, .int .i16 0, .int .i16 0, .int .i16 0, .int .i16 0, .int .i16 0, .int .i16 0, .int .i16 0, .int .i16 0, .int .i16 0, .int .i16 0, .int .i16 0, .int .i16 0, .int .i16 0, .int .i16 0, .int .i16 0, .int .i16 0, .int .i16 0, .int .i16 0, .int .i16 0, .int .i16 0, .int .i16 0, .int .i16 0, .int .i16 0, .int .i16 0, .int .i16 0, .int .i16 0, .int .i16 0, .int .i16 0, .int .i16 0, .int .i16 0, .int .i16 0, .int .i16 0, .int .i16 0, .int .i16 0, .int .i16 0, .int .i16 0, .int .i16 0, .int .i16 0, .int .i16 0, .int .i16 0, .int .i16 0, .int .i16 0, .int .i16 0, .int .i16 0, .int .i16 0, .int .i16 0, .int .i16 0, .int .i16 0, .int .i16 0, .int .i16 0, .int .i16 0, .int .i16 0, .int .i16 0, .int .i16 0, .int .i16 0, .int .i16 0, .int .i16 0, .int .i16 0, .int .i16 0, .int .i16 0, .int .i16 0, .int .i16 0, .int .i16 0, .int .u16 0, .int .u16 0, .int .u16 0, .int .u16 0, .int .u16 0, .int .u16 0, .int .u16 0, .int .u16 0, .int .u16 0, .int .u16 0, .int .u16 0, .int .u16 0, .int .u16 0, .int .u16 0, .int .u16 0, .int .u16 0, .int .u16 0, .int .u16 0, .int .u16 0, .int .u16 0]) rfl rfl rfl (⟨IntKind.i8.wrap (IntKind.i64.wrap (1 + t2.1)), 0, (Arr.mk' (Arr.mk' 0 : Arr 10 Int) : Arr 10 (Arr 10 Int)), (Arr.mk' 0 : Arr 10 Int), (Arr.mk' 0 : Arr 10 Int)⟩ : Pasture) rfl) ?_
  refine OJ.ef rfl rfl rfl (Ef.alloc hS tI_ok rfl rfl (cPasture.enc (⟨0, 0, (Arr.mk' (Arr.mk' 0 : Arr 10 Int) : Arr 10 (Arr 10 Int)), (Arr.mk' 0 : Arr 10 Int), (Arr.mk' 0 : Arr 10 Int)⟩ : Pasture)) (by kernel_rfl)) ?_
  rintro _ w1 ⟨b3, rfl, hS⟩
  refine OJ.es rfl rfl (Es.put tI_ok hS (i := 2) rfl rfl rfl rfl rfl (vs := cPasture.enc (⟨IntKind.i8.wrap (IntKind.i64.wrap (1 + t2.1)), 0, (Arr.mk' (Arr.mk' 0 : Arr 10 Int) : Arr 10 (Arr 10 Int)), (Arr.mk' 0 : Arr 10 Int), (Arr.mk' 0 : Arr 10 Int)⟩ : Pasture)) rfl (cPasture.len _) (cPasture.one _) (Put.all cPasture (⟨0, 0, (Arr.mk' (Arr.mk' 0 : Arr 10 Int) : Arr 10 (Arr 10 Int)), (Arr.mk' 0 : Arr 10 Int), (Arr.mk' 0 : Arr 10 Int)⟩ : Pasture) (⟨IntKind.i8.wrap (IntKind.i64.wrap (1 + t2.1)), 0, (Arr.mk' (Arr.mk' 0 : Arr 10 Int) : Arr 10 (Arr 10 Int)), (Arr.mk' 0 : Arr 10 Int), (Arr.mk' 0 : Arr 10 Int)⟩ : Pasture)) (by (try simp only [add_lit, Nat.add_assoc, Nat.zero_add, Nat.add_zero]) <;> rfl)) ?_
  intro w1 hS
  refine OJ.nil (EJ.next ?_)
  refine CJ.seq ?_
  refine CJ.region ?_
  refine OJ.pures tU_ok 1 rfl ?_
  obtain ⟨t4, ht4, H⟩ := pbind H
  refine OJ.callF rfl rfl rfl rfl rfl hb28 rfl (spec_l00Src_pick.c _ Aa0_0 ca0_0 (⟨a0.code, t2.2.at_, t2.2.seed⟩ : l00Src) ba0 5 ((hS.subs [0] [0] [] rfl).pick [0] [0] rfl) _ ht4) ?_
  rintro _ w1 ⟨rfl, hs⟩
  replace hS := hS.back [0] rfl rfl [box ba0 ([.slice Aa0_0 a0.code.length ca0_0, .int .i64 t4.2.at_, .int .u64 t4.2.seed]) 108] [] hs ⟨fun _ => Iff.rfl, trivial⟩
  refine OJ.pures tU_ok 2 rfl ?_
  refine OJ.st rfl rfl rfl (SR.fieldAddr tU_ok tI_ok rfl rfl rfl rfl rfl rfl) ?_
  refine OJ.es rfl rfl (Es.put tI_ok hS (i := 2) rfl rfl rfl rfl rfl (vs := (ci .i8).enc (IntKind.i8.wrap (IntKind.i64.wrap (1 + t4.1)))) rfl rfl (one1 rfl) (put_Pasture_1 (Put.all (ci .i8) 0 (IntKind.i8.wrap (IntKind.i64.wrap (1 + t4.1))))) (by (try simp only [add_lit, Nat.add_assoc, Nat.zero_add, Nat.add_zero]) <;> rfl)) ?_
  intro w1 hS
  refine OJ.nil (EJ.next ?_)
  refine CJ.seq ?_
  refine CJ.region ?_
  refine OJ.pures tU_ok 1 rfl ?_
  obtain ⟨t5, ht5, H⟩ := pbind H
  refine OJ.callF rfl rfl rfl rfl rfl hb28 rfl (spec_l00Src_pick.c _ Aa0_0 ca0_0 (⟨a0.code, t4.2.at_, t4.2.seed⟩ : l00Src) ba0 5 ((hS.subs [0] [0] [] rfl).pick [0] [0] rfl) _ ht5) ?_
  rintro _ w1 ⟨rfl, hs⟩
  replace hS := hS.back [0] rfl rfl [box ba0 ([.slice Aa0_0 a0.code.length ca0_0, .int .i64 t5.2.at_, .int .u64 t5.2.seed]) 108] [] hs ⟨fun _ => Iff.rfl, trivial⟩
  refine OJ.pures tU_ok 2 rfl ?_
  refine OJ.nil (EJ.next ?_)
  refine CJ.seq ?_
  refine CJ.seq ?_
  refine CJ.region ?_
  refine OJ.pures tU_ok 1 rfl ?_
  refine OJ.nil (EJ.next ?_)
  obtain ⟨j2, H, K2⟩ := pbind H
  refine CJ.cut1 (fun F w1 => ∃ (y6 : Pasture) (y7 : Int) (y8 : Int) , (some (y6, y7, y8) : Option (Pasture × Int × Int)) = some j2 ∧ F = [(2, .pointer (some ⟨b1, 0, none⟩)), (3, .pointer (some ⟨b3, 0, none⟩))] ∧ St w (fpU [box ba0 ([.slice Aa0_0 a0.code.length ca0_0, .int .i64 a0.at_, .int .u64 a0.seed]) 108]) w1 [box ba0 ([.slice Aa0_0 a0.code.length ca0_0, .int .i64 y7, .int .u64 y8]) 108, box b1 (cPasture.enc (⟨0, 0, (Arr.mk' (Arr.mk' 0 : Arr 10 Int) : Arr 10 (Arr 10 Int)), (Arr.mk' 0 : Arr 10 Int), (Arr.mk' 0 : Arr 10 Int)⟩ : Pasture)) 31, box b3 (cPasture.enc y6) 31] [roC (ci .u8) Aa0_0 ca0_0 a0.code]) ?_ ?_
  · skip
    refine CJ.block ?_
    refine CJ.loop (fun k F w1 => ∃ (y9 : Pasture) (y10 : Int) (y11 : Int) (y12 : Int), F = [(0, .pointer (some ⟨ba0, 0, none⟩)), (2, .pointer (some ⟨b1, 0, none⟩)), (3, .pointer (some ⟨b3, 0, none⟩)), (4, .int .i64 (IntKind.i64.wrap (2 + t5.1))), (5, .int .i8 y10)] ∧ St w (fpU [box ba0 ([.slice Aa0_0 a0.code.length ca0_0, .int .i64 a0.at_, .int .u64 a0.seed]) 108]) w1 [box ba0 ([.slice Aa0_0 a0.code.length ca0_0, .int .i64 y11, .int .u64 y12]) 108, box b1 (cPasture.enc (⟨0, 0, (Arr.mk' (Arr.mk' 0 : Arr 10 Int) : Arr 10 (Arr 10 Int)), (Arr.mk' 0 : Arr 10 Int), (Arr.mk' 0 : Arr 10 Int)⟩ : Pasture)) 31, box b3 (cPasture.enc y9) 31] [roC (ci .u8) Aa0_0 ca0_0 a0.code] ∧ spec_l01Drawn.l1 a0 t5 k y9 y10 y11 y12 = some j2) k (F' := [(0, .pointer (some ⟨ba0, 0, none⟩)), (2, .pointer (some ⟨b1, 0, none⟩)), (3, .pointer (some ⟨b3, 0, none⟩)), (4, .int .i64 (IntKind.i64.wrap (2 + t5.1))), (5, .int .i8 0)]) ⟨rfl, rfl, rfl, rfl, rfl, trivial⟩ ⟨(⟨IntKind.i8.wrap (IntKind.i64.wrap (1 + t2.1)), IntKind.i8.wrap (IntKind.i64.wrap (1 + t4.1)), (Arr.mk' (Arr.mk' 0 : Arr 10 Int) : Arr 10 (Arr 10 Int)), (Arr.mk' 0 : Arr 10 Int), (Arr.mk' 0 : Arr 10 Int)⟩ : Pasture), 0, t5.2.at_, t5.2.seed, rfl, hS.pick [0, 1, 2] [0] rfl, H⟩ ?_
    rintro k F w1 ⟨y9, y10, y11, y12, rfl, hS, H⟩
    cases k with
    | zero => rw [spec_l01Drawn.l1] at H; cases H
    | succ k =>
      rw [spec_l01Drawn.l1] at H
      refine CJ.seq ?_
      refine CJ.seq ?_
      refine CJ.region ?_
      refine OJ.pures tU_ok 1 rfl ?_
      refine OJ.st rfl rfl rfl (SR.fieldAddr tU_ok tI_ok rfl rfl rfl rfl rfl rfl) ?_
      refine OJ.st rfl rfl rfl (SR.load rfl rfl (fun w' hx => ld1 tU_ok rfl rfl (CA.ext (CA.fld (hS.cells (i := 2) rfl) (mid_part (fe_Pasture_1 _) (fl_Pasture_1 _) ((ci .i8).len _))) hx) rfl)) ?_
      refine OJ.pures tU_ok 1 rfl ?_
      refine OJ.nil (EJ.next ?_)
      refine CJ.cond rfl (fun hb => ?_) (fun hb => ?_)
      · replace H := pif_t (of_decide_eq_true hb) H
        refine CJ.skip (EJ.next ?_)
        obtain ⟨j50, H, K50⟩ := pbind H
        refine CJ.cut (fun F w1 => ∃ (y13 : Pasture) (y14 : Int) (y15 : Int) , (some (y13, y14, y15) : Option (Pasture × Int × Int)) = some j50 ∧ F = [(0, .pointer (some ⟨ba0, 0, none⟩)), (2, .pointer (some ⟨b1, 0, none⟩)), (3, .pointer (some ⟨b3, 0, none⟩)), (4, .int .i64 (IntKind.i64.wrap (2 + t5.1))), (5, .int .i8 y10)] ∧ St w (fpU [box ba0 ([.slice Aa0_0 a0.code.length ca0_0, .int .i64 a0.at_, .int .u64 a0.seed]) 108]) w1 [box ba0 ([.slice Aa0_0 a0.code.length ca0_0, .int .i64 y14, .int .u64 y15]) 108, box b1 (cPasture.enc (⟨0, 0, (Arr.mk' (Arr.mk' 0 : Arr 10 Int) : Arr 10 (Arr 10 Int)), (Arr.mk' 0 : Arr 10 Int), (Arr.mk' 0 : Arr 10 Int)⟩ : Pasture)) 31, box b3 (cPasture.enc y13) 31] [roC (ci .u8) Aa0_0 ca0_0 a0.code]) ?_ ?_
        · skip
          refine CJ.block ?_
          refine CJ.seq ?_
          refine CJ.region ?_
          refine OJ.pures tU_ok 1 rfl ?_
          refine OJ.nil (EJ.next ?_)
          obtain ⟨j61, H, K61⟩ := pbind H
          refine CJ.cut1 (fun F w1 => ∃ (y16 : Pasture) (y17 : Int) (y18 : Int) , (some (y16, y17, y18) : Option (Pasture × Int × Int)) = some j61 ∧ F = [(0, .pointer (some ⟨ba0, 0, none⟩)), (2, .pointer (some ⟨b1, 0, none⟩)), (3, .pointer (some ⟨b3, 0, none⟩)), (4, .int .i64 (IntKind.i64.wrap (2 + t5.1))), (5, .int .i8 y10)] ∧ St w (fpU [box ba0 ([.slice Aa0_0 a0.code.length ca0_0, .int .i64 a0.at_, .int .u64 a0.seed]) 108]) w1 [box ba0 ([.slice Aa0_0 a0.code.length ca0_0, .int .i64 y17, .int .u64 y18]) 108, box b1 (cPasture.enc (⟨0, 0, (Arr.mk' (Arr.mk' 0 : Arr 10 Int) : Arr 10 (Arr 10 Int)), (Arr.mk' 0 : Arr 10 Int), (Arr.mk' 0 : Arr 10 Int)⟩ : Pasture)) 31, box b3 (cPasture.enc y16) 31] [roC (ci .u8) Aa0_0 ca0_0 a0.code]) ?_ ?_
          · skip
            refine CJ.block ?_
            refine CJ.loop (fun k F w1 => ∃ (y19 : Pasture) (y20 : Int) (y21 : Int) (y22 : Int), F = [(0, .pointer (some ⟨ba0, 0, none⟩)), (2, .pointer (some ⟨b1, 0, none⟩)), (3, .pointer (some ⟨b3, 0, none⟩)), (4, .int .i64 (IntKind.i64.wrap (2 + t5.1))), (5, .int .i8 y10), (6, .int .i8 y20)] ∧ St w (fpU [box ba0 ([.slice Aa0_0 a0.code.length ca0_0, .int .i64 a0.at_, .int .u64 a0.seed]) 108]) w1 [box ba0 ([.slice Aa0_0 a0.code.length ca0_0, .int .i64 y21, .int .u64 y22]) 108, box b1 (cPasture.enc (⟨0, 0, (Arr.mk' (Arr.mk' 0 : Arr 10 Int) : Arr 10 (Arr 10 Int)), (Arr.mk' 0 : Arr 10 Int), (Arr.mk' 0 : Arr 10 Int)⟩ : Pasture)) 31, box b3 (cPasture.enc y19) 31] [roC (ci .u8) Aa0_0 ca0_0 a0.code] ∧ spec_l01Drawn.l2 a0 t5 y10 k y19 y20 y21 y22 = some j61) k (F' := [(0, .pointer (some ⟨ba0, 0, none⟩)), (2, .pointer (some ⟨b1, 0, none⟩)), (3, .pointer (some ⟨b3, 0, none⟩)), (4, .int .i64 (IntKind.i64.wrap (2 + t5.1))), (5, .int .i8 y10), (6, .int .i8 0)]) ⟨rfl, rfl, rfl, rfl, rfl, rfl, trivial⟩ ⟨y9, 0, y11, y12, rfl, hS.pick [0, 1, 2] [0] rfl, H⟩ ?_
            rintro k F w1 ⟨y19, y20, y21, y22, rfl, hS, H⟩
            cases k with
            | zero => rw [spec_l01Drawn.l2] at H; cases H
            | succ k =>
              rw [spec_l01Drawn.l2] at H
              refine CJ.seq ?_
              refine CJ.seq ?_
              refine CJ.region ?_
              refine OJ.pures tU_ok 1 rfl ?_
              refine OJ.st rfl rfl rfl (SR.fieldAddr tU_ok tI_ok rfl rfl rfl rfl rfl rfl) ?_
              refine OJ.st rfl rfl rfl (SR.load rfl rfl (fun w' hx => ld1 tU_ok rfl rfl (CA.ext (CA.fld (hS.cells (i := 2) rfl) (mid_part (fe_Pasture_0 _) (fl_Pasture_0 _) ((ci .i8).len _))) hx) rfl)) ?_
              refine OJ.pures tU_ok 1 rfl ?_
              refine OJ.nil (EJ.next ?_)
              refine CJ.cond rfl (fun hb => ?_) (fun hb => ?_)
              · replace H := pif_t (of_decide_eq_true hb) H
                refine CJ.skip (EJ.next ?_)
                obtain ⟨j68, H, K68⟩ := pbind H
                refine CJ.cut (fun F w1 => ∃ (y23 : Pasture) (y24 : Int) (y25 : Int) , (some (y23, y24, y25) : Option (Pasture × Int × Int)) = some j68 ∧ F = [(0, .pointer (some ⟨ba0, 0, none⟩)), (2, .pointer (some ⟨b1, 0, none⟩)), (3, .pointer (some ⟨b3, 0, none⟩)), (4, .int .i64 (IntKind.i64.wrap (2 + t5.1))), (5, .int .i8 y10), (6, .int .i8 y20)] ∧ St w (fpU [box ba0 ([.slice Aa0_0 a0.code.length ca0_0, .int .i64 a0.at_, .int .u64 a0.seed]) 108]) w1 [box ba0 ([.slice Aa0_0 a0.code.length ca0_0, .int .i64 y24, .int .u64 y25]) 108, box b1 (cPasture.enc (⟨0, 0, (Arr.mk' (Arr.mk' 0 : Arr 10 Int) : Arr 10 (Arr 10 Int)), (Arr.mk' 0 : Arr 10 Int), (Arr.mk' 0 : Arr 10 Int)⟩ : Pasture)) 31, box b3 (cPasture.enc y23) 31] [roC (ci .u8) Aa0_0 ca0_0 a0.code]) ?_ ?_
                · skip
                  refine CJ.block ?_
                  refine CJ.seq ?_
                  obtain ⟨t26, ht26, H⟩ := pbind H
                  obtain ⟨t27, ht27, H⟩ := pbind H
                  obtain ⟨t28, ht28, H⟩ := pbind H
                  refine CJ.cut1 (fun F w1 => F = [(0, .pointer (some ⟨ba0, 0, none⟩)), (2, .pointer (some ⟨b1, 0, none⟩)), (3, .pointer (some ⟨b3, 0, none⟩)), (4, .int .i64 (IntKind.i64.wrap (2 + t5.1))), (5, .int .i8 y10), (6, .int .i8 y20)] ∧ St w (fpU [box ba0 ([.slice Aa0_0 a0.code.length ca0_0, .int .i64 a0.at_, .int .u64 a0.seed]) 108]) w1 [box ba0 ([.slice Aa0_0 a0.code.length ca0_0, .int .i64 t27.2.at_, .int .u64 t27.2.seed]) 108, box b1 (cPasture.enc (⟨0, 0, (Arr.mk' (Arr.mk' 0 : Arr 10 Int) : Arr 10 (Arr 10 Int)), (Arr.mk' 0 : Arr 10 Int), (Arr.mk' 0 : Arr 10 Int)⟩ : Pasture)) 31, box b3 (cPasture.enc (⟨y19.Wide, y19.High, (aset y19.Grass y10.toNat (aset t26 y20.toNat (IntKind.i16.wrap t27.1))), y19.East, y19.South⟩ : Pasture)) 31] [roC (ci .u8) Aa0_0 ca0_0 a0.code]) ?_ ?_
                  · skip
                    refine CJ.drawT [] [3, 8] (.one 0 (.one 1 (.one 2 (.one 5 (.one 6 (.one 3 (.one 4 (.one 7 (.one 8 (.fin)))))))))) mixed (by kernel_rfl) hS [] fun w1 hS hY hV => ?_
                    refine TJ.pures tU_ok 3 rfl ?_
                    refine TJ.sp rfl rfl rfl rfl rfl (fun w2 => SR.fieldAddr tU_ok tI_ok rfl rfl rfl rfl rfl rfl) ?_
                    refine TJ.sp rfl rfl rfl rfl rfl (fun w2 => SR.idxA tU_ok tI_ok rfl rfl rfl rfl rfl (Arr.lt ht26)) ?_
                    refine TJ.callFw rfl rfl rfl rfl rfl rfl rfl hb28 rfl (spec_l00Src_pick.c _ Aa0_0 ca0_0 (⟨a0.code, y21, y22⟩ : l00Src) ba0 12 ((hS.subs [0] [0] [] rfl).pick [0] [0] rfl) _ ht27) (by rintro _ w1 ⟨rfl, hs⟩; exact hY.wr (hS.inP [] 1 rfl rfl [0] rfl) hs.chg) ?_
                    rintro _ w1 hY ⟨rfl, hs⟩
                    replace hS := hS.back [0] rfl rfl [box ba0 ([.slice Aa0_0 a0.code.length ca0_0, .int .i64 t27.2.at_, .int .u64 t27.2.seed]) 108] [] hs ⟨fun _ => Iff.rfl, trivial⟩
                    refine TJ.pures tU_ok 1 rfl ?_
                    refine TJ.sp rfl rfl rfl rfl rfl (fun w2 => SR.idxA tU_ok tI_ok rfl rfl rfl rfl rfl (Arr.lt ht28)) ?_
                    have hO := hS
                    refine TJ.es rfl rfl rfl rfl (Es.put tI_ok (hS.inn []) (i := 2) rfl rfl rfl rfl rfl (vs := (ci .i16).enc (IntKind.i16.wrap t27.1)) rfl rfl (one1 rfl) (put_Pasture_2 (Put.idx (Put.idx (Put.all (ci .i16) t28 (IntKind.i16.wrap t27.1)) ht28) ht26)) (by (try simp only [add_lit, Nat.add_assoc, Nat.zero_add, Nat.add_zero]) <;> rfl)) (by intro w1 hS; exact hY.wr (hO.inY [] 1 rfl rfl) hS.chg) ?_
                    intro w1 hY hS
                    have hS : St w (fpU [box ba0 ([.slice Aa0_0 a0.code.length ca0_0, .int .i64 a0.at_, .int .u64 a0.seed]) 108]) w1 [box ba0 ([.slice Aa0_0 a0.code.length ca0_0, .int .i64 t27.2.at_, .int .u64 t27.2.seed]) 108, box b1 (cPasture.enc (⟨0, 0, (Arr.mk' (Arr.mk' 0 : Arr 10 Int) : Arr 10 (Arr 10 Int)), (Arr.mk' 0 : Arr 10 Int), (Arr.mk' 0 : Arr 10 Int)⟩ : Pasture)) 31, box b3 (cPasture.enc (⟨y19.Wide, y19.High, (aset y19.Grass y10.toNat (aset t26 y20.toNat (IntKind.i16.wrap t27.1))), y19.East, y19.South⟩ : Pasture)) 31] [roC (ci .u8) Aa0_0 ca0_0 a0.code] := hO.out [] hS
                    refine TJ.nil ?_
                    exact EJ.meet (F' := [(0, .pointer (some ⟨ba0, 0, none⟩)), (2, .pointer (some ⟨b1, 0, none⟩)), (3, .pointer (some ⟨b3, 0, none⟩)), (4, .int .i64 (IntKind.i64.wrap (2 + t5.1))), (5, .int .i8 y10), (6, .int .i8 y20)]) ⟨rfl, rfl, rfl, rfl, rfl, rfl, trivial⟩ ⟨rfl, hS.pick [0, 1, 2] [0] rfl⟩
                  · rintro F w1 ⟨rfl, hS⟩
                    refine EJ.next ?_
                    refine CJ.seq ?_
                    refine CJ.region ?_
                    refine OJ.pures tU_ok 1 rfl ?_
                    refine OJ.nil (EJ.next ?_)
                    obtain ⟨j70, H, K70⟩ := pbind H
                    refine CJ.cut1 (fun F w1 => ∃ (y29 : Pasture) (y30 : Int) (y31 : Int) , (some (y29, y30, y31) : Option (Pasture × Int × Int)) = some j70 ∧ F = [(0, .pointer (some ⟨ba0, 0, none⟩)), (2, .pointer (some ⟨b1, 0, none⟩)), (3, .pointer (some ⟨b3, 0, none⟩)), (4, .int .i64 (IntKind.i64.wrap (2 + t5.1))), (5, .int .i8 y10), (6, .int .i8 y20)] ∧ St w (fpU [box ba0 ([.slice Aa0_0 a0.code.length ca0_0, .int .i64 a0.at_, .int .u64 a0.seed]) 108]) w1 [box ba0 ([.slice Aa0_0 a0.code.length ca0_0, .int .i64 y30, .int .u64 y31]) 108, box b1 (cPasture.enc (⟨0, 0, (Arr.mk' (Arr.mk' 0 : Arr 10 Int) : Arr 10 (Arr 10 Int)), (Arr.mk' 0 : Arr 10 Int), (Arr.mk' 0 : Arr 10 Int)⟩ : Pasture)) 31, box b3 (cPasture.enc y29) 31] [roC (ci .u8) Aa0_0 ca0_0 a0.code]) ?_ ?_
                    · skip
                      refine CJ.block ?_
                      refine CJ.loop (fun k F w1 => ∃ (y32 : Pasture) (y33 : Int) (y34 : Int) (y35 : Int), F = [(0, .pointer (some ⟨ba0, 0, none⟩)), (2, .pointer (some ⟨b1, 0, none⟩)), (3, .pointer (some ⟨b3, 0, none⟩)), (4, .int .i64 (IntKind.i64.wrap (2 + t5.1))), (5, .int .i8 y10), (6, .int .i8 y20), (7, .int .i64 y33)] ∧ St w (fpU [box ba0 ([.slice Aa0_0 a0.code.length ca0_0, .int .i64 a0.at_, .int .u64 a0.seed]) 108]) w1 [box ba0 ([.slice Aa0_0 a0.code.length ca0_0, .int .i64 y34, .int .u64 y35]) 108, box b1 (cPasture.enc (⟨0, 0, (Arr.mk' (Arr.mk' 0 : Arr 10 Int) : Arr 10 (Arr 10 Int)), (Arr.mk' 0 : Arr 10 Int), (Arr.mk' 0 : Arr 10 Int)⟩ : Pasture)) 31, box b3 (cPasture.enc y32) 31] [roC (ci .u8) Aa0_0 ca0_0 a0.code] ∧ spec_l01Drawn.l3 a0 t5 y10 y20 k y32 y33 y34 y35 = some j70) k (F' := [(0, .pointer (some ⟨ba0, 0, none⟩)), (2, .pointer (some ⟨b1, 0, none⟩)), (3, .pointer (some ⟨b3, 0, none⟩)), (4, .int .i64 (IntKind.i64.wrap (2 + t5.1))), (5, .int .i8 y10), (6, .int .i8 y20), (7, .int .i64 1)]) ⟨rfl, rfl, rfl, rfl, rfl, rfl, rfl, trivial⟩ ⟨(⟨y19.Wide, y19.High, (aset y19.Grass y10.toNat (aset t26 y20.toNat (IntKind.i16.wrap t27.1))), y19.East, y19.South⟩ : Pasture), 1, t27.2.at_, t27.2.seed, rfl, hS.pick [0, 1, 2] [0] rfl, H⟩ ?_
                      rintro k F w1 ⟨y32, y33, y34, y35, rfl, hS, H⟩
                      cases k with
                      | zero => rw [spec_l01Drawn.l3] at H; cases H
                      | succ k =>
                        rw [spec_l01Drawn.l3] at H
                        refine CJ.seq ?_
                        refine CJ.seq ?_
                        refine CJ.region ?_
                        refine OJ.pures tU_ok 2 rfl ?_
                        refine OJ.nil (EJ.next ?_)
                        refine CJ.cond rfl (fun hb => ?_) (fun hb => ?_)
                        · replace H := pif_t (of_decide_eq_true hb) H
                          refine CJ.skip (EJ.next ?_)
                          refine CJ.seq ?_
                          refine CJ.block ?_
                          refine CJ.seq ?_
                          refine CJ.region ?_
                          refine OJ.pures tU_ok 2 rfl ?_
                          refine OJ.st rfl rfl rfl (SR.build (C := cSpot) tU_ok tI_ok rfl rfl rfl (zs := [.int .i8 0, .int .i8 0]) rfl rfl rfl (⟨y20, y10⟩ : Spot) rfl) ?_
                          refine OJ.ef rfl rfl rfl (Ef.alloc hS tI_ok rfl rfl (cSpot.enc (⟨0, 0⟩ : Spot)) rfl) ?_
                          rintro _ w1 ⟨b36, rfl, hS⟩
                          refine OJ.es rfl rfl (Es.store tI_ok hS (i := 3) rfl rfl rfl rfl rfl rfl (vs := cSpot.enc (⟨y20, y10⟩ : Spot)) rfl (cSpot.len _) (cSpot.one _) (Nat.le_of_ble_eq_true rfl) (cSpot.enc (⟨y20, y10⟩ : Spot)) rfl) ?_
                          intro w1 hS
                          refine OJ.nil (EJ.next ?_)
                          refine CJ.seq ?_
                          refine CJ.region ?_
                          refine OJ.st rfl rfl rfl (SR.load rfl rfl (fun w' hx => ldE tU_ok tI_ok rfl rfl rfl (CA.ext (hS.cells (i := 3) rfl) hx) rfl)) ?_
                          refine OJ.pures tU_ok 1 rfl ?_
                          obtain ⟨t37, ht37, H⟩ := pbind H
                          refine OJ.callF rfl rfl rfl rfl rfl hb60 rfl (spec_l01Next.c _ (⟨y20, y10⟩ : Spot) y33 _ ht37) ?_
                          rintro _ w1 ⟨rfl, hs⟩
                          replace hS := hS.grow hs
                          obtain ⟨t38, ht38, H⟩ := pbind H
                          refine OJ.callF rfl rfl rfl rfl rfl hb59 rfl (spec_l01Is.c _ _ y32 (hS.cells (i := 2) rfl) t37 _ ht38) ?_
                          rintro _ w1 ⟨rfl, hs⟩
                          replace hS := hS.grow hs
                          refine OJ.pures tU_ok 1 rfl ?_
                          refine OJ.split (t := 53) rfl (fun hb => ?_) (fun hb => ?_)
                          · replace H := pif_t hb H
                            refine OJ.pures tU_ok 2 rfl ?_
                            obtain ⟨t39, ht39, H⟩ := pbind H
                            refine OJ.callF rfl rfl rfl rfl rfl hb64 rfl (spec_l00Src_one.c _ Aa0_0 ca0_0 (⟨a0.code, y34, y35⟩ : l00Src) ba0 (IntKind.i64.wrap (2 + t5.1)) ((hS.subs [0] [0] [] rfl).pick [0] [0] rfl) _ ht39) ?_
                            rintro _ w1 ⟨rfl, hs⟩
                            replace hS := hS.back [0] rfl rfl [box ba0 ([.slice Aa0_0 a0.code.length ca0_0, .int .i64 t39.2.at_, .int .u64 t39.2.seed]) 108] [] hs ⟨fun _ => Iff.rfl, trivial⟩
                            refine OJ.pures tU_ok 1 rfl ?_
                            refine OJ.nil (EJ.next ?_)
                            refine CJ.cond rfl (fun hb => ?_) (fun hb => ?_)
                            · replace H := pif_t hb H
                              refine CJ.region ?_
                              refine OJ.st rfl rfl rfl (SR.load rfl rfl (fun w' hx => ldE tU_ok tI_ok rfl rfl rfl (CA.ext (hS.cells (i := 3) rfl) hx) rfl)) ?_
                              refine OJ.pures tU_ok 1 rfl ?_
                              obtain ⟨t40, ht40, H⟩ := pbind H
                              refine OJ.callF rfl rfl rfl rfl rfl hb44 rfl (spec_l01Set.c _ b3 y32 (⟨y20, y10⟩ : Spot) y33 true ((hS.subs [2] [] [] rfl).pick [0] [] rfl) _ ht40) ?_
                              rintro _ w1 ⟨rfl, hs⟩
                              replace hS := hS.back [2] rfl rfl [box b3 (cPasture.enc t40) 31] [] hs ⟨fun _ => Iff.rfl, trivial⟩
                              refine OJ.nil (EJ.blk (EJ.next ?_))
                              refine CJ.region ?_
                              refine OJ.pures tU_ok 3 rfl ?_
                              refine OJ.nil ?_
                              exact EJ.round k (F' := [(0, .pointer (some ⟨ba0, 0, none⟩)), (2, .pointer (some ⟨b1, 0, none⟩)), (3, .pointer (some ⟨b3, 0, none⟩)), (4, .int .i64 (IntKind.i64.wrap (2 + t5.1))), (5, .int .i8 y10), (6, .int .i8 y20), (7, .int .i64 (IntKind.i64.wrap (y33 + 1)))]) ⟨rfl, rfl, rfl, rfl, rfl, rfl, rfl, trivial⟩ (Nat.lt_succ_self _) ⟨t40, (IntKind.i64.wrap (y33 + 1)), t39.2.at_, t39.2.seed, rfl, hS.pick [0, 1, 2] [0] rfl, H⟩
                            · replace H := pifb_f hb H
                              refine CJ.skip (EJ.blk (EJ.next ?_))
                              refine CJ.region ?_
                              refine OJ.pures tU_ok 3 rfl ?_
                              refine OJ.nil ?_
                              exact EJ.round k (F' := [(0, .pointer (some ⟨ba0, 0, none⟩)), (2, .pointer (some ⟨b1, 0, none⟩)), (3, .pointer (some ⟨b3, 0, none⟩)), (4, .int .i64 (IntKind.i64.wrap (2 + t5.1))), (5, .int .i8 y10), (6, .int .i8 y20), (7, .int .i64 (IntKind.i64.wrap (y33 + 1)))]) ⟨rfl, rfl, rfl, rfl, rfl, rfl, rfl, trivial⟩ (Nat.lt_succ_self _) ⟨y32, (IntKind.i64.wrap (y33 + 1)), t39.2.at_, t39.2.seed, rfl, hS.pick [0, 1, 2] [0] rfl, H⟩
                          · replace H := pifb_f hb H
                            refine OJ.pures tU_ok 4 rfl ?_
                            refine OJ.nil (EJ.next ?_)
                            refine CJ.condF rfl ?_
                            refine CJ.skip (EJ.blk (EJ.next ?_))
                            refine CJ.region ?_
                            refine OJ.pures tU_ok 3 rfl ?_
                            refine OJ.nil ?_
                            exact EJ.round k (F' := [(0, .pointer (some ⟨ba0, 0, none⟩)), (2, .pointer (some ⟨b1, 0, none⟩)), (3, .pointer (some ⟨b3, 0, none⟩)), (4, .int .i64 (IntKind.i64.wrap (2 + t5.1))), (5, .int .i8 y10), (6, .int .i8 y20), (7, .int .i64 (IntKind.i64.wrap (y33 + 1)))]) ⟨rfl, rfl, rfl, rfl, rfl, rfl, rfl, trivial⟩ (Nat.lt_succ_self _) ⟨y32, (IntKind.i64.wrap (y33 + 1)), y34, y35, rfl, hS.pick [0, 1, 2] [0] rfl, H⟩
                        · replace H := pif_f (of_decide_eq_false hb) H
                          refine CJ.exit (EJ.skE (EJ.skE (EJ.hit (?_))))
                          exact EJ.meet (F' := [(0, .pointer (some ⟨ba0, 0, none⟩)), (2, .pointer (some ⟨b1, 0, none⟩)), (3, .pointer (some ⟨b3, 0, none⟩)), (4, .int .i64 (IntKind.i64.wrap (2 + t5.1))), (5, .int .i8 y10), (6, .int .i8 y20)]) ⟨rfl, rfl, rfl, rfl, rfl, rfl, trivial⟩ ⟨y32, y34, y35, H, rfl, hS.pick [0, 1, 2] [0] rfl⟩
                    · rintro F w1 ⟨y29, y30, y31, he, rfl, hS⟩
                      obtain rfl := Option.some.inj he
                      have H := K70
                      refine EJ.blk (?_)
                      exact EJ.meet (F' := [(0, .pointer (some ⟨ba0, 0, none⟩)), (2, .pointer (some ⟨b1, 0, none⟩)), (3, .pointer (some ⟨b3, 0, none⟩)), (4, .int .i64 (IntKind.i64.wrap (2 + t5.1))), (5, .int .i8 y10), (6, .int .i8 y20)]) ⟨rfl, rfl, rfl, rfl, rfl, rfl, trivial⟩ ⟨y29, y30, y31, H, rfl, hS.pick [0, 1, 2] [0] rfl⟩
                · rintro F w1 ⟨y23, y24, y25, he, rfl, hS⟩
                  obtain rfl := Option.some.inj he
                  have H := K68
                  refine CJ.region ?_
                  refine OJ.pures tU_ok 3 rfl ?_
                  refine OJ.nil ?_
                  exact EJ.round k (F' := [(0, .pointer (some ⟨ba0, 0, none⟩)), (2, .pointer (some ⟨b1, 0, none⟩)), (3, .pointer (some ⟨b3, 0, none⟩)), (4, .int .i64 (IntKind.i64.wrap (2 + t5.1))), (5, .int .i8 y10), (6, .int .i8 (IntKind.i8.wrap (y20 + 1)))]) ⟨rfl, rfl, rfl, rfl, rfl, rfl, trivial⟩ (Nat.lt_succ_self _) ⟨y23, (IntKind.i8.wrap (y20 + 1)), y24, y25, rfl, hS.pick [0, 1, 2] [0] rfl, H⟩
              · replace H := pif_f (of_decide_eq_false hb) H
                refine CJ.exit (EJ.skE (EJ.skE (EJ.hit (?_))))
                exact EJ.meet (F' := [(0, .pointer (some ⟨ba0, 0, none⟩)), (2, .pointer (some ⟨b1, 0, none⟩)), (3, .pointer (some ⟨b3, 0, none⟩)), (4, .int .i64 (IntKind.i64.wrap (2 + t5.1))), (5, .int .i8 y10)]) ⟨rfl, rfl, rfl, rfl, rfl, trivial⟩ ⟨y19, y21, y22, H, rfl, hS.pick [0, 1, 2] [0] rfl⟩
          · rintro F w1 ⟨y16, y17, y18, he, rfl, hS⟩
            obtain rfl := Option.some.inj he
            have H := K61
            refine EJ.blk (?_)
            exact EJ.meet (F' := [(0, .pointer (some ⟨ba0, 0, none⟩)), (2, .pointer (some ⟨b1, 0, none⟩)), (3, .pointer (some ⟨b3, 0, none⟩)), (4, .int .i64 (IntKind.i64.wrap (2 + t5.1))), (5, .int .i8 y10)]) ⟨rfl, rfl, rfl, rfl, rfl, trivial⟩ ⟨y16, y17, y18, H, rfl, hS.pick [0, 1, 2] [0] rfl⟩
        · rintro F w1 ⟨y13, y14, y15, he, rfl, hS⟩
          obtain rfl := Option.some.inj he
          have H := K50
          refine CJ.region ?_
          refine OJ.pures tU_ok 3 rfl ?_
          refine OJ.nil ?_
          exact EJ.round k (F' := [(0, .pointer (some ⟨ba0, 0, none⟩)), (2, .pointer (some ⟨b1, 0, none⟩)), (3, .pointer (some ⟨b3, 0, none⟩)), (4, .int .i64 (IntKind.i64.wrap (2 + t5.1))), (5, .int .i8 (IntKind.i8.wrap (y10 + 1)))]) ⟨rfl, rfl, rfl, rfl, rfl, trivial⟩ (Nat.lt_succ_self _) ⟨y13, (IntKind.i8.wrap (y10 + 1)), y14, y15, rfl, hS.pick [0, 1, 2] [0] rfl, H⟩
      · replace H := pif_f (of_decide_eq_false hb) H
        refine CJ.exit (EJ.skE (EJ.skE (EJ.hit (?_))))
        exact EJ.meet (F' := [(2, .pointer (some ⟨b1, 0, none⟩)), (3, .pointer (some ⟨b3, 0, none⟩))]) ⟨rfl, rfl, trivial⟩ ⟨y9, y11, y12, H, rfl, hS.pick [0, 1, 2] [0] rfl⟩
  · rintro F w1 ⟨y6, y7, y8, he, rfl, hS⟩
    obtain rfl := Option.some.inj he
    have H := K2
    refine EJ.next ?_
    refine CJ.seq ?_
    refine CJ.region ?_
    refine OJ.st rfl rfl rfl (SR.load rfl rfl (fun w' hx => ldE tU_ok tI_ok rfl rfl rfl (CA.ext (hS.cells (i := 2) rfl) hx) rfl)) ?_
    refine OJ.es rfl rfl (Es.put tI_ok hS (i := 1) rfl rfl rfl rfl rfl (vs := cPasture.enc y6) rfl (cPasture.len _) (cPasture.one _) (Put.all cPasture (⟨0, 0, (Arr.mk' (Arr.mk' 0 : Arr 10 Int) : Arr 10 (Arr 10 Int)), (Arr.mk' 0 : Arr 10 Int), (Arr.mk' 0 : Arr 10 Int)⟩ : Pasture) y6) (by (try simp only [add_lit, Nat.add_assoc, Nat.zero_add, Nat.add_zero]) <;> rfl)) ?_
    intro w1 hS
    refine OJ.nil (EJ.next ?_)
    refine CJ.ret (?_)
    obtain rfl := Option.some.inj H
    exact EJ.fin rfl (.cell rfl (ldE tU_ok tI_ok rfl rfl rfl (hS.cells (i := 1) rfl) rfl) .nil) ⟨rfl, hS.pick [0] [] rfl⟩

def spec_P6Pasture.f (k : Nat) (a0 : List Int) : Option Pasture := (spec_l00From.f a0).bind fun t2 => (spec_l01Drawn.f k (⟨a0, t2.at_, t2.seed⟩ : l00Src)).bind fun t4 => some t4.1
theorem spec_P6Pasture.c (k : Nat) (w : World) (Aa0 : Option Addr) (ca0 : Nat) (a0 : List Int) (hr0 : Rd (ci .u8) w Aa0 a0) (hc0 : a0.length ≤ ca0) (r : Pasture) (H : spec_P6Pasture.f k a0 = some r) :
    CV Tryz.prog 5 [.slice Aa0 a0.length ca0].toArray w fun v w' => v = .agg (cPasture.enc r).toArray ∧ Ext w w' := by
  have hS := ((St.init w no).param (ci .u8) Aa0 ca0 a0 hr0 hc0)
  unfold spec_P6Pasture.f at H
  refine CV.body Tryz.func5 rfl Tryz.ntmps5 rfl ?_
  refine CJ.seq ?_
  refine CJ.region ?_
  refine OJ.ef rfl rfl rfl (Ef.alloc hS tI_ok rfl rfl (cPasture.enc (⟨0, 0, (Arr.mk' (Arr.mk' 0 : Arr 10 Int) : Arr 10 (Arr 10 Int)), (Arr.mk' 0 : Arr 10 Int), (Arr.mk' 0 : Arr 10 Int)⟩ : Pasture)) (by kernel_rfl)) ?_
  rintro _ w1 ⟨b1, rfl, hS⟩
  refine OJ.nil (EJ.next ?_)
  refine CJ.seq ?_
  refine CJ.region ?_
  refine OJ.pures tU_ok 1 rfl ?_
  obtain ⟨t2, ht2, H⟩ := pbind H
  refine OJ.callF rfl rfl rfl rfl rfl hb27 rfl (spec_l00From.c _ Aa0 ca0 a0 (hS.rd' (i := 0) rfl) (hS.le' (i := 0) rfl) _ ht2) ?_
  rintro _ w1 ⟨b3, rfl, hs⟩
  replace hS := hS.addN hs
  obtain ⟨t4, ht4, H⟩ := pbind H
  refine OJ.callF rfl rfl rfl rfl rfl hb26 rfl (spec_l01Drawn.c k _ Aa0 ca0 (⟨a0, t2.at_, t2.seed⟩ : l00Src) b3 ((hS.subs [1] [0] [] rfl).pick [0] [0] rfl) _ ht4) ?_
  rintro _ w1 ⟨rfl, hs⟩
  replace hS := hS.back [1] rfl rfl [box b3 ([.slice Aa0 a0.length ca0, .int .i64 t4.2.at_, .int .u64 t4.2.seed]) 108] [] hs ⟨fun _ => Iff.rfl, trivial⟩
  refine OJ.es rfl rfl (Es.put tI_ok hS (i := 0) rfl rfl rfl rfl rfl (vs := cPasture.enc t4.1) rfl (cPasture.len _) (cPasture.one _) (Put.all cPasture (⟨0, 0, (Arr.mk' (Arr.mk' 0 : Arr 10 Int) : Arr 10 (Arr 10 Int)), (Arr.mk' 0 : Arr 10 Int), (Arr.mk' 0 : Arr 10 Int)⟩ : Pasture) t4.1) (by (try simp only [add_lit, Nat.add_assoc, Nat.zero_add, Nat.add_zero]) <;> rfl)) ?_
  intro w1 hS
  refine OJ.nil (EJ.next ?_)
  refine CJ.ret (?_)
  obtain rfl := Option.some.inj H
  exact EJ.fin rfl (.cell rfl (ldE tU_ok tI_ok rfl rfl rfl (hS.cells (i := 0) rfl) rfl) .nil) ⟨rfl, hS.ext⟩

def spec_P6Spot.f (a0 : List Int) (a1 : Pasture) : Option Spot := (spec_l00From.f a0).bind fun t3 => (spec_l00Src_pick.f (⟨a0, t3.at_, t3.seed⟩ : l00Src) (IntKind.i64.wrap a1.Wide)).bind fun t5 => (spec_l00Src_pick.f (⟨a0, t5.2.at_, t5.2.seed⟩ : l00Src) (IntKind.i64.wrap a1.High)).bind fun t6 => some (⟨IntKind.i8.wrap t5.1, IntKind.i8.wrap t6.1⟩ : Spot)
theorem spec_P6Spot.c (w : World) (Aa0 : Option Addr) (ca0 : Nat) (a0 : List Int) (hr0 : Rd (ci .u8) w Aa0 a0) (hc0 : a0.length ≤ ca0) (a1 : Pasture) (r : Spot) (H : spec_P6Spot.f a0 a1 = some r) :
    CV Tryz.prog 6 [.slice Aa0 a0.length ca0, .agg (cPasture.enc a1).toArray].toArray w fun v w' => v = .agg (cSpot.enc r).toArray ∧ Ext w w' := by
  have hS := ((St.init w no).param (ci .u8) Aa0 ca0 a0 hr0 hc0)
  unfold spec_P6Spot.f at H
  refine CV.body Tryz.func6 rfl Tryz.ntmps6 rfl ?_
  refine CJ.seq ?_
  refine CJ.region ?_
  refine OJ.ef rfl rfl rfl (Ef.box hS rfl rfl (cPasture.enc a1) rfl) ?_
  rintro _ w1 ⟨b1, rfl, hS⟩
  refine OJ.ef rfl rfl rfl (Ef.alloc hS tI_ok rfl rfl (cSpot.enc (⟨0, 0⟩ : Spot)) rfl) ?_
  rintro _ w1 ⟨b2, rfl, hS⟩
  refine OJ.nil (EJ.next ?_)
  refine CJ.seq ?_
  refine CJ.region ?_
  refine OJ.pures tU_ok 1 rfl ?_
  obtain ⟨t3, ht3, H⟩ := pbind H
  refine OJ.callF rfl rfl rfl rfl rfl hb27 rfl (spec_l00From.c _ Aa0 ca0 a0 (hS.rd' (i := 0) rfl) (hS.le' (i := 0) rfl) _ ht3) ?_
  rintro _ w1 ⟨b4, rfl, hs⟩
  replace hS := hS.addN hs
  refine OJ.pures tU_ok 1 rfl ?_
  refine OJ.nil (EJ.next ?_)
  refine CJ.seq ?_
  refine CJ.region ?_
  refine OJ.pures tU_ok 1 rfl ?_
  refine OJ.st rfl rfl rfl (SR.fieldAddr tU_ok tI_ok rfl rfl rfl rfl rfl rfl) ?_
  refine OJ.st rfl rfl rfl (SR.load rfl rfl (fun w' hx => ld1 tU_ok rfl rfl (CA.ext (CA.fld (hS.cells (i := 0) rfl) (mid_part (fe_Pasture_0 _) (fl_Pasture_0 _) ((ci .i8).len _))) hx) rfl)) ?_
  refine OJ.pures tU_ok 1 rfl ?_
  obtain ⟨t5, ht5, H⟩ := pbind H
  refine OJ.callF rfl rfl rfl rfl rfl hb28 rfl (spec_l00Src_pick.c _ Aa0 ca0 (⟨a0, t3.at_, t3.seed⟩ : l00Src) b4 (IntKind.i64.wrap a1.Wide) ((hS.subs [2] [0] [] rfl).pick [0] [0] rfl) _ ht5) ?_
  rintro _ w1 ⟨rfl, hs⟩
  replace hS := hS.back [2] rfl rfl [box b4 ([.slice Aa0 a0.length ca0, .int .i64 t5.2.at_, .int .u64 t5.2.seed]) 108] [] hs ⟨fun _ => Iff.rfl, trivial⟩
  refine OJ.pures tU_ok 1 rfl ?_
  refine OJ.nil (EJ.next ?_)
  refine CJ.seq ?_
  refine CJ.region ?_
  refine OJ.pures tU_ok 3 rfl ?_
  refine OJ.st rfl rfl rfl (SR.fieldAddr tU_ok tI_ok rfl rfl rfl rfl rfl rfl) ?_
  refine OJ.st rfl rfl rfl (SR.load rfl rfl (fun w' hx => ld1 tU_ok rfl rfl (CA.ext (CA.fld (hS.cells (i := 0) rfl) (mid_part (fe_Pasture_1 _) (fl_Pasture_1 _) ((ci .i8).len _))) hx) rfl)) ?_
  refine OJ.pures tU_ok 1 rfl ?_
  obtain ⟨t6, ht6, H⟩ := pbind H
  refine OJ.callF rfl rfl rfl rfl rfl hb28 rfl (spec_l00Src_pick.c _ Aa0 ca0 (⟨a0, t5.2.at_, t5.2.seed⟩ : l00Src) b4 (IntKind.i64.wrap a1.High) ((hS.subs [2] [0] [] rfl).pick [0] [0] rfl) _ ht6) ?_
  rintro _ w1 ⟨rfl, hs⟩
  replace hS := hS.back [2] rfl rfl [box b4 ([.slice Aa0 a0.length ca0, .int .i64 t6.2.at_, .int .u64 t6.2.seed]) 108] [] hs ⟨fun _ => Iff.rfl, trivial⟩
  refine OJ.pures tU_ok 1 rfl ?_
  refine OJ.st rfl rfl rfl (SR.build (C := cSpot) tU_ok tI_ok rfl rfl rfl (zs := [.int .i8 0, .int .i8 0]) rfl rfl rfl (⟨IntKind.i8.wrap t5.1, IntKind.i8.wrap t6.1⟩ : Spot) rfl) ?_
  refine OJ.es rfl rfl (Es.store tI_ok hS (i := 1) rfl rfl rfl rfl rfl rfl (vs := cSpot.enc (⟨IntKind.i8.wrap t5.1, IntKind.i8.wrap t6.1⟩ : Spot)) rfl (cSpot.len _) (cSpot.one _) (Nat.le_of_ble_eq_true rfl) (cSpot.enc (⟨IntKind.i8.wrap t5.1, IntKind.i8.wrap t6.1⟩ : Spot)) rfl) ?_
  intro w1 hS
  refine OJ.nil (EJ.next ?_)
  refine CJ.ret (?_)
  obtain rfl := Option.some.inj H
  exact EJ.fin rfl (.cell rfl (ldE tU_ok tI_ok rfl rfl rfl (hS.cells (i := 1) rfl) rfl) .nil) ⟨rfl, hS.ext⟩

def spec_P6Pick.f (a0 : List Int) (a1 : Int) : Option Int := (spec_l00From.f a0).bind fun t1 => (spec_l00Src_pick.f (⟨a0, t1.at_, t1.seed⟩ : l00Src) a1).bind fun t3 => some t3.1
theorem spec_P6Pick.c (w : World) (Aa0 : Option Addr) (ca0 : Nat) (a0 : List Int) (hr0 : Rd (ci .u8) w Aa0 a0) (hc0 : a0.length ≤ ca0) (a1 : Int) (r : Int) (H : spec_P6Pick.f a0 a1 = some r) :
    CV Tryz.prog 7 [.slice Aa0 a0.length ca0, .int .i64 a1].toArray w fun v w' => v = .int .i64 r ∧ Ext w w' := by
  have hS := ((St.init w no).param (ci .u8) Aa0 ca0 a0 hr0 hc0)
  unfold spec_P6Pick.f at H
  refine CV.body Tryz.func7 rfl Tryz.ntmps7 rfl ?_
  refine CJ.seq ?_
  refine CJ.region ?_
  refine OJ.pures tU_ok 1 rfl ?_
  refine OJ.nil (EJ.next ?_)
  refine CJ.seq ?_
  refine CJ.region ?_
  refine OJ.pures tU_ok 1 rfl ?_
  obtain ⟨t1, ht1, H⟩ := pbind H
  refine OJ.callF rfl rfl rfl rfl rfl hb27 rfl (spec_l00From.c _ Aa0 ca0 a0 (hS.rd' (i := 0) rfl) (hS.le' (i := 0) rfl) _ ht1) ?_
  rintro _ w1 ⟨b2, rfl, hs⟩
  replace hS := hS.addN hs
  refine OJ.pures tU_ok 1 rfl ?_
  obtain ⟨t3, ht3, H⟩ := pbind H
  refine OJ.callF rfl rfl rfl rfl rfl hb28 rfl (spec_l00Src_pick.c _ Aa0 ca0 (⟨a0, t1.at_, t1.seed⟩ : l00Src) b2 a1 ((hS.subs [0] [0] [] rfl).pick [0] [0] rfl) _ ht3) ?_
  rintro _ w1 ⟨rfl, hs⟩
  replace hS := hS.back [0] rfl rfl [box b2 ([.slice Aa0 a0.length ca0, .int .i64 t3.2.at_, .int .u64 t3.2.seed]) 108] [] hs ⟨fun _ => Iff.rfl, trivial⟩
  refine OJ.pures tU_ok 1 rfl ?_
  refine OJ.nil (EJ.next ?_)
  refine CJ.ret (?_)
  obtain rfl := Option.some.inj H
  exact EJ.fin rfl (.tmp rfl .nil) ⟨rfl, hS.ext⟩

def impl_within.f (a0 : Int) (a1 : Int) (a2 : Int) : Option Bool := if a1 ≤ a0 then (some (decide (a0 ≤ a2))) else (some false)
theorem impl_within.c (w : World) (a0 : Int) (a1 : Int) (a2 : Int) (r : Bool) (H : impl_within.f a0 a1 a2 = some r) :
    CV Tryz.prog 49 [.int .i64 a0, .int .i64 a1, .int .i64 a2].toArray w fun v w' => v = .bool r ∧ Ext w w' := by
  have hS := (St.init w no)
  unfold impl_within.f at H
  refine CV.body Tryz.func49 rfl Tryz.ntmps49 rfl ?_
  refine CJ.seq ?_
  refine CJ.region ?_
  refine OJ.pures tU_ok 1 rfl ?_
  refine OJ.nil (EJ.next ?_)
  refine CJ.seq ?_
  refine CJ.region ?_
  refine OJ.pures tU_ok 4 rfl ?_
  refine OJ.split (t := 10) rfl (fun hb => ?_) (fun hb => ?_)
  · replace H := pif_t (of_decide_eq_true hb) H
    refine OJ.pures tU_ok 5 rfl ?_
    refine OJ.nil (EJ.next ?_)
    refine CJ.ret (?_)
    obtain rfl := Option.some.inj H
    exact EJ.fin rfl (.tmp rfl .nil) ⟨rfl, hS.ext⟩
  · replace H := pif_f (of_decide_eq_false hb) H
    refine OJ.pures tU_ok 5 rfl ?_
    refine OJ.nil (EJ.next ?_)
    refine CJ.ret (?_)
    obtain rfl := Option.some.inj H
    exact EJ.fin rfl (.tmp rfl .nil) ⟨rfl, hS.ext⟩

def impl_Pasture_isCell.f (a0 : Pasture) (a1 : Spot) : Option Bool := (impl_within.f (IntKind.i64.wrap a1.X) 0 (IntKind.i64.wrap ((if 10 < (IntKind.i64.wrap a0.Wide) then 10 else (IntKind.i64.wrap a0.Wide)) - 1))).bind fun t3 => if t3 = true then ((impl_within.f (IntKind.i64.wrap a1.Y) 0 (IntKind.i64.wrap ((if 10 < (IntKind.i64.wrap a0.High) then 10 else (IntKind.i64.wrap a0.High)) - 1))).bind fun t4 => some t4) else (some false)
theorem impl_Pasture_isCell.c (w : World) (a0 : Pasture) (a1 : Spot) (r : Bool) (H : impl_Pasture_isCell.f a0 a1 = some r) :
    CV Tryz.prog 50 [.agg (cPasture.enc a0).toArray, .agg (cSpot.enc a1).toArray].toArray w fun v w' => v = .bool r ∧ Ext w w' := by
  have hS := (St.init w no)
  unfold impl_Pasture_isCell.f at H
  refine CV.body Tryz.func50 rfl Tryz.ntmps50 rfl ?_
  refine CJ.seq ?_
  refine CJ.region ?_
  refine OJ.ef rfl rfl rfl (Ef.box hS rfl rfl (cPasture.enc a0) rfl) ?_
  rintro _ w1 ⟨b1, rfl, hS⟩
  refine OJ.ef rfl rfl rfl (Ef.box hS rfl rfl (cSpot.enc a1) rfl) ?_
  rintro _ w1 ⟨b2, rfl, hS⟩
  refine OJ.pures tU_ok 1 rfl ?_
  refine OJ.nil (EJ.next ?_)
  refine CJ.seq ?_
  refine CJ.region ?_
  refine OJ.st rfl rfl rfl (SR.fieldAddr tU_ok tI_ok rfl rfl rfl rfl rfl rfl) ?_
  refine OJ.st rfl rfl rfl (SR.load rfl rfl (fun w' hx => ld1 tU_ok rfl rfl (CA.ext (CA.sub (hS.cells (i := 1) rfl) 0) hx) rfl)) ?_
  refine OJ.pures tU_ok 1 rfl ?_
  refine OJ.st rfl rfl rfl (SR.fieldAddr tU_ok tI_ok rfl rfl rfl rfl rfl rfl) ?_
  refine OJ.st rfl rfl rfl (SR.load rfl rfl (fun w' hx => ld1 tU_ok rfl rfl (CA.ext (CA.fld (hS.cells (i := 0) rfl) (mid_part (fe_Pasture_0 _) (fl_Pasture_0 _) ((ci .i8).len _))) hx) rfl)) ?_
  refine OJ.pures tU_ok 3 rfl ?_
  obtain ⟨t3, ht3, H⟩ := pbind H
  refine OJ.callF rfl rfl rfl rfl rfl hb49 rfl (impl_within.c _ (IntKind.i64.wrap a1.X) 0 (IntKind.i64.wrap ((if 10 < (IntKind.i64.wrap a0.Wide) then 10 else (IntKind.i64.wrap a0.Wide)) - 1)) _ ht3) ?_
  rintro _ w1 ⟨rfl, hs⟩
  replace hS := hS.grow hs
  refine OJ.pures tU_ok 1 rfl ?_
  refine OJ.split (t := 14) rfl (fun hb => ?_) (fun hb => ?_)
  · replace H := pif_t hb H
    refine OJ.st rfl rfl rfl (SR.fieldAddr tU_ok tI_ok rfl rfl rfl rfl rfl rfl) ?_
    refine OJ.st rfl rfl rfl (SR.load rfl rfl (fun w' hx => ld1 tU_ok rfl rfl (CA.ext (CA.sub (hS.cells (i := 1) rfl) 1) hx) rfl)) ?_
    refine OJ.pures tU_ok 1 rfl ?_
    refine OJ.st rfl rfl rfl (SR.fieldAddr tU_ok tI_ok rfl rfl rfl rfl rfl rfl) ?_
    refine OJ.st rfl rfl rfl (SR.load rfl rfl (fun w' hx => ld1 tU_ok rfl rfl (CA.ext (CA.fld (hS.cells (i := 0) rfl) (mid_part (fe_Pasture_1 _) (fl_Pasture_1 _) ((ci .i8).len _))) hx) rfl)) ?_
    refine OJ.pures tU_ok 3 rfl ?_
    obtain ⟨t4, ht4, H⟩ := pbind H
    refine OJ.callF rfl rfl rfl rfl rfl hb49 rfl (impl_within.c _ (IntKind.i64.wrap a1.Y) 0 (IntKind.i64.wrap ((if 10 < (IntKind.i64.wrap a0.High) then 10 else (IntKind.i64.wrap a0.High)) - 1)) _ ht4) ?_
    rintro _ w1 ⟨rfl, hs⟩
    replace hS := hS.grow hs
    refine OJ.pures tU_ok 2 rfl ?_
    refine OJ.nil (EJ.next ?_)
    refine CJ.ret (?_)
    obtain rfl := Option.some.inj H
    exact EJ.fin rfl (.tmp rfl .nil) ⟨rfl, hS.ext⟩
  · replace H := pifb_f hb H
    refine OJ.pures tU_ok 11 rfl ?_
    refine OJ.nil (EJ.next ?_)
    refine CJ.ret (?_)
    obtain rfl := Option.some.inj H
    exact EJ.fin rfl (.tmp rfl .nil) ⟨rfl, hS.ext⟩

def impl_bit.f (a0 : Bool) : Option Int := if a0 = true then (some 1) else (some 0)
theorem impl_bit.c (w : World) (a0 : Bool) (r : Int) (H : impl_bit.f a0 = some r) :
    CV Tryz.prog 51 [.bool a0].toArray w fun v w' => v = .int .i64 r ∧ Ext w w' := by
  have hS := (St.init w no)
  unfold impl_bit.f at H
  refine CV.body Tryz.func51 rfl Tryz.ntmps51 rfl ?_
  refine CJ.seq ?_
  refine CJ.region ?_
  refine OJ.pures tU_ok 1 rfl ?_
  refine OJ.nil (EJ.next ?_)
  refine CJ.seq ?_
  refine CJ.seq ?_
  refine CJ.region ?_
  refine OJ.pures tU_ok 1 rfl ?_
  refine OJ.nil (EJ.next ?_)
  refine CJ.cond rfl (fun hb => ?_) (fun hb => ?_)
  · replace H := pif_t hb H
    refine CJ.seq ?_
    refine CJ.region ?_
    refine OJ.pures tU_ok 1 rfl ?_
    refine OJ.nil (EJ.next ?_)
    refine CJ.ret (EJ.skR (?_))
    obtain rfl := Option.some.inj H
    exact EJ.fin rfl (.tmp rfl .nil) ⟨rfl, hS.ext⟩
  · replace H := pifb_f hb H
    refine CJ.skip (EJ.next ?_)
    refine CJ.seq ?_
    refine CJ.region ?_
    refine OJ.pures tU_ok 1 rfl ?_
    refine OJ.nil (EJ.next ?_)
    refine CJ.ret (?_)
    obtain rfl := Option.some.inj H
    exact EJ.fin rfl (.tmp rfl .nil) ⟨rfl, hS.ext⟩

def impl_ValidPasture.l2 (a0 : Pasture) (y5 : Int) : Nat → Int → Int → Int → Option (((Bool ⊕ Unit) ⊕ Unit) ⊕ (Int × Int))
  | 0, _, _, _ => none
  | k + 1, y8, y9, y10 => if y10 < 10 then ((impl_Pasture_isCell.f a0 (⟨IntKind.i8.wrap y10, IntKind.i8.wrap y5⟩ : Spot)).bind fun t11 => if t11 = true then ((impl_Pasture_isCell.f a0 (⟨IntKind.i8.wrap (IntKind.i64.wrap (y10 + 1)), IntKind.i8.wrap y5⟩ : Spot)).bind fun t12 => (impl_bit.f t12).bind fun t13 => (chk (0 ≤ y10)).bind fun u14 => (impl_Pasture_isCell.f a0 (⟨IntKind.i8.wrap y10, IntKind.i8.wrap (IntKind.i64.wrap (y5 + 1))⟩ : Spot)).bind fun t15 => (impl_bit.f t15).bind fun t16 => (chk (0 ≤ y10)).bind fun u17 => (getI a0.Grass.l y5).bind fun t18 => (getI t18.l y10).bind fun t19 => (impl_within.f (IntKind.i64.wrap t19) 0 1000).bind fun t20 => if (!t20) = true then (some (Sum.inl (Sum.inl (Sum.inl false)))) else (impl_ValidPasture.l2 a0 y5 k (orI .u16 y8 (shlI .u16 (IntKind.u16.wrap t13) y10)) (orI .u16 y9 (shlI .u16 (IntKind.u16.wrap t16) y10)) (IntKind.i64.wrap (y10 + 1)))) else ((getI a0.Grass.l y5).bind fun t21 => (getI t21.l y10).bind fun t22 => (impl_within.f (IntKind.i64.wrap t22) 0 0).bind fun t23 => if (!t23) = true then (some (Sum.inl (Sum.inl (Sum.inl false)))) else (impl_ValidPasture.l2 a0 y5 k y8 y9 (IntKind.i64.wrap (y10 + 1))))) else (some (Sum.inr (y8, y9)))
def impl_ValidPasture.l1 (a0 : Pasture) : Nat → Int → Option (Bool ⊕ Unit)
  | 0, _ => none
  | k + 1, y5 => if y5 < 10 then (((impl_ValidPasture.l2 a0 y5 k 0 0 0).bind fun s81 => match s81 with | .inl r => some r | .inr (y6, y7) => (getI a0.East.l y5).bind fun t24 => if (andNotI .u16 t24 y6) ≠ 0 then (some (Sum.inl (Sum.inl false))) else ((getI a0.South.l y5).bind fun t25 => if (andNotI .u16 t25 y7) ≠ 0 then (some (Sum.inl (Sum.inl false))) else (some (Sum.inr ())))).bind fun s79 => match s79 with | .inl r => some r | .inr _ => impl_ValidPasture.l1 a0 k (IntKind.i64.wrap (y5 + 1))) else (some (Sum.inr ()))
def impl_ValidPasture.f (k : Nat) (a0 : Pasture) : Option Bool := ((impl_within.f (IntKind.i64.wrap a0.Wide) 1 10).bind fun t3 => if (!t3) = true then (some true) else ((impl_within.f (IntKind.i64.wrap a0.High) 1 10).bind fun t4 => some (!t4))).bind fun y2 => if y2 = true then (some false) else ((impl_ValidPasture.l1 a0 k 0).bind fun s72 => match s72 with | .inl r => some r | .inr _ => some true)
theorem impl_ValidPasture.c (k : Nat) (w : World) (a0 : Pasture) (r : Bool) (H : impl_ValidPasture.f k a0 = some r) :
    CV Tryz.prog 15 [.agg (cPasture.enc a0).toArray].toArray w fun v w' => v = .bool r ∧ Ext w w' := by
  have hS := (St.init w no)
  unfold impl_ValidPasture.f at H
  refine CV.body Tryz.func15 rfl Tryz.ntmps15 rfl ?_
  refine CJ.seq ?_
  refine CJ.region ?_
  refine OJ.ef rfl rfl rfl (Ef.box hS rfl rfl (cPasture.enc a0) rfl) ?_
  rintro _ w1 ⟨b1, rfl, hS⟩
  refine OJ.pures tU_ok 1 rfl ?_
  refine OJ.nil (EJ.next ?_)
  refine CJ.seq ?_
  obtain ⟨j71, H, K71⟩ := pbind H
  refine CJ.cut (fun F w1 => ∃ (y2 : Bool) , (some y2 : Option Bool) = some j71 ∧ F = [(1, .pointer (some ⟨b1, 0, none⟩)), (19, .bool y2)] ∧ St w no w1 [box b1 (cPasture.enc a0) 31] []) ?_ ?_
  · skip
    refine CJ.region ?_
    refine OJ.st rfl rfl rfl (SR.fieldAddr tU_ok tI_ok rfl rfl rfl rfl rfl rfl) ?_
    refine OJ.st rfl rfl rfl (SR.load rfl rfl (fun w' hx => ld1 tU_ok rfl rfl (CA.ext (CA.fld (hS.cells (i := 0) rfl) (mid_part (fe_Pasture_0 _) (fl_Pasture_0 _) ((ci .i8).len _))) hx) rfl)) ?_
    refine OJ.pures tU_ok 1 rfl ?_
    obtain ⟨t3, ht3, H⟩ := pbind H
    refine OJ.callF rfl rfl rfl rfl rfl hb49 rfl (impl_within.c _ (IntKind.i64.wrap a0.Wide) 1 10 _ ht3) ?_
    rintro _ w1 ⟨rfl, hs⟩
    replace hS := hS.grow hs
    refine OJ.pures tU_ok 2 rfl ?_
    refine OJ.split (t := 13) rfl (fun hb => ?_) (fun hb => ?_)
    · replace H := pif_t hb H
      refine OJ.pures tU_ok 6 rfl ?_
      refine OJ.nil ?_
      exact EJ.meet (F' := [(1, .pointer (some ⟨b1, 0, none⟩)), (19, .bool true)]) ⟨rfl, rfl, trivial⟩ ⟨true, H, rfl, hS.pick [0] [] rfl⟩
    · replace H := pifb_f hb H
      refine OJ.st rfl rfl rfl (SR.fieldAddr tU_ok tI_ok rfl rfl rfl rfl rfl rfl) ?_
      refine OJ.st rfl rfl rfl (SR.load rfl rfl (fun w' hx => ld1 tU_ok rfl rfl (CA.ext (CA.fld (hS.cells (i := 0) rfl) (mid_part (fe_Pasture_1 _) (fl_Pasture_1 _) ((ci .i8).len _))) hx) rfl)) ?_
      refine OJ.pures tU_ok 1 rfl ?_
      obtain ⟨t4, ht4, H⟩ := pbind H
      refine OJ.callF rfl rfl rfl rfl rfl hb49 rfl (impl_within.c _ (IntKind.i64.wrap a0.High) 1 10 _ ht4) ?_
      rintro _ w1 ⟨rfl, hs⟩
      replace hS := hS.grow hs
      refine OJ.pures tU_ok 2 rfl ?_
      refine OJ.nil ?_
      exact EJ.meet (F' := [(1, .pointer (some ⟨b1, 0, none⟩)), (19, .bool (!t4))]) ⟨rfl, rfl, trivial⟩ ⟨(!t4), H, rfl, hS.pick [0] [] rfl⟩
  · rintro F w1 ⟨y2, he, rfl, hS⟩
    obtain rfl := Option.some.inj he
    have H := K71
    refine CJ.cond rfl (fun hb => ?_) (fun hb => ?_)
    · replace H := pif_t hb H
      refine CJ.seq ?_
      refine CJ.region ?_
      refine OJ.pures tU_ok 1 rfl ?_
      refine OJ.nil (EJ.next ?_)
      refine CJ.ret (EJ.skR (?_))
      obtain rfl := Option.some.inj H
      exact EJ.fin rfl (.tmp rfl .nil) ⟨rfl, hS.ext⟩
    · replace H := pifb_f hb H
      refine CJ.skip (EJ.next ?_)
      refine CJ.seq ?_
      refine CJ.seq ?_
      refine CJ.region ?_
      refine OJ.pures tU_ok 1 rfl ?_
      refine OJ.nil (EJ.next ?_)
      obtain ⟨j72, H, K72⟩ := pbind H
      refine CJ.cut1 (fun F w1 => (some (Sum.inr ()) : Option (Bool ⊕ Unit)) = some j72 ∧ F = [] ∧ St w no w1 [] []) ?_ ?_
      · skip
        refine CJ.block ?_
        refine CJ.loop (fun k F w1 => ∃ (y5 : Int), F = [(1, .pointer (some ⟨b1, 0, none⟩)), (20, .int .i64 y5)] ∧ St w no w1 [box b1 (cPasture.enc a0) 31] [] ∧ impl_ValidPasture.l1 a0 k y5 = some j72) k (F' := [(1, .pointer (some ⟨b1, 0, none⟩)), (20, .int .i64 0)]) ⟨rfl, rfl, trivial⟩ ⟨0, rfl, hS.pick [0] [] rfl, H⟩ ?_
        rintro k F w1 ⟨y5, rfl, hS, H⟩
        cases k with
        | zero => rw [impl_ValidPasture.l1] at H; cases H
        | succ k =>
          rw [impl_ValidPasture.l1] at H
          refine CJ.seq ?_
          refine CJ.region ?_
          refine OJ.pures tU_ok 1 rfl ?_
          refine OJ.nil (EJ.next ?_)
          refine CJ.seq ?_
          refine CJ.cond rfl (fun hb => ?_) (fun hb => ?_)
          · replace H := pif_t (of_decide_eq_true hb) H
            refine CJ.skip (EJ.next ?_)
            obtain ⟨j79, H, K79⟩ := pbind H
            refine CJ.cut (fun F w1 => (some (Sum.inr ()) : Option ((Bool ⊕ Unit) ⊕ Unit)) = some j79 ∧ F = [(1, .pointer (some ⟨b1, 0, none⟩)), (20, .int .i64 y5)] ∧ St w no w1 [box b1 (cPasture.enc a0) 31] []) ?_ ?_
            · skip
              refine CJ.block ?_
              refine CJ.seq ?_
              refine CJ.region ?_
              refine OJ.pures tU_ok 2 rfl ?_
              refine OJ.nil (EJ.next ?_)
              refine CJ.seq ?_
              refine CJ.region ?_
              refine OJ.pures tU_ok 2 rfl ?_
              refine OJ.nil (EJ.next ?_)
              refine CJ.seq ?_
              refine CJ.seq ?_
              refine CJ.region ?_
              refine OJ.pures tU_ok 1 rfl ?_
              refine OJ.nil (EJ.next ?_)
              obtain ⟨j81, H, K81⟩ := pbind H
              refine CJ.cut1 (fun F w1 => ∃ (y6 : Int) (y7 : Int) , (some (Sum.inr (y6, y7)) : Option (((Bool ⊕ Unit) ⊕ Unit) ⊕ (Int × Int))) = some j81 ∧ F = [(1, .pointer (some ⟨b1, 0, none⟩)), (3, .int .i64 y5), (4, .int .u16 y6), (5, .int .u16 y7), (20, .int .i64 y5)] ∧ St w no w1 [box b1 (cPasture.enc a0) 31] []) ?_ ?_
              · skip
                refine CJ.block ?_
                refine CJ.loop (fun k F w1 => ∃ (y8 : Int) (y9 : Int) (y10 : Int), F = [(1, .pointer (some ⟨b1, 0, none⟩)), (3, .int .i64 y5), (4, .int .u16 y8), (5, .int .u16 y9), (20, .int .i64 y5), (23, .int .i64 y10)] ∧ St w no w1 [box b1 (cPasture.enc a0) 31] [] ∧ impl_ValidPasture.l2 a0 y5 k y8 y9 y10 = some j81) k (F' := [(1, .pointer (some ⟨b1, 0, none⟩)), (3, .int .i64 y5), (4, .int .u16 0), (5, .int .u16 0), (20, .int .i64 y5), (23, .int .i64 0)]) ⟨rfl, rfl, rfl, rfl, rfl, rfl, trivial⟩ ⟨0, 0, 0, rfl, hS.pick [0] [] rfl, H⟩ ?_
                rintro k F w1 ⟨y8, y9, y10, rfl, hS, H⟩
                cases k with
                | zero => rw [impl_ValidPasture.l2] at H; cases H
                | succ k =>
                  rw [impl_ValidPasture.l2] at H
                  refine CJ.seq ?_
                  refine CJ.region ?_
                  refine OJ.pures tU_ok 1 rfl ?_
                  refine OJ.nil (EJ.next ?_)
                  refine CJ.seq ?_
                  refine CJ.cond rfl (fun hb => ?_) (fun hb => ?_)
                  · replace H := pif_t (of_decide_eq_true hb) H
                    refine CJ.skip (EJ.next ?_)
                    refine CJ.seq ?_
                    refine CJ.block ?_
                    refine CJ.seq ?_
                    refine CJ.region ?_
                    refine OJ.pures tU_ok 2 rfl ?_
                    refine OJ.nil (EJ.next ?_)
                    refine CJ.seq ?_
                    refine CJ.region ?_
                    refine OJ.pures tU_ok 1 rfl ?_
                    refine OJ.nil (EJ.next ?_)
                    refine CJ.seq ?_
                    refine CJ.seq ?_
                    refine CJ.region ?_
                    refine OJ.st rfl rfl rfl (SR.load rfl rfl (fun w' hx => ldE tU_ok tI_ok rfl rfl rfl (CA.ext (hS.cells (i := 0) rfl) hx) rfl)) ?_
                    refine OJ.pures tU_ok 4 rfl ?_
                    refine OJ.st rfl rfl rfl (SR.build (C := cSpot) tU_ok tI_ok rfl rfl rfl (zs := [.int .i8 0, .int .i8 0]) rfl rfl rfl (⟨IntKind.i8.wrap y10, IntKind.i8.wrap y5⟩ : Spot) rfl) ?_
                    obtain ⟨t11, ht11, H⟩ := pbind H
                    refine OJ.callF rfl rfl rfl rfl rfl hb50 rfl (impl_Pasture_isCell.c _ a0 (⟨IntKind.i8.wrap y10, IntKind.i8.wrap y5⟩ : Spot) _ ht11) ?_
                    rintro _ w1 ⟨rfl, hs⟩
                    replace hS := hS.grow hs
                    refine OJ.nil (EJ.next ?_)
                    refine CJ.cond rfl (fun hb => ?_) (fun hb => ?_)
                    · replace H := pif_t hb H
                      refine CJ.seq ?_
                      refine CJ.region ?_
                      refine OJ.pures tU_ok 1 rfl ?_
                      refine OJ.nil (EJ.next ?_)
                      refine CJ.seq ?_
                      refine CJ.region ?_
                      refine OJ.pures tU_ok 1 rfl ?_
                      refine OJ.st rfl rfl rfl (SR.load rfl rfl (fun w' hx => ldE tU_ok tI_ok rfl rfl rfl (CA.ext (hS.cells (i := 0) rfl) hx) rfl)) ?_
                      refine OJ.pures tU_ok 5 rfl ?_
                      refine OJ.st rfl rfl rfl (SR.build (C := cSpot) tU_ok tI_ok rfl rfl rfl (zs := [.int .i8 0, .int .i8 0]) rfl rfl rfl (⟨IntKind.i8.wrap (IntKind.i64.wrap (y10 + 1)), IntKind.i8.wrap y5⟩ : Spot) rfl) ?_
                      obtain ⟨t12, ht12, H⟩ := pbind H
                      refine OJ.callF rfl rfl rfl rfl rfl hb50 rfl (impl_Pasture_isCell.c _ a0 (⟨IntKind.i8.wrap (IntKind.i64.wrap (y10 + 1)), IntKind.i8.wrap y5⟩ : Spot) _ ht12) ?_
                      rintro _ w1 ⟨rfl, hs⟩
                      replace hS := hS.grow hs
                      obtain ⟨t13, ht13, H⟩ := pbind H
                      refine OJ.callF rfl rfl rfl rfl rfl hb51 rfl (impl_bit.c _ t12 _ ht13) ?_
                      rintro _ w1 ⟨rfl, hs⟩
                      replace hS := hS.grow hs
                      refine OJ.pures tU_ok 2 rfl ?_
                      obtain ⟨u14, hu14, H⟩ := pbind H
                      refine OJ.st rfl rfl rfl (SR.shl rfl rfl rfl (chk_some hu14)) ?_
                      refine OJ.pures tU_ok 2 rfl ?_
                      refine OJ.nil (EJ.next ?_)
                      refine CJ.region ?_
                      refine OJ.pures tU_ok 1 rfl ?_
                      refine OJ.st rfl rfl rfl (SR.load rfl rfl (fun w' hx => ldE tU_ok tI_ok rfl rfl rfl (CA.ext (hS.cells (i := 0) rfl) hx) rfl)) ?_
                      refine OJ.pures tU_ok 5 rfl ?_
                      refine OJ.st rfl rfl rfl (SR.build (C := cSpot) tU_ok tI_ok rfl rfl rfl (zs := [.int .i8 0, .int .i8 0]) rfl rfl rfl (⟨IntKind.i8.wrap y10, IntKind.i8.wrap (IntKind.i64.wrap (y5 + 1))⟩ : Spot) rfl) ?_
                      obtain ⟨t15, ht15, H⟩ := pbind H
                      refine OJ.callF rfl rfl rfl rfl rfl hb50 rfl (impl_Pasture_isCell.c _ a0 (⟨IntKind.i8.wrap y10, IntKind.i8.wrap (IntKind.i64.wrap (y5 + 1))⟩ : Spot) _ ht15) ?_
                      rintro _ w1 ⟨rfl, hs⟩
                      replace hS := hS.grow hs
                      obtain ⟨t16, ht16, H⟩ := pbind H
                      refine OJ.callF rfl rfl rfl rfl rfl hb51 rfl (impl_bit.c _ t15 _ ht16) ?_
                      rintro _ w1 ⟨rfl, hs⟩
                      replace hS := hS.grow hs
                      refine OJ.pures tU_ok 2 rfl ?_
                      obtain ⟨u17, hu17, H⟩ := pbind H
                      refine OJ.st rfl rfl rfl (SR.shl rfl rfl rfl (chk_some hu17)) ?_
                      refine OJ.pures tU_ok 2 rfl ?_
                      refine OJ.nil (EJ.next ?_)
                      refine CJ.seq ?_
                      refine CJ.region ?_
                      refine OJ.pures tU_ok 2 rfl ?_
                      refine OJ.st rfl rfl rfl (SR.fieldAddr tU_ok tI_ok rfl rfl rfl rfl rfl rfl) ?_
                      obtain ⟨t18, ht18, H⟩ := pbind H
                      refine OJ.st rfl rfl rfl (SR.idxA tU_ok tI_ok rfl rfl rfl rfl rfl (Arr.lt ht18)) ?_
                      obtain ⟨t19, ht19, H⟩ := pbind H
                      refine OJ.st rfl rfl rfl (SR.idxA tU_ok tI_ok rfl rfl rfl rfl rfl (Arr.lt ht19)) ?_
                      refine OJ.st rfl rfl rfl (SR.load rfl rfl (fun w' hx => ld1 tU_ok rfl rfl (CA.ext (CA.idx (CA.idx (CA.fld (hS.cells (i := 0) rfl) (mid_part (fe_Pasture_2 _) (fl_Pasture_2 _) ((carr 10 (carr 10 (ci .i16))).len _))) ht18) ht19) hx) rfl)) ?_
                      refine OJ.pures tU_ok 2 rfl ?_
                      obtain ⟨t20, ht20, H⟩ := pbind H
                      refine OJ.callF rfl rfl rfl rfl rfl hb49 rfl (impl_within.c _ (IntKind.i64.wrap t19) 0 1000 _ ht20) ?_
                      rintro _ w1 ⟨rfl, hs⟩
                      replace hS := hS.grow hs
                      refine OJ.pures tU_ok 1 rfl ?_
                      refine OJ.nil (EJ.next ?_)
                      refine CJ.cond rfl (fun hb => ?_) (fun hb => ?_)
                      · replace H := pif_t hb H
                        refine CJ.seq ?_
                        refine CJ.region ?_
                        refine OJ.pures tU_ok 1 rfl ?_
                        refine OJ.nil (EJ.next ?_)
                        refine CJ.ret (EJ.bkR (EJ.skR (EJ.skR (EJ.bkR (EJ.skR (EJ.skR (EJ.bkR (EJ.skR (EJ.skR (EJ.bkR (EJ.skR (EJ.skR (?_)))))))))))))
                        first | (obtain rfl := Option.some.inj H; have H := K81) | (obtain ⟨q81, H2, e81⟩ := pbind H; obtain rfl := Option.some.inj e81; obtain rfl := Option.some.inj K81; have H := H2)
                        first | (obtain rfl := Option.some.inj H; have H := K79) | (obtain ⟨q79, H2, e79⟩ := pbind H; obtain rfl := Option.some.inj e79; obtain rfl := Option.some.inj K79; have H := H2)
                        first | (obtain rfl := Option.some.inj H; have H := K72) | (obtain ⟨q72, H2, e72⟩ := pbind H; obtain rfl := Option.some.inj e72; obtain rfl := Option.some.inj K72; have H := H2)
                        obtain rfl := Option.some.inj H
                        exact EJ.fin rfl (.tmp rfl .nil) ⟨rfl, hS.ext⟩
                      · replace H := pifb_f hb H
                        refine CJ.skip (EJ.blk (EJ.next ?_))
                        refine CJ.region ?_
                        refine OJ.pures tU_ok 2 rfl ?_
                        refine OJ.nil ?_
                        exact EJ.round k (F' := [(1, .pointer (some ⟨b1, 0, none⟩)), (3, .int .i64 y5), (4, .int .u16 (orI .u16 y8 (shlI .u16 (IntKind.u16.wrap t13) y10))), (5, .int .u16 (orI .u16 y9 (shlI .u16 (IntKind.u16.wrap t16) y10))), (20, .int .i64 y5), (23, .int .i64 (IntKind.i64.wrap (y10 + 1)))]) ⟨rfl, rfl, rfl, rfl, rfl, rfl, trivial⟩ (Nat.lt_succ_self _) ⟨(orI .u16 y8 (shlI .u16 (IntKind.u16.wrap t13) y10)), (orI .u16 y9 (shlI .u16 (IntKind.u16.wrap t16) y10)), (IntKind.i64.wrap (y10 + 1)), rfl, hS.pick [0] [] rfl, H⟩
                    · replace H := pifb_f hb H
                      refine CJ.skip (EJ.next ?_)
                      refine CJ.seq ?_
                      refine CJ.region ?_
                      refine OJ.pures tU_ok 2 rfl ?_
                      refine OJ.st rfl rfl rfl (SR.fieldAddr tU_ok tI_ok rfl rfl rfl rfl rfl rfl) ?_
                      obtain ⟨t21, ht21, H⟩ := pbind H
                      refine OJ.st rfl rfl rfl (SR.idxA tU_ok tI_ok rfl rfl rfl rfl rfl (Arr.lt ht21)) ?_
                      obtain ⟨t22, ht22, H⟩ := pbind H
                      refine OJ.st rfl rfl rfl (SR.idxA tU_ok tI_ok rfl rfl rfl rfl rfl (Arr.lt ht22)) ?_
                      refine OJ.st rfl rfl rfl (SR.load rfl rfl (fun w' hx => ld1 tU_ok rfl rfl (CA.ext (CA.idx (CA.idx (CA.fld (hS.cells (i := 0) rfl) (mid_part (fe_Pasture_2 _) (fl_Pasture_2 _) ((carr 10 (carr 10 (ci .i16))).len _))) ht21) ht22) hx) rfl)) ?_
                      refine OJ.pures tU_ok 2 rfl ?_
                      obtain ⟨t23, ht23, H⟩ := pbind H
                      refine OJ.callF rfl rfl rfl rfl rfl hb49 rfl (impl_within.c _ (IntKind.i64.wrap t22) 0 0 _ ht23) ?_
                      rintro _ w1 ⟨rfl, hs⟩
                      replace hS := hS.grow hs
                      refine OJ.pures tU_ok 1 rfl ?_
                      refine OJ.nil (EJ.next ?_)
                      refine CJ.cond rfl (fun hb => ?_) (fun hb => ?_)
                      · replace H := pif_t hb H
                        refine CJ.seq ?_
                        refine CJ.region ?_
                        refine OJ.pures tU_ok 1 rfl ?_
                        refine OJ.nil (EJ.next ?_)
                        refine CJ.ret (EJ.bkR (EJ.skR (EJ.skR (EJ.bkR (EJ.skR (EJ.skR (EJ.bkR (EJ.skR (EJ.skR (EJ.bkR (EJ.skR (EJ.skR (?_)))))))))))))
                        first | (obtain rfl := Option.some.inj H; have H := K81) | (obtain ⟨q81, H2, e81⟩ := pbind H; obtain rfl := Option.some.inj e81; obtain rfl := Option.some.inj K81; have H := H2)
                        first | (obtain rfl := Option.some.inj H; have H := K79) | (obtain ⟨q79, H2, e79⟩ := pbind H; obtain rfl := Option.some.inj e79; obtain rfl := Option.some.inj K79; have H := H2)
                        first | (obtain rfl := Option.some.inj H; have H := K72) | (obtain ⟨q72, H2, e72⟩ := pbind H; obtain rfl := Option.some.inj e72; obtain rfl := Option.some.inj K72; have H := H2)
                        obtain rfl := Option.some.inj H
                        exact EJ.fin rfl (.tmp rfl .nil) ⟨rfl, hS.ext⟩
                      · replace H := pifb_f hb H
                        refine CJ.skip (EJ.blk (EJ.next ?_))
                        refine CJ.region ?_
                        refine OJ.pures tU_ok 2 rfl ?_
                        refine OJ.nil ?_
                        exact EJ.round k (F' := [(1, .pointer (some ⟨b1, 0, none⟩)), (3, .int .i64 y5), (4, .int .u16 y8), (5, .int .u16 y9), (20, .int .i64 y5), (23, .int .i64 (IntKind.i64.wrap (y10 + 1)))]) ⟨rfl, rfl, rfl, rfl, rfl, rfl, trivial⟩ (Nat.lt_succ_self _) ⟨y8, y9, (IntKind.i64.wrap (y10 + 1)), rfl, hS.pick [0] [] rfl, H⟩
                  · replace H := pif_f (of_decide_eq_false hb) H
                    refine CJ.exit (EJ.skE (EJ.skE (EJ.hit (?_))))
                    exact EJ.meet (F' := [(1, .pointer (some ⟨b1, 0, none⟩)), (3, .int .i64 y5), (4, .int .u16 y8), (5, .int .u16 y9), (20, .int .i64 y5)]) ⟨rfl, rfl, rfl, rfl, rfl, trivial⟩ ⟨y8, y9, H, rfl, hS.pick [0] [] rfl⟩
              · rintro F w1 ⟨y6, y7, he, rfl, hS⟩
                obtain rfl := Option.some.inj he
                have H := K81
                refine EJ.next ?_
                refine CJ.seq ?_
                refine CJ.region ?_
                refine OJ.pures tU_ok 1 rfl ?_
                refine OJ.st rfl rfl rfl (SR.fieldAddr tU_ok tI_ok rfl rfl rfl rfl rfl rfl) ?_
                obtain ⟨t24, ht24, H⟩ := pbind H
                refine OJ.st rfl rfl rfl (SR.idxA tU_ok tI_ok rfl rfl rfl rfl rfl (Arr.lt ht24)) ?_
                refine OJ.st rfl rfl rfl (SR.load rfl rfl (fun w' hx => ld1 tU_ok rfl rfl (CA.ext (CA.idx (CA.fld (hS.cells (i := 0) rfl) (mid_part (fe_Pasture_3 _) (fl_Pasture_3 _) ((carr 10 (ci .u16)).len _))) ht24) hx) rfl)) ?_
                refine OJ.pures tU_ok 4 rfl ?_
                refine OJ.split (t := 79) rfl (fun hb => ?_) (fun hb => ?_)
                · replace H := pif_t (of_decide_eq_true hb) H
                  refine OJ.pures tU_ok 8 rfl ?_
                  refine OJ.nil (EJ.next ?_)
                  refine CJ.condT rfl ?_
                  refine CJ.seq ?_
                  refine CJ.region ?_
                  refine OJ.pures tU_ok 1 rfl ?_
                  refine OJ.nil (EJ.next ?_)
                  refine CJ.ret (EJ.bkR (EJ.skR (EJ.skR (EJ.bkR (EJ.skR (EJ.skR (?_)))))))
                  first | (obtain rfl := Option.some.inj H; have H := K79) | (obtain ⟨q79, H2, e79⟩ := pbind H; obtain rfl := Option.some.inj e79; obtain rfl := Option.some.inj K79; have H := H2)
                  first | (obtain rfl := Option.some.inj H; have H := K72) | (obtain ⟨q72, H2, e72⟩ := pbind H; obtain rfl := Option.some.inj e72; obtain rfl := Option.some.inj K72; have H := H2)
                  obtain rfl := Option.some.inj H
                  exact EJ.fin rfl (.tmp rfl .nil) ⟨rfl, hS.ext⟩
                · replace H := pif_f (of_decide_eq_false hb) H
                  refine OJ.pures tU_ok 1 rfl ?_
                  refine OJ.st rfl rfl rfl (SR.fieldAddr tU_ok tI_ok rfl rfl rfl rfl rfl rfl) ?_
                  obtain ⟨t25, ht25, H⟩ := pbind H
                  refine OJ.st rfl rfl rfl (SR.idxA tU_ok tI_ok rfl rfl rfl rfl rfl (Arr.lt ht25)) ?_
                  refine OJ.st rfl rfl rfl (SR.load rfl rfl (fun w' hx => ld1 tU_ok rfl rfl (CA.ext (CA.idx (CA.fld (hS.cells (i := 0) rfl) (mid_part (fe_Pasture_4 _) (fl_Pasture_4 _) ((carr 10 (ci .u16)).len _))) ht25) hx) rfl)) ?_
                  refine OJ.pures tU_ok 4 rfl ?_
                  refine OJ.nil (EJ.next ?_)
                  refine CJ.cond rfl (fun hb => ?_) (fun hb => ?_)
                  · replace H := pif_t (of_decide_eq_true hb) H
                    refine CJ.seq ?_
                    refine CJ.region ?_
                    refine OJ.pures tU_ok 1 rfl ?_
                    refine OJ.nil (EJ.next ?_)
                    refine CJ.ret (EJ.bkR (EJ.skR (EJ.skR (EJ.bkR (EJ.skR (EJ.skR (?_)))))))
                    first | (obtain rfl := Option.some.inj H; have H := K79) | (obtain ⟨q79, H2, e79⟩ := pbind H; obtain rfl := Option.some.inj e79; obtain rfl := Option.some.inj K79; have H := H2)
                    first | (obtain rfl := Option.some.inj H; have H := K72) | (obtain ⟨q72, H2, e72⟩ := pbind H; obtain rfl := Option.some.inj e72; obtain rfl := Option.some.inj K72; have H := H2)
                    obtain rfl := Option.some.inj H
                    exact EJ.fin rfl (.tmp rfl .nil) ⟨rfl, hS.ext⟩
                  · replace H := pif_f (of_decide_eq_false hb) H
                    refine CJ.skip (EJ.blk (?_))
                    exact EJ.meet (F' := [(1, .pointer (some ⟨b1, 0, none⟩)), (20, .int .i64 y5)]) ⟨rfl, rfl, trivial⟩ ⟨H, rfl, hS.pick [0] [] rfl⟩
            · rintro F w1 ⟨he, rfl, hS⟩
              obtain rfl := Option.some.inj he
              have H := K79
              refine CJ.region ?_
              refine OJ.pures tU_ok 2 rfl ?_
              refine OJ.nil ?_
              exact EJ.round k (F' := [(1, .pointer (some ⟨b1, 0, none⟩)), (20, .int .i64 (IntKind.i64.wrap (y5 + 1)))]) ⟨rfl, rfl, trivial⟩ (Nat.lt_succ_self _) ⟨(IntKind.i64.wrap (y5 + 1)), rfl, hS.pick [0] [] rfl, H⟩
          · replace H := pif_f (of_decide_eq_false hb) H
            refine CJ.exit (EJ.skE (EJ.skE (EJ.hit (?_))))
            exact EJ.meet (F' := []) trivial ⟨H, rfl, hS.pick [] [] rfl⟩
      · rintro F w1 ⟨he, rfl, hS⟩
        obtain rfl := Option.some.inj he
        have H := K72
        refine EJ.next ?_
        refine CJ.seq ?_
        refine CJ.region ?_
        refine OJ.pures tU_ok 1 rfl ?_
        refine OJ.nil (EJ.next ?_)
        refine CJ.ret (?_)
        obtain rfl := Option.some.inj H
        exact EJ.fin rfl (.tmp rfl .nil) ⟨rfl, hS.ext⟩

def impl_Pasture_grass.f (a0 : Pasture) (a1 : Spot) : Option Int := (getI a0.Grass.l a1.Y).bind fun t3 => (getI t3.l a1.X).bind fun t4 => some (IntKind.i64.wrap t4)
theorem impl_Pasture_grass.c (w : World) (a0 : Pasture) (a1 : Spot) (r : Int) (H : impl_Pasture_grass.f a0 a1 = some r) :
    CV Tryz.prog 35 [.agg (cPasture.enc a0).toArray, .agg (cSpot.enc a1).toArray].toArray w fun v w' => v = .int .i64 r ∧ Ext w w' := by
  have hS := (St.init w no)
  unfold impl_Pasture_grass.f at H
  refine CV.body Tryz.func35 rfl Tryz.ntmps35 rfl ?_
  refine CJ.seq ?_
  refine CJ.region ?_
  refine OJ.ef rfl rfl rfl (Ef.box hS rfl rfl (cPasture.enc a0) rfl) ?_
  rintro _ w1 ⟨b1, rfl, hS⟩
  refine OJ.ef rfl rfl rfl (Ef.box hS rfl rfl (cSpot.enc a1) rfl) ?_
  rintro _ w1 ⟨b2, rfl, hS⟩
  refine OJ.pures tU_ok 1 rfl ?_
  refine OJ.nil (EJ.next ?_)
  refine CJ.seq ?_
  refine CJ.draw [] [0, 1, 2, 3, 4, 5, 6, 7, 8, 9] mixed (by kernel_rfl) hS fun w1 hS => ?_
  refine DJ.st rfl rfl rfl rfl rfl (SR.fieldAddr tU_ok tI_ok rfl rfl rfl rfl rfl rfl) ?_
  refine DJ.st rfl rfl rfl rfl rfl (SR.load rfl rfl (fun w' hx => ld1 tU_ok rfl rfl (CA.ext (CA.sub (hS.cells (i := 1) rfl) 1) hx) rfl)) ?_
  refine DJ.st rfl rfl rfl rfl rfl (SR.fieldAddr tU_ok tI_ok rfl rfl rfl rfl rfl rfl) ?_
  refine DJ.st rfl rfl rfl rfl rfl (SR.load rfl rfl (fun w' hx => ld1 tU_ok rfl rfl (CA.ext (CA.sub (hS.cells (i := 1) rfl) 0) hx) rfl)) ?_
  refine DJ.st rfl rfl rfl rfl rfl (SR.fieldAddr tU_ok tI_ok rfl rfl rfl rfl rfl rfl) ?_
  obtain ⟨t3, ht3, H⟩ := pbind H
  refine DJ.st rfl rfl rfl rfl rfl (SR.idxA tU_ok tI_ok rfl rfl rfl rfl rfl (Arr.lt ht3)) ?_
  obtain ⟨t4, ht4, H⟩ := pbind H
  refine DJ.st rfl rfl rfl rfl rfl (SR.idxA tU_ok tI_ok rfl rfl rfl rfl rfl (Arr.lt ht4)) ?_
  refine DJ.st rfl rfl rfl rfl rfl (SR.load rfl rfl (fun w' hx => ld1 tU_ok rfl rfl (CA.ext (CA.idx (CA.idx (CA.fld (hS.cells (i := 0) rfl) (mid_part (fe_Pasture_2 _) (fl_Pasture_2 _) ((carr 10 (carr 10 (ci .i16))).len _))) ht3) ht4) hx) rfl)) ?_
  refine DJ.pures tU_ok 2 rfl ?_
  refine DJ.nil (EJ.next ?_)
  refine CJ.ret (?_)
  obtain rfl := Option.some.inj H
  exact EJ.fin rfl (.tmp rfl .nil) ⟨rfl, hS.ext⟩

def strconv_FormatInt.f (a0 : Int) (a1 : Int) : Option ByteArray := (chk (a1 = 10 ∧ -9223372036854775808 ≤ a0 ∧ a0 ≤ 9223372036854775807)).bind fun _ => some (itoaB a0)
theorem strconv_FormatInt.c (w : World) (a0 : Int) (a1 : Int) (hT : (envC Tryz.prog 0).holds w) (r : ByteArray) (H : strconv_FormatInt.f a0 a1 = some r) :
    CV Tryz.prog 69 [.int .i64 a0, .int .i64 a1].toArray w fun v w' => v = .string r ∧ Ext w w' := by
  unfold strconv_FormatInt.f at H
  obtain ⟨u, hu, H⟩ := pbind H
  have h := chk_some hu
  obtain rfl := Option.some.inj H
  obtain ⟨rfl, h0, h1⟩ := h
  exact fmt_cv hT.1 h0 h1 (fun n h0 h1 w ht => Any.strconv_FormatInt_10 layFmt n h0 h1 w ht)

def impl_decimal.f (a0 : Int) : Option ByteArray := (strconv_FormatInt.f a0 10).bind fun t1 => some t1
theorem impl_decimal.c (w : World) (a0 : Int) (hT : (envC Tryz.prog 0).holds w) (r : ByteArray) (H : impl_decimal.f a0 = some r) :
    CV Tryz.prog 34 [.int .i64 a0].toArray w fun v w' => v = .string r ∧ Ext w w' := by
  have hS := ((St.init w no).paramT (envC Tryz.prog 0) hT)
  unfold impl_decimal.f at H
  refine CV.body Tryz.func34 rfl Tryz.ntmps34 rfl ?_
  refine CJ.seq ?_
  refine CJ.region ?_
  refine OJ.pures tU_ok 1 rfl ?_
  refine OJ.nil (EJ.next ?_)
  refine CJ.seq ?_
  refine CJ.region ?_
  refine OJ.pures tU_ok 1 rfl ?_
  obtain ⟨t1, ht1, H⟩ := pbind H
  refine OJ.callF rfl rfl rfl rfl rfl hb69 rfl (strconv_FormatInt.c _ a0 10 (hS.ro (i := 0) rfl) _ ht1) ?_
  rintro _ w1 ⟨rfl, hs⟩
  replace hS := hS.grow hs
  refine OJ.pures tU_ok 1 rfl ?_
  refine OJ.nil (EJ.next ?_)
  refine CJ.ret (?_)
  obtain rfl := Option.some.inj H
  exact EJ.fin rfl (.tmp rfl .nil) ⟨rfl, hS.ext⟩

def impl_Pasture_stands.f (a0 : Pasture) (a1 : Hurdle) : Option Bool := if a1.South = true then ((getI a0.South.l a1.At.Y).bind fun t3 => (chk (0 ≤ a1.At.X)).bind fun u4 => some (decide ((andI .u16 (shrI .u16 t3 a1.At.X) 1) = 1))) else ((getI a0.East.l a1.At.Y).bind fun t5 => (chk (0 ≤ a1.At.X)).bind fun u6 => some (decide ((andI .u16 (shrI .u16 t5 a1.At.X) 1) = 1)))
theorem impl_Pasture_stands.c (w : World) (a0 : Pasture) (a1 : Hurdle) (r : Bool) (H : impl_Pasture_stands.f a0 a1 = some r) :
    CV Tryz.prog 36 [.agg (cPasture.enc a0).toArray, .agg (cHurdle.enc a1).toArray].toArray w fun v w' => v = .bool r ∧ Ext w w' := by
  have hS := (St.init w no)
  unfold impl_Pasture_stands.f at H
  refine CV.body Tryz.func36 rfl Tryz.ntmps36 rfl ?_
  refine CJ.seq ?_
  refine CJ.region ?_
  refine OJ.ef rfl rfl rfl (Ef.box hS rfl rfl (cPasture.enc a0) rfl) ?_
  rintro _ w1 ⟨b1, rfl, hS⟩
  refine OJ.ef rfl rfl rfl (Ef.box hS rfl rfl (cHurdle.enc a1) rfl) ?_
  rintro _ w1 ⟨b2, rfl, hS⟩
  refine OJ.pures tU_ok 1 rfl ?_
  refine OJ.nil (EJ.next ?_)
  refine CJ.seq ?_
  refine CJ.seq ?_
  refine CJ.region ?_
  refine OJ.st rfl rfl rfl (SR.fieldAddr tU_ok tI_ok rfl rfl rfl rfl rfl rfl) ?_
  refine OJ.st rfl rfl rfl (SR.load rfl rfl (fun w' hx => ld1 tU_ok rfl rfl (CA.ext (CA.sub (hS.cells (i := 1) rfl) 2) hx) rfl)) ?_
  refine OJ.nil (EJ.next ?_)
  refine CJ.cond rfl (fun hb => ?_) (fun hb => ?_)
  · replace H := pif_t hb H
    refine CJ.seq ?_
    refine CJ.draw [] [0, 1, 2, 3, 4, 5, 6, 7, 8, 9, 10, 11, 12] mixed (by kernel_rfl) hS fun w1 hS => ?_
    refine DJ.st rfl rfl rfl rfl rfl (SR.fieldAddr tU_ok tI_ok rfl rfl rfl rfl rfl rfl) ?_
    refine DJ.st rfl rfl rfl rfl rfl (SR.fieldAddr tU_ok tI_ok rfl rfl rfl rfl rfl rfl) ?_
    refine DJ.st rfl rfl rfl rfl rfl (SR.load rfl rfl (fun w' hx => ld1 tU_ok rfl rfl (CA.ext (CA.sub (CA.sub (hS.cells (i := 1) rfl) 0) 1) hx) rfl)) ?_
    refine DJ.st rfl rfl rfl rfl rfl (SR.fieldAddr tU_ok tI_ok rfl rfl rfl rfl rfl rfl) ?_
    obtain ⟨t3, ht3, H⟩ := pbind H
    refine DJ.st rfl rfl rfl rfl rfl (SR.idxA tU_ok tI_ok rfl rfl rfl rfl rfl (Arr.lt ht3)) ?_
    refine DJ.st rfl rfl rfl rfl rfl (SR.load rfl rfl (fun w' hx => ld1 tU_ok rfl rfl (CA.ext (CA.idx (CA.fld (hS.cells (i := 0) rfl) (mid_part (fe_Pasture_4 _) (fl_Pasture_4 _) ((carr 10 (ci .u16)).len _))) ht3) hx) rfl)) ?_
    refine DJ.st rfl rfl rfl rfl rfl (SR.fieldAddr tU_ok tI_ok rfl rfl rfl rfl rfl rfl) ?_
    refine DJ.st rfl rfl rfl rfl rfl (SR.fieldAddr tU_ok tI_ok rfl rfl rfl rfl rfl rfl) ?_
    refine DJ.st rfl rfl rfl rfl rfl (SR.load rfl rfl (fun w' hx => ld1 tU_ok rfl rfl (CA.ext (CA.sub (CA.sub (hS.cells (i := 1) rfl) 0) 0) hx) rfl)) ?_
    obtain ⟨u4, hu4, H⟩ := pbind H
    refine DJ.st rfl rfl rfl rfl rfl (SR.shr rfl rfl rfl (chk_some hu4)) ?_
    refine DJ.pures tU_ok 3 rfl ?_
    refine DJ.nil (EJ.next ?_)
    refine CJ.ret (EJ.skR (?_))
    obtain rfl := Option.some.inj H
    exact EJ.fin rfl (.tmp rfl .nil) ⟨rfl, hS.ext⟩
  · replace H := pifb_f hb H
    refine CJ.skip (EJ.next ?_)
    refine CJ.seq ?_
    refine CJ.draw [] [0, 1, 2, 3, 4, 5, 6, 7, 8, 9, 10, 11, 12] mixed (by kernel_rfl) hS fun w1 hS => ?_
    refine DJ.st rfl rfl rfl rfl rfl (SR.fieldAddr tU_ok tI_ok rfl rfl rfl rfl rfl rfl) ?_
    refine DJ.st rfl rfl rfl rfl rfl (SR.fieldAddr tU_ok tI_ok rfl rfl rfl rfl rfl rfl) ?_
    refine DJ.st rfl rfl rfl rfl rfl (SR.load rfl rfl (fun w' hx => ld1 tU_ok rfl rfl (CA.ext (CA.sub (CA.sub (hS.cells (i := 1) rfl) 0) 1) hx) rfl)) ?_
    refine DJ.st rfl rfl rfl rfl rfl (SR.fieldAddr tU_ok tI_ok rfl rfl rfl rfl rfl rfl) ?_
    obtain ⟨t5, ht5, H⟩ := pbind H
    refine DJ.st rfl rfl rfl rfl rfl (SR.idxA tU_ok tI_ok rfl rfl rfl rfl rfl (Arr.lt ht5)) ?_
    refine DJ.st rfl rfl rfl rfl rfl (SR.load rfl rfl (fun w' hx => ld1 tU_ok rfl rfl (CA.ext (CA.idx (CA.fld (hS.cells (i := 0) rfl) (mid_part (fe_Pasture_3 _) (fl_Pasture_3 _) ((carr 10 (ci .u16)).len _))) ht5) hx) rfl)) ?_
    refine DJ.st rfl rfl rfl rfl rfl (SR.fieldAddr tU_ok tI_ok rfl rfl rfl rfl rfl rfl) ?_
    refine DJ.st rfl rfl rfl rfl rfl (SR.fieldAddr tU_ok tI_ok rfl rfl rfl rfl rfl rfl) ?_
    refine DJ.st rfl rfl rfl rfl rfl (SR.load rfl rfl (fun w' hx => ld1 tU_ok rfl rfl (CA.ext (CA.sub (CA.sub (hS.cells (i := 1) rfl) 0) 0) hx) rfl)) ?_
    obtain ⟨u6, hu6, H⟩ := pbind H
    refine DJ.st rfl rfl rfl rfl rfl (SR.shr rfl rfl rfl (chk_some hu6)) ?_
    refine DJ.pures tU_ok 3 rfl ?_
    refine DJ.nil (EJ.next ?_)
    refine CJ.ret (?_)
    obtain rfl := Option.some.inj H
    exact EJ.fin rfl (.tmp rfl .nil) ⟨rfl, hS.ext⟩

def strings_Join.f (a0 : List ByteArray) (a1 : ByteArray) : Option (ByteArray × List ByteArray) := (chk (a0.length ≤ 4294967296 ∧ (joinB a0 a1).size ≤ 4294967296)).bind fun _ => some (joinB a0 a1, a0)
theorem strings_Join.c (w : World) (Aa0 : Option Addr) (ca0 : Nat) (a0 : List ByteArray) (a1 : ByteArray) (hin : St w (fpU [rowC G.cs Aa0 ca0 9 a0]) w [rowC G.cs Aa0 ca0 9 a0] []) (r : ByteArray × List ByteArray) (H : strings_Join.f a0 a1 = some r) :
    CV Tryz.prog 38 [.slice Aa0 a0.length ca0, .string a1].toArray w fun v w' => v = .string r.1 ∧ St w (fpU [rowC G.cs Aa0 ca0 9 a0]) w' [rowC G.cs Aa0 ca0 9 r.2] [] ∧ r.2.length = a0.length := by
  unfold strings_Join.f at H
  obtain ⟨u, hu, H⟩ := pbind H
  obtain rfl := Option.some.inj H
  exact join_cv hin (fun a c sep w => Any.strings_Join_none layJoin layExtra a c sep w) (fun bk o c xs sep w h1 h2 h3 h4 h5 => Any.strings_Join layJoin layExtra bk o c xs sep w h1 h2 h3 h4 h5) (chk_some hu).1 (chk_some hu).2

def impl_PastureText.l2 (a0 : Pasture) (y10 : Int) : Nat → (List ByteArray) → Int → Option (List ByteArray)
  | 0, _, _ => none
  | k + 1, y18, y21 => if y21 < a0.Wide then ((impl_Pasture_grass.f a0 (⟨y21, y10⟩ : Spot)).bind fun t23 => (impl_decimal.f t23).bind fun t24 => (impl_Pasture_stands.f a0 (⟨(⟨y21, y10⟩ : Spot), false⟩ : Hurdle)).bind fun t25 => if t25 = true then ((chk (t24.size + (⟨#[124]⟩ : ByteArray).size ≤ 4294967296)).bind fun u26 => (impl_Pasture_stands.f a0 (⟨(⟨y21, y10⟩ : Spot), true⟩ : Hurdle)).bind fun t27 => if t27 = true then ((chk ((t24 ++ (⟨#[124]⟩ : ByteArray)).size + (⟨#[95]⟩ : ByteArray).size ≤ 4294967296)).bind fun u28 => (chk (y18.length + ([(t24 ++ (⟨#[124]⟩ : ByteArray)) ++ (⟨#[95]⟩ : ByteArray)] : List ByteArray).length ≤ 4294967296)).bind fun u30 => impl_PastureText.l2 a0 y10 k (y18 ++ ([(t24 ++ (⟨#[124]⟩ : ByteArray)) ++ (⟨#[95]⟩ : ByteArray)] : List ByteArray)) (IntKind.i8.wrap (y21 + 1))) else ((chk (y18.length + ([t24 ++ (⟨#[124]⟩ : ByteArray)] : List ByteArray).length ≤ 4294967296)).bind fun u34 => impl_PastureText.l2 a0 y10 k (y18 ++ ([t24 ++ (⟨#[124]⟩ : ByteArray)] : List ByteArray)) (IntKind.i8.wrap (y21 + 1)))) else ((impl_Pasture_stands.f a0 (⟨(⟨y21, y10⟩ : Spot), true⟩ : Hurdle)).bind fun t37 => if t37 = true then ((chk (t24.size + (⟨#[95]⟩ : ByteArray).size ≤ 4294967296)).bind fun u38 => (chk (y18.length + ([t24 ++ (⟨#[95]⟩ : ByteArray)] : List ByteArray).length ≤ 4294967296)).bind fun u40 => impl_PastureText.l2 a0 y10 k (y18 ++ ([t24 ++ (⟨#[95]⟩ : ByteArray)] : List ByteArray)) (IntKind.i8.wrap (y21 + 1))) else ((chk (y18.length + ([t24] : List ByteArray).length ≤ 4294967296)).bind fun u44 => impl_PastureText.l2 a0 y10 k (y18 ++ ([t24] : List ByteArray)) (IntKind.i8.wrap (y21 + 1))))) else (some y18)
def impl_PastureText.l1 (a0 : Pasture) : Nat → ByteArray → Int → Option ByteArray
  | 0, _, _ => none
  | k + 1, y7, y10 => if y10 < a0.High then (((impl_PastureText.l2 a0 y10 k ([] : List ByteArray) 0).bind fun y15 => (strings_Join.f y15 (⟨#[32]⟩ : ByteArray)).bind fun t47 => (chk (t47.1.size + (⟨#[10]⟩ : ByteArray).size ≤ 4294967296)).bind fun u48 => (chk (y7.size + (t47.1 ++ (⟨#[10]⟩ : ByteArray)).size ≤ 4294967296)).bind fun u51 => some (y7 ++ (t47.1 ++ (⟨#[10]⟩ : ByteArray)))).bind fun y11 => impl_PastureText.l1 a0 k y11 (IntKind.i8.wrap (y10 + 1))) else (some y7)
def impl_PastureText.f (k : Nat) (a0 : Pasture) : Option ByteArray := (impl_ValidPasture.f k a0).bind fun t2 => if (!t2) = true then (some ByteArray.empty) else ((impl_PastureText.l1 a0 k ByteArray.empty 0).bind fun y4 => some y4)
theorem impl_PastureText.c (k : Nat) (w : World) (a0 : Pasture) (hT : (envC Tryz.prog 0).holds w) (r : ByteArray) (H : impl_PastureText.f k a0 = some r) :
    CV Tryz.prog 9 [.agg (cPasture.enc a0).toArray].toArray w fun v w' => v = .string r ∧ Ext w w' := by
  have hS := ((St.init w no).paramT (envC Tryz.prog 0) hT)
  unfold impl_PastureText.f at H
  refine CV.body Tryz.func9 rfl Tryz.ntmps9 rfl ?_
  refine CJ.seq ?_
  refine CJ.region ?_
  refine OJ.ef rfl rfl rfl (Ef.box hS rfl rfl (cPasture.enc a0) rfl) ?_
  rintro _ w1 ⟨b1, rfl, hS⟩
  refine OJ.pures tU_ok 1 rfl ?_
  refine OJ.nil (EJ.next ?_)
  refine CJ.seq ?_
  refine CJ.seq ?_
  refine CJ.region ?_
  refine OJ.st rfl rfl rfl (SR.load rfl rfl (fun w' hx => ldE tU_ok tI_ok rfl rfl rfl (CA.ext (hS.cells (i := 0) rfl) hx) rfl)) ?_
  obtain ⟨t2, ht2, H⟩ := pbind H
  refine OJ.callF rfl rfl rfl rfl rfl hb15 rfl (impl_ValidPasture.c k _ a0 _ ht2) ?_
  rintro _ w1 ⟨rfl, hs⟩
  replace hS := hS.grow hs
  refine OJ.pures tU_ok 1 rfl ?_
  refine OJ.nil (EJ.next ?_)
  refine CJ.cond rfl (fun hb => ?_) (fun hb => ?_)
  · replace H := pif_t hb H
    refine CJ.seq ?_
    refine CJ.region ?_
    refine OJ.pures tU_ok 1 rfl ?_
    refine OJ.nil (EJ.next ?_)
    refine CJ.ret (EJ.skR (?_))
    obtain rfl := Option.some.inj H
    exact EJ.fin rfl (.tmp rfl .nil) ⟨rfl, hS.ext⟩
  · replace H := pifb_f hb H
    refine CJ.skip (EJ.next ?_)
    refine CJ.seq ?_
    refine CJ.region ?_
    refine OJ.st rfl rfl rfl (SR.build' tU_ok tI_ok rfl rfl rfl (zs := [.pointer none, .slice none 0 0]) rfl rfl rfl [.pointer none, .slice none 0 0] rfl) ?_
    refine OJ.ef rfl rfl rfl (Ef.bld (e := 5) hS tI_ok rfl rfl rfl) ?_
    rintro _ w1 ⟨b3, rfl, hS, hlow⟩
    refine OJ.es rfl rfl (Es.bldZero tI_ok hS (i := 1) rfl rfl rfl rfl rfl rfl rfl) ?_
    intro w1 hS
    refine OJ.nil (EJ.next ?_)
    refine CJ.seq ?_
    refine CJ.seq ?_
    refine CJ.region ?_
    refine OJ.st rfl rfl rfl (SR.fieldAddr tU_ok tI_ok rfl rfl rfl rfl rfl rfl) ?_
    refine OJ.st rfl rfl rfl (SR.load rfl rfl (fun w' hx => ld1 tU_ok rfl rfl (CA.ext (CA.fld (hS.cells (i := 0) rfl) (mid_part (fe_Pasture_1 _) (fl_Pasture_1 _) ((ci .i8).len _))) hx) rfl)) ?_
    refine OJ.pures tU_ok 1 rfl ?_
    refine OJ.nil (EJ.next ?_)
    obtain ⟨j85, H, K85⟩ := pbind H
    refine CJ.cut1 (fun F w1 => ∃ (y4 : ByteArray) (A5 : Option Addr) (c6 : Nat), (some y4 : Option ByteArray) = some j85 ∧ F = [(3, .pointer (some ⟨b3, 0, none⟩))] ∧ St w no w1 [bldC 70 5 b3 A5 c6 y4] [envC Tryz.prog 0]) ?_ ?_
    · skip
      refine CJ.block ?_
      refine CJ.loop (fun k F w1 => ∃ (y7 : ByteArray) (y10 : Int) (A8 : Option Addr) (c9 : Nat), F = [(1, .pointer (some ⟨b1, 0, none⟩)), (3, .pointer (some ⟨b3, 0, none⟩)), (14, .int .i8 a0.High), (15, .int .i8 y10)] ∧ St w no w1 [box b1 (cPasture.enc a0) 31, bldC 70 5 b3 A8 c9 y7] [envC Tryz.prog 0] ∧ impl_PastureText.l1 a0 k y7 y10 = some j85) k (F' := [(1, .pointer (some ⟨b1, 0, none⟩)), (3, .pointer (some ⟨b3, 0, none⟩)), (14, .int .i8 a0.High), (15, .int .i8 0)]) ⟨rfl, rfl, rfl, rfl, trivial⟩ ⟨ByteArray.empty, 0, none, 0, rfl, hS.pick [0, 1] [0] rfl, H⟩ ?_
      rintro k F w1 ⟨y7, y10, A8, c9, rfl, hS, H⟩
      cases k with
      | zero => rw [impl_PastureText.l1] at H; cases H
      | succ k =>
        rw [impl_PastureText.l1] at H
        refine CJ.seq ?_
        refine CJ.region ?_
        refine OJ.pures tU_ok 1 rfl ?_
        refine OJ.nil (EJ.next ?_)
        refine CJ.seq ?_
        refine CJ.cond rfl (fun hb => ?_) (fun hb => ?_)
        · replace H := pif_t (of_decide_eq_true hb) H
          refine CJ.skip (EJ.next ?_)
          obtain ⟨j92, H, K92⟩ := pbind H
          refine CJ.cut (fun F w1 => ∃ (y11 : ByteArray) (A12 : Option Addr) (c13 : Nat), (some y11 : Option ByteArray) = some j92 ∧ F = [(1, .pointer (some ⟨b1, 0, none⟩)), (3, .pointer (some ⟨b3, 0, none⟩)), (14, .int .i8 a0.High), (15, .int .i8 y10)] ∧ St w no w1 [box b1 (cPasture.enc a0) 31, bldC 70 5 b3 A12 c13 y11] [envC Tryz.prog 0]) ?_ ?_
          · skip
            refine CJ.block ?_
            refine CJ.seq ?_
            refine CJ.region ?_
            refine OJ.pures tU_ok 2 rfl ?_
            refine OJ.nil (EJ.next ?_)
            refine CJ.seq ?_
            refine CJ.region ?_
            refine OJ.ef rfl rfl rfl (Ef.lit tU_ok tI_ok hS (C := G.cs) rfl rfl rfl rfl rfl rfl ([] : List ByteArray) rfl rfl rfl rfl) ?_
            rintro _ w1 ⟨A14, rfl, hS⟩
            refine OJ.pures tU_ok 1 rfl ?_
            refine OJ.nil (EJ.next ?_)
            refine CJ.seq ?_
            refine CJ.seq ?_
            refine CJ.region ?_
            refine OJ.st rfl rfl rfl (SR.fieldAddr tU_ok tI_ok rfl rfl rfl rfl rfl rfl) ?_
            refine OJ.st rfl rfl rfl (SR.load rfl rfl (fun w' hx => ld1 tU_ok rfl rfl (CA.ext (CA.fld (hS.cells (i := 0) rfl) (mid_part (fe_Pasture_0 _) (fl_Pasture_0 _) ((ci .i8).len _))) hx) rfl)) ?_
            refine OJ.pures tU_ok 1 rfl ?_
            refine OJ.nil (EJ.next ?_)
            obtain ⟨j94, H, K94⟩ := pbind H
            refine CJ.cut1 (fun F w1 => ∃ (y15 : List ByteArray) (A16 : Option Addr) (c17 : Nat), (some y15 : Option (List ByteArray)) = some j94 ∧ F = [(1, .pointer (some ⟨b1, 0, none⟩)), (3, .pointer (some ⟨b3, 0, none⟩)), (5, .slice A16 y15.length c17), (14, .int .i8 a0.High), (15, .int .i8 y10)] ∧ St w no w1 [box b1 (cPasture.enc a0) 31, bldC 70 5 b3 A8 c9 y7, rowC G.cs A16 c17 9 y15] [envC Tryz.prog 0]) ?_ ?_
            · skip
              refine CJ.block ?_
              refine CJ.loop (fun k F w1 => ∃ (y18 : List ByteArray) (y21 : Int) (A19 : Option Addr) (c20 : Nat), F = [(1, .pointer (some ⟨b1, 0, none⟩)), (3, .pointer (some ⟨b3, 0, none⟩)), (4, .int .i8 y10), (5, .slice A19 y18.length c20), (14, .int .i8 a0.High), (15, .int .i8 y10), (20, .int .i8 a0.Wide), (21, .int .i8 y21)] ∧ St w no w1 [box b1 (cPasture.enc a0) 31, bldC 70 5 b3 A8 c9 y7, rowC G.cs A19 c20 9 y18] [envC Tryz.prog 0] ∧ impl_PastureText.l2 a0 y10 k y18 y21 = some j94) k (F' := [(1, .pointer (some ⟨b1, 0, none⟩)), (3, .pointer (some ⟨b3, 0, none⟩)), (4, .int .i8 y10), (5, .slice A14 ([] : List ByteArray).length (([] : List ByteArray).length)), (14, .int .i8 a0.High), (15, .int .i8 y10), (20, .int .i8 a0.Wide), (21, .int .i8 0)]) ⟨rfl, rfl, rfl, rfl, rfl, rfl, rfl, rfl, trivial⟩ ⟨([] : List ByteArray), 0, A14, (([] : List ByteArray).length), rfl, hS.pick [0, 1, 2] [0] rfl, H⟩ ?_
              rintro k F w1 ⟨y18, y21, A19, c20, rfl, hS, H⟩
              cases k with
              | zero => rw [impl_PastureText.l2] at H; cases H
              | succ k =>
                rw [impl_PastureText.l2] at H
                refine CJ.seq ?_
                refine CJ.region ?_
                refine OJ.pures tU_ok 1 rfl ?_
                refine OJ.nil (EJ.next ?_)
                refine CJ.seq ?_
                refine CJ.cond rfl (fun hb => ?_) (fun hb => ?_)
                · replace H := pif_t (of_decide_eq_true hb) H
                  refine CJ.skip (EJ.next ?_)
                  refine CJ.seq ?_
                  refine CJ.block ?_
                  refine CJ.seq ?_
                  refine CJ.region ?_
                  refine OJ.pures tU_ok 2 rfl ?_
                  refine OJ.nil (EJ.next ?_)
                  refine CJ.seq ?_
                  refine CJ.region ?_
                  refine OJ.pures tU_ok 2 rfl ?_
                  refine OJ.st rfl rfl rfl (SR.build (C := cSpot) tU_ok tI_ok rfl rfl rfl (zs := [.int .i8 0, .int .i8 0]) rfl rfl rfl (⟨y21, y10⟩ : Spot) rfl) ?_
                  refine OJ.ef rfl rfl rfl (Ef.alloc hS tI_ok rfl rfl (cSpot.enc (⟨0, 0⟩ : Spot)) rfl) ?_
                  rintro _ w1 ⟨b22, rfl, hS⟩
                  refine OJ.es rfl rfl (Es.store tI_ok hS (i := 3) rfl rfl rfl rfl rfl rfl (vs := cSpot.enc (⟨y21, y10⟩ : Spot)) rfl (cSpot.len _) (cSpot.one _) (Nat.le_of_ble_eq_true rfl) (cSpot.enc (⟨y21, y10⟩ : Spot)) rfl) ?_
                  intro w1 hS
                  refine OJ.nil (EJ.next ?_)
                  refine CJ.seq ?_
                  refine CJ.region ?_
                  refine OJ.st rfl rfl rfl (SR.load rfl rfl (fun w' hx => ldE tU_ok tI_ok rfl rfl rfl (CA.ext (hS.cells (i := 0) rfl) hx) rfl)) ?_
                  refine OJ.st rfl rfl rfl (SR.load rfl rfl (fun w' hx => ldE tU_ok tI_ok rfl rfl rfl (CA.ext (hS.cells (i := 3) rfl) hx) rfl)) ?_
                  obtain ⟨t23, ht23, H⟩ := pbind H
                  refine OJ.callF rfl rfl rfl rfl rfl hb35 rfl (impl_Pasture_grass.c _ a0 (⟨y21, y10⟩ : Spot) _ ht23) ?_
                  rintro _ w1 ⟨rfl, hs⟩
                  replace hS := hS.grow hs
                  obtain ⟨t24, ht24, H⟩ := pbind H
                  refine OJ.callF rfl rfl rfl rfl rfl hb34 rfl (impl_decimal.c _ t23 (hS.ro (i := 0) rfl) _ ht24) ?_
                  rintro _ w1 ⟨rfl, hs⟩
                  replace hS := hS.grow hs
                  refine OJ.pures tU_ok 1 rfl ?_
                  refine OJ.nil (EJ.next ?_)
                  refine CJ.seq ?_
                  refine CJ.seq ?_
                  refine CJ.region ?_
                  refine OJ.st rfl rfl rfl (SR.load rfl rfl (fun w' hx => ldE tU_ok tI_ok rfl rfl rfl (CA.ext (hS.cells (i := 0) rfl) hx) rfl)) ?_
                  refine OJ.st rfl rfl rfl (SR.load rfl rfl (fun w' hx => ldE tU_ok tI_ok rfl rfl rfl (CA.ext (hS.cells (i := 3) rfl) hx) rfl)) ?_
                  refine OJ.st rfl rfl rfl (SR.build (C := cHurdle) tU_ok tI_ok rfl rfl rfl (zs := [.int .i8 0, .int .i8 0, .bool false]) rfl rfl rfl (⟨(⟨y21, y10⟩ : Spot), false⟩ : Hurdle) rfl) ?_
                  obtain ⟨t25, ht25, H⟩ := pbind H
                  refine OJ.callF rfl rfl rfl rfl rfl hb36 rfl (impl_Pasture_stands.c _ a0 (⟨(⟨y21, y10⟩ : Spot), false⟩ : Hurdle) _ ht25) ?_
                  rintro _ w1 ⟨rfl, hs⟩
                  replace hS := hS.grow hs
                  refine OJ.nil (EJ.next ?_)
                  refine CJ.cond rfl (fun hb => ?_) (fun hb => ?_)
                  · replace H := pif_t hb H
                    refine CJ.region ?_
                    refine OJ.pures tU_ok 1 rfl ?_
                    obtain ⟨u26, hu26, H⟩ := pbind H
                    refine OJ.st rfl rfl rfl (SR.concat rfl rfl rfl (chk_some hu26)) ?_
                    refine OJ.pures tU_ok 1 rfl ?_
                    refine OJ.nil (EJ.next ?_)
                    refine CJ.seq ?_
                    refine CJ.seq ?_
                    refine CJ.region ?_
                    refine OJ.st rfl rfl rfl (SR.load rfl rfl (fun w' hx => ldE tU_ok tI_ok rfl rfl rfl (CA.ext (hS.cells (i := 0) rfl) hx) rfl)) ?_
                    refine OJ.st rfl rfl rfl (SR.load rfl rfl (fun w' hx => ldE tU_ok tI_ok rfl rfl rfl (CA.ext (hS.cells (i := 3) rfl) hx) rfl)) ?_
                    refine OJ.st rfl rfl rfl (SR.build (C := cHurdle) tU_ok tI_ok rfl rfl rfl (zs := [.int .i8 0, .int .i8 0, .bool false]) rfl rfl rfl (⟨(⟨y21, y10⟩ : Spot), true⟩ : Hurdle) rfl) ?_
                    obtain ⟨t27, ht27, H⟩ := pbind H
                    refine OJ.callF rfl rfl rfl rfl rfl hb36 rfl (impl_Pasture_stands.c _ a0 (⟨(⟨y21, y10⟩ : Spot), true⟩ : Hurdle) _ ht27) ?_
                    rintro _ w1 ⟨rfl, hs⟩
                    replace hS := hS.grow hs
                    refine OJ.nil (EJ.next ?_)
                    refine CJ.cond rfl (fun hb => ?_) (fun hb => ?_)
                    · replace H := pif_t hb H
                      refine CJ.region ?_
                      refine OJ.pures tU_ok 1 rfl ?_
                      obtain ⟨u28, hu28, H⟩ := pbind H
                      refine OJ.st rfl rfl rfl (SR.concat rfl rfl rfl (chk_some hu28)) ?_
                      refine OJ.pures tU_ok 1 rfl ?_
                      refine OJ.nil (EJ.next ?_)
                      refine CJ.region ?_
                      refine OJ.pures tU_ok 2 rfl ?_
                      refine OJ.ef rfl rfl rfl (Ef.lit tU_ok tI_ok hS (C := G.cs) rfl rfl rfl rfl rfl rfl ([(t24 ++ (⟨#[124]⟩ : ByteArray)) ++ (⟨#[95]⟩ : ByteArray)] : List ByteArray) rfl rfl rfl rfl) ?_
                      rintro _ w1 ⟨A29, rfl, hS⟩
                      obtain ⟨u30, hu30, H⟩ := pbind H
                      refine OJ.ew rfl rfl rfl (Ew.append tU_ok tI_ok (C := G.cs) (xs := y18) (ys := ([(t24 ++ (⟨#[124]⟩ : ByteArray)) ++ (⟨#[95]⟩ : ByteArray)] : List ByteArray)) hS (i := 2) rfl rfl rfl rfl rfl rfl rfl rfl rfl rfl rfl rfl rfl (hS.rd (i := 4) rfl) (chk_some hu30)) ?_
                      rintro _ w1 ⟨A31, c32, rfl, hS⟩
                      refine OJ.pures tU_ok 1 rfl ?_
                      refine OJ.nil (EJ.blk (EJ.next ?_))
                      refine CJ.region ?_
                      refine OJ.pures tU_ok 2 rfl ?_
                      refine OJ.nil ?_
                      exact EJ.round k (F' := [(1, .pointer (some ⟨b1, 0, none⟩)), (3, .pointer (some ⟨b3, 0, none⟩)), (4, .int .i8 y10), (5, .slice A31 (y18 ++ ([(t24 ++ (⟨#[124]⟩ : ByteArray)) ++ (⟨#[95]⟩ : ByteArray)] : List ByteArray)).length c32), (14, .int .i8 a0.High), (15, .int .i8 y10), (20, .int .i8 a0.Wide), (21, .int .i8 (IntKind.i8.wrap (y21 + 1)))]) ⟨rfl, rfl, rfl, rfl, rfl, rfl, rfl, rfl, trivial⟩ (Nat.lt_succ_self _) ⟨(y18 ++ ([(t24 ++ (⟨#[124]⟩ : ByteArray)) ++ (⟨#[95]⟩ : ByteArray)] : List ByteArray)), (IntKind.i8.wrap (y21 + 1)), A31, c32, rfl, hS.pick [0, 1, 2] [0] rfl, H⟩
                    · replace H := pifb_f hb H
                      refine CJ.skip (EJ.next ?_)
                      refine CJ.region ?_
                      refine OJ.pures tU_ok 2 rfl ?_
                      refine OJ.ef rfl rfl rfl (Ef.lit tU_ok tI_ok hS (C := G.cs) rfl rfl rfl rfl rfl rfl ([t24 ++ (⟨#[124]⟩ : ByteArray)] : List ByteArray) rfl rfl rfl rfl) ?_
                      rintro _ w1 ⟨A33, rfl, hS⟩
                      obtain ⟨u34, hu34, H⟩ := pbind H
                      refine OJ.ew rfl rfl rfl (Ew.append tU_ok tI_ok (C := G.cs) (xs := y18) (ys := ([t24 ++ (⟨#[124]⟩ : ByteArray)] : List ByteArray)) hS (i := 2) rfl rfl rfl rfl rfl rfl rfl rfl rfl rfl rfl rfl rfl (hS.rd (i := 4) rfl) (chk_some hu34)) ?_
                      rintro _ w1 ⟨A35, c36, rfl, hS⟩
                      refine OJ.pures tU_ok 1 rfl ?_
                      refine OJ.nil (EJ.blk (EJ.next ?_))
                      refine CJ.region ?_
                      refine OJ.pures tU_ok 2 rfl ?_
                      refine OJ.nil ?_
                      exact EJ.round k (F' := [(1, .pointer (some ⟨b1, 0, none⟩)), (3, .pointer (some ⟨b3, 0, none⟩)), (4, .int .i8 y10), (5, .slice A35 (y18 ++ ([t24 ++ (⟨#[124]⟩ : ByteArray)] : List ByteArray)).length c36), (14, .int .i8 a0.High), (15, .int .i8 y10), (20, .int .i8 a0.Wide), (21, .int .i8 (IntKind.i8.wrap (y21 + 1)))]) ⟨rfl, rfl, rfl, rfl, rfl, rfl, rfl, rfl, trivial⟩ (Nat.lt_succ_self _) ⟨(y18 ++ ([t24 ++ (⟨#[124]⟩ : ByteArray)] : List ByteArray)), (IntKind.i8.wrap (y21 + 1)), A35, c36, rfl, hS.pick [0, 1, 2] [0] rfl, H⟩
                  · replace H := pifb_f hb H
                    refine CJ.skip (EJ.next ?_)
                    refine CJ.seq ?_
                    refine CJ.seq ?_
                    refine CJ.region ?_
                    refine OJ.st rfl rfl rfl (SR.load rfl rfl (fun w' hx => ldE tU_ok tI_ok rfl rfl rfl (CA.ext (hS.cells (i := 0) rfl) hx) rfl)) ?_
                    refine OJ.st rfl rfl rfl (SR.load rfl rfl (fun w' hx => ldE tU_ok tI_ok rfl rfl rfl (CA.ext (hS.cells (i := 3) rfl) hx) rfl)) ?_
                    refine OJ.st rfl rfl rfl (SR.build (C := cHurdle) tU_ok tI_ok rfl rfl rfl (zs := [.int .i8 0, .int .i8 0, .bool false]) rfl rfl rfl (⟨(⟨y21, y10⟩ : Spot), true⟩ : Hurdle) rfl) ?_
                    obtain ⟨t37, ht37, H⟩ := pbind H
                    refine OJ.callF rfl rfl rfl rfl rfl hb36 rfl (impl_Pasture_stands.c _ a0 (⟨(⟨y21, y10⟩ : Spot), true⟩ : Hurdle) _ ht37) ?_
                    rintro _ w1 ⟨rfl, hs⟩
                    replace hS := hS.grow hs
                    refine OJ.nil (EJ.next ?_)
                    refine CJ.cond rfl (fun hb => ?_) (fun hb => ?_)
                    · replace H := pif_t hb H
                      refine CJ.region ?_
                      refine OJ.pures tU_ok 1 rfl ?_
                      obtain ⟨u38, hu38, H⟩ := pbind H
                      refine OJ.st rfl rfl rfl (SR.concat rfl rfl rfl (chk_some hu38)) ?_
                      refine OJ.pures tU_ok 1 rfl ?_
                      refine OJ.nil (EJ.next ?_)
                      refine CJ.region ?_
                      refine OJ.pures tU_ok 2 rfl ?_
                      refine OJ.ef rfl rfl rfl (Ef.lit tU_ok tI_ok hS (C := G.cs) rfl rfl rfl rfl rfl rfl ([t24 ++ (⟨#[95]⟩ : ByteArray)] : List ByteArray) rfl rfl rfl rfl) ?_
                      rintro _ w1 ⟨A39, rfl, hS⟩
                      obtain ⟨u40, hu40, H⟩ := pbind H
                      refine OJ.ew rfl rfl rfl (Ew.append tU_ok tI_ok (C := G.cs) (xs := y18) (ys := ([t24 ++ (⟨#[95]⟩ : ByteArray)] : List ByteArray)) hS (i := 2) rfl rfl rfl rfl rfl rfl rfl rfl rfl rfl rfl rfl rfl (hS.rd (i := 4) rfl) (chk_some hu40)) ?_
                      rintro _ w1 ⟨A41, c42, rfl, hS⟩
                      refine OJ.pures tU_ok 1 rfl ?_
                      refine OJ.nil (EJ.blk (EJ.next ?_))
                      refine CJ.region ?_
                      refine OJ.pures tU_ok 2 rfl ?_
                      refine OJ.nil ?_
                      exact EJ.round k (F' := [(1, .pointer (some ⟨b1, 0, none⟩)), (3, .pointer (some ⟨b3, 0, none⟩)), (4, .int .i8 y10), (5, .slice A41 (y18 ++ ([t24 ++ (⟨#[95]⟩ : ByteArray)] : List ByteArray)).length c42), (14, .int .i8 a0.High), (15, .int .i8 y10), (20, .int .i8 a0.Wide), (21, .int .i8 (IntKind.i8.wrap (y21 + 1)))]) ⟨rfl, rfl, rfl, rfl, rfl, rfl, rfl, rfl, trivial⟩ (Nat.lt_succ_self _) ⟨(y18 ++ ([t24 ++ (⟨#[95]⟩ : ByteArray)] : List ByteArray)), (IntKind.i8.wrap (y21 + 1)), A41, c42, rfl, hS.pick [0, 1, 2] [0] rfl, H⟩
                    · replace H := pifb_f hb H
                      refine CJ.skip (EJ.next ?_)
                      refine CJ.region ?_
                      refine OJ.pures tU_ok 2 rfl ?_
                      refine OJ.ef rfl rfl rfl (Ef.lit tU_ok tI_ok hS (C := G.cs) rfl rfl rfl rfl rfl rfl ([t24] : List ByteArray) rfl rfl rfl rfl) ?_
                      rintro _ w1 ⟨A43, rfl, hS⟩
                      obtain ⟨u44, hu44, H⟩ := pbind H
                      refine OJ.ew rfl rfl rfl (Ew.append tU_ok tI_ok (C := G.cs) (xs := y18) (ys := ([t24] : List ByteArray)) hS (i := 2) rfl rfl rfl rfl rfl rfl rfl rfl rfl rfl rfl rfl rfl (hS.rd (i := 4) rfl) (chk_some hu44)) ?_
                      rintro _ w1 ⟨A45, c46, rfl, hS⟩
                      refine OJ.pures tU_ok 1 rfl ?_
                      refine OJ.nil (EJ.blk (EJ.next ?_))
                      refine CJ.region ?_
                      refine OJ.pures tU_ok 2 rfl ?_
                      refine OJ.nil ?_
                      exact EJ.round k (F' := [(1, .pointer (some ⟨b1, 0, none⟩)), (3, .pointer (some ⟨b3, 0, none⟩)), (4, .int .i8 y10), (5, .slice A45 (y18 ++ ([t24] : List ByteArray)).length c46), (14, .int .i8 a0.High), (15, .int .i8 y10), (20, .int .i8 a0.Wide), (21, .int .i8 (IntKind.i8.wrap (y21 + 1)))]) ⟨rfl, rfl, rfl, rfl, rfl, rfl, rfl, rfl, trivial⟩ (Nat.lt_succ_self _) ⟨(y18 ++ ([t24] : List ByteArray)), (IntKind.i8.wrap (y21 + 1)), A45, c46, rfl, hS.pick [0, 1, 2] [0] rfl, H⟩
                · replace H := pif_f (of_decide_eq_false hb) H
                  refine CJ.exit (EJ.skE (EJ.skE (EJ.hit (?_))))
                  exact EJ.meet (F' := [(1, .pointer (some ⟨b1, 0, none⟩)), (3, .pointer (some ⟨b3, 0, none⟩)), (5, .slice A19 y18.length c20), (14, .int .i8 a0.High), (15, .int .i8 y10)]) ⟨rfl, rfl, rfl, rfl, rfl, trivial⟩ ⟨y18, A19, c20, H, rfl, hS.pick [0, 1, 2] [0] rfl⟩
            · rintro F w1 ⟨y15, A16, c17, he, rfl, hS⟩
              obtain rfl := Option.some.inj he
              have H := K94
              refine EJ.next ?_
              refine CJ.region ?_
              refine OJ.pures tU_ok 1 rfl ?_
              obtain ⟨t47, ht47, H⟩ := pbind H
              refine OJ.callF rfl rfl rfl rfl rfl hb38 rfl (strings_Join.c _ A16 c17 y15 (⟨#[32]⟩ : ByteArray) ((hS.subs [2] [] [] rfl).pick [0] [] rfl) _ ht47) ?_
              rintro _ w1 ⟨rfl, hs, hlc0⟩
              replace hS := hS.back [2] rfl rfl [rowC G.cs A16 c17 9 t47.2] [] hs ⟨fun _ => Iff.rfl, trivial⟩
              refine OJ.as (t := 5) rfl (show _ = (.slice A16 t47.2.length c17 : Value) by simp only [hlc0]) ?_
              refine OJ.as (t := 48) rfl (show _ = (.slice A16 t47.2.length c17 : Value) by simp only [hlc0]) ?_
              obtain ⟨u48, hu48, H⟩ := pbind H
              refine OJ.st rfl rfl rfl (SR.concat rfl rfl rfl (chk_some hu48)) ?_
              obtain ⟨u51, hu51, H⟩ := pbind H
              refine OJ.callF rfl rfl rfl rfl rfl hb37 rfl (bldWrite_cv hS (i := 1) rfl (NotEs.cons (notE_box (by decide)) (NotEs.cons (notE_row (by decide)) (NotEs.nil))) (NotEs.cons (notE_low (hlow _ (List.mem_of_getElem? (i := 0) rfl))) (NotEs.nil)) (fun B b bs s w h1 h2 h3 => Any.Builder_WriteString_k { layJoin with } layExtra B b bs s w h1 h2 h3) (chk_some hu51)) ?_
              rintro _ w1 ⟨rfl, A49, c50, hS⟩
              refine OJ.nil (EJ.blk (?_))
              exact EJ.meet (F' := [(1, .pointer (some ⟨b1, 0, none⟩)), (3, .pointer (some ⟨b3, 0, none⟩)), (14, .int .i8 a0.High), (15, .int .i8 y10)]) ⟨rfl, rfl, rfl, rfl, trivial⟩ ⟨(y7 ++ (t47.1 ++ (⟨#[10]⟩ : ByteArray))), A49, c50, H, rfl, hS.pick [0, 1] [0] rfl⟩
          · rintro F w1 ⟨y11, A12, c13, he, rfl, hS⟩
            obtain rfl := Option.some.inj he
            have H := K92
            refine CJ.region ?_
            refine OJ.pures tU_ok 2 rfl ?_
            refine OJ.nil ?_
            exact EJ.round k (F' := [(1, .pointer (some ⟨b1, 0, none⟩)), (3, .pointer (some ⟨b3, 0, none⟩)), (14, .int .i8 a0.High), (15, .int .i8 (IntKind.i8.wrap (y10 + 1)))]) ⟨rfl, rfl, rfl, rfl, trivial⟩ (Nat.lt_succ_self _) ⟨y11, (IntKind.i8.wrap (y10 + 1)), A12, c13, rfl, hS.pick [0, 1] [0] rfl, H⟩
        · replace H := pif_f (of_decide_eq_false hb) H
          refine CJ.exit (EJ.skE (EJ.skE (EJ.hit (?_))))
          exact EJ.meet (F' := [(3, .pointer (some ⟨b3, 0, none⟩))]) ⟨rfl, trivial⟩ ⟨y7, A8, c9, H, rfl, hS.pick [1] [0] rfl⟩
    · rintro F w1 ⟨y4, A5, c6, he, rfl, hS⟩
      obtain rfl := Option.some.inj he
      have H := K85
      refine EJ.next ?_
      refine CJ.seq ?_
      refine CJ.region ?_
      refine OJ.callF rfl rfl rfl rfl rfl hb39 rfl (bldText_cv hS (i := 0) rfl (NotEs.nil) (NotEs.cons (notE_low (hlow _ (List.mem_of_getElem? (i := 0) rfl))) (NotEs.nil)) (fun B b l w h1 h2 => Any.Builder_String_any_k { layJoin with } layExtra B b l w h1 h2)) ?_
      rintro _ w1 ⟨rfl, A52, c53, hS⟩
      refine OJ.pures tU_ok 1 rfl ?_
      refine OJ.nil (EJ.next ?_)
      refine CJ.ret (?_)
      obtain rfl := Option.some.inj H
      exact EJ.fin rfl (.tmp rfl .nil) ⟨rfl, hS.ext⟩

def strings_Split.f (a0 : ByteArray) (a1 : ByteArray) : Option (List ByteArray) := (chk (a0.size < 4294967281 ∧ 1 ≤ a1.size)).bind fun _ => some (splitS a0 a1)
theorem strings_Split.c (w : World) (a0 : ByteArray) (a1 : ByteArray) (hT : (envC Tryz.prog 0).holds w) (r : List ByteArray) (H : strings_Split.f a0 a1 = some r) :
    CV Tryz.prog 29 [.string a0, .string a1].toArray w fun v w' => ∃ (A0 : Option Addr) (c0 : Nat), v = .slice A0 r.length c0 ∧ St w no w' [rowC G.cs A0 c0 9 r] [] := by
  unfold strings_Split.f at H
  obtain ⟨u, hu, H⟩ := pbind H
  have h := chk_some hu
  obtain rfl := Option.some.inj H
  exact split_cv hT (fun s sep m w h1 h2 h3 => Any.strings_Split { laySplit with } laySplit.i9 s sep m w h1 h2 h3) h.1 h.2

def impl_size_string.f (a0 : List ByteArray) : Option Int := some (a0.length : Int)
theorem impl_size_string.c (w : World) (Aa0 : Option Addr) (ca0 : Nat) (a0 : List ByteArray) (hr0 : Rd G.cs w Aa0 a0) (hc0 : a0.length ≤ ca0) (r : Int) (H : impl_size_string.f a0 = some r) :
    CV Tryz.prog 30 [.slice Aa0 a0.length ca0].toArray w fun v w' => v = .int .i64 r ∧ Ext w w' := by
  have hS := ((St.init w no).param G.cs Aa0 ca0 a0 hr0 hc0)
  unfold impl_size_string.f at H
  refine CV.body Tryz.func30 rfl Tryz.ntmps30 rfl ?_
  refine CJ.seq ?_
  refine CJ.region ?_
  refine OJ.pures tU_ok 1 rfl ?_
  refine OJ.nil (EJ.next ?_)
  refine CJ.seq ?_
  refine CJ.region ?_
  refine OJ.pures tU_ok 3 rfl ?_
  refine OJ.nil (EJ.next ?_)
  refine CJ.ret (?_)
  obtain rfl := Option.some.inj H
  exact EJ.fin rfl (.tmp rfl .nil) ⟨rfl, hS.ext⟩

def impl_Pasture_cells.l2 (a0 : Pasture) (a1 : Spot → Option Bool) (y9 : Int) : Nat → (List Spot) → Int → Option (List Spot)
  | 0, _, _ => none
  | k + 1, y16, y19 => if y19 < a0.Wide then ((a1 (⟨y19, y9⟩ : Spot)).bind fun t21 => if t21 = true then ((chk (y16.length + ([(⟨y19, y9⟩ : Spot)] : List Spot).length ≤ 4294967296)).bind fun u23 => impl_Pasture_cells.l2 a0 a1 y9 k (y16 ++ ([(⟨y19, y9⟩ : Spot)] : List Spot)) (IntKind.i8.wrap (y19 + 1))) else (impl_Pasture_cells.l2 a0 a1 y9 k y16 (IntKind.i8.wrap (y19 + 1)))) else (some y16)
def impl_Pasture_cells.l1 (a0 : Pasture) (a1 : Spot → Option Bool) : Nat → (List Spot) → Int → Option (List Spot)
  | 0, _, _ => none
  | k + 1, y6, y9 => if y9 < a0.High then (((impl_Pasture_cells.l2 a0 a1 y9 k y6 0).bind fun y13 => some y13).bind fun y10 => impl_Pasture_cells.l1 a0 a1 k y10 (IntKind.i8.wrap (y9 + 1))) else (some y6)
def impl_Pasture_cells.f (k : Nat) (a0 : Pasture) (a1 : Spot → Option Bool) : Option (List Spot) := (impl_Pasture_cells.l1 a0 a1 k ([] : List Spot) 0).bind fun y3 => some y3
theorem impl_Pasture_cells.c (k : Nat) (w : World) (a0 : Pasture) (na1 : Nat) (fsa1 capa1 : Array Value) (hb1 : hasBody Tryz.prog na1) (a1 : Spot → Option Bool) (hf1 : ∀ (z0 : Spot) (r : Bool), a1 z0 = some r → ∀ w', Chg no w w' → CV Tryz.prog na1 (fsa1 ++ [.agg (cSpot.enc z0).toArray].toArray ++ capa1) w' fun v w'' => v = .bool r ∧ Ext w' w'') (r : List Spot) (H : impl_Pasture_cells.f k a0 a1 = some r) :
    CV Tryz.prog 75 [.agg (cPasture.enc a0).toArray, .func (.func na1) fsa1 capa1].toArray w fun v w' => ∃ (A0 : Option Addr) (c0 : Nat), v = .slice A0 r.length c0 ∧ St w no w' [rowC cSpot A0 c0 34 r] [] := by
  have hS := (St.init w no)
  unfold impl_Pasture_cells.f at H
  refine CV.body Tryz.func75 rfl Tryz.ntmps75 rfl ?_
  refine CJ.seq ?_
  refine CJ.region ?_
  refine OJ.ef rfl rfl rfl (Ef.box hS rfl rfl (cPasture.enc a0) rfl) ?_
  rintro _ w1 ⟨b1, rfl, hS⟩
  refine OJ.pures tU_ok 1 rfl ?_
  refine OJ.nil (EJ.next ?_)
  refine CJ.seq ?_
  refine CJ.region ?_
  refine OJ.ef rfl rfl rfl (Ef.lit tU_ok tI_ok hS (C := cSpot) rfl rfl rfl rfl rfl rfl ([] : List Spot) rfl rfl rfl rfl) ?_
  rintro _ w1 ⟨A2, rfl, hS⟩
  refine OJ.pures tU_ok 1 rfl ?_
  refine OJ.nil (EJ.next ?_)
  refine CJ.seq ?_
  refine CJ.seq ?_
  refine CJ.region ?_
  refine OJ.st rfl rfl rfl (SR.fieldAddr tU_ok tI_ok rfl rfl rfl rfl rfl rfl) ?_
  refine OJ.st rfl rfl rfl (SR.load rfl rfl (fun w' hx => ld1 tU_ok rfl rfl (CA.ext (CA.fld (hS.cells (i := 0) rfl) (mid_part (fe_Pasture_1 _) (fl_Pasture_1 _) ((ci .i8).len _))) hx) rfl)) ?_
  refine OJ.pures tU_ok 1 rfl ?_
  refine OJ.nil (EJ.next ?_)
  obtain ⟨j97, H, K97⟩ := pbind H
  refine CJ.cut1 (fun F w1 => ∃ (y3 : List Spot) (A4 : Option Addr) (c5 : Nat), (some y3 : Option (List Spot)) = some j97 ∧ F = [(5, .slice A4 y3.length c5)] ∧ St w no w1 [rowC cSpot A4 c5 34 y3] []) ?_ ?_
  · skip
    refine CJ.block ?_
    refine CJ.loop (fun k F w1 => ∃ (y6 : List Spot) (y9 : Int) (A7 : Option Addr) (c8 : Nat), F = [(1, .func (.func na1) fsa1 capa1), (2, .pointer (some ⟨b1, 0, none⟩)), (5, .slice A7 y6.length c8), (11, .int .i8 a0.High), (12, .int .i8 y9)] ∧ St w no w1 [box b1 (cPasture.enc a0) 31, rowC cSpot A7 c8 34 y6] [] ∧ impl_Pasture_cells.l1 a0 a1 k y6 y9 = some j97) k (F' := [(1, .func (.func na1) fsa1 capa1), (2, .pointer (some ⟨b1, 0, none⟩)), (5, .slice A2 ([] : List Spot).length (([] : List Spot).length)), (11, .int .i8 a0.High), (12, .int .i8 0)]) ⟨rfl, rfl, rfl, rfl, rfl, trivial⟩ ⟨([] : List Spot), 0, A2, (([] : List Spot).length), rfl, hS.pick [0, 1] [] rfl, H⟩ ?_
    rintro k F w1 ⟨y6, y9, A7, c8, rfl, hS, H⟩
    cases k with
    | zero => rw [impl_Pasture_cells.l1] at H; cases H
    | succ k =>
      rw [impl_Pasture_cells.l1] at H
      refine CJ.seq ?_
      refine CJ.region ?_
      refine OJ.pures tU_ok 1 rfl ?_
      refine OJ.nil (EJ.next ?_)
      refine CJ.seq ?_
      refine CJ.cond rfl (fun hb => ?_) (fun hb => ?_)
      · replace H := pif_t (of_decide_eq_true hb) H
        refine CJ.skip (EJ.next ?_)
        obtain ⟨j104, H, K104⟩ := pbind H
        refine CJ.cut (fun F w1 => ∃ (y10 : List Spot) (A11 : Option Addr) (c12 : Nat), (some y10 : Option (List Spot)) = some j104 ∧ F = [(1, .func (.func na1) fsa1 capa1), (2, .pointer (some ⟨b1, 0, none⟩)), (5, .slice A11 y10.length c12), (11, .int .i8 a0.High), (12, .int .i8 y9)] ∧ St w no w1 [box b1 (cPasture.enc a0) 31, rowC cSpot A11 c12 34 y10] []) ?_ ?_
        · skip
          refine CJ.block ?_
          refine CJ.seq ?_
          refine CJ.region ?_
          refine OJ.pures tU_ok 2 rfl ?_
          refine OJ.nil (EJ.next ?_)
          refine CJ.seq ?_
          refine CJ.region ?_
          refine OJ.st rfl rfl rfl (SR.fieldAddr tU_ok tI_ok rfl rfl rfl rfl rfl rfl) ?_
          refine OJ.st rfl rfl rfl (SR.load rfl rfl (fun w' hx => ld1 tU_ok rfl rfl (CA.ext (CA.fld (hS.cells (i := 0) rfl) (mid_part (fe_Pasture_0 _) (fl_Pasture_0 _) ((ci .i8).len _))) hx) rfl)) ?_
          refine OJ.pures tU_ok 1 rfl ?_
          refine OJ.nil (EJ.next ?_)
          obtain ⟨j106, H, K106⟩ := pbind H
          refine CJ.cut1 (fun F w1 => ∃ (y13 : List Spot) (A14 : Option Addr) (c15 : Nat), (some y13 : Option (List Spot)) = some j106 ∧ F = [(1, .func (.func na1) fsa1 capa1), (2, .pointer (some ⟨b1, 0, none⟩)), (5, .slice A14 y13.length c15), (11, .int .i8 a0.High), (12, .int .i8 y9)] ∧ St w no w1 [box b1 (cPasture.enc a0) 31, rowC cSpot A14 c15 34 y13] []) ?_ ?_
          · skip
            refine CJ.block ?_
            refine CJ.loop (fun k F w1 => ∃ (y16 : List Spot) (y19 : Int) (A17 : Option Addr) (c18 : Nat), F = [(1, .func (.func na1) fsa1 capa1), (2, .pointer (some ⟨b1, 0, none⟩)), (5, .slice A17 y16.length c18), (6, .int .i8 y9), (11, .int .i8 a0.High), (12, .int .i8 y9), (16, .int .i8 a0.Wide), (17, .int .i8 y19)] ∧ St w no w1 [box b1 (cPasture.enc a0) 31, rowC cSpot A17 c18 34 y16] [] ∧ impl_Pasture_cells.l2 a0 a1 y9 k y16 y19 = some j106) k (F' := [(1, .func (.func na1) fsa1 capa1), (2, .pointer (some ⟨b1, 0, none⟩)), (5, .slice A7 y6.length c8), (6, .int .i8 y9), (11, .int .i8 a0.High), (12, .int .i8 y9), (16, .int .i8 a0.Wide), (17, .int .i8 0)]) ⟨rfl, rfl, rfl, rfl, rfl, rfl, rfl, rfl, trivial⟩ ⟨y6, 0, A7, c8, rfl, hS.pick [0, 1] [] rfl, H⟩ ?_
            rintro k F w1 ⟨y16, y19, A17, c18, rfl, hS, H⟩
            cases k with
            | zero => rw [impl_Pasture_cells.l2] at H; cases H
            | succ k =>
              rw [impl_Pasture_cells.l2] at H
              refine CJ.seq ?_
              refine CJ.region ?_
              refine OJ.pures tU_ok 1 rfl ?_
              refine OJ.nil (EJ.next ?_)
              refine CJ.seq ?_
              refine CJ.cond rfl (fun hb => ?_) (fun hb => ?_)
              · replace H := pif_t (of_decide_eq_true hb) H
                refine CJ.skip (EJ.next ?_)
                refine CJ.seq ?_
                refine CJ.block ?_
                refine CJ.seq ?_
                refine CJ.region ?_
                refine OJ.pures tU_ok 2 rfl ?_
                refine OJ.nil (EJ.next ?_)
                refine CJ.seq ?_
                refine CJ.region ?_
                refine OJ.pures tU_ok 2 rfl ?_
                refine OJ.st rfl rfl rfl (SR.build (C := cSpot) tU_ok tI_ok rfl rfl rfl (zs := [.int .i8 0, .int .i8 0]) rfl rfl rfl (⟨y19, y9⟩ : Spot) rfl) ?_
                refine OJ.ef rfl rfl rfl (Ef.alloc hS tI_ok rfl rfl (cSpot.enc (⟨0, 0⟩ : Spot)) rfl) ?_
                rintro _ w1 ⟨b20, rfl, hS⟩
                refine OJ.es rfl rfl (Es.store tI_ok hS (i := 2) rfl rfl rfl rfl rfl rfl (vs := cSpot.enc (⟨y19, y9⟩ : Spot)) rfl (cSpot.len _) (cSpot.one _) (Nat.le_of_ble_eq_true rfl) (cSpot.enc (⟨y19, y9⟩ : Spot)) rfl) ?_
                intro w1 hS
                refine OJ.nil (EJ.next ?_)
                refine CJ.seq ?_
                refine CJ.region ?_
                refine OJ.pures tU_ok 1 rfl ?_
                refine OJ.st rfl rfl rfl (SR.load rfl rfl (fun w' hx => ldE tU_ok tI_ok rfl rfl rfl (CA.ext (hS.cells (i := 2) rfl) hx) rfl)) ?_
                obtain ⟨t21, ht21, H⟩ := pbind H
                refine OJ.call rfl rfl (Nat.le_of_ble_eq_true rfl) rfl rfl rfl hb1 rfl (hf1 (⟨y19, y9⟩ : Spot) _ ht21 _ hS.chg) ?_
                rintro _ w1 ⟨rfl, hs⟩
                replace hS := hS.grow hs
                refine OJ.nil (EJ.next ?_)
                refine CJ.cond rfl (fun hb => ?_) (fun hb => ?_)
                · replace H := pif_t hb H
                  refine CJ.region ?_
                  refine OJ.pures tU_ok 1 rfl ?_
                  refine OJ.st rfl rfl rfl (SR.load rfl rfl (fun w' hx => ldE tU_ok tI_ok rfl rfl rfl (CA.ext (hS.cells (i := 2) rfl) hx) rfl)) ?_
                  refine OJ.ef rfl rfl rfl (Ef.lit tU_ok tI_ok hS (C := cSpot) rfl rfl rfl rfl rfl rfl ([(⟨y19, y9⟩ : Spot)] : List Spot) rfl rfl rfl rfl) ?_
                  rintro _ w1 ⟨A22, rfl, hS⟩
                  obtain ⟨u23, hu23, H⟩ := pbind H
                  refine OJ.ew rfl rfl rfl (Ew.append tU_ok tI_ok (C := cSpot) (xs := y16) (ys := ([(⟨y19, y9⟩ : Spot)] : List Spot)) hS (i := 1) rfl rfl rfl rfl rfl rfl rfl rfl rfl rfl rfl rfl rfl (hS.rd (i := 3) rfl) (chk_some hu23)) ?_
                  rintro _ w1 ⟨A24, c25, rfl, hS⟩
                  refine OJ.pures tU_ok 1 rfl ?_
                  refine OJ.nil (EJ.blk (EJ.next ?_))
                  refine CJ.region ?_
                  refine OJ.pures tU_ok 2 rfl ?_
                  refine OJ.nil ?_
                  exact EJ.round k (F' := [(1, .func (.func na1) fsa1 capa1), (2, .pointer (some ⟨b1, 0, none⟩)), (5, .slice A24 (y16 ++ ([(⟨y19, y9⟩ : Spot)] : List Spot)).length c25), (6, .int .i8 y9), (11, .int .i8 a0.High), (12, .int .i8 y9), (16, .int .i8 a0.Wide), (17, .int .i8 (IntKind.i8.wrap (y19 + 1)))]) ⟨rfl, rfl, rfl, rfl, rfl, rfl, rfl, rfl, trivial⟩ (Nat.lt_succ_self _) ⟨(y16 ++ ([(⟨y19, y9⟩ : Spot)] : List Spot)), (IntKind.i8.wrap (y19 + 1)), A24, c25, rfl, hS.pick [0, 1] [] rfl, H⟩
                · replace H := pifb_f hb H
                  refine CJ.skip (EJ.blk (EJ.next ?_))
                  refine CJ.region ?_
                  refine OJ.pures tU_ok 2 rfl ?_
                  refine OJ.nil ?_
                  exact EJ.round k (F' := [(1, .func (.func na1) fsa1 capa1), (2, .pointer (some ⟨b1, 0, none⟩)), (5, .slice A17 y16.length c18), (6, .int .i8 y9), (11, .int .i8 a0.High), (12, .int .i8 y9), (16, .int .i8 a0.Wide), (17, .int .i8 (IntKind.i8.wrap (y19 + 1)))]) ⟨rfl, rfl, rfl, rfl, rfl, rfl, rfl, rfl, trivial⟩ (Nat.lt_succ_self _) ⟨y16, (IntKind.i8.wrap (y19 + 1)), A17, c18, rfl, hS.pick [0, 1] [] rfl, H⟩
              · replace H := pif_f (of_decide_eq_false hb) H
                refine CJ.exit (EJ.skE (EJ.skE (EJ.hit (?_))))
                exact EJ.meet (F' := [(1, .func (.func na1) fsa1 capa1), (2, .pointer (some ⟨b1, 0, none⟩)), (5, .slice A17 y16.length c18), (11, .int .i8 a0.High), (12, .int .i8 y9)]) ⟨rfl, rfl, rfl, rfl, rfl, trivial⟩ ⟨y16, A17, c18, H, rfl, hS.pick [0, 1] [] rfl⟩
          · rintro F w1 ⟨y13, A14, c15, he, rfl, hS⟩
            obtain rfl := Option.some.inj he
            have H := K106
            refine EJ.blk (?_)
            exact EJ.meet (F' := [(1, .func (.func na1) fsa1 capa1), (2, .pointer (some ⟨b1, 0, none⟩)), (5, .slice A14 y13.length c15), (11, .int .i8 a0.High), (12, .int .i8 y9)]) ⟨rfl, rfl, rfl, rfl, rfl, trivial⟩ ⟨y13, A14, c15, H, rfl, hS.pick [0, 1] [] rfl⟩
        · rintro F w1 ⟨y10, A11, c12, he, rfl, hS⟩
          obtain rfl := Option.some.inj he
          have H := K104
          refine CJ.region ?_
          refine OJ.pures tU_ok 2 rfl ?_
          refine OJ.nil ?_
          exact EJ.round k (F' := [(1, .func (.func na1) fsa1 capa1), (2, .pointer (some ⟨b1, 0, none⟩)), (5, .slice A11 y10.length c12), (11, .int .i8 a0.High), (12, .int .i8 (IntKind.i8.wrap (y9 + 1)))]) ⟨rfl, rfl, rfl, rfl, rfl, trivial⟩ (Nat.lt_succ_self _) ⟨y10, (IntKind.i8.wrap (y9 + 1)), A11, c12, rfl, hS.pick [0, 1] [] rfl, H⟩
      · replace H := pif_f (of_decide_eq_false hb) H
        refine CJ.exit (EJ.skE (EJ.skE (EJ.hit (?_))))
        exact EJ.meet (F' := [(5, .slice A7 y6.length c8)]) ⟨rfl, trivial⟩ ⟨y6, A7, c8, H, rfl, hS.pick [1] [] rfl⟩
  · rintro F w1 ⟨y3, A4, c5, he, rfl, hS⟩
    obtain rfl := Option.some.inj he
    have H := K97
    refine EJ.next ?_
    refine CJ.seq ?_
    refine CJ.region ?_
    refine OJ.pures tU_ok 2 rfl ?_
    refine OJ.nil (EJ.next ?_)
    refine CJ.ret (?_)
    obtain rfl := Option.some.inj H
    exact EJ.fin rfl (.tmp rfl .nil) ⟨A4, c5, rfl, hS.pick [0] [] rfl⟩

def impl_Pasture_all_1.f (a0 : Spot) : Option Bool := some true
theorem impl_Pasture_all_1.c (w : World) (a0 : Spot) (r : Bool) (H : impl_Pasture_all_1.f a0 = some r) :
    CV Tryz.prog 76 [.agg (cSpot.enc a0).toArray].toArray w fun v w' => v = .bool r ∧ Ext w w' := by
  have hS := (St.init w no)
  unfold impl_Pasture_all_1.f at H
  refine CV.body Tryz.func76 rfl Tryz.ntmps76 rfl ?_
  refine CJ.seq ?_
  refine CJ.region ?_
  refine OJ.ef rfl rfl rfl (Ef.box hS rfl rfl (cSpot.enc a0) rfl) ?_
  rintro _ w1 ⟨b1, rfl, hS⟩
  refine OJ.pures tU_ok 1 rfl ?_
  refine OJ.nil (EJ.next ?_)
  refine CJ.seq ?_
  refine CJ.region ?_
  refine OJ.pures tU_ok 1 rfl ?_
  refine OJ.nil (EJ.next ?_)
  refine CJ.ret (?_)
  obtain rfl := Option.some.inj H
  exact EJ.fin rfl (.tmp rfl .nil) ⟨rfl, hS.ext⟩

def impl_Pasture_all.f (k : Nat) (a0 : Pasture) : Option (List Spot) := (impl_Pasture_cells.f k a0 impl_Pasture_all_1.f).bind fun t2 => some t2
theorem impl_Pasture_all.c (k : Nat) (w : World) (a0 : Pasture) (r : List Spot) (H : impl_Pasture_all.f k a0 = some r) :
    CV Tryz.prog 48 [.agg (cPasture.enc a0).toArray].toArray w fun v w' => ∃ (A0 : Option Addr) (c0 : Nat), v = .slice A0 r.length c0 ∧ St w no w' [rowC cSpot A0 c0 34 r] [] := by
  have hS := (St.init w no)
  unfold impl_Pasture_all.f at H
  refine CV.body Tryz.func48 rfl Tryz.ntmps48 rfl ?_
  refine CJ.seq ?_
  refine CJ.region ?_
  refine OJ.ef rfl rfl rfl (Ef.box hS rfl rfl (cPasture.enc a0) rfl) ?_
  rintro _ w1 ⟨b1, rfl, hS⟩
  refine OJ.pures tU_ok 1 rfl ?_
  refine OJ.nil (EJ.next ?_)
  refine CJ.seq ?_
  refine CJ.region ?_
  refine OJ.st rfl rfl rfl (SR.load rfl rfl (fun w' hx => ldE tU_ok tI_ok rfl rfl rfl (CA.ext (hS.cells (i := 0) rfl) hx) rfl)) ?_
  obtain ⟨t2, ht2, H⟩ := pbind H
  refine OJ.callF rfl rfl rfl rfl rfl hb75 rfl (impl_Pasture_cells.c k _ a0 76 #[] #[] hb76 impl_Pasture_all_1.f (fun z0 r h w' hx => CV.cast (impl_Pasture_all_1.c w'   z0 r h) (by simp)) _ ht2) ?_
  rintro _ w1 ⟨A3, c4, rfl, hs⟩
  replace hS := hS.addN hs
  refine OJ.pures tU_ok 1 rfl ?_
  refine OJ.nil (EJ.next ?_)
  refine CJ.ret (?_)
  obtain rfl := Option.some.inj H
  exact EJ.fin rfl (.tmp rfl .nil) ⟨A3, c4, rfl, hS.pick [1] [] rfl⟩

def impl_PlainPasture.l1 (a2 : Int) (t7 : List Spot) : Nat → Pasture → Int → Option Pasture
  | 0, _, _ => none
  | k + 1, y11, y12 => if y12 < (t7.length : Int) then ((getI t7 y12).bind fun t13 => (getI y11.Grass.l t13.Y).bind fun t15 => (getI t15.l t13.X).bind fun t16 => impl_PlainPasture.l1 a2 t7 k (⟨y11.Wide, y11.High, (aset y11.Grass t13.Y.toNat (aset t15 t13.X.toNat (IntKind.i16.wrap a2))), y11.East, y11.South⟩ : Pasture) (IntKind.i64.wrap (y12 + 1))) else (some y11)
def impl_PlainPasture.f (k : Nat) (a0 : Int) (a1 : Int) (a2 : Int) : Option (Pasture × Int) := ((impl_within.f a0 1 10).bind fun t3 => if (!t3) = true then (some true) else ((impl_within.f a1 1 10).bind fun t4 => if (!t4) = true then (some true) else ((impl_within.f a2 0 1000).bind fun t5 => some (!t5)))).bind fun y2 => if y2 = true then (some ((⟨0, 0, (Arr.mk' (Arr.mk' 0 : Arr 10 Int) : Arr 10 (Arr 10 Int)), (Arr.mk' 0 : Arr 10 Int), (Arr.mk' 0 : Arr 10 Int)⟩ : Pasture), 2)) else ((impl_Pasture_all.f k (⟨IntKind.i8.wrap a0, IntKind.i8.wrap a1, (Arr.mk' (Arr.mk' 0 : Arr 10 Int) : Arr 10 (Arr 10 Int)), (Arr.mk' 0 : Arr 10 Int), (Arr.mk' 0 : Arr 10 Int)⟩ : Pasture)).bind fun t7 => (impl_PlainPasture.l1 a2 t7 k (⟨IntKind.i8.wrap a0, IntKind.i8.wrap a1, (Arr.mk' (Arr.mk' 0 : Arr 10 Int) : Arr 10 (Arr 10 Int)), (Arr.mk' 0 : Arr 10 Int), (Arr.mk' 0 : Arr 10 Int)⟩ : Pasture) 0).bind fun y10 => some (y10, 0))
theorem impl_PlainPasture.c (k : Nat) (w : World) (a0 : Int) (a1 : Int) (a2 : Int) (r : Pasture × Int) (H : impl_PlainPasture.f k a0 a1 a2 = some r) :
    CV Tryz.prog 25 [.int .i64 a0, .int .i64 a1, .int .i64 a2].toArray w fun v w' => v = .tuple #[.agg (cPasture.enc r.1).toArray, .int .i64 r.2] ∧ Ext w w' := by
  have hS := (St.init w no)
  unfold impl_PlainPasture.f at H
  refine CV.body Tryz.func25 rfl Tryz.ntmps25 rfl ?_
  refine CJ.seq ?_
  refine CJ.region ?_
  refine OJ.ef rfl rfl rfl (Ef.alloc hS tI_ok rfl rfl (cPasture.enc (⟨0, 0, (Arr.mk' (Arr.mk' 0 : Arr 10 Int) : Arr 10 (Arr 10 Int)), (Arr.mk' 0 : Arr 10 Int), (Arr.mk' 0 : Arr 10 Int)⟩ : Pasture)) (by kernel_rfl)) ?_
  rintro _ w1 ⟨b1, rfl, hS⟩
  refine OJ.pures tU_ok 1 rfl ?_
  refine OJ.nil (EJ.next ?_)
  refine CJ.seq ?_
  obtain ⟨j96, H, K96⟩ := pbind H
  refine CJ.cut (fun F w1 => ∃ (y2 : Bool) , (some y2 : Option Bool) = some j96 ∧ F = [(0, .int .i64 a0), (1, .int .i64 a1), (2, .int .i64 a2), (6, .pointer (some ⟨b1, 0, none⟩)), (23, .bool y2)] ∧ St w no w1 [box b1 (cPasture.enc (⟨0, 0, (Arr.mk' (Arr.mk' 0 : Arr 10 Int) : Arr 10 (Arr 10 Int)), (Arr.mk' 0 : Arr 10 Int), (Arr.mk' 0 : Arr 10 Int)⟩ : Pasture)) 31] []) ?_ ?_
  · skip
    refine CJ.region ?_
    refine OJ.pures tU_ok 1 rfl ?_
    obtain ⟨t3, ht3, H⟩ := pbind H
    refine OJ.callF rfl rfl rfl rfl rfl hb49 rfl (impl_within.c _ a0 1 10 _ ht3) ?_
    rintro _ w1 ⟨rfl, hs⟩
    replace hS := hS.grow hs
    refine OJ.pures tU_ok 2 rfl ?_
    refine OJ.split (t := 14) rfl (fun hb => ?_) (fun hb => ?_)
    · replace H := pif_t hb H
      refine OJ.pures tU_ok 9 rfl ?_
      refine OJ.nil ?_
      exact EJ.meet (F' := [(0, .int .i64 a0), (1, .int .i64 a1), (2, .int .i64 a2), (6, .pointer (some ⟨b1, 0, none⟩)), (23, .bool true)]) ⟨rfl, rfl, rfl, rfl, rfl, trivial⟩ ⟨true, H, rfl, hS.pick [0] [] rfl⟩
    · replace H := pifb_f hb H
      refine OJ.pures tU_ok 1 rfl ?_
      obtain ⟨t4, ht4, H⟩ := pbind H
      refine OJ.callF rfl rfl rfl rfl rfl hb49 rfl (impl_within.c _ a1 1 10 _ ht4) ?_
      rintro _ w1 ⟨rfl, hs⟩
      replace hS := hS.grow hs
      refine OJ.pures tU_ok 3 rfl ?_
      refine OJ.split (t := 19) rfl (fun hb => ?_) (fun hb => ?_)
      · replace H := pif_t hb H
        refine OJ.pures tU_ok 4 rfl ?_
        refine OJ.nil ?_
        exact EJ.meet (F' := [(0, .int .i64 a0), (1, .int .i64 a1), (2, .int .i64 a2), (6, .pointer (some ⟨b1, 0, none⟩)), (23, .bool true)]) ⟨rfl, rfl, rfl, rfl, rfl, trivial⟩ ⟨true, H, rfl, hS.pick [0] [] rfl⟩
      · replace H := pifb_f hb H
        refine OJ.pures tU_ok 1 rfl ?_
        obtain ⟨t5, ht5, H⟩ := pbind H
        refine OJ.callF rfl rfl rfl rfl rfl hb49 rfl (impl_within.c _ a2 0 1000 _ ht5) ?_
        rintro _ w1 ⟨rfl, hs⟩
        replace hS := hS.grow hs
        refine OJ.pures tU_ok 2 rfl ?_
        refine OJ.nil ?_
        exact EJ.meet (F' := [(0, .int .i64 a0), (1, .int .i64 a1), (2, .int .i64 a2), (6, .pointer (some ⟨b1, 0, none⟩)), (23, .bool (!t5))]) ⟨rfl, rfl, rfl, rfl, rfl, trivial⟩ ⟨(!t5), H, rfl, hS.pick [0] [] rfl⟩
  · rintro F w1 ⟨y2, he, rfl, hS⟩
    obtain rfl := Option.some.inj he
    have H := K96
    refine CJ.cond rfl (fun hb => ?_) (fun hb => ?_)
    · replace H := pif_t hb H
      refine CJ.seq ?_
      refine CJ.region ?_
      refine OJ.st rfl rfl rfl (SR.build (C := cPasture) tU_ok tI_ok rfl rfl rfl (zs := [.int .i8 0, .int .i8 0, .int .i16 0, .int .i16 0, .int .i16 0, .int .i16 0, .int .i16 0, .int .i16 0, .int .i16 0, .int .i16 0, .int .i16 0, .int .i16 0, .int .i16 0, .int .i16 0, .int .i16 0, .int .i16 0, .int .i16 0, .int .i16 0, .int .i16 0, .int .i16 0, .int .i16 0, .int .i16 0, .int .i16 0, .int .i16 0, .int .i16 0, .int .i16 0, .int .i16 0, .int .i16 0, .int .i16 0, .int .i16 0, .int .i16 0, .int .i16 0, .int .i16 0, .int .i16 0, .int .i16 0, .int .i16 0, .int .i16 0, .int .i16 0, .int .i16 0, .int .i16 0, .int .i16 0, .int .i16 0, .int .i16 0, .int .i16 0, .int .i16 0, .int .i16 0, .int .i16 0, .int .i16 0, .int .i16 0, .int .i16 0, .int .i16 0, .int .i16 0, .int .i16 0, .int .i16 0, .int .i16 0, .int .i16 0, .int .i16 0, .int .i16 0, .int .i16 0, .int .i16 0, .int .i16 0, .int .i16 0, .int .i16 0, .int .i16 0, .int .i16 0, .int .i16 0, .int .i16 0, .int .i16 0, .int .i16 0, .int .i16 0, .int .i16 0, .int .i16 0, .int .i16 0, .int .i16 0, .int .i16 0, .int .i16 0, .int .i16 0, .int .i16 0, .int .i16 0, .int .i16 0, .int .i16 0, .int .i16 0, .int .i16 0, .int .i16 0, .int .i16 0, .int .i16 0, .int .i16 0, .int .i16 0, .int .i16 0, .int .i16 0, .int .i16 0, .int .i16 0, .int .i16 0, .int .i16 0, .int .i16 0, .int .i16 0, .int .i16 0, .int .i16 0, .int .i16 0, .int .i16 0, .int .i16 0, .int .i16 0, .int .u16 0, .int .u16 0, .int .u16 0, .int .u16 0, .int .u16 0, .int .u16 0, .int .u16 0, .int .u16 0, .int .u16 0, .int .u16 0, .int .u16 0, .int .u16 0, .int .u16 0, .int .u16 0, .int .u16 0, .int .u16 0, .int .u16 0, .int .u16 0, .int .u16 0, .int .u16 0]) rfl rfl rfl (⟨0, 0, (Arr.mk' (Arr.mk' 0 : Arr 10 Int) : Arr 10 (Arr 10 Int)), (Arr.mk' 0 : Arr 10 Int), (Arr.mk' 0 : Arr 10 Int)⟩ : Pasture) rfl) ?_
      refine OJ.es rfl rfl (Es.put tI_ok hS (i := 0) rfl rfl rfl rfl rfl (vs := cPasture.enc (⟨0, 0, (Arr.mk' (Arr.mk' 0 : Arr 10 Int) : Arr 10 (Arr 10 Int)), (Arr.mk' 0 : Arr 10 Int), (Arr.mk' 0 : Arr 10 Int)⟩ : Pasture)) rfl (cPasture.len _) (cPasture.one _) (Put.all cPasture (⟨0, 0, (Arr.mk' (Arr.mk' 0 : Arr 10 Int) : Arr 10 (Arr 10 Int)), (Arr.mk' 0 : Arr 10 Int), (Arr.mk' 0 : Arr 10 Int)⟩ : Pasture) (⟨0, 0, (Arr.mk' (Arr.mk' 0 : Arr 10 Int) : Arr 10 (Arr 10 Int)), (Arr.mk' 0 : Arr 10 Int), (Arr.mk' 0 : Arr 10 Int)⟩ : Pasture)) (by (try simp only [add_lit, Nat.add_assoc, Nat.zero_add, Nat.add_zero]) <;> rfl)) ?_
      intro w1 hS
      refine OJ.pures tU_ok 1 rfl ?_
      refine OJ.nil (EJ.next ?_)
      refine CJ.ret (EJ.skR (?_))
      obtain rfl := Option.some.inj H
      exact EJ.fin rfl (.cell rfl (ldE tU_ok tI_ok rfl rfl rfl (hS.cells (i := 0) rfl) rfl) (.tmp rfl .nil)) ⟨rfl, hS.ext⟩
    · replace H := pifb_f hb H
      refine CJ.skip (EJ.next ?_)
      refine CJ.seq ?_
      refine CJ.region ?_
      refine OJ.pures tU_ok 4 rfl ?_
      refine OJ.st rfl rfl rfl (SR.build (C := cPasture) tU_ok tI_ok rfl rfl rfl (zs := [.int .i8 0, .int .i8 0, .int .i16 0, .int .i16 0, .int .i16 0, .int .i16 0, .int .i16 0, .int .i16 0, .int .i16 0, .int .i16 0, .int .i16 0, .int .i16 0, .int .i16 0, .int .i16 0, .int .i16 0, .int .i16 0, .int .i16 0, .int .i16 0, .int .i16 0, .int .i16 0, .int .i16 0, .int .i16 0, .int .i16 0, .int .i16 0, .int .i16 0, .int .i16 0, .int .i16 0, .int .i16 0, .int .i16 0, .int .i16 0, .int .i16 0, .int .i16 0, .int .i16 0, .int .i16 0, .int .i16 0, .int .i16 0, .int .i16 0, .int .i16 0, .int .i16 0, .int .i16 0, .int .i16 0, .int .i16 0, .int .i16 0, .int .i16 0, .int .i16 0, .int .i16 0, .int .i16 0, .int .i16 0, .int .i16 0, .int .i16 0, .int .i16 0, .int .i16 0, .int .i16 0, .int .i16 0, .int .i16 0, .int .i16 0, .int .i16 0, .int .i16 0, .int .i16 0, .int .i16 0, .int .i16 0, .int .i16 0, .int .i16 0, .int .i16 0, .int .i16 0, .int .i16 0, .int .i16 0, .int .i16 0, .int .i16 0, .int .i16 0, .int .i16 0, .int .i16 0, .int .i16 0, .int .i16 0, .int .i16 0, .int .i16 0, .int .i16 0, .int .i16 0, .int .i16 0, .int .i16 0, .int .i16 0, .int .i16 0, .int .i16 0, .int .i16 0, .int .i16 0, .int .i16 0, .int .i16 0, .int .i16 0, .int .i16 0, .int .i16 0, .int .i16 0, .int .i16 0, .int .i16 0, .int .i16 0, .int .i16 0, .int .i16 0, .int .i16 0, .int .i16 0, .int .i16 0, .int .i16 0, .int .i16 0, .int .i16 0, .int .u16 0, .int .u16 0, .int .u16 0, .int .u16 0, .int .u16 0, .int .u16 0, .int .u16 0, .int .u16 0, .int .u16 0, .int .u16 0, .int .u16 0, .int .u16 0, .int .u16 0, .int .u16 0, .int .u16 0, .int .u16 0, .int .u16 0, .int .u16 0, .int .u16 0, .int .u16 0]) rfl rfl rfl (⟨IntKind.i8.wrap a0, IntKind.i8.wrap a1, (Arr.mk' (Arr.mk' 0 : Arr 10 Int) : Arr 10 (Arr 10 Int)), (Arr.mk' 0 : Arr 10 Int), (Arr.mk' 0 : Arr 10 Int)⟩ : Pasture) rfl) ?_
      refine OJ.ef rfl rfl rfl (Ef.alloc hS tI_ok rfl rfl (cPasture.enc (⟨0, 0, (Arr.mk' (Arr.mk' 0 : Arr 10 Int) : Arr 10 (Arr 10 Int)), (Arr.mk' 0 : Arr 10 Int), (Arr.mk' 0 : Arr 10 Int)⟩ : Pasture)) (by kernel_rfl)) ?_
      rintro _ w1 ⟨b6, rfl, hS⟩
      refine OJ.es rfl rfl (Es.put tI_ok hS (i := 1) rfl rfl rfl rfl rfl (vs := cPasture.enc (⟨IntKind.i8.wrap a0, IntKind.i8.wrap a1, (Arr.mk' (Arr.mk' 0 : Arr 10 Int) : Arr 10 (Arr 10 Int)), (Arr.mk' 0 : Arr 10 Int), (Arr.mk' 0 : Arr 10 Int)⟩ : Pasture)) rfl (cPasture.len _) (cPasture.one _) (Put.all cPasture (⟨0, 0, (Arr.mk' (Arr.mk' 0 : Arr 10 Int) : Arr 10 (Arr 10 Int)), (Arr.mk' 0 : Arr 10 Int), (Arr.mk' 0 : Arr 10 Int)⟩ : Pasture) (⟨IntKind.i8.wrap a0, IntKind.i8.wrap a1, (Arr.mk' (Arr.mk' 0 : Arr 10 Int) : Arr 10 (Arr 10 Int)), (Arr.mk' 0 : Arr 10 Int), (Arr.mk' 0 : Arr 10 Int)⟩ : Pasture)) (by (try simp only [add_lit, Nat.add_assoc, Nat.zero_add, Nat.add_zero]) <;> rfl)) ?_
      intro w1 hS
      refine OJ.nil (EJ.next ?_)
      refine CJ.seq ?_
      refine CJ.seq ?_
      refine CJ.region ?_
      refine OJ.st rfl rfl rfl (SR.load rfl rfl (fun w' hx => ldE tU_ok tI_ok rfl rfl rfl (CA.ext (hS.cells (i := 1) rfl) hx) rfl)) ?_
      obtain ⟨t7, ht7, H⟩ := pbind H
      refine OJ.callF rfl rfl rfl rfl rfl hb48 rfl (impl_Pasture_all.c k _ (⟨IntKind.i8.wrap a0, IntKind.i8.wrap a1, (Arr.mk' (Arr.mk' 0 : Arr 10 Int) : Arr 10 (Arr 10 Int)), (Arr.mk' 0 : Arr 10 Int), (Arr.mk' 0 : Arr 10 Int)⟩ : Pasture) _ ht7) ?_
      rintro _ w1 ⟨A8, c9, rfl, hs⟩
      replace hS := hS.addN hs
      refine OJ.pures tU_ok 2 rfl ?_
      refine OJ.nil (EJ.next ?_)
      obtain ⟨j107, H, K107⟩ := pbind H
      refine CJ.cut1 (fun F w1 => ∃ (y10 : Pasture) , (some y10 : Option Pasture) = some j107 ∧ F = [(6, .pointer (some ⟨b1, 0, none⟩)), (8, .pointer (some ⟨b6, 0, none⟩))] ∧ St w no w1 [box b1 (cPasture.enc (⟨0, 0, (Arr.mk' (Arr.mk' 0 : Arr 10 Int) : Arr 10 (Arr 10 Int)), (Arr.mk' 0 : Arr 10 Int), (Arr.mk' 0 : Arr 10 Int)⟩ : Pasture)) 31, box b6 (cPasture.enc y10) 31] []) ?_ ?_
      · skip
        refine CJ.block ?_
        refine CJ.loop (fun k F w1 => ∃ (y11 : Pasture) (y12 : Int), F = [(2, .int .i64 a2), (6, .pointer (some ⟨b1, 0, none⟩)), (8, .pointer (some ⟨b6, 0, none⟩)), (31, .slice A8 t7.length c9), (32, .int .i64 (t7.length : Int)), (33, .int .i64 y12)] ∧ St w no w1 [box b1 (cPasture.enc (⟨0, 0, (Arr.mk' (Arr.mk' 0 : Arr 10 Int) : Arr 10 (Arr 10 Int)), (Arr.mk' 0 : Arr 10 Int), (Arr.mk' 0 : Arr 10 Int)⟩ : Pasture)) 31, box b6 (cPasture.enc y11) 31, rowC cSpot A8 c9 34 t7] [] ∧ impl_PlainPasture.l1 a2 t7 k y11 y12 = some j107) k (F' := [(2, .int .i64 a2), (6, .pointer (some ⟨b1, 0, none⟩)), (8, .pointer (some ⟨b6, 0, none⟩)), (31, .slice A8 t7.length c9), (32, .int .i64 (t7.length : Int)), (33, .int .i64 0)]) ⟨rfl, rfl, rfl, rfl, rfl, rfl, trivial⟩ ⟨(⟨IntKind.i8.wrap a0, IntKind.i8.wrap a1, (Arr.mk' (Arr.mk' 0 : Arr 10 Int) : Arr 10 (Arr 10 Int)), (Arr.mk' 0 : Arr 10 Int), (Arr.mk' 0 : Arr 10 Int)⟩ : Pasture), 0, rfl, hS.pick [0, 1, 2] [] rfl, H⟩ ?_
        rintro k F w1 ⟨y11, y12, rfl, hS, H⟩
        cases k with
        | zero => rw [impl_PlainPasture.l1] at H; cases H
        | succ k =>
          rw [impl_PlainPasture.l1] at H
          refine CJ.seq ?_
          refine CJ.region ?_
          refine OJ.pures tU_ok 1 rfl ?_
          refine OJ.nil (EJ.next ?_)
          refine CJ.seq ?_
          refine CJ.cond rfl (fun hb => ?_) (fun hb => ?_)
          · replace H := pif_t (of_decide_eq_true hb) H
            refine CJ.skip (EJ.next ?_)
            refine CJ.seq ?_
            refine CJ.block ?_
            refine CJ.seq ?_
            refine CJ.region ?_
            obtain ⟨t13, ht13, H⟩ := pbind H
            obtain ⟨ad13, e13⟩ := (hS.rd (i := 2) rfl).some' ht13
            refine OJ.st rfl rfl rfl (SR.idxS tU_ok tI_ok rfl rfl rfl rfl e13 rfl (getI_some ht13).1) ?_
            refine OJ.st rfl rfl rfl (SR.load rfl rfl (fun w' hx => ldE tU_ok tI_ok rfl rfl rfl (CA.ext ((hS.rd (i := 2) rfl).at_ e13 ht13) hx) rfl)) ?_
            refine OJ.ef rfl rfl rfl (Ef.alloc hS tI_ok rfl rfl (cSpot.enc (⟨0, 0⟩ : Spot)) rfl) ?_
            rintro _ w1 ⟨b14, rfl, hS⟩
            refine OJ.es rfl rfl (Es.store tI_ok hS (i := 3) rfl rfl rfl rfl rfl rfl (vs := cSpot.enc t13) rfl (cSpot.len _) (cSpot.one _) (Nat.le_of_ble_eq_true rfl) (cSpot.enc t13) rfl) ?_
            intro w1 hS
            refine OJ.nil (EJ.next ?_)
            refine CJ.draw [] [0, 1, 2, 3, 4, 5, 6, 7, 8, 9] mixed (by kernel_rfl) hS fun w1 hS => ?_
            refine DJ.st rfl rfl rfl rfl rfl (SR.fieldAddr tU_ok tI_ok rfl rfl rfl rfl rfl rfl) ?_
            refine DJ.st rfl rfl rfl rfl rfl (SR.load rfl rfl (fun w' hx => ld1 tU_ok rfl rfl (CA.ext (CA.sub (hS.cells (i := 3) rfl) 1) hx) rfl)) ?_
            refine DJ.st rfl rfl rfl rfl rfl (SR.fieldAddr tU_ok tI_ok rfl rfl rfl rfl rfl rfl) ?_
            refine DJ.st rfl rfl rfl rfl rfl (SR.load rfl rfl (fun w' hx => ld1 tU_ok rfl rfl (CA.ext (CA.sub (hS.cells (i := 3) rfl) 0) hx) rfl)) ?_
            refine DJ.pures tU_ok 2 rfl ?_
            refine DJ.st rfl rfl rfl rfl rfl (SR.fieldAddr tU_ok tI_ok rfl rfl rfl rfl rfl rfl) ?_
            obtain ⟨t15, ht15, H⟩ := pbind H
            refine DJ.st rfl rfl rfl rfl rfl (SR.idxA tU_ok tI_ok rfl rfl rfl rfl rfl (Arr.lt ht15)) ?_
            obtain ⟨t16, ht16, H⟩ := pbind H
            refine DJ.st rfl rfl rfl rfl rfl (SR.idxA tU_ok tI_ok rfl rfl rfl rfl rfl (Arr.lt ht16)) ?_
            refine DJ.es rfl rfl rfl rfl (Es.put tI_ok hS (i := 1) rfl rfl rfl rfl rfl (vs := (ci .i16).enc (IntKind.i16.wrap a2)) rfl rfl (one1 rfl) (put_Pasture_2 (Put.idx (Put.idx (Put.all (ci .i16) t16 (IntKind.i16.wrap a2)) ht16) ht15)) (by (try simp only [add_lit, Nat.add_assoc, Nat.zero_add, Nat.add_zero]) <;> rfl)) ?_
            intro w1 hS
            refine DJ.nil (EJ.blk (EJ.next ?_))
            refine CJ.region ?_
            refine OJ.pures tU_ok 2 rfl ?_
            refine OJ.nil ?_
            exact EJ.round k (F' := [(2, .int .i64 a2), (6, .pointer (some ⟨b1, 0, none⟩)), (8, .pointer (some ⟨b6, 0, none⟩)), (31, .slice A8 t7.length c9), (32, .int .i64 (t7.length : Int)), (33, .int .i64 (IntKind.i64.wrap (y12 + 1)))]) ⟨rfl, rfl, rfl, rfl, rfl, rfl, trivial⟩ (Nat.lt_succ_self _) ⟨(⟨y11.Wide, y11.High, (aset y11.Grass t13.Y.toNat (aset t15 t13.X.toNat (IntKind.i16.wrap a2))), y11.East, y11.South⟩ : Pasture), (IntKind.i64.wrap (y12 + 1)), rfl, hS.pick [0, 1, 2] [] rfl, H⟩
          · replace H := pif_f (of_decide_eq_false hb) H
            refine CJ.exit (EJ.skE (EJ.skE (EJ.hit (?_))))
            exact EJ.meet (F' := [(6, .pointer (some ⟨b1, 0, none⟩)), (8, .pointer (some ⟨b6, 0, none⟩))]) ⟨rfl, rfl, trivial⟩ ⟨y11, H, rfl, hS.pick [0, 1] [] rfl⟩
      · rintro F w1 ⟨y10, he, rfl, hS⟩
        obtain rfl := Option.some.inj he
        have H := K107
        refine EJ.next ?_
        refine CJ.seq ?_
        refine CJ.region ?_
        refine OJ.st rfl rfl rfl (SR.load rfl rfl (fun w' hx => ldE tU_ok tI_ok rfl rfl rfl (CA.ext (hS.cells (i := 1) rfl) hx) rfl)) ?_
        refine OJ.es rfl rfl (Es.put tI_ok hS (i := 0) rfl rfl rfl rfl rfl (vs := cPasture.enc y10) rfl (cPasture.len _) (cPasture.one _) (Put.all cPasture (⟨0, 0, (Arr.mk' (Arr.mk' 0 : Arr 10 Int) : Arr 10 (Arr 10 Int)), (Arr.mk' 0 : Arr 10 Int), (Arr.mk' 0 : Arr 10 Int)⟩ : Pasture) y10) (by (try simp only [add_lit, Nat.add_assoc, Nat.zero_add, Nat.add_zero]) <;> rfl)) ?_
        intro w1 hS
        refine OJ.pures tU_ok 1 rfl ?_
        refine OJ.nil (EJ.next ?_)
        refine CJ.ret (?_)
        obtain rfl := Option.some.inj H
        exact EJ.fin rfl (.cell rfl (ldE tU_ok tI_ok rfl rfl rfl (hS.cells (i := 0) rfl) rfl) (.tmp rfl .nil)) ⟨rfl, hS.ext⟩

def internal_stringslite_HasSuffix.f (a0 : ByteArray) (a1 : ByteArray) : Option Bool := if (a1.size : Int) ≤ (a0.size : Int) then ((chk ((0 : Int) ≤ (IntKind.i64.wrap ((a0.size : Int) - (a1.size : Int))) ∧ (IntKind.i64.wrap ((a0.size : Int) - (a1.size : Int))) ≤ (a0.size : Int) ∧ (a0.size : Int) ≤ (a0.size : Int))).bind fun u1 => some (decide ((a0.extract ((IntKind.i64.wrap ((a0.size : Int) - (a1.size : Int))).toNat) a0.size) = a1))) else (some false)
theorem internal_stringslite_HasSuffix.c (w : World) (a0 : ByteArray) (a1 : ByteArray) (r : Bool) (H : internal_stringslite_HasSuffix.f a0 a1 = some r) :
    CV Tryz.prog 82 [.string a0, .string a1].toArray w fun v w' => v = .bool r ∧ Ext w w' := by
  have hS := (St.init w no)
  unfold internal_stringslite_HasSuffix.f at H
  refine CV.body Tryz.func82 rfl Tryz.ntmps82 rfl ?_
  refine CJ.seq ?_
  refine CJ.region ?_
  refine OJ.pures tU_ok 1 rfl ?_
  refine OJ.nil (EJ.next ?_)
  refine CJ.seq ?_
  refine CJ.region ?_
  refine OJ.pures tU_ok 6 rfl ?_
  refine OJ.split (t := 10) rfl (fun hb => ?_) (fun hb => ?_)
  · replace H := pif_t (of_decide_eq_true hb) H
    refine OJ.pures tU_ok 6 rfl ?_
    obtain ⟨u1, hu1, H⟩ := pbind H
    refine OJ.st rfl rfl rfl (SR.cutStr tU_ok ((IntKind.i64.wrap ((a0.size : Int) - (a1.size : Int))).toNat) (a0.size) rfl rfl rfl rfl rfl (.inr ⟨_, _, rfl, (chk_some hu1).1, rfl⟩) (.inl ⟨rfl, rfl⟩) (by have := (chk_some hu1); omega) (by have := (chk_some hu1); omega)) ?_
    refine OJ.pures tU_ok 4 rfl ?_
    refine OJ.nil (EJ.next ?_)
    refine CJ.ret (?_)
    obtain rfl := Option.some.inj H
    exact EJ.fin rfl (.tmp rfl .nil) ⟨rfl, hS.ext⟩
  · replace H := pif_f (of_decide_eq_false hb) H
    refine OJ.pures tU_ok 11 rfl ?_
    refine OJ.nil (EJ.next ?_)
    refine CJ.ret (?_)
    obtain rfl := Option.some.inj H
    exact EJ.fin rfl (.tmp rfl .nil) ⟨rfl, hS.ext⟩

def internal_stringslite_CutSuffix.f (a0 : ByteArray) (a1 : ByteArray) : Option (ByteArray × Bool) := (internal_stringslite_HasSuffix.f a0 a1).bind fun t1 => if (!t1) = true then (some (a0, false)) else ((chk ((0 : Int) ≤ 0 ∧ 0 ≤ (IntKind.i64.wrap ((a0.size : Int) - (a1.size : Int))) ∧ (IntKind.i64.wrap ((a0.size : Int) - (a1.size : Int))) ≤ (a0.size : Int))).bind fun u2 => some (a0.extract 0 ((IntKind.i64.wrap ((a0.size : Int) - (a1.size : Int))).toNat), true))
theorem internal_stringslite_CutSuffix.c (w : World) (a0 : ByteArray) (a1 : ByteArray) (r : ByteArray × Bool) (H : internal_stringslite_CutSuffix.f a0 a1 = some r) :
    CV Tryz.prog 67 [.string a0, .string a1].toArray w fun v w' => v = .tuple #[.string r.1, .bool r.2] ∧ Ext w w' := by
  have hS := (St.init w no)
  unfold internal_stringslite_CutSuffix.f at H
  refine CV.body Tryz.func67 rfl Tryz.ntmps67 rfl ?_
  refine CJ.seq ?_
  refine CJ.region ?_
  refine OJ.pures tU_ok 2 rfl ?_
  refine OJ.nil (EJ.next ?_)
  refine CJ.seq ?_
  refine CJ.seq ?_
  refine CJ.region ?_
  refine OJ.pures tU_ok 2 rfl ?_
  obtain ⟨t1, ht1, H⟩ := pbind H
  refine OJ.callF rfl rfl rfl rfl rfl hb82 rfl (internal_stringslite_HasSuffix.c _ a0 a1 _ ht1) ?_
  rintro _ w1 ⟨rfl, hs⟩
  replace hS := hS.grow hs
  refine OJ.pures tU_ok 1 rfl ?_
  refine OJ.nil (EJ.next ?_)
  refine CJ.cond rfl (fun hb => ?_) (fun hb => ?_)
  · replace H := pif_t hb H
    refine CJ.seq ?_
    refine CJ.region ?_
    refine OJ.pures tU_ok 3 rfl ?_
    refine OJ.nil (EJ.next ?_)
    refine CJ.ret (EJ.skR (?_))
    obtain rfl := Option.some.inj H
    exact EJ.fin rfl (.tmp rfl (.tmp rfl .nil)) ⟨rfl, hS.ext⟩
  · replace H := pifb_f hb H
    refine CJ.skip (EJ.next ?_)
    refine CJ.seq ?_
    refine CJ.region ?_
    refine OJ.pures tU_ok 6 rfl ?_
    obtain ⟨u2, hu2, H⟩ := pbind H
    refine OJ.st rfl rfl rfl (SR.cutStr tU_ok (0) ((IntKind.i64.wrap ((a0.size : Int) - (a1.size : Int))).toNat) rfl rfl rfl rfl rfl (.inl ⟨rfl, rfl⟩) (.inr ⟨_, _, rfl, (by have := (chk_some hu2); omega), rfl⟩) (by have := (chk_some hu2); omega) (by have := (chk_some hu2); omega)) ?_
    refine OJ.pures tU_ok 2 rfl ?_
    refine OJ.nil (EJ.next ?_)
    refine CJ.ret (?_)
    obtain rfl := Option.some.inj H
    exact EJ.fin rfl (.tmp rfl (.tmp rfl .nil)) ⟨rfl, hS.ext⟩

def strings_CutSuffix.f (a0 : ByteArray) (a1 : ByteArray) : Option (ByteArray × Bool) := (internal_stringslite_CutSuffix.f a0 a1).bind fun t1 => some (t1.1, t1.2)
theorem strings_CutSuffix.c (w : World) (a0 : ByteArray) (a1 : ByteArray) (r : ByteArray × Bool) (H : strings_CutSuffix.f a0 a1 = some r) :
    CV Tryz.prog 31 [.string a0, .string a1].toArray w fun v w' => v = .tuple #[.string r.1, .bool r.2] ∧ Ext w w' := by
  have hS := (St.init w no)
  unfold strings_CutSuffix.f at H
  refine CV.body Tryz.func31 rfl Tryz.ntmps31 rfl ?_
  refine CJ.seq ?_
  refine CJ.region ?_
  refine OJ.pures tU_ok 2 rfl ?_
  refine OJ.nil (EJ.next ?_)
  refine CJ.seq ?_
  refine CJ.region ?_
  refine OJ.pures tU_ok 2 rfl ?_
  obtain ⟨t1, ht1, H⟩ := pbind H
  refine OJ.callF rfl rfl rfl rfl rfl hb67 rfl (internal_stringslite_CutSuffix.c _ a0 a1 _ ht1) ?_
  rintro _ w1 ⟨rfl, hs⟩
  replace hS := hS.grow hs
  refine OJ.pures tU_ok 4 rfl ?_
  refine OJ.nil (EJ.next ?_)
  refine CJ.ret (?_)
  obtain rfl := Option.some.inj H
  exact EJ.fin rfl (.tmp rfl (.tmp rfl .nil)) ⟨rfl, hS.ext⟩

def strconv_ParseInt.f (a0 : ByteArray) (a1 : Int) (a2 : Int) : Option (Int × Bool) := (chk (a0.size ≤ 4294967296 ∧ a1 = 10 ∧ a2 = 64)).bind fun _ => some (parseI a0)
theorem strconv_ParseInt.c (w : World) (a0 : ByteArray) (a1 : Int) (a2 : Int) (hT : (envC Tryz.prog 0).holds w) (r : Int × Bool) (H : strconv_ParseInt.f a0 a1 a2 = some r) :
    CV Tryz.prog 68 [.string a0, .int .i64 a1, .int .i64 a2].toArray w fun v w' => ∃ t q, v = .tuple #[.int .i64 r.1, errV r.2 t q] ∧ Ext w w' := by
  unfold strconv_ParseInt.f at H
  obtain ⟨u, hu, H⟩ := pbind H
  have h := chk_some hu
  obtain rfl := Option.some.inj H
  obtain ⟨h, rfl, rfl⟩ := h
  exact parse_cv hT (fun s h v hp w => (Any.strconv_ParseInt_10_at64_ok layParse s h v hp w).mono fun e w' ⟨he, hw⟩ => ⟨he, bytes_ext hw⟩)
    (fun s h hp tp p w hv => (Any.strconv_ParseInt_10_at64_syntax_var layParse s h hp tp p w hv).mono fun e w' ⟨N, he, _, _, hb⟩ => ⟨⟨_, _, he⟩, below_ext hb⟩)
    (fun s h hp tp p w hv => (Any.strconv_ParseInt_10_at64_range_var layParse s h hp tp p w hv).mono fun e w' ⟨N, he, _, _, hb⟩ => ⟨⟨_, _, he⟩, below_ext hb⟩) h

def impl_number.f (a0 : ByteArray) (a1 : Int) : Option (Int × Bool) := (strconv_ParseInt.f a0 10 64).bind fun t1 => if t1.2 = true then (some (0, false)) else ((impl_decimal.f t1.1).bind fun t4 => if t4 ≠ a0 then (some (0, false)) else ((impl_within.f t1.1 0 a1).bind fun t5 => if (!t5) = true then (some (0, false)) else (some (t1.1, true))))
theorem impl_number.c (w : World) (a0 : ByteArray) (a1 : Int) (hT : (envC Tryz.prog 0).holds w) (r : Int × Bool) (H : impl_number.f a0 a1 = some r) :
    CV Tryz.prog 32 [.string a0, .int .i64 a1].toArray w fun v w' => v = .tuple #[.int .i64 r.1, .bool r.2] ∧ Ext w w' := by
  have hS := ((St.init w no).paramT (envC Tryz.prog 0) hT)
  unfold impl_number.f at H
  refine CV.body Tryz.func32 rfl Tryz.ntmps32 rfl ?_
  refine CJ.seq ?_
  refine CJ.region ?_
  refine OJ.pures tU_ok 2 rfl ?_
  refine OJ.nil (EJ.next ?_)
  refine CJ.seq ?_
  refine CJ.region ?_
  refine OJ.pures tU_ok 1 rfl ?_
  obtain ⟨t1, ht1, H⟩ := pbind H
  refine OJ.callF rfl rfl rfl rfl rfl hb68 rfl (strconv_ParseInt.c _ a0 10 64 (hS.ro (i := 0) rfl) _ ht1) ?_
  rintro _ w1 ⟨t2, q3, rfl, hs⟩
  replace hS := hS.grow hs
  refine OJ.pures tU_ok 5 rfl ?_
  refine OJ.nil (EJ.next ?_)
  refine CJ.seq ?_
  refine CJ.seq ?_
  refine CJ.region ?_
  refine OJ.pures tU_ok 1 rfl ?_
  refine OJ.st rfl rfl rfl (SR.neErr (by kernel_rfl) rfl rfl) ?_
  refine OJ.pures tU_ok 1 rfl ?_
  refine OJ.split (t := 15) rfl (fun hb => ?_) (fun hb => ?_)
  · replace H := pif_t hb H
    refine OJ.pures tU_ok 11 rfl ?_
    refine OJ.nil (EJ.next ?_)
    refine CJ.condT rfl ?_
    refine CJ.seq ?_
    refine CJ.region ?_
    refine OJ.pures tU_ok 2 rfl ?_
    refine OJ.nil (EJ.next ?_)
    refine CJ.ret (EJ.skR (?_))
    obtain rfl := Option.some.inj H
    exact EJ.fin rfl (.tmp rfl (.tmp rfl .nil)) ⟨rfl, hS.ext⟩
  · replace H := pifb_f hb H
    refine OJ.pures tU_ok 1 rfl ?_
    obtain ⟨t4, ht4, H⟩ := pbind H
    refine OJ.callF rfl rfl rfl rfl rfl hb34 rfl (impl_decimal.c _ t1.1 (hS.ro (i := 0) rfl) _ ht4) ?_
    rintro _ w1 ⟨rfl, hs⟩
    replace hS := hS.grow hs
    refine OJ.pures tU_ok 4 rfl ?_
    refine OJ.split (t := 21) rfl (fun hb => ?_) (fun hb => ?_)
    · replace H := pif_t (of_decide_eq_true hb) H
      refine OJ.pures tU_ok 5 rfl ?_
      refine OJ.nil (EJ.next ?_)
      refine CJ.condT rfl ?_
      refine CJ.seq ?_
      refine CJ.region ?_
      refine OJ.pures tU_ok 2 rfl ?_
      refine OJ.nil (EJ.next ?_)
      refine CJ.ret (EJ.skR (?_))
      obtain rfl := Option.some.inj H
      exact EJ.fin rfl (.tmp rfl (.tmp rfl .nil)) ⟨rfl, hS.ext⟩
    · replace H := pif_f (of_decide_eq_false hb) H
      refine OJ.pures tU_ok 2 rfl ?_
      obtain ⟨t5, ht5, H⟩ := pbind H
      refine OJ.callF rfl rfl rfl rfl rfl hb49 rfl (impl_within.c _ t1.1 0 a1 _ ht5) ?_
      rintro _ w1 ⟨rfl, hs⟩
      replace hS := hS.grow hs
      refine OJ.pures tU_ok 2 rfl ?_
      refine OJ.nil (EJ.next ?_)
      refine CJ.cond rfl (fun hb => ?_) (fun hb => ?_)
      · replace H := pif_t hb H
        refine CJ.seq ?_
        refine CJ.region ?_
        refine OJ.pures tU_ok 2 rfl ?_
        refine OJ.nil (EJ.next ?_)
        refine CJ.ret (EJ.skR (?_))
        obtain rfl := Option.some.inj H
        exact EJ.fin rfl (.tmp rfl (.tmp rfl .nil)) ⟨rfl, hS.ext⟩
      · replace H := pifb_f hb H
        refine CJ.skip (EJ.next ?_)
        refine CJ.seq ?_
        refine CJ.region ?_
        refine OJ.pures tU_ok 3 rfl ?_
        refine OJ.nil (EJ.next ?_)
        refine CJ.ret (?_)
        obtain rfl := Option.some.inj H
        exact EJ.fin rfl (.tmp rfl (.tmp rfl .nil)) ⟨rfl, hS.ext⟩

def impl_Pasture_put.f (a0 : Pasture) (a1 : Hurdle) (a2 : Bool) : Option Pasture := if a1.South = true then ((getI a0.South.l a1.At.Y).bind fun t2 => (chk (0 ≤ a1.At.X)).bind fun u3 => (getI a0.South.l a1.At.Y).bind fun t4 => if a2 = true then ((getI (aset a0.South a1.At.Y.toNat (andNotI .u16 t2 (shlI .u16 1 a1.At.X))).l a1.At.Y).bind fun t5 => (chk (0 ≤ a1.At.X)).bind fun u6 => (getI (aset a0.South a1.At.Y.toNat (andNotI .u16 t2 (shlI .u16 1 a1.At.X))).l a1.At.Y).bind fun t7 => some (⟨a0.Wide, a0.High, a0.Grass, a0.East, (aset (aset a0.South a1.At.Y.toNat (andNotI .u16 t2 (shlI .u16 1 a1.At.X))) a1.At.Y.toNat (orI .u16 t5 (shlI .u16 1 a1.At.X)))⟩ : Pasture)) else (some (⟨a0.Wide, a0.High, a0.Grass, a0.East, (aset a0.South a1.At.Y.toNat (andNotI .u16 t2 (shlI .u16 1 a1.At.X)))⟩ : Pasture))) else ((getI a0.East.l a1.At.Y).bind fun t8 => (chk (0 ≤ a1.At.X)).bind fun u9 => (getI a0.East.l a1.At.Y).bind fun t10 => if a2 = true then ((getI (aset a0.East a1.At.Y.toNat (andNotI .u16 t8 (shlI .u16 1 a1.At.X))).l a1.At.Y).bind fun t11 => (chk (0 ≤ a1.At.X)).bind fun u12 => (getI (aset a0.East a1.At.Y.toNat (andNotI .u16 t8 (shlI .u16 1 a1.At.X))).l a1.At.Y).bind fun t13 => some (⟨a0.Wide, a0.High, a0.Grass, (aset (aset a0.East a1.At.Y.toNat (andNotI .u16 t8 (shlI .u16 1 a1.At.X))) a1.At.Y.toNat (orI .u16 t11 (shlI .u16 1 a1.At.X))), a0.South⟩ : Pasture)) else (some (⟨a0.Wide, a0.High, a0.Grass, (aset a0.East a1.At.Y.toNat (andNotI .u16 t8 (shlI .u16 1 a1.At.X))), a0.South⟩ : Pasture)))
theorem impl_Pasture_put.c (w : World) (ba0 : Nat) (a0 : Pasture) (a1 : Hurdle) (a2 : Bool) (hin : St w (fpU [box ba0 (cPasture.enc a0) 31]) w [box ba0 (cPasture.enc a0) 31] []) (r : Pasture) (H : impl_Pasture_put.f a0 a1 a2 = some r) :
    CV Tryz.prog 33 [.pointer (some ⟨ba0, 0, none⟩), .agg (cHurdle.enc a1).toArray, .bool a2].toArray w fun v w' => v = .tuple #[] ∧ St w (fpU [box ba0 (cPasture.enc a0) 31]) w' [box ba0 (cPasture.enc r) 31] [] := by
  have hS := hin
  unfold impl_Pasture_put.f at H
  refine CV.body Tryz.func33 rfl Tryz.ntmps33 rfl ?_
  refine CJ.seq ?_
  refine CJ.region ?_
  refine OJ.ef rfl rfl rfl (Ef.box hS rfl rfl (cHurdle.enc a1) rfl) ?_
  rintro _ w1 ⟨b1, rfl, hS⟩
  refine OJ.nil (EJ.next ?_)
  refine CJ.seq ?_
  refine CJ.region ?_
  refine OJ.pures tU_ok 2 rfl ?_
  refine OJ.st rfl rfl rfl (SR.fieldAddr tU_ok tI_ok rfl rfl rfl rfl rfl rfl) ?_
  refine OJ.pures tU_ok 1 rfl ?_
  refine OJ.nil (EJ.next ?_)
  refine CJ.seq ?_
  refine CJ.seq ?_
  refine CJ.region ?_
  refine OJ.st rfl rfl rfl (SR.fieldAddr tU_ok tI_ok rfl rfl rfl rfl rfl rfl) ?_
  refine OJ.st rfl rfl rfl (SR.load rfl rfl (fun w' hx => ld1 tU_ok rfl rfl (CA.ext (CA.sub (hS.cells (i := 1) rfl) 2) hx) rfl)) ?_
  refine OJ.nil (EJ.next ?_)
  refine CJ.cond rfl (fun hb => ?_) (fun hb => ?_)
  · replace H := pif_t hb H
    refine CJ.region ?_
    refine OJ.pures tU_ok 2 rfl ?_
    refine OJ.st rfl rfl rfl (SR.fieldAddr tU_ok tI_ok rfl rfl rfl rfl rfl rfl) ?_
    refine OJ.pures tU_ok 1 rfl ?_
    refine OJ.nil (EJ.next ?_)
    refine CJ.seq ?_
    refine CJ.draw [] [0, 1, 2, 3, 4, 5, 6, 7, 8, 9, 10, 11, 12, 13, 14] mixed (by kernel_rfl) hS fun w1 hS => ?_
    refine DJ.pures tU_ok 1 rfl ?_
    refine DJ.st rfl rfl rfl rfl rfl (SR.fieldAddr tU_ok tI_ok rfl rfl rfl rfl rfl rfl) ?_
    refine DJ.st rfl rfl rfl rfl rfl (SR.fieldAddr tU_ok tI_ok rfl rfl rfl rfl rfl rfl) ?_
    refine DJ.st rfl rfl rfl rfl rfl (SR.load rfl rfl (fun w' hx => ld1 tU_ok rfl rfl (CA.ext (CA.sub (CA.sub (hS.cells (i := 1) rfl) 0) 1) hx) rfl)) ?_
    refine DJ.pures tU_ok 1 rfl ?_
    obtain ⟨t2, ht2, H⟩ := pbind H
    refine DJ.st rfl rfl rfl rfl rfl (SR.idxA tU_ok tI_ok rfl rfl rfl rfl rfl (Arr.lt ht2)) ?_
    refine DJ.st rfl rfl rfl rfl rfl (SR.load rfl rfl (fun w' hx => ld1 tU_ok rfl rfl (CA.ext (CA.idx (CA.fld (hS.cells (i := 0) rfl) (mid_part (fe_Pasture_4 _) (fl_Pasture_4 _) ((carr 10 (ci .u16)).len _))) ht2) hx) rfl)) ?_
    refine DJ.st rfl rfl rfl rfl rfl (SR.fieldAddr tU_ok tI_ok rfl rfl rfl rfl rfl rfl) ?_
    refine DJ.st rfl rfl rfl rfl rfl (SR.fieldAddr tU_ok tI_ok rfl rfl rfl rfl rfl rfl) ?_
    refine DJ.st rfl rfl rfl rfl rfl (SR.load rfl rfl (fun w' hx => ld1 tU_ok rfl rfl (CA.ext (CA.sub (CA.sub (hS.cells (i := 1) rfl) 0) 0) hx) rfl)) ?_
    obtain ⟨u3, hu3, H⟩ := pbind H
    refine DJ.st rfl rfl rfl rfl rfl (SR.shl rfl rfl rfl (chk_some hu3)) ?_
    refine DJ.pures tU_ok 2 rfl ?_
    obtain ⟨t4, ht4, H⟩ := pbind H
    refine DJ.st rfl rfl rfl rfl rfl (SR.idxA tU_ok tI_ok rfl rfl rfl rfl rfl (Arr.lt ht4)) ?_
    refine DJ.es rfl rfl rfl rfl (Es.put tI_ok hS (i := 0) rfl rfl rfl rfl rfl (vs := (ci .u16).enc (andNotI .u16 t2 (shlI .u16 1 a1.At.X))) rfl rfl (one1 rfl) (put_Pasture_4 (Put.idx (Put.all (ci .u16) t4 (andNotI .u16 t2 (shlI .u16 1 a1.At.X))) ht4)) (by (try simp only [add_lit, Nat.add_assoc, Nat.zero_add, Nat.add_zero]) <;> rfl)) ?_
    intro w1 hS
    refine DJ.nil (EJ.next ?_)
    refine CJ.seq ?_
    refine CJ.region ?_
    refine OJ.pures tU_ok 1 rfl ?_
    refine OJ.nil (EJ.next ?_)
    refine CJ.cond rfl (fun hb => ?_) (fun hb => ?_)
    · replace H := pif_t hb H
      refine CJ.draw [] [0, 1, 2, 3, 4, 5, 6, 7, 8, 9, 10, 11, 12, 13, 14] mixed (by kernel_rfl) hS fun w1 hS => ?_
      refine DJ.pures tU_ok 1 rfl ?_
      refine DJ.st rfl rfl rfl rfl rfl (SR.fieldAddr tU_ok tI_ok rfl rfl rfl rfl rfl rfl) ?_
      refine DJ.st rfl rfl rfl rfl rfl (SR.fieldAddr tU_ok tI_ok rfl rfl rfl rfl rfl rfl) ?_
      refine DJ.st rfl rfl rfl rfl rfl (SR.load rfl rfl (fun w' hx => ld1 tU_ok rfl rfl (CA.ext (CA.sub (CA.sub (hS.cells (i := 1) rfl) 0) 1) hx) rfl)) ?_
      refine DJ.pures tU_ok 1 rfl ?_
      obtain ⟨t5, ht5, H⟩ := pbind H
      refine DJ.st rfl rfl rfl rfl rfl (SR.idxA tU_ok tI_ok rfl rfl rfl rfl rfl (Arr.lt ht5)) ?_
      refine DJ.st rfl rfl rfl rfl rfl (SR.load rfl rfl (fun w' hx => ld1 tU_ok rfl rfl (CA.ext (CA.idx (CA.fld (hS.cells (i := 0) rfl) (mid_part (fe_Pasture_4 _) (fl_Pasture_4 _) ((carr 10 (ci .u16)).len _))) ht5) hx) rfl)) ?_
      refine DJ.st rfl rfl rfl rfl rfl (SR.fieldAddr tU_ok tI_ok rfl rfl rfl rfl rfl rfl) ?_
      refine DJ.st rfl rfl rfl rfl rfl (SR.fieldAddr tU_ok tI_ok rfl rfl rfl rfl rfl rfl) ?_
      refine DJ.st rfl rfl rfl rfl rfl (SR.load rfl rfl (fun w' hx => ld1 tU_ok rfl rfl (CA.ext (CA.sub (CA.sub (hS.cells (i := 1) rfl) 0) 0) hx) rfl)) ?_
      obtain ⟨u6, hu6, H⟩ := pbind H
      refine DJ.st rfl rfl rfl rfl rfl (SR.shl rfl rfl rfl (chk_some hu6)) ?_
      refine DJ.pures tU_ok 2 rfl ?_
      obtain ⟨t7, ht7, H⟩ := pbind H
      refine DJ.st rfl rfl rfl rfl rfl (SR.idxA tU_ok tI_ok rfl rfl rfl rfl rfl (Arr.lt ht7)) ?_
      refine DJ.es rfl rfl rfl rfl (Es.put tI_ok hS (i := 0) rfl rfl rfl rfl rfl (vs := (ci .u16).enc (orI .u16 t5 (shlI .u16 1 a1.At.X))) rfl rfl (one1 rfl) (put_Pasture_4 (Put.idx (Put.all (ci .u16) t7 (orI .u16 t5 (shlI .u16 1 a1.At.X))) ht7)) (by (try simp only [add_lit, Nat.add_assoc, Nat.zero_add, Nat.add_zero]) <;> rfl)) ?_
      intro w1 hS
      refine DJ.nil ?_
      obtain rfl := Option.some.inj H
      exact EJ.fin' rfl .nil ⟨rfl, hS.pick [0] [] rfl⟩
    · replace H := pifb_f hb H
      refine CJ.skip (?_)
      obtain rfl := Option.some.inj H
      exact EJ.fin' rfl .nil ⟨rfl, hS.pick [0] [] rfl⟩
  · replace H := pifb_f hb H
    refine CJ.skip (EJ.next ?_)
    refine CJ.seq ?_
    refine CJ.draw [] [0, 1, 2, 3, 4, 5, 6, 7, 8, 9, 10, 11, 12, 13, 14] mixed (by kernel_rfl) hS fun w1 hS => ?_
    refine DJ.pures tU_ok 1 rfl ?_
    refine DJ.st rfl rfl rfl rfl rfl (SR.fieldAddr tU_ok tI_ok rfl rfl rfl rfl rfl rfl) ?_
    refine DJ.st rfl rfl rfl rfl rfl (SR.fieldAddr tU_ok tI_ok rfl rfl rfl rfl rfl rfl) ?_
    refine DJ.st rfl rfl rfl rfl rfl (SR.load rfl rfl (fun w' hx => ld1 tU_ok rfl rfl (CA.ext (CA.sub (CA.sub (hS.cells (i := 1) rfl) 0) 1) hx) rfl)) ?_
    refine DJ.pures tU_ok 1 rfl ?_
    obtain ⟨t8, ht8, H⟩ := pbind H
    refine DJ.st rfl rfl rfl rfl rfl (SR.idxA tU_ok tI_ok rfl rfl rfl rfl rfl (Arr.lt ht8)) ?_
    refine DJ.st rfl rfl rfl rfl rfl (SR.load rfl rfl (fun w' hx => ld1 tU_ok rfl rfl (CA.ext (CA.idx (CA.fld (hS.cells (i := 0) rfl) (mid_part (fe_Pasture_3 _) (fl_Pasture_3 _) ((carr 10 (ci .u16)).len _))) ht8) hx) rfl)) ?_
    refine DJ.st rfl rfl rfl rfl rfl (SR.fieldAddr tU_ok tI_ok rfl rfl rfl rfl rfl rfl) ?_
    refine DJ.st rfl rfl rfl rfl rfl (SR.fieldAddr tU_ok tI_ok rfl rfl rfl rfl rfl rfl) ?_
    refine DJ.st rfl rfl rfl rfl rfl (SR.load rfl rfl (fun w' hx => ld1 tU_ok rfl rfl (CA.ext (CA.sub (CA.sub (hS.cells (i := 1) rfl) 0) 0) hx) rfl)) ?_
    obtain ⟨u9, hu9, H⟩ := pbind H
    refine DJ.st rfl rfl rfl rfl rfl (SR.shl rfl rfl rfl (chk_some hu9)) ?_
    refine DJ.pures tU_ok 2 rfl ?_
    obtain ⟨t10, ht10, H⟩ := pbind H
    refine DJ.st rfl rfl rfl rfl rfl (SR.idxA tU_ok tI_ok rfl rfl rfl rfl rfl (Arr.lt ht10)) ?_
    refine DJ.es rfl rfl rfl rfl (Es.put tI_ok hS (i := 0) rfl rfl rfl rfl rfl (vs := (ci .u16).enc (andNotI .u16 t8 (shlI .u16 1 a1.At.X))) rfl rfl (one1 rfl) (put_Pasture_3 (Put.idx (Put.all (ci .u16) t10 (andNotI .u16 t8 (shlI .u16 1 a1.At.X))) ht10)) (by (try simp only [add_lit, Nat.add_assoc, Nat.zero_add, Nat.add_zero]) <;> rfl)) ?_
    intro w1 hS
    refine DJ.nil (EJ.next ?_)
    refine CJ.seq ?_
    refine CJ.region ?_
    refine OJ.pures tU_ok 1 rfl ?_
    refine OJ.nil (EJ.next ?_)
    refine CJ.cond rfl (fun hb => ?_) (fun hb => ?_)
    · replace H := pif_t hb H
      refine CJ.draw [] [0, 1, 2, 3, 4, 5, 6, 7, 8, 9, 10, 11, 12, 13, 14] mixed (by kernel_rfl) hS fun w1 hS => ?_
      refine DJ.pures tU_ok 1 rfl ?_
      refine DJ.st rfl rfl rfl rfl rfl (SR.fieldAddr tU_ok tI_ok rfl rfl rfl rfl rfl rfl) ?_
      refine DJ.st rfl rfl rfl rfl rfl (SR.fieldAddr tU_ok tI_ok rfl rfl rfl rfl rfl rfl) ?_
      refine DJ.st rfl rfl rfl rfl rfl (SR.load rfl rfl (fun w' hx => ld1 tU_ok rfl rfl (CA.ext (CA.sub (CA.sub (hS.cells (i := 1) rfl) 0) 1) hx) rfl)) ?_
      refine DJ.pures tU_ok 1 rfl ?_
      obtain ⟨t11, ht11, H⟩ := pbind H
      refine DJ.st rfl rfl rfl rfl rfl (SR.idxA tU_ok tI_ok rfl rfl rfl rfl rfl (Arr.lt ht11)) ?_
      refine DJ.st rfl rfl rfl rfl rfl (SR.load rfl rfl (fun w' hx => ld1 tU_ok rfl rfl (CA.ext (CA.idx (CA.fld (hS.cells (i := 0) rfl) (mid_part (fe_Pasture_3 _) (fl_Pasture_3 _) ((carr 10 (ci .u16)).len _))) ht11) hx) rfl)) ?_
      refine DJ.st rfl rfl rfl rfl rfl (SR.fieldAddr tU_ok tI_ok rfl rfl rfl rfl rfl rfl) ?_
      refine DJ.st rfl rfl rfl rfl rfl (SR.fieldAddr tU_ok tI_ok rfl rfl rfl rfl rfl rfl) ?_
      refine DJ.st rfl rfl rfl rfl rfl (SR.load rfl rfl (fun w' hx => ld1 tU_ok rfl rfl (CA.ext (CA.sub (CA.sub (hS.cells (i := 1) rfl) 0) 0) hx) rfl)) ?_
      obtain ⟨u12, hu12, H⟩ := pbind H
      refine DJ.st rfl rfl rfl rfl rfl (SR.shl rfl rfl rfl (chk_some hu12)) ?_
      refine DJ.pures tU_ok 2 rfl ?_
      obtain ⟨t13, ht13, H⟩ := pbind H
      refine DJ.st rfl rfl rfl rfl rfl (SR.idxA tU_ok tI_ok rfl rfl rfl rfl rfl (Arr.lt ht13)) ?_
      refine DJ.es rfl rfl rfl rfl (Es.put tI_ok hS (i := 0) rfl rfl rfl rfl rfl (vs := (ci .u16).enc (orI .u16 t11 (shlI .u16 1 a1.At.X))) rfl rfl (one1 rfl) (put_Pasture_3 (Put.idx (Put.all (ci .u16) t13 (orI .u16 t11 (shlI .u16 1 a1.At.X))) ht13)) (by (try simp only [add_lit, Nat.add_assoc, Nat.zero_add, Nat.add_zero]) <;> rfl)) ?_
      intro w1 hS
      refine DJ.nil ?_
      obtain rfl := Option.some.inj H
      exact EJ.fin' rfl .nil ⟨rfl, hS.pick [0] [] rfl⟩
    · replace H := pifb_f hb H
      refine CJ.skip (?_)
      obtain rfl := Option.some.inj H
      exact EJ.fin' rfl .nil ⟨rfl, hS.pick [0] [] rfl⟩

def impl_ReadPasture.l2 (y16 : Int) (t19 : List ByteArray) : Nat → Pasture → Int → Option ((((Pasture × Int) ⊕ Pasture) ⊕ Pasture) ⊕ Pasture)
  | 0, _, _ => none
  | k + 1, y23, y24 => if y24 < (t19.length : Int) then ((getI t19 y24).bind fun t25 => (strings_CutSuffix.f t25 (⟨#[95]⟩ : ByteArray)).bind fun t27 => (strings_CutSuffix.f t27.1 (⟨#[124]⟩ : ByteArray)).bind fun t28 => (impl_number.f t28.1 1000).bind fun t29 => (if (!t29.2) = true then (some true) else (some (decide ((IntKind.i64.wrap y23.Wide) ≤ y24)))).bind fun y30 => if y30 = true then (some (Sum.inl (Sum.inl (Sum.inl ((⟨0, 0, (Arr.mk' (Arr.mk' 0 : Arr 10 Int) : Arr 10 (Arr 10 Int)), (Arr.mk' 0 : Arr 10 Int), (Arr.mk' 0 : Arr 10 Int)⟩ : Pasture), 5))))) else ((getI y23.Grass.l y16).bind fun t31 => (getI t31.l y24).bind fun t32 => (impl_Pasture_put.f (⟨y23.Wide, y23.High, (aset y23.Grass y16.toNat (aset t31 y24.toNat (IntKind.i16.wrap t29.1))), y23.East, y23.South⟩ : Pasture) (⟨(⟨IntKind.i8.wrap y24, IntKind.i8.wrap y16⟩ : Spot), false⟩ : Hurdle) t28.2).bind fun t33 => (impl_Pasture_put.f t33 (⟨(⟨IntKind.i8.wrap y24, IntKind.i8.wrap y16⟩ : Spot), true⟩ : Hurdle) t27.2).bind fun t34 => impl_ReadPasture.l2 y16 t19 k t34 (IntKind.i64.wrap (y24 + 1)))) else (some (Sum.inr y23))
def impl_ReadPasture.l1 (t2 : List ByteArray) (t11 : Pasture × Int) : Nat → Pasture → Int → Option ((Pasture × Int) ⊕ Pasture)
  | 0, _, _ => none
  | k + 1, y15, y16 => if y16 < (((t2.drop 0).take (t11.1.High.toNat - 0)).length : Int) then (((getI ((t2.drop 0).take (t11.1.High.toNat - 0)) y16).bind fun t18 => (strings_Split.f t18 (⟨#[32]⟩ : ByteArray)).bind fun t19 => (impl_ReadPasture.l2 y16 t19 k y15 0).bind fun s132 => match s132 with | .inl r => some r | .inr y22 => some (Sum.inr y22)).bind fun s127 => match s127 with | .inl r => some r | .inr y17 => impl_ReadPasture.l1 t2 t11 k y17 (IntKind.i64.wrap (y16 + 1))) else (some (Sum.inr y15))
def impl_ReadPasture.f (k : Nat) (a0 : ByteArray) : Option (Pasture × Int) := (strings_Split.f a0 (⟨#[10]⟩ : ByteArray)).bind fun t2 => (getI t2 0).bind fun t5 => (strings_Split.f t5 (⟨#[32]⟩ : ByteArray)).bind fun t6 => (impl_size_string.f t6).bind fun t9 => (impl_size_string.f t2).bind fun t10 => (impl_PlainPasture.f k t9 (IntKind.i64.wrap (t10 - 1)) 0).bind fun t11 => if t11.2 ≠ 0 then (some ((⟨0, 0, (Arr.mk' (Arr.mk' 0 : Arr 10 Int) : Arr 10 (Arr 10 Int)), (Arr.mk' 0 : Arr 10 Int), (Arr.mk' 0 : Arr 10 Int)⟩ : Pasture), 5)) else ((chk ((0 : Int) ≤ 0 ∧ 0 ≤ t11.1.High ∧ t11.1.High ≤ (t2.length : Int))).bind fun u13 => (impl_ReadPasture.l1 t2 t11 k t11.1 0).bind fun s108 => match s108 with | .inl r => some r | .inr y14 => (impl_PastureText.f k y14).bind fun t35 => if t35 ≠ a0 then (some ((⟨0, 0, (Arr.mk' (Arr.mk' 0 : Arr 10 Int) : Arr 10 (Arr 10 Int)), (Arr.mk' 0 : Arr 10 Int), (Arr.mk' 0 : Arr 10 Int)⟩ : Pasture), 5)) else (some (y14, 0)))
theorem impl_ReadPasture.c (k : Nat) (w : World) (a0 : ByteArray) (hT : (envC Tryz.prog 0).holds w) (r : Pasture × Int) (H : impl_ReadPasture.f k a0 = some r) :
    CV Tryz.prog 8 [.string a0].toArray w fun v w' => v = .tuple #[.agg (cPasture.enc r.1).toArray, .int .i64 r.2] ∧ Ext w w' := by
  have hS := ((St.init w no).paramT (envC Tryz.prog 0) hT)
  unfold impl_ReadPasture.f at H
  refine CV.body Tryz.func8 rfl Tryz.ntmps8 rfl ?_
  refine CJ.seq ?_
  refine CJ.region ?_
  refine OJ.ef rfl rfl rfl (Ef.alloc hS tI_ok rfl rfl (cPasture.enc (⟨0, 0, (Arr.mk' (Arr.mk' 0 : Arr 10 Int) : Arr 10 (Arr 10 Int)), (Arr.mk' 0 : Arr 10 Int), (Arr.mk' 0 : Arr 10 Int)⟩ : Pasture)) (by kernel_rfl)) ?_
  rintro _ w1 ⟨b1, rfl, hS⟩
  refine OJ.pures tU_ok 1 rfl ?_
  refine OJ.nil (EJ.next ?_)
  refine CJ.seq ?_
  refine CJ.region ?_
  refine OJ.pures tU_ok 1 rfl ?_
  obtain ⟨t2, ht2, H⟩ := pbind H
  refine OJ.callF rfl rfl rfl rfl rfl hb29 rfl (strings_Split.c _ a0 (⟨#[10]⟩ : ByteArray) (hS.ro (i := 0) rfl) _ ht2) ?_
  rintro _ w1 ⟨A3, c4, rfl, hs⟩
  replace hS := hS.addN hs
  refine OJ.pures tU_ok 1 rfl ?_
  refine OJ.nil (EJ.next ?_)
  refine CJ.seq ?_
  refine CJ.region ?_
  refine OJ.pures tU_ok 1 rfl ?_
  obtain ⟨t5, ht5, H⟩ := pbind H
  obtain ⟨ad5, e5⟩ := (hS.rd (i := 1) rfl).some' ht5
  refine OJ.st rfl rfl rfl (SR.idxS tU_ok tI_ok rfl rfl rfl rfl e5 rfl (getI_some ht5).1) ?_
  refine OJ.st rfl rfl rfl (SR.load rfl rfl (fun w' hx => ld1 tU_ok rfl rfl (CA.ext ((hS.rd (i := 1) rfl).at_ e5 ht5) hx) rfl)) ?_
  obtain ⟨t6, ht6, H⟩ := pbind H
  refine OJ.callF rfl rfl rfl rfl rfl hb29 rfl (strings_Split.c _ t5 (⟨#[32]⟩ : ByteArray) (hS.ro (i := 0) rfl) _ ht6) ?_
  rintro _ w1 ⟨A7, c8, rfl, hs⟩
  replace hS := hS.addN hs
  obtain ⟨t9, ht9, H⟩ := pbind H
  refine OJ.callF rfl rfl rfl rfl rfl hb30 rfl (impl_size_string.c _ A7 c8 t6 (hS.rd (i := 2) rfl) (hS.le (i := 2) rfl) _ ht9) ?_
  rintro _ w1 ⟨rfl, hs⟩
  replace hS := hS.grow hs
  refine OJ.pures tU_ok 1 rfl ?_
  obtain ⟨t10, ht10, H⟩ := pbind H
  refine OJ.callF rfl rfl rfl rfl rfl hb30 rfl (impl_size_string.c _ A3 c4 t2 (hS.rd (i := 1) rfl) (hS.le (i := 1) rfl) _ ht10) ?_
  rintro _ w1 ⟨rfl, hs⟩
  replace hS := hS.grow hs
  refine OJ.pures tU_ok 1 rfl ?_
  obtain ⟨t11, ht11, H⟩ := pbind H
  refine OJ.callF rfl rfl rfl rfl rfl hb25 rfl (impl_PlainPasture.c k _ t9 (IntKind.i64.wrap (t10 - 1)) 0 _ ht11) ?_
  rintro _ w1 ⟨rfl, hs⟩
  replace hS := hS.grow hs
  refine OJ.pures tU_ok 3 rfl ?_
  refine OJ.ef rfl rfl rfl (Ef.alloc hS tI_ok rfl rfl (cPasture.enc (⟨0, 0, (Arr.mk' (Arr.mk' 0 : Arr 10 Int) : Arr 10 (Arr 10 Int)), (Arr.mk' 0 : Arr 10 Int), (Arr.mk' 0 : Arr 10 Int)⟩ : Pasture)) (by kernel_rfl)) ?_
  rintro _ w1 ⟨b12, rfl, hS⟩
  refine OJ.es rfl rfl (Es.put tI_ok hS (i := 3) rfl rfl rfl rfl rfl (vs := cPasture.enc t11.1) rfl (cPasture.len _) (cPasture.one _) (Put.all cPasture (⟨0, 0, (Arr.mk' (Arr.mk' 0 : Arr 10 Int) : Arr 10 (Arr 10 Int)), (Arr.mk' 0 : Arr 10 Int), (Arr.mk' 0 : Arr 10 Int)⟩ : Pasture) t11.1) (by (try simp only [add_lit, Nat.add_assoc, Nat.zero_add, Nat.add_zero]) <;> rfl)) ?_
  intro w1 hS
  refine OJ.pures tU_ok 1 rfl ?_
  refine OJ.nil (EJ.next ?_)
  refine CJ.seq ?_
  refine CJ.seq ?_
  refine CJ.region ?_
  refine OJ.pures tU_ok 2 rfl ?_
  refine OJ.nil (EJ.next ?_)
  refine CJ.cond rfl (fun hb => ?_) (fun hb => ?_)
  · replace H := pif_t (of_decide_eq_true hb) H
    refine CJ.seq ?_
    refine CJ.region ?_
    refine OJ.st rfl rfl rfl (SR.build (C := cPasture) tU_ok tI_ok rfl rfl rfl (zs := [.int .i8 0, .int .i8 0, .int .i16 0, .int .i16 0, .int .i16 0, .int .i16 0, .int .i16 0, .int .i16 0, .int .i16 0, .int .i16 0, .int .i16 0, .int .i16 0, .int .i16 0, .int .i16 0, .int .i16 0, .int .i16 0, .int .i16 0, .int .i16 0, .int .i16 0, .int .i16 0, .int .i16 0, .int .i16 0, .int .i16 0, .int .i16 0, .int .i16 0, .int .i16 0, .int .i16 0, .int .i16 0, .int .i16 0, .int .i16 0, .int .i16 0, .int .i16 0, .int .i16 0, .int .i16 0, .int .i16 0, .int .i16 0, .int .i16 0, .int .i16 0, .int .i16 0, .int .i16 0, .int .i16 0, .int .i16 0, .int .i16 0, .int .i16 0, .int .i16 0, .int .i16 0, .int .i16 0, .int .i16 0, .int .i16 0, .int .i16 0, .int .i16 0, .int .i16 0, .int .i16 0, .int .i16 0, .int .i16 0, .int .i16 0, .int .i16 0, .int .i16 0, .int .i16 0, .int .i16 0, .int .i16 0, .int .i16 0, .int .i16 0, .int .i16 0, .int .i16 0, .int .i16 0, .int .i16 0, .int .i16 0, .int .i16 0, .int .i16 0, .int .i16 0, .int .i16 0, .int .i16 0, .int .i16 0, .int .i16 0, .int .i16 0, .int .i16 0, .int .i16 0, .int .i16 0, .int .i16 0, .int .i16 0, .int .i16 0, .int .i16 0, .int .i16 0, .int .i16 0, .int .i16 0, .int .i16 0, .int .i16 0, .int .i16 0, .int .i16 0, .int .i16 0, .int .i16 0, .int .i16 0, .int .i16 0, .int .i16 0, .int .i16 0, .int .i16 0, .int .i16 0, .int .i16 0, .int .i16 0, .int .i16 0, .int .i16 0, .int .u16 0, .int .u16 0, .int .u16 0, .int .u16 0, .int .u16 0, .int .u16 0, .int .u16 0, .int .u16 0, .int .u16 0, .int .u16 0, .int .u16 0, .int .u16 0, .int .u16 0, .int .u16 0, .int .u16 0, .int .u16 0, .int .u16 0, .int .u16 0, .int .u16 0, .int .u16 0]) rfl rfl rfl (⟨0, 0, (Arr.mk' (Arr.mk' 0 : Arr 10 Int) : Arr 10 (Arr 10 Int)), (Arr.mk' 0 : Arr 10 Int), (Arr.mk' 0 : Arr 10 Int)⟩ : Pasture) rfl) ?_
    refine OJ.es rfl rfl (Es.put tI_ok hS (i := 0) rfl rfl rfl rfl rfl (vs := cPasture.enc (⟨0, 0, (Arr.mk' (Arr.mk' 0 : Arr 10 Int) : Arr 10 (Arr 10 Int)), (Arr.mk' 0 : Arr 10 Int), (Arr.mk' 0 : Arr 10 Int)⟩ : Pasture)) rfl (cPasture.len _) (cPasture.one _) (Put.all cPasture (⟨0, 0, (Arr.mk' (Arr.mk' 0 : Arr 10 Int) : Arr 10 (Arr 10 Int)), (Arr.mk' 0 : Arr 10 Int), (Arr.mk' 0 : Arr 10 Int)⟩ : Pasture) (⟨0, 0, (Arr.mk' (Arr.mk' 0 : Arr 10 Int) : Arr 10 (Arr 10 Int)), (Arr.mk' 0 : Arr 10 Int), (Arr.mk' 0 : Arr 10 Int)⟩ : Pasture)) (by (try simp only [add_lit, Nat.add_assoc, Nat.zero_add, Nat.add_zero]) <;> rfl)) ?_
    intro w1 hS
    refine OJ.pures tU_ok 1 rfl ?_
    refine OJ.nil (EJ.next ?_)
    refine CJ.ret (EJ.skR (?_))
    obtain rfl := Option.some.inj H
    exact EJ.fin rfl (.cell rfl (ldE tU_ok tI_ok rfl rfl rfl (hS.cells (i := 0) rfl) rfl) (.tmp rfl .nil)) ⟨rfl, hS.ext⟩
  · replace H := pif_f (of_decide_eq_false hb) H
    refine CJ.skip (EJ.next ?_)
    refine CJ.seq ?_
    refine CJ.seq ?_
    refine CJ.region ?_
    refine OJ.pures tU_ok 1 rfl ?_
    refine OJ.st rfl rfl rfl (SR.fieldAddr tU_ok tI_ok rfl rfl rfl rfl rfl rfl) ?_
    refine OJ.st rfl rfl rfl (SR.load rfl rfl (fun w' hx => ld1 tU_ok rfl rfl (CA.ext (CA.fld (hS.cells (i := 3) rfl) (mid_part (fe_Pasture_1 _) (fl_Pasture_1 _) ((ci .i8).len _))) hx) rfl)) ?_
    obtain ⟨u13, hu13, H⟩ := pbind H
    replace hS := hS.freezeG (i := 1) rfl
    refine OJ.st rfl rfl rfl (SR.cutS tU_ok tI_ok (0) (t11.1.High.toNat) rfl rfl rfl rfl rfl rfl (.inl ⟨rfl, rfl⟩) (.inr ⟨_, _, rfl, (by have := (chk_some hu13); omega), rfl⟩) (by have := (chk_some hu13); omega) (by have := (chk_some hu13); have := (hS.le' (i := 1) rfl : t2.length ≤ c4); omega)) ?_
    replace hS := hS.cutR (i := 1) (lo := 0) (hi := t11.1.High.toNat) rfl (by have := (chk_some hu13); omega) (by have := (chk_some hu13); omega)
    refine OJ.as (t := 37) rfl (show _ = (.slice (cutA A3 c4 0 G.cs.sz) ((t2.drop 0).take (t11.1.High.toNat - 0)).length (c4 - 0) : Value) by rw [cutLen (by have := (chk_some hu13); omega) (by have := (chk_some hu13); omega)]; rfl) ?_
    refine OJ.pures tU_ok 2 rfl ?_
    refine OJ.nil (EJ.next ?_)
    obtain ⟨j108, H, K108⟩ := pbind H
    refine CJ.cut1 (fun F w1 => ∃ (y14 : Pasture) , (some (Sum.inr y14) : Option ((Pasture × Int) ⊕ Pasture)) = some j108 ∧ F = [(0, .string a0), (2, .pointer (some ⟨b1, 0, none⟩)), (5, .pointer (some ⟨b12, 0, none⟩))] ∧ St w no w1 [box b1 (cPasture.enc (⟨0, 0, (Arr.mk' (Arr.mk' 0 : Arr 10 Int) : Arr 10 (Arr 10 Int)), (Arr.mk' 0 : Arr 10 Int), (Arr.mk' 0 : Arr 10 Int)⟩ : Pasture)) 31, box b12 (cPasture.enc y14) 31] [envC Tryz.prog 0, roC G.cs A3 c4 t2, roC G.cs (cutA A3 c4 0 G.cs.sz) (c4 - 0) ((t2.drop 0).take (t11.1.High.toNat - 0))]) ?_ ?_
    · skip
      refine CJ.block ?_
      refine CJ.loop (fun k F w1 => ∃ (y15 : Pasture) (y16 : Int), F = [(0, .string a0), (2, .pointer (some ⟨b1, 0, none⟩)), (5, .pointer (some ⟨b12, 0, none⟩)), (37, .slice (cutA A3 c4 0 G.cs.sz) ((t2.drop 0).take (t11.1.High.toNat - 0)).length (c4 - 0)), (38, .int .i64 (((t2.drop 0).take (t11.1.High.toNat - 0)).length : Int)), (39, .int .i64 y16)] ∧ St w no w1 [box b1 (cPasture.enc (⟨0, 0, (Arr.mk' (Arr.mk' 0 : Arr 10 Int) : Arr 10 (Arr 10 Int)), (Arr.mk' 0 : Arr 10 Int), (Arr.mk' 0 : Arr 10 Int)⟩ : Pasture)) 31, box b12 (cPasture.enc y15) 31] [envC Tryz.prog 0, roC G.cs A3 c4 t2, roC G.cs (cutA A3 c4 0 G.cs.sz) (c4 - 0) ((t2.drop 0).take (t11.1.High.toNat - 0))] ∧ impl_ReadPasture.l1 t2 t11 k y15 y16 = some j108) k (F' := [(0, .string a0), (2, .pointer (some ⟨b1, 0, none⟩)), (5, .pointer (some ⟨b12, 0, none⟩)), (37, .slice (cutA A3 c4 0 G.cs.sz) ((t2.drop 0).take (t11.1.High.toNat - 0)).length (c4 - 0)), (38, .int .i64 (((t2.drop 0).take (t11.1.High.toNat - 0)).length : Int)), (39, .int .i64 0)]) ⟨rfl, rfl, rfl, rfl, rfl, rfl, trivial⟩ ⟨t11.1, 0, rfl, hS.pick [0, 3] [0, 1, 2] rfl, H⟩ ?_
      rintro k F w1 ⟨y15, y16, rfl, hS, H⟩
      cases k with
      | zero => rw [impl_ReadPasture.l1] at H; cases H
      | succ k =>
        rw [impl_ReadPasture.l1] at H
        refine CJ.seq ?_
        refine CJ.region ?_
        refine OJ.pures tU_ok 1 rfl ?_
        refine OJ.nil (EJ.next ?_)
        refine CJ.seq ?_
        refine CJ.cond rfl (fun hb => ?_) (fun hb => ?_)
        · replace H := pif_t (of_decide_eq_true hb) H
          refine CJ.skip (EJ.next ?_)
          obtain ⟨j127, H, K127⟩ := pbind H
          refine CJ.cut (fun F w1 => ∃ (y17 : Pasture) , (some (Sum.inr y17) : Option (((Pasture × Int) ⊕ Pasture) ⊕ Pasture)) = some j127 ∧ F = [(0, .string a0), (2, .pointer (some ⟨b1, 0, none⟩)), (5, .pointer (some ⟨b12, 0, none⟩)), (37, .slice (cutA A3 c4 0 G.cs.sz) ((t2.drop 0).take (t11.1.High.toNat - 0)).length (c4 - 0)), (38, .int .i64 (((t2.drop 0).take (t11.1.High.toNat - 0)).length : Int)), (39, .int .i64 y16)] ∧ St w no w1 [box b1 (cPasture.enc (⟨0, 0, (Arr.mk' (Arr.mk' 0 : Arr 10 Int) : Arr 10 (Arr 10 Int)), (Arr.mk' 0 : Arr 10 Int), (Arr.mk' 0 : Arr 10 Int)⟩ : Pasture)) 31, box b12 (cPasture.enc y17) 31] [envC Tryz.prog 0, roC G.cs A3 c4 t2, roC G.cs (cutA A3 c4 0 G.cs.sz) (c4 - 0) ((t2.drop 0).take (t11.1.High.toNat - 0))]) ?_ ?_
          · skip
            refine CJ.block ?_
            refine CJ.seq ?_
            refine CJ.region ?_
            refine OJ.pures tU_ok 1 rfl ?_
            obtain ⟨t18, ht18, H⟩ := pbind H
            obtain ⟨ad18, e18⟩ := (hS.rd' (i := 2) rfl).some' ht18
            refine OJ.st rfl rfl rfl (SR.idxS tU_ok tI_ok rfl rfl rfl rfl e18 rfl (getI_some ht18).1) ?_
            refine OJ.st rfl rfl rfl (SR.load rfl rfl (fun w' hx => ld1 tU_ok rfl rfl (CA.ext ((hS.rd' (i := 2) rfl).at_ e18 ht18) hx) rfl)) ?_
            refine OJ.pures tU_ok 2 rfl ?_
            refine OJ.nil (EJ.next ?_)
            refine CJ.seq ?_
            refine CJ.region ?_
            refine OJ.pures tU_ok 1 rfl ?_
            obtain ⟨t19, ht19, H⟩ := pbind H
            refine OJ.callF rfl rfl rfl rfl rfl hb29 rfl (strings_Split.c _ t18 (⟨#[32]⟩ : ByteArray) (hS.ro (i := 0) rfl) _ ht19) ?_
            rintro _ w1 ⟨A20, c21, rfl, hs⟩
            replace hS := hS.addN hs
            refine OJ.pures tU_ok 2 rfl ?_
            refine OJ.nil (EJ.next ?_)
            obtain ⟨j132, H, K132⟩ := pbind H
            refine CJ.cut1 (fun F w1 => ∃ (y22 : Pasture) , (some (Sum.inr y22) : Option ((((Pasture × Int) ⊕ Pasture) ⊕ Pasture) ⊕ Pasture)) = some j132 ∧ F = [(0, .string a0), (2, .pointer (some ⟨b1, 0, none⟩)), (5, .pointer (some ⟨b12, 0, none⟩)), (37, .slice (cutA A3 c4 0 G.cs.sz) ((t2.drop 0).take (t11.1.High.toNat - 0)).length (c4 - 0)), (38, .int .i64 (((t2.drop 0).take (t11.1.High.toNat - 0)).length : Int)), (39, .int .i64 y16)] ∧ St w no w1 [box b1 (cPasture.enc (⟨0, 0, (Arr.mk' (Arr.mk' 0 : Arr 10 Int) : Arr 10 (Arr 10 Int)), (Arr.mk' 0 : Arr 10 Int), (Arr.mk' 0 : Arr 10 Int)⟩ : Pasture)) 31, box b12 (cPasture.enc y22) 31] [envC Tryz.prog 0, roC G.cs A3 c4 t2, roC G.cs (cutA A3 c4 0 G.cs.sz) (c4 - 0) ((t2.drop 0).take (t11.1.High.toNat - 0))]) ?_ ?_
            · skip
              refine CJ.block ?_
              refine CJ.loop (fun k F w1 => ∃ (y23 : Pasture) (y24 : Int), F = [(0, .string a0), (2, .pointer (some ⟨b1, 0, none⟩)), (5, .pointer (some ⟨b12, 0, none⟩)), (7, .int .i64 y16), (37, .slice (cutA A3 c4 0 G.cs.sz) ((t2.drop 0).take (t11.1.High.toNat - 0)).length (c4 - 0)), (38, .int .i64 (((t2.drop 0).take (t11.1.High.toNat - 0)).length : Int)), (39, .int .i64 y16), (45, .slice A20 t19.length c21), (46, .int .i64 (t19.length : Int)), (47, .int .i64 y24)] ∧ St w no w1 [box b1 (cPasture.enc (⟨0, 0, (Arr.mk' (Arr.mk' 0 : Arr 10 Int) : Arr 10 (Arr 10 Int)), (Arr.mk' 0 : Arr 10 Int), (Arr.mk' 0 : Arr 10 Int)⟩ : Pasture)) 31, box b12 (cPasture.enc y23) 31, rowC G.cs A20 c21 9 t19] [envC Tryz.prog 0, roC G.cs A3 c4 t2, roC G.cs (cutA A3 c4 0 G.cs.sz) (c4 - 0) ((t2.drop 0).take (t11.1.High.toNat - 0))] ∧ impl_ReadPasture.l2 y16 t19 k y23 y24 = some j132) k (F' := [(0, .string a0), (2, .pointer (some ⟨b1, 0, none⟩)), (5, .pointer (some ⟨b12, 0, none⟩)), (7, .int .i64 y16), (37, .slice (cutA A3 c4 0 G.cs.sz) ((t2.drop 0).take (t11.1.High.toNat - 0)).length (c4 - 0)), (38, .int .i64 (((t2.drop 0).take (t11.1.High.toNat - 0)).length : Int)), (39, .int .i64 y16), (45, .slice A20 t19.length c21), (46, .int .i64 (t19.length : Int)), (47, .int .i64 0)]) ⟨rfl, rfl, rfl, rfl, rfl, rfl, rfl, rfl, rfl, rfl, trivial⟩ ⟨y15, 0, rfl, hS.pick [0, 1, 2] [0, 1, 2] rfl, H⟩ ?_
              rintro k F w1 ⟨y23, y24, rfl, hS, H⟩
              cases k with
              | zero => rw [impl_ReadPasture.l2] at H; cases H
              | succ k =>
                rw [impl_ReadPasture.l2] at H
                refine CJ.seq ?_
                refine CJ.region ?_
                refine OJ.pures tU_ok 1 rfl ?_
                refine OJ.nil (EJ.next ?_)
                refine CJ.seq ?_
                refine CJ.cond rfl (fun hb => ?_) (fun hb => ?_)
                · replace H := pif_t (of_decide_eq_true hb) H
                  refine CJ.skip (EJ.next ?_)
                  refine CJ.seq ?_
                  refine CJ.block ?_
                  refine CJ.seq ?_
                  refine CJ.region ?_
                  refine OJ.pures tU_ok 1 rfl ?_
                  obtain ⟨t25, ht25, H⟩ := pbind H
                  obtain ⟨ad25, e25⟩ := (hS.rd (i := 2) rfl).some' ht25
                  refine OJ.st rfl rfl rfl (SR.idxS tU_ok tI_ok rfl rfl rfl rfl e25 rfl (getI_some ht25).1) ?_
                  refine OJ.st rfl rfl rfl (SR.load rfl rfl (fun w' hx => ld1 tU_ok rfl rfl (CA.ext ((hS.rd (i := 2) rfl).at_ e25 ht25) hx) rfl)) ?_
                  refine OJ.pures tU_ok 2 rfl ?_
                  refine OJ.nil (EJ.next ?_)
                  refine CJ.seq ?_
                  refine CJ.region ?_
                  refine OJ.pures tU_ok 4 rfl ?_
                  refine OJ.st rfl rfl rfl (SR.build (C := cSpot) tU_ok tI_ok rfl rfl rfl (zs := [.int .i8 0, .int .i8 0]) rfl rfl rfl (⟨IntKind.i8.wrap y24, IntKind.i8.wrap y16⟩ : Spot) rfl) ?_
                  refine OJ.ef rfl rfl rfl (Ef.alloc hS tI_ok rfl rfl (cSpot.enc (⟨0, 0⟩ : Spot)) rfl) ?_
                  rintro _ w1 ⟨b26, rfl, hS⟩
                  refine OJ.es rfl rfl (Es.store tI_ok hS (i := 3) rfl rfl rfl rfl rfl rfl (vs := cSpot.enc (⟨IntKind.i8.wrap y24, IntKind.i8.wrap y16⟩ : Spot)) rfl (cSpot.len _) (cSpot.one _) (Nat.le_of_ble_eq_true rfl) (cSpot.enc (⟨IntKind.i8.wrap y24, IntKind.i8.wrap y16⟩ : Spot)) rfl) ?_
                  intro w1 hS
                  refine OJ.nil (EJ.next ?_)
                  refine CJ.seq ?_
                  refine CJ.region ?_
                  refine OJ.pures tU_ok 1 rfl ?_
                  obtain ⟨t27, ht27, H⟩ := pbind H
                  refine OJ.callF rfl rfl rfl rfl rfl hb31 rfl (strings_CutSuffix.c _ t25 (⟨#[95]⟩ : ByteArray) _ ht27) ?_
                  rintro _ w1 ⟨rfl, hs⟩
                  replace hS := hS.grow hs
                  refine OJ.pures tU_ok 5 rfl ?_
                  refine OJ.nil (EJ.next ?_)
                  refine CJ.seq ?_
                  refine CJ.region ?_
                  refine OJ.pures tU_ok 1 rfl ?_
                  obtain ⟨t28, ht28, H⟩ := pbind H
                  refine OJ.callF rfl rfl rfl rfl rfl hb31 rfl (strings_CutSuffix.c _ t27.1 (⟨#[124]⟩ : ByteArray) _ ht28) ?_
                  rintro _ w1 ⟨rfl, hs⟩
                  replace hS := hS.grow hs
                  refine OJ.pures tU_ok 5 rfl ?_
                  refine OJ.nil (EJ.next ?_)
                  refine CJ.seq ?_
                  refine CJ.region ?_
                  refine OJ.pures tU_ok 1 rfl ?_
                  obtain ⟨t29, ht29, H⟩ := pbind H
                  refine OJ.callF rfl rfl rfl rfl rfl hb32 rfl (impl_number.c _ t28.1 1000 (hS.ro (i := 0) rfl) _ ht29) ?_
                  rintro _ w1 ⟨rfl, hs⟩
                  replace hS := hS.grow hs
                  refine OJ.pures tU_ok 5 rfl ?_
                  refine OJ.nil (EJ.next ?_)
                  refine CJ.seq ?_
                  obtain ⟨j135, H, K135⟩ := pbind H
                  refine CJ.cut (fun F w1 => ∃ (y30 : Bool) , (some y30 : Option Bool) = some j135 ∧ F = [(0, .string a0), (2, .pointer (some ⟨b1, 0, none⟩)), (5, .pointer (some ⟨b12, 0, none⟩)), (7, .int .i64 y16), (9, .int .i64 y24), (11, .pointer (some ⟨b26, 0, none⟩)), (13, .bool t27.2), (14, .bool t28.2), (15, .int .i64 t29.1), (37, .slice (cutA A3 c4 0 G.cs.sz) ((t2.drop 0).take (t11.1.High.toNat - 0)).length (c4 - 0)), (38, .int .i64 (((t2.drop 0).take (t11.1.High.toNat - 0)).length : Int)), (39, .int .i64 y16), (45, .slice A20 t19.length c21), (46, .int .i64 (t19.length : Int)), (47, .int .i64 y24), (80, .bool y30)] ∧ St w no w1 [box b1 (cPasture.enc (⟨0, 0, (Arr.mk' (Arr.mk' 0 : Arr 10 Int) : Arr 10 (Arr 10 Int)), (Arr.mk' 0 : Arr 10 Int), (Arr.mk' 0 : Arr 10 Int)⟩ : Pasture)) 31, box b12 (cPasture.enc y23) 31, rowC G.cs A20 c21 9 t19, box b26 (cSpot.enc (⟨IntKind.i8.wrap y24, IntKind.i8.wrap y16⟩ : Spot)) 34] [envC Tryz.prog 0, roC G.cs A3 c4 t2, roC G.cs (cutA A3 c4 0 G.cs.sz) (c4 - 0) ((t2.drop 0).take (t11.1.High.toNat - 0))]) ?_ ?_
                  · skip
                    refine CJ.region ?_
                    refine OJ.pures tU_ok 3 rfl ?_
                    refine OJ.split (t := 74) rfl (fun hb => ?_) (fun hb => ?_)
                    · replace H := pif_t hb H
                      refine OJ.pures tU_ok 6 rfl ?_
                      refine OJ.nil ?_
                      exact EJ.meet (F' := [(0, .string a0), (2, .pointer (some ⟨b1, 0, none⟩)), (5, .pointer (some ⟨b12, 0, none⟩)), (7, .int .i64 y16), (9, .int .i64 y24), (11, .pointer (some ⟨b26, 0, none⟩)), (13, .bool t27.2), (14, .bool t28.2), (15, .int .i64 t29.1), (37, .slice (cutA A3 c4 0 G.cs.sz) ((t2.drop 0).take (t11.1.High.toNat - 0)).length (c4 - 0)), (38, .int .i64 (((t2.drop 0).take (t11.1.High.toNat - 0)).length : Int)), (39, .int .i64 y16), (45, .slice A20 t19.length c21), (46, .int .i64 (t19.length : Int)), (47, .int .i64 y24), (80, .bool true)]) ⟨rfl, rfl, rfl, rfl, rfl, rfl, rfl, rfl, rfl, rfl, rfl, rfl, rfl, rfl, rfl, rfl, trivial⟩ ⟨true, H, rfl, hS.pick [0, 1, 2, 3] [0, 1, 2] rfl⟩
                    · replace H := pifb_f hb H
                      refine OJ.pures tU_ok 1 rfl ?_
                      refine OJ.st rfl rfl rfl (SR.fieldAddr tU_ok tI_ok rfl rfl rfl rfl rfl rfl) ?_
                      refine OJ.st rfl rfl rfl (SR.load rfl rfl (fun w' hx => ld1 tU_ok rfl rfl (CA.ext (CA.fld (hS.cells (i := 1) rfl) (mid_part (fe_Pasture_0 _) (fl_Pasture_0 _) ((ci .i8).len _))) hx) rfl)) ?_
                      refine OJ.pures tU_ok 3 rfl ?_
                      refine OJ.nil ?_
                      exact EJ.meet (F' := [(0, .string a0), (2, .pointer (some ⟨b1, 0, none⟩)), (5, .pointer (some ⟨b12, 0, none⟩)), (7, .int .i64 y16), (9, .int .i64 y24), (11, .pointer (some ⟨b26, 0, none⟩)), (13, .bool t27.2), (14, .bool t28.2), (15, .int .i64 t29.1), (37, .slice (cutA A3 c4 0 G.cs.sz) ((t2.drop 0).take (t11.1.High.toNat - 0)).length (c4 - 0)), (38, .int .i64 (((t2.drop 0).take (t11.1.High.toNat - 0)).length : Int)), (39, .int .i64 y16), (45, .slice A20 t19.length c21), (46, .int .i64 (t19.length : Int)), (47, .int .i64 y24), (80, .bool (decide ((IntKind.i64.wrap y23.Wide) ≤ y24)))]) ⟨rfl, rfl, rfl, rfl, rfl, rfl, rfl, rfl, rfl, rfl, rfl, rfl, rfl, rfl, rfl, rfl, trivial⟩ ⟨(decide ((IntKind.i64.wrap y23.Wide) ≤ y24)), H, rfl, hS.pick [0, 1, 2, 3] [0, 1, 2] rfl⟩
                  · rintro F w1 ⟨y30, he, rfl, hS⟩
                    obtain rfl := Option.some.inj he
                    have H := K135
                    refine CJ.cond rfl (fun hb => ?_) (fun hb => ?_)
                    · replace H := pif_t hb H
                      refine CJ.seq ?_
                      refine CJ.region ?_
                      refine OJ.st rfl rfl rfl (SR.build (C := cPasture) tU_ok tI_ok rfl rfl rfl (zs := [.int .i8 0, .int .i8 0, .int .i16 0, .int .i16 0, .int .i16 0, .int .i16 0, .int .i16 0, .int .i16 0, .int .i16 0, .int .i16 0, .int .i16 0, .int .i16 0, .int .i16 0, .int .i16 0, .int .i16 0, .int .i16 0, .int .i16 0, .int .i16 0, .int .i16 0, .int .i16 0, .int .i16 0, .int .i16 0, .int .i16 0, .int .i16 0, .int .i16 0, .int .i16 0, .int .i16 0, .int .i16 0, .int .i16 0, .int .i16 0, .int .i16 0, .int .i16 0, .int .i16 0, .int .i16 0, .int .i16 0, .int .i16 0, .int .i16 0, .int .i16 0, .int .i16 0, .int .i16 0, .int .i16 0, .int .i16 0, .int .i16 0, .int .i16 0, .int .i16 0, .int .i16 0, .int .i16 0, .int .i16 0, .int .i16 0, .int .i16 0, .int .i16 0, .int .i16 0, .int .i16 0, .int .i16 0, .int .i16 0, .int .i16 0, .int .i16 0, .int .i16 0, .int .i16 0, .int .i16 0, .int .i16 0, .int .i16 0, .int .i16 0, .int .i16 0, .int .i16 0, .int .i16 0, .int .i16 0, .int .i16 0, .int .i16 0, .int .i16 0, .int .i16 0, .int .i16 0, .int .i16 0, .int .i16 0, .int .i16 0, .int .i16 0, .int .i16 0, .int .i16 0, .int .i16 0, .int .i16 0, .int .i16 0, .int .i16 0, .int .i16 0, .int .i16 0, .int .i16 0, .int .i16 0, .int .i16 0, .int .i16 0, .int .i16 0, .int .i16 0, .int .i16 0, .int .i16 0, .int .i16 0, .int .i16 0, .int .i16 0, .int .i16 0, .int .i16 0, .int .i16 0, .int .i16 0, .int .i16 0, .int .i16 0, .int .i16 0, .int .u16 0, .int .u16 0, .int .u16 0, .int .u16 0, .int .u16 0, .int .u16 0, .int .u16 0, .int .u16 0, .int .u16 0, .int .u16 0, .int .u16 0, .int .u16 0, .int .u16 0, .int .u16 0, .int .u16 0, .int .u16 0, .int .u16 0, .int .u16 0, .int .u16 0, .int .u16 0]) rfl rfl rfl (⟨0, 0, (Arr.mk' (Arr.mk' 0 : Arr 10 Int) : Arr 10 (Arr 10 Int)), (Arr.mk' 0 : Arr 10 Int), (Arr.mk' 0 : Arr 10 Int)⟩ : Pasture) rfl) ?_
                      refine OJ.es rfl rfl (Es.put tI_ok hS (i := 0) rfl rfl rfl rfl rfl (vs := cPasture.enc (⟨0, 0, (Arr.mk' (Arr.mk' 0 : Arr 10 Int) : Arr 10 (Arr 10 Int)), (Arr.mk' 0 : Arr 10 Int), (Arr.mk' 0 : Arr 10 Int)⟩ : Pasture)) rfl (cPasture.len _) (cPasture.one _) (Put.all cPasture (⟨0, 0, (Arr.mk' (Arr.mk' 0 : Arr 10 Int) : Arr 10 (Arr 10 Int)), (Arr.mk' 0 : Arr 10 Int), (Arr.mk' 0 : Arr 10 Int)⟩ : Pasture) (⟨0, 0, (Arr.mk' (Arr.mk' 0 : Arr 10 Int) : Arr 10 (Arr 10 Int)), (Arr.mk' 0 : Arr 10 Int), (Arr.mk' 0 : Arr 10 Int)⟩ : Pasture)) (by (try simp only [add_lit, Nat.add_assoc, Nat.zero_add, Nat.add_zero]) <;> rfl)) ?_
                      intro w1 hS
                      refine OJ.pures tU_ok 1 rfl ?_
                      refine OJ.nil (EJ.next ?_)
                      refine CJ.ret (EJ.skR (EJ.bkR (EJ.skR (EJ.skR (EJ.bkR (EJ.skR (EJ.bkR (EJ.skR (EJ.skR (EJ.bkR (EJ.skR (EJ.skR (?_)))))))))))))
                      first | (obtain rfl := Option.some.inj H; have H := K132) | (obtain ⟨q132, H2, e132⟩ := pbind H; obtain rfl := Option.some.inj e132; obtain rfl := Option.some.inj K132; have H := H2)
                      first | (obtain rfl := Option.some.inj H; have H := K127) | (obtain ⟨q127, H2, e127⟩ := pbind H; obtain rfl := Option.some.inj e127; obtain rfl := Option.some.inj K127; have H := H2)
                      first | (obtain rfl := Option.some.inj H; have H := K108) | (obtain ⟨q108, H2, e108⟩ := pbind H; obtain rfl := Option.some.inj e108; obtain rfl := Option.some.inj K108; have H := H2)
                      obtain rfl := Option.some.inj H
                      exact EJ.fin rfl (.cell rfl (ldE tU_ok tI_ok rfl rfl rfl (hS.cells (i := 0) rfl) rfl) (.tmp rfl .nil)) ⟨rfl, hS.ext⟩
                    · replace H := pifb_f hb H
                      refine CJ.skip (EJ.next ?_)
                      refine CJ.seq ?_
                      refine CJ.region ?_
                      refine OJ.pures tU_ok 4 rfl ?_
                      refine OJ.st rfl rfl rfl (SR.fieldAddr tU_ok tI_ok rfl rfl rfl rfl rfl rfl) ?_
                      obtain ⟨t31, ht31, H⟩ := pbind H
                      refine OJ.st rfl rfl rfl (SR.idxA tU_ok tI_ok rfl rfl rfl rfl rfl (Arr.lt ht31)) ?_
                      obtain ⟨t32, ht32, H⟩ := pbind H
                      refine OJ.st rfl rfl rfl (SR.idxA tU_ok tI_ok rfl rfl rfl rfl rfl (Arr.lt ht32)) ?_
                      refine OJ.es rfl rfl (Es.put tI_ok hS (i := 1) rfl rfl rfl rfl rfl (vs := (ci .i16).enc (IntKind.i16.wrap t29.1)) rfl rfl (one1 rfl) (put_Pasture_2 (Put.idx (Put.idx (Put.all (ci .i16) t32 (IntKind.i16.wrap t29.1)) ht32) ht31)) (by (try simp only [add_lit, Nat.add_assoc, Nat.zero_add, Nat.add_zero]) <;> rfl)) ?_
                      intro w1 hS
                      refine OJ.nil (EJ.next ?_)
                      refine CJ.seq ?_
                      refine CJ.region ?_
                      refine OJ.st rfl rfl rfl (SR.load rfl rfl (fun w' hx => ldE tU_ok tI_ok rfl rfl rfl (CA.ext (hS.cells (i := 3) rfl) hx) rfl)) ?_
                      refine OJ.st rfl rfl rfl (SR.build (C := cHurdle) tU_ok tI_ok rfl rfl rfl (zs := [.int .i8 0, .int .i8 0, .bool false]) rfl rfl rfl (⟨(⟨IntKind.i8.wrap y24, IntKind.i8.wrap y16⟩ : Spot), false⟩ : Hurdle) rfl) ?_
                      refine OJ.pures tU_ok 1 rfl ?_
                      obtain ⟨t33, ht33, H⟩ := pbind H
                      refine OJ.callF rfl rfl rfl rfl rfl hb33 rfl (impl_Pasture_put.c _ b12 (⟨y23.Wide, y23.High, (aset y23.Grass y16.toNat (aset t31 y24.toNat (IntKind.i16.wrap t29.1))), y23.East, y23.South⟩ : Pasture) (⟨(⟨IntKind.i8.wrap y24, IntKind.i8.wrap y16⟩ : Spot), false⟩ : Hurdle) t28.2 ((hS.subs [1] [] [] rfl).pick [0] [] rfl) _ ht33) ?_
                      rintro _ w1 ⟨rfl, hs⟩
                      replace hS := hS.back [1] rfl rfl [box b12 (cPasture.enc t33) 31] [] hs ⟨fun _ => Iff.rfl, trivial⟩
                      refine OJ.nil (EJ.next ?_)
                      refine CJ.region ?_
                      refine OJ.st rfl rfl rfl (SR.load rfl rfl (fun w' hx => ldE tU_ok tI_ok rfl rfl rfl (CA.ext (hS.cells (i := 3) rfl) hx) rfl)) ?_
                      refine OJ.st rfl rfl rfl (SR.build (C := cHurdle) tU_ok tI_ok rfl rfl rfl (zs := [.int .i8 0, .int .i8 0, .bool false]) rfl rfl rfl (⟨(⟨IntKind.i8.wrap y24, IntKind.i8.wrap y16⟩ : Spot), true⟩ : Hurdle) rfl) ?_
                      refine OJ.pures tU_ok 1 rfl ?_
                      obtain ⟨t34, ht34, H⟩ := pbind H
                      refine OJ.callF rfl rfl rfl rfl rfl hb33 rfl (impl_Pasture_put.c _ b12 t33 (⟨(⟨IntKind.i8.wrap y24, IntKind.i8.wrap y16⟩ : Spot), true⟩ : Hurdle) t27.2 ((hS.subs [1] [] [] rfl).pick [0] [] rfl) _ ht34) ?_
                      rintro _ w1 ⟨rfl, hs⟩
                      replace hS := hS.back [1] rfl rfl [box b12 (cPasture.enc t34) 31] [] hs ⟨fun _ => Iff.rfl, trivial⟩
                      refine OJ.nil (EJ.blk (EJ.next ?_))
                      refine CJ.region ?_
                      refine OJ.pures tU_ok 2 rfl ?_
                      refine OJ.nil ?_
                      exact EJ.round k (F' := [(0, .string a0), (2, .pointer (some ⟨b1, 0, none⟩)), (5, .pointer (some ⟨b12, 0, none⟩)), (7, .int .i64 y16), (37, .slice (cutA A3 c4 0 G.cs.sz) ((t2.drop 0).take (t11.1.High.toNat - 0)).length (c4 - 0)), (38, .int .i64 (((t2.drop 0).take (t11.1.High.toNat - 0)).length : Int)), (39, .int .i64 y16), (45, .slice A20 t19.length c21), (46, .int .i64 (t19.length : Int)), (47, .int .i64 (IntKind.i64.wrap (y24 + 1)))]) ⟨rfl, rfl, rfl, rfl, rfl, rfl, rfl, rfl, rfl, rfl, trivial⟩ (Nat.lt_succ_self _) ⟨t34, (IntKind.i64.wrap (y24 + 1)), rfl, hS.pick [0, 1, 2] [0, 1, 2] rfl, H⟩
                · replace H := pif_f (of_decide_eq_false hb) H
                  refine CJ.exit (EJ.skE (EJ.skE (EJ.hit (?_))))
                  exact EJ.meet (F' := [(0, .string a0), (2, .pointer (some ⟨b1, 0, none⟩)), (5, .pointer (some ⟨b12, 0, none⟩)), (37, .slice (cutA A3 c4 0 G.cs.sz) ((t2.drop 0).take (t11.1.High.toNat - 0)).length (c4 - 0)), (38, .int .i64 (((t2.drop 0).take (t11.1.High.toNat - 0)).length : Int)), (39, .int .i64 y16)]) ⟨rfl, rfl, rfl, rfl, rfl, rfl, trivial⟩ ⟨y23, H, rfl, hS.pick [0, 1] [0, 1, 2] rfl⟩
            · rintro F w1 ⟨y22, he, rfl, hS⟩
              obtain rfl := Option.some.inj he
              have H := K132
              refine EJ.blk (?_)
              exact EJ.meet (F' := [(0, .string a0), (2, .pointer (some ⟨b1, 0, none⟩)), (5, .pointer (some ⟨b12, 0, none⟩)), (37, .slice (cutA A3 c4 0 G.cs.sz) ((t2.drop 0).take (t11.1.High.toNat - 0)).length (c4 - 0)), (38, .int .i64 (((t2.drop 0).take (t11.1.High.toNat - 0)).length : Int)), (39, .int .i64 y16)]) ⟨rfl, rfl, rfl, rfl, rfl, rfl, trivial⟩ ⟨y22, H, rfl, hS.pick [0, 1] [0, 1, 2] rfl⟩
          · rintro F w1 ⟨y17, he, rfl, hS⟩
            obtain rfl := Option.some.inj he
            have H := K127
            refine CJ.region ?_
            refine OJ.pures tU_ok 2 rfl ?_
            refine OJ.nil ?_
            exact EJ.round k (F' := [(0, .string a0), (2, .pointer (some ⟨b1, 0, none⟩)), (5, .pointer (some ⟨b12, 0, none⟩)), (37, .slice (cutA A3 c4 0 G.cs.sz) ((t2.drop 0).take (t11.1.High.toNat - 0)).length (c4 - 0)), (38, .int .i64 (((t2.drop 0).take (t11.1.High.toNat - 0)).length : Int)), (39, .int .i64 (IntKind.i64.wrap (y16 + 1)))]) ⟨rfl, rfl, rfl, rfl, rfl, rfl, trivial⟩ (Nat.lt_succ_self _) ⟨y17, (IntKind.i64.wrap (y16 + 1)), rfl, hS.pick [0, 1] [0, 1, 2] rfl, H⟩
        · replace H := pif_f (of_decide_eq_false hb) H
          refine CJ.exit (EJ.skE (EJ.skE (EJ.hit (?_))))
          exact EJ.meet (F' := [(0, .string a0), (2, .pointer (some ⟨b1, 0, none⟩)), (5, .pointer (some ⟨b12, 0, none⟩))]) ⟨rfl, rfl, rfl, trivial⟩ ⟨y15, H, rfl, hS.pick [0, 1] [0, 1, 2] rfl⟩
    · rintro F w1 ⟨y14, he, rfl, hS⟩
      obtain rfl := Option.some.inj he
      have H := K108
      refine EJ.next ?_
      refine CJ.seq ?_
      refine CJ.seq ?_
      refine CJ.region ?_
      refine OJ.st rfl rfl rfl (SR.load rfl rfl (fun w' hx => ldE tU_ok tI_ok rfl rfl rfl (CA.ext (hS.cells (i := 1) rfl) hx) rfl)) ?_
      obtain ⟨t35, ht35, H⟩ := pbind H
      refine OJ.callF rfl rfl rfl rfl rfl hb9 rfl (impl_PastureText.c k _ y14 (hS.ro (i := 0) rfl) _ ht35) ?_
      rintro _ w1 ⟨rfl, hs⟩
      replace hS := hS.grow hs
      refine OJ.pures tU_ok 2 rfl ?_
      refine OJ.nil (EJ.next ?_)
      refine CJ.cond rfl (fun hb => ?_) (fun hb => ?_)
      · replace H := pif_t (of_decide_eq_true hb) H
        refine CJ.seq ?_
        refine CJ.region ?_
        refine OJ.st rfl rfl rfl (SR.build (C := cPasture) tU_ok tI_ok rfl rfl rfl (zs := [.int .i8 0, .int .i8 0, .int .i16 0, .int .i16 0, .int .i16 0, .int .i16 0, .int .i16 0, .int .i16 0, .int .i16 0, .int .i16 0, .int .i16 0, .int .i16 0, .int .i16 0, .int .i16 0, .int .i16 0, .int .i16 0, .int .i16 0, .int .i16 0, .int .i16 0, .int .i16 0, .int .i16 0, .int .i16 0, .int .i16 0, .int .i16 0, .int .i16 0, .int .i16 0, .int .i16 0, .int .i16 0, .int .i16 0, .int .i16 0, .int .i16 0, .int .i16 0, .int .i16 0, .int .i16 0, .int .i16 0, .int .i16 0, .int .i16 0, .int .i16 0, .int .i16 0, .int .i16 0, .int .i16 0, .int .i16 0, .int .i16 0, .int .i16 0, .int .i16 0, .int .i16 0, .int .i16 0, .int .i16 0, .int .i16 0, .int .i16 0, .int .i16 0, .int .i16 0, .int .i16 0, .int .i16 0, .int .i16 0, .int .i16 0, .int .i16 0, .int .i16 0, .int .i16 0, .int .i16 0, .int .i16 0, .int .i16 0, .int .i16 0, .int .i16 0, .int .i16 0, .int .i16 0, .int .i16 0, .int .i16 0, .int .i16 0, .int .i16 0, .int .i16 0, .int .i16 0, .int .i16 0, .int .i16 0, .int .i16 0, .int .i16 0, .int .i16 0, .int .i16 0, .int .i16 0, .int .i16 0, .int .i16 0, .int .i16 0, .int .i16 0, .int .i16 0, .int .i16 0, .int .i16 0, .int .i16 0, .int .i16 0, .int .i16 0, .int .i16 0, .int .i16 0, .int .i16 0, .int .i16 0, .int .i16 0, .int .i16 0, .int .i16 0, .int .i16 0, .int .i16 0, .int .i16 0, .int .i16 0, .int .i16 0, .int .i16 0, .int .u16 0, .int .u16 0, .int .u16 0, .int .u16 0, .int .u16 0, .int .u16 0, .int .u16 0, .int .u16 0, .int .u16 0, .int .u16 0, .int .u16 0, .int .u16 0, .int .u16 0, .int .u16 0, .int .u16 0, .int .u16 0, .int .u16 0, .int .u16 0, .int .u16 0, .int .u16 0]) rfl rfl rfl (⟨0, 0, (Arr.mk' (Arr.mk' 0 : Arr 10 Int) : Arr 10 (Arr 10 Int)), (Arr.mk' 0 : Arr 10 Int), (Arr.mk' 0 : Arr 10 Int)⟩ : Pasture) rfl) ?_
        refine OJ.es rfl rfl (Es.put tI_ok hS (i := 0) rfl rfl rfl rfl rfl (vs := cPasture.enc (⟨0, 0, (Arr.mk' (Arr.mk' 0 : Arr 10 Int) : Arr 10 (Arr 10 Int)), (Arr.mk' 0 : Arr 10 Int), (Arr.mk' 0 : Arr 10 Int)⟩ : Pasture)) rfl (cPasture.len _) (cPasture.one _) (Put.all cPasture (⟨0, 0, (Arr.mk' (Arr.mk' 0 : Arr 10 Int) : Arr 10 (Arr 10 Int)), (Arr.mk' 0 : Arr 10 Int), (Arr.mk' 0 : Arr 10 Int)⟩ : Pasture) (⟨0, 0, (Arr.mk' (Arr.mk' 0 : Arr 10 Int) : Arr 10 (Arr 10 Int)), (Arr.mk' 0 : Arr 10 Int), (Arr.mk' 0 : Arr 10 Int)⟩ : Pasture)) (by (try simp only [add_lit, Nat.add_assoc, Nat.zero_add, Nat.add_zero]) <;> rfl)) ?_
        intro w1 hS
        refine OJ.pures tU_ok 1 rfl ?_
        refine OJ.nil (EJ.next ?_)
        refine CJ.ret (EJ.skR (?_))
        obtain rfl := Option.some.inj H
        exact EJ.fin rfl (.cell rfl (ldE tU_ok tI_ok rfl rfl rfl (hS.cells (i := 0) rfl) rfl) (.tmp rfl .nil)) ⟨rfl, hS.ext⟩
      · replace H := pif_f (of_decide_eq_false hb) H
        refine CJ.skip (EJ.next ?_)
        refine CJ.seq ?_
        refine CJ.region ?_
        refine OJ.st rfl rfl rfl (SR.load rfl rfl (fun w' hx => ldE tU_ok tI_ok rfl rfl rfl (CA.ext (hS.cells (i := 1) rfl) hx) rfl)) ?_
        refine OJ.es rfl rfl (Es.put tI_ok hS (i := 0) rfl rfl rfl rfl rfl (vs := cPasture.enc y14) rfl (cPasture.len _) (cPasture.one _) (Put.all cPasture (⟨0, 0, (Arr.mk' (Arr.mk' 0 : Arr 10 Int) : Arr 10 (Arr 10 Int)), (Arr.mk' 0 : Arr 10 Int), (Arr.mk' 0 : Arr 10 Int)⟩ : Pasture) y14) (by (try simp only [add_lit, Nat.add_assoc, Nat.zero_add, Nat.add_zero]) <;> rfl)) ?_
        intro w1 hS
        refine OJ.pures tU_ok 1 rfl ?_
        refine OJ.nil (EJ.next ?_)
        refine CJ.ret (?_)
        obtain rfl := Option.some.inj H
        exact EJ.fin rfl (.cell rfl (ldE tU_ok tI_ok rfl rfl rfl (hS.cells (i := 0) rfl) rfl) (.tmp rfl .nil)) ⟨rfl, hS.ext⟩

def impl_Spot_ahead.f (a0 : Spot) (a1 : Int) : Option Spot := if a1 = 0 then (some (⟨a0.X, IntKind.i8.wrap (a0.Y - 1)⟩ : Spot)) else (if a1 = 1 then (some (⟨IntKind.i8.wrap (a0.X + 1), a0.Y⟩ : Spot)) else (if a1 = 2 then (some (⟨a0.X, IntKind.i8.wrap (a0.Y + 1)⟩ : Spot)) else (some (⟨IntKind.i8.wrap (a0.X - 1), a0.Y⟩ : Spot))))
theorem impl_Spot_ahead.c (w : World) (a0 : Spot) (a1 : Int) (r : Spot) (H : impl_Spot_ahead.f a0 a1 = some r) :
    CV Tryz.prog 55 [.agg (cSpot.enc a0).toArray, .int .i64 a1].toArray w fun v w' => v = .agg (cSpot.enc r).toArray ∧ Ext w w' := by
  have hS := (St.init w no)
  unfold impl_Spot_ahead.f at H
  refine CV.body Tryz.func55 rfl Tryz.ntmps55 rfl ?_
  refine CJ.seq ?_
  refine CJ.region ?_
  refine OJ.ef rfl rfl rfl (Ef.box hS rfl rfl (cSpot.enc a0) rfl) ?_
  rintro _ w1 ⟨b1, rfl, hS⟩
  refine OJ.ef rfl rfl rfl (Ef.alloc hS tI_ok rfl rfl (cSpot.enc (⟨0, 0⟩ : Spot)) rfl) ?_
  rintro _ w1 ⟨b2, rfl, hS⟩
  refine OJ.nil (EJ.next ?_)
  refine CJ.seq ?_
  refine CJ.seq ?_
  refine CJ.region ?_
  refine OJ.pures tU_ok 1 rfl ?_
  refine OJ.nil (EJ.next ?_)
  refine CJ.block ?_
  refine CJ.seq ?_
  refine CJ.region ?_
  refine OJ.pures tU_ok 2 rfl ?_
  refine OJ.nil (EJ.next ?_)
  refine CJ.cond rfl (fun hb => ?_) (fun hb => ?_)
  · replace H := pif_t (of_decide_eq_true hb) H
    refine CJ.region ?_
    refine OJ.st rfl rfl rfl (SR.fieldAddr tU_ok tI_ok rfl rfl rfl rfl rfl rfl) ?_
    refine OJ.st rfl rfl rfl (SR.load rfl rfl (fun w' hx => ld1 tU_ok rfl rfl (CA.ext (CA.sub (hS.cells (i := 0) rfl) 1) hx) rfl)) ?_
    refine OJ.pures tU_ok 1 rfl ?_
    refine OJ.st rfl rfl rfl (SR.fieldAddr tU_ok tI_ok rfl rfl rfl rfl rfl rfl) ?_
    refine OJ.es rfl rfl (Es.store tI_ok hS (i := 0) rfl rfl rfl (G.ad1 _ _) rfl rfl (vs := (ci .i8).enc (IntKind.i8.wrap (a0.Y - 1))) rfl rfl (one1 rfl) (Nat.le_of_ble_eq_true rfl) (cSpot.enc (⟨a0.X, IntKind.i8.wrap (a0.Y - 1)⟩ : Spot)) rfl) ?_
    intro w1 hS
    refine OJ.nil (EJ.blk (EJ.next ?_))
    refine CJ.seq ?_
    refine CJ.region ?_
    refine OJ.st rfl rfl rfl (SR.load rfl rfl (fun w' hx => ldE tU_ok tI_ok rfl rfl rfl (CA.ext (hS.cells (i := 0) rfl) hx) rfl)) ?_
    refine OJ.es rfl rfl (Es.store tI_ok hS (i := 1) rfl rfl rfl rfl rfl rfl (vs := cSpot.enc (⟨a0.X, IntKind.i8.wrap (a0.Y - 1)⟩ : Spot)) rfl (cSpot.len _) (cSpot.one _) (Nat.le_of_ble_eq_true rfl) (cSpot.enc (⟨a0.X, IntKind.i8.wrap (a0.Y - 1)⟩ : Spot)) rfl) ?_
    intro w1 hS
    refine OJ.nil (EJ.next ?_)
    refine CJ.ret (?_)
    obtain rfl := Option.some.inj H
    exact EJ.fin rfl (.cell rfl (ldE tU_ok tI_ok rfl rfl rfl (hS.cells (i := 1) rfl) rfl) .nil) ⟨rfl, hS.ext⟩
  · replace H := pif_f (of_decide_eq_false hb) H
    refine CJ.seq ?_
    refine CJ.region ?_
    refine OJ.pures tU_ok 2 rfl ?_
    refine OJ.nil (EJ.next ?_)
    refine CJ.cond rfl (fun hb => ?_) (fun hb => ?_)
    · replace H := pif_t (of_decide_eq_true hb) H
      refine CJ.region ?_
      refine OJ.st rfl rfl rfl (SR.fieldAddr tU_ok tI_ok rfl rfl rfl rfl rfl rfl) ?_
      refine OJ.st rfl rfl rfl (SR.load rfl rfl (fun w' hx => ld1 tU_ok rfl rfl (CA.ext (CA.sub (hS.cells (i := 0) rfl) 0) hx) rfl)) ?_
      refine OJ.pures tU_ok 1 rfl ?_
      refine OJ.st rfl rfl rfl (SR.fieldAddr tU_ok tI_ok rfl rfl rfl rfl rfl rfl) ?_
      refine OJ.es rfl rfl (Es.store tI_ok hS (i := 0) rfl rfl rfl (G.ad1 _ _) rfl rfl (vs := (ci .i8).enc (IntKind.i8.wrap (a0.X + 1))) rfl rfl (one1 rfl) (Nat.le_of_ble_eq_true rfl) (cSpot.enc (⟨IntKind.i8.wrap (a0.X + 1), a0.Y⟩ : Spot)) rfl) ?_
      intro w1 hS
      refine OJ.nil (EJ.blk (EJ.next ?_))
      refine CJ.seq ?_
      refine CJ.region ?_
      refine OJ.st rfl rfl rfl (SR.load rfl rfl (fun w' hx => ldE tU_ok tI_ok rfl rfl rfl (CA.ext (hS.cells (i := 0) rfl) hx) rfl)) ?_
      refine OJ.es rfl rfl (Es.store tI_ok hS (i := 1) rfl rfl rfl rfl rfl rfl (vs := cSpot.enc (⟨IntKind.i8.wrap (a0.X + 1), a0.Y⟩ : Spot)) rfl (cSpot.len _) (cSpot.one _) (Nat.le_of_ble_eq_true rfl) (cSpot.enc (⟨IntKind.i8.wrap (a0.X + 1), a0.Y⟩ : Spot)) rfl) ?_
      intro w1 hS
      refine OJ.nil (EJ.next ?_)
      refine CJ.ret (?_)
      obtain rfl := Option.some.inj H
      exact EJ.fin rfl (.cell rfl (ldE tU_ok tI_ok rfl rfl rfl (hS.cells (i := 1) rfl) rfl) .nil) ⟨rfl, hS.ext⟩
    · replace H := pif_f (of_decide_eq_false hb) H
      refine CJ.seq ?_
      refine CJ.region ?_
      refine OJ.pures tU_ok 2 rfl ?_
      refine OJ.nil (EJ.next ?_)
      refine CJ.cond rfl (fun hb => ?_) (fun hb => ?_)
      · replace H := pif_t (of_decide_eq_true hb) H
        refine CJ.region ?_
        refine OJ.st rfl rfl rfl (SR.fieldAddr tU_ok tI_ok rfl rfl rfl rfl rfl rfl) ?_
        refine OJ.st rfl rfl rfl (SR.load rfl rfl (fun w' hx => ld1 tU_ok rfl rfl (CA.ext (CA.sub (hS.cells (i := 0) rfl) 1) hx) rfl)) ?_
        refine OJ.pures tU_ok 1 rfl ?_
        refine OJ.st rfl rfl rfl (SR.fieldAddr tU_ok tI_ok rfl rfl rfl rfl rfl rfl) ?_
        refine OJ.es rfl rfl (Es.store tI_ok hS (i := 0) rfl rfl rfl (G.ad1 _ _) rfl rfl (vs := (ci .i8).enc (IntKind.i8.wrap (a0.Y + 1))) rfl rfl (one1 rfl) (Nat.le_of_ble_eq_true rfl) (cSpot.enc (⟨a0.X, IntKind.i8.wrap (a0.Y + 1)⟩ : Spot)) rfl) ?_
        intro w1 hS
        refine OJ.nil (EJ.blk (EJ.next ?_))
        refine CJ.seq ?_
        refine CJ.region ?_
        refine OJ.st rfl rfl rfl (SR.load rfl rfl (fun w' hx => ldE tU_ok tI_ok rfl rfl rfl (CA.ext (hS.cells (i := 0) rfl) hx) rfl)) ?_
        refine OJ.es rfl rfl (Es.store tI_ok hS (i := 1) rfl rfl rfl rfl rfl rfl (vs := cSpot.enc (⟨a0.X, IntKind.i8.wrap (a0.Y + 1)⟩ : Spot)) rfl (cSpot.len _) (cSpot.one _) (Nat.le_of_ble_eq_true rfl) (cSpot.enc (⟨a0.X, IntKind.i8.wrap (a0.Y + 1)⟩ : Spot)) rfl) ?_
        intro w1 hS
        refine OJ.nil (EJ.next ?_)
        refine CJ.ret (?_)
        obtain rfl := Option.some.inj H
        exact EJ.fin rfl (.cell rfl (ldE tU_ok tI_ok rfl rfl rfl (hS.cells (i := 1) rfl) rfl) .nil) ⟨rfl, hS.ext⟩
      · replace H := pif_f (of_decide_eq_false hb) H
        refine CJ.region ?_
        refine OJ.st rfl rfl rfl (SR.fieldAddr tU_ok tI_ok rfl rfl rfl rfl rfl rfl) ?_
        refine OJ.st rfl rfl rfl (SR.load rfl rfl (fun w' hx => ld1 tU_ok rfl rfl (CA.ext (CA.sub (hS.cells (i := 0) rfl) 0) hx) rfl)) ?_
        refine OJ.pures tU_ok 1 rfl ?_
        refine OJ.st rfl rfl rfl (SR.fieldAddr tU_ok tI_ok rfl rfl rfl rfl rfl rfl) ?_
        refine OJ.es rfl rfl (Es.store tI_ok hS (i := 0) rfl rfl rfl (G.ad1 _ _) rfl rfl (vs := (ci .i8).enc (IntKind.i8.wrap (a0.X - 1))) rfl rfl (one1 rfl) (Nat.le_of_ble_eq_true rfl) (cSpot.enc (⟨IntKind.i8.wrap (a0.X - 1), a0.Y⟩ : Spot)) rfl) ?_
        intro w1 hS
        refine OJ.nil (EJ.blk (EJ.next ?_))
        refine CJ.seq ?_
        refine CJ.region ?_
        refine OJ.st rfl rfl rfl (SR.load rfl rfl (fun w' hx => ldE tU_ok tI_ok rfl rfl rfl (CA.ext (hS.cells (i := 0) rfl) hx) rfl)) ?_
        refine OJ.es rfl rfl (Es.store tI_ok hS (i := 1) rfl rfl rfl rfl rfl rfl (vs := cSpot.enc (⟨IntKind.i8.wrap (a0.X - 1), a0.Y⟩ : Spot)) rfl (cSpot.len _) (cSpot.one _) (Nat.le_of_ble_eq_true rfl) (cSpot.enc (⟨IntKind.i8.wrap (a0.X - 1), a0.Y⟩ : Spot)) rfl) ?_
        intro w1 hS
        refine OJ.nil (EJ.next ?_)
        refine CJ.ret (?_)
        obtain rfl := Option.some.inj H
        exact EJ.fin rfl (.cell rfl (ldE tU_ok tI_ok rfl rfl rfl (hS.cells (i := 1) rfl) rfl) .nil) ⟨rfl, hS.ext⟩

def impl_hurdleAt.f (a0 : Spot) (a1 : Int) : Option Hurdle := (if a1 = 0 then (some true) else (some (decide (a1 = 3)))).bind fun y3 => if y3 = true then ((impl_Spot_ahead.f a0 a1).bind fun t4 => if a1 = 0 then (some (⟨t4, true⟩ : Hurdle)) else (some (⟨t4, decide (a1 = 2)⟩ : Hurdle))) else (if a1 = 0 then (some (⟨a0, true⟩ : Hurdle)) else (some (⟨a0, decide (a1 = 2)⟩ : Hurdle)))
theorem impl_hurdleAt.c (w : World) (a0 : Spot) (a1 : Int) (r : Hurdle) (H : impl_hurdleAt.f a0 a1 = some r) :
    CV Tryz.prog 56 [.agg (cSpot.enc a0).toArray, .int .i64 a1].toArray w fun v w' => v = .agg (cHurdle.enc r).toArray ∧ Ext w w' := by
  have hS := (St.init w no)
  unfold impl_hurdleAt.f at H
  refine CV.body Tryz.func56 rfl Tryz.ntmps56 rfl ?_
  refine CJ.seq ?_
  refine CJ.region ?_
  refine OJ.ef rfl rfl rfl (Ef.box hS rfl rfl (cSpot.enc a0) rfl) ?_
  rintro _ w1 ⟨b1, rfl, hS⟩
  refine OJ.ef rfl rfl rfl (Ef.alloc hS tI_ok rfl rfl (cHurdle.enc (⟨(⟨0, 0⟩ : Spot), false⟩ : Hurdle)) rfl) ?_
  rintro _ w1 ⟨b2, rfl, hS⟩
  refine OJ.nil (EJ.next ?_)
  refine CJ.seq ?_
  obtain ⟨j141, H, K141⟩ := pbind H
  refine CJ.cut (fun F w1 => ∃ (y3 : Bool) , (some y3 : Option Bool) = some j141 ∧ F = [(1, .int .i64 a1), (2, .pointer (some ⟨b1, 0, none⟩)), (4, .pointer (some ⟨b2, 0, none⟩)), (10, .bool y3)] ∧ St w no w1 [box b1 (cSpot.enc a0) 34, box b2 (cHurdle.enc (⟨(⟨0, 0⟩ : Spot), false⟩ : Hurdle)) 67] []) ?_ ?_
  · skip
    refine CJ.region ?_
    refine OJ.pures tU_ok 3 rfl ?_
    refine OJ.split (t := 7) rfl (fun hb => ?_) (fun hb => ?_)
    · replace H := pif_t (of_decide_eq_true hb) H
      refine OJ.pures tU_ok 3 rfl ?_
      refine OJ.nil ?_
      exact EJ.meet (F' := [(1, .int .i64 a1), (2, .pointer (some ⟨b1, 0, none⟩)), (4, .pointer (some ⟨b2, 0, none⟩)), (10, .bool true)]) ⟨rfl, rfl, rfl, rfl, trivial⟩ ⟨true, H, rfl, hS.pick [0, 1] [] rfl⟩
    · replace H := pif_f (of_decide_eq_false hb) H
      refine OJ.pures tU_ok 3 rfl ?_
      refine OJ.nil ?_
      exact EJ.meet (F' := [(1, .int .i64 a1), (2, .pointer (some ⟨b1, 0, none⟩)), (4, .pointer (some ⟨b2, 0, none⟩)), (10, .bool (decide (a1 = 3)))]) ⟨rfl, rfl, rfl, rfl, trivial⟩ ⟨(decide (a1 = 3)), H, rfl, hS.pick [0, 1] [] rfl⟩
  · rintro F w1 ⟨y3, he, rfl, hS⟩
    obtain rfl := Option.some.inj he
    have H := K141
    refine CJ.cond rfl (fun hb => ?_) (fun hb => ?_)
    · replace H := pif_t hb H
      refine CJ.region ?_
      refine OJ.st rfl rfl rfl (SR.load rfl rfl (fun w' hx => ldE tU_ok tI_ok rfl rfl rfl (CA.ext (hS.cells (i := 0) rfl) hx) rfl)) ?_
      refine OJ.pures tU_ok 1 rfl ?_
      obtain ⟨t4, ht4, H⟩ := pbind H
      refine OJ.callF rfl rfl rfl rfl rfl hb55 rfl (impl_Spot_ahead.c _ a0 a1 _ ht4) ?_
      rintro _ w1 ⟨rfl, hs⟩
      replace hS := hS.grow hs
      refine OJ.es rfl rfl (Es.store tI_ok hS (i := 0) rfl rfl rfl rfl rfl rfl (vs := cSpot.enc t4) rfl (cSpot.len _) (cSpot.one _) (Nat.le_of_ble_eq_true rfl) (cSpot.enc t4) rfl) ?_
      intro w1 hS
      refine OJ.nil (EJ.next ?_)
      refine CJ.seq ?_
      refine CJ.region ?_
      refine OJ.st rfl rfl rfl (SR.load rfl rfl (fun w' hx => ldE tU_ok tI_ok rfl rfl rfl (CA.ext (hS.cells (i := 0) rfl) hx) rfl)) ?_
      refine OJ.pures tU_ok 3 rfl ?_
      refine OJ.split (t := 17) rfl (fun hb => ?_) (fun hb => ?_)
      · replace H := pif_t (of_decide_eq_true hb) H
        refine OJ.pures tU_ok 3 rfl ?_
        refine OJ.st rfl rfl rfl (SR.build (C := cHurdle) tU_ok tI_ok rfl rfl rfl (zs := [.int .i8 0, .int .i8 0, .bool false]) rfl rfl rfl (⟨t4, true⟩ : Hurdle) rfl) ?_
        refine OJ.es rfl rfl (Es.store tI_ok hS (i := 1) rfl rfl rfl rfl rfl rfl (vs := cHurdle.enc (⟨t4, true⟩ : Hurdle)) rfl (cHurdle.len _) (cHurdle.one _) (Nat.le_of_ble_eq_true rfl) (cHurdle.enc (⟨t4, true⟩ : Hurdle)) rfl) ?_
        intro w1 hS
        refine OJ.nil (EJ.next ?_)
        refine CJ.ret (?_)
        obtain rfl := Option.some.inj H
        exact EJ.fin rfl (.cell rfl (ldE tU_ok tI_ok rfl rfl rfl (hS.cells (i := 1) rfl) rfl) .nil) ⟨rfl, hS.ext⟩
      · replace H := pif_f (of_decide_eq_false hb) H
        refine OJ.pures tU_ok 3 rfl ?_
        refine OJ.st rfl rfl rfl (SR.build (C := cHurdle) tU_ok tI_ok rfl rfl rfl (zs := [.int .i8 0, .int .i8 0, .bool false]) rfl rfl rfl (⟨t4, decide (a1 = 2)⟩ : Hurdle) rfl) ?_
        refine OJ.es rfl rfl (Es.store tI_ok hS (i := 1) rfl rfl rfl rfl rfl rfl (vs := cHurdle.enc (⟨t4, decide (a1 = 2)⟩ : Hurdle)) rfl (cHurdle.len _) (cHurdle.one _) (Nat.le_of_ble_eq_true rfl) (cHurdle.enc (⟨t4, decide (a1 = 2)⟩ : Hurdle)) rfl) ?_
        intro w1 hS
        refine OJ.nil (EJ.next ?_)
        refine CJ.ret (?_)
        obtain rfl := Option.some.inj H
        exact EJ.fin rfl (.cell rfl (ldE tU_ok tI_ok rfl rfl rfl (hS.cells (i := 1) rfl) rfl) .nil) ⟨rfl, hS.ext⟩
    · replace H := pifb_f hb H
      refine CJ.skip (EJ.next ?_)
      refine CJ.seq ?_
      refine CJ.region ?_
      refine OJ.st rfl rfl rfl (SR.load rfl rfl (fun w' hx => ldE tU_ok tI_ok rfl rfl rfl (CA.ext (hS.cells (i := 0) rfl) hx) rfl)) ?_
      refine OJ.pures tU_ok 3 rfl ?_
      refine OJ.split (t := 17) rfl (fun hb => ?_) (fun hb => ?_)
      · replace H := pif_t (of_decide_eq_true hb) H
        refine OJ.pures tU_ok 3 rfl ?_
        refine OJ.st rfl rfl rfl (SR.build (C := cHurdle) tU_ok tI_ok rfl rfl rfl (zs := [.int .i8 0, .int .i8 0, .bool false]) rfl rfl rfl (⟨a0, true⟩ : Hurdle) rfl) ?_
        refine OJ.es rfl rfl (Es.store tI_ok hS (i := 1) rfl rfl rfl rfl rfl rfl (vs := cHurdle.enc (⟨a0, true⟩ : Hurdle)) rfl (cHurdle.len _) (cHurdle.one _) (Nat.le_of_ble_eq_true rfl) (cHurdle.enc (⟨a0, true⟩ : Hurdle)) rfl) ?_
        intro w1 hS
        refine OJ.nil (EJ.next ?_)
        refine CJ.ret (?_)
        obtain rfl := Option.some.inj H
        exact EJ.fin rfl (.cell rfl (ldE tU_ok tI_ok rfl rfl rfl (hS.cells (i := 1) rfl) rfl) .nil) ⟨rfl, hS.ext⟩
      · replace H := pif_f (of_decide_eq_false hb) H
        refine OJ.pures tU_ok 3 rfl ?_
        refine OJ.st rfl rfl rfl (SR.build (C := cHurdle) tU_ok tI_ok rfl rfl rfl (zs := [.int .i8 0, .int .i8 0, .bool false]) rfl rfl rfl (⟨a0, decide (a1 = 2)⟩ : Hurdle) rfl) ?_
        refine OJ.es rfl rfl (Es.store tI_ok hS (i := 1) rfl rfl rfl rfl rfl rfl (vs := cHurdle.enc (⟨a0, decide (a1 = 2)⟩ : Hurdle)) rfl (cHurdle.len _) (cHurdle.one _) (Nat.le_of_ble_eq_true rfl) (cHurdle.enc (⟨a0, decide (a1 = 2)⟩ : Hurdle)) rfl) ?_
        intro w1 hS
        refine OJ.nil (EJ.next ?_)
        refine CJ.ret (?_)
        obtain rfl := Option.some.inj H
        exact EJ.fin rfl (.cell rfl (ldE tU_ok tI_ok rfl rfl rfl (hS.cells (i := 1) rfl) rfl) .nil) ⟨rfl, hS.ext⟩

def impl_Pasture_canGo.f (a0 : Pasture) (a1 : Spot) (a2 : Int) : Option Bool := (impl_Spot_ahead.f a1 a2).bind fun t3 => (impl_Pasture_isCell.f a0 t3).bind fun t4 => if t4 = true then ((impl_hurdleAt.f a1 a2).bind fun t5 => (impl_Pasture_stands.f a0 t5).bind fun t6 => some (!t6)) else (some false)
theorem impl_Pasture_canGo.c (w : World) (a0 : Pasture) (a1 : Spot) (a2 : Int) (r : Bool) (H : impl_Pasture_canGo.f a0 a1 a2 = some r) :
    CV Tryz.prog 54 [.agg (cPasture.enc a0).toArray, .agg (cSpot.enc a1).toArray, .int .i64 a2].toArray w fun v w' => v = .bool r ∧ Ext w w' := by
  have hS := (St.init w no)
  unfold impl_Pasture_canGo.f at H
  refine CV.body Tryz.func54 rfl Tryz.ntmps54 rfl ?_
  refine CJ.seq ?_
  refine CJ.region ?_
  refine OJ.ef rfl rfl rfl (Ef.box hS rfl rfl (cPasture.enc a0) rfl) ?_
  rintro _ w1 ⟨b1, rfl, hS⟩
  refine OJ.ef rfl rfl rfl (Ef.box hS rfl rfl (cSpot.enc a1) rfl) ?_
  rintro _ w1 ⟨b2, rfl, hS⟩
  refine OJ.pures tU_ok 1 rfl ?_
  refine OJ.nil (EJ.next ?_)
  refine CJ.seq ?_
  refine CJ.draw [] [0, 1, 2, 3, 4, 5, 6, 7, 8, 9, 10, 11, 12, 13] mixed (by kernel_rfl) hS fun w1 hS => ?_
  refine DJ.st rfl rfl rfl rfl rfl (SR.load rfl rfl (fun w' hx => ldE tU_ok tI_ok rfl rfl rfl (CA.ext (hS.cells (i := 0) rfl) hx) rfl)) ?_
  refine DJ.st rfl rfl rfl rfl rfl (SR.load rfl rfl (fun w' hx => ldE tU_ok tI_ok rfl rfl rfl (CA.ext (hS.cells (i := 1) rfl) hx) rfl)) ?_
  refine DJ.pures tU_ok 1 rfl ?_
  obtain ⟨t3, ht3, H⟩ := pbind H
  refine DJ.callF rfl rfl rfl rfl rfl rfl rfl hb55 rfl (impl_Spot_ahead.c _ a1 a2 _ ht3) (by rintro v w' ⟨rfl, hs⟩; exact hs) ?_
  rintro _ w1 ⟨rfl, hs⟩
  replace hS := hS.grow hs
  obtain ⟨t4, ht4, H⟩ := pbind H
  refine DJ.callF rfl rfl rfl rfl rfl rfl rfl hb50 rfl (impl_Pasture_isCell.c _ a0 t3 _ ht4) (by rintro v w' ⟨rfl, hs⟩; exact hs) ?_
  rintro _ w1 ⟨rfl, hs⟩
  replace hS := hS.grow hs
  refine DJ.pures tU_ok 1 rfl ?_
  refine DJ.split (t := 12) rfl (fun hb => ?_) (fun hb => ?_)
  · replace H := pif_t hb H
    refine DJ.st rfl rfl rfl rfl rfl (SR.load rfl rfl (fun w' hx => ldE tU_ok tI_ok rfl rfl rfl (CA.ext (hS.cells (i := 0) rfl) hx) rfl)) ?_
    refine DJ.st rfl rfl rfl rfl rfl (SR.load rfl rfl (fun w' hx => ldE tU_ok tI_ok rfl rfl rfl (CA.ext (hS.cells (i := 1) rfl) hx) rfl)) ?_
    refine DJ.pures tU_ok 1 rfl ?_
    obtain ⟨t5, ht5, H⟩ := pbind H
    refine DJ.callF rfl rfl rfl rfl rfl rfl rfl hb56 rfl (impl_hurdleAt.c _ a1 a2 _ ht5) (by rintro v w' ⟨rfl, hs⟩; exact hs) ?_
    rintro _ w1 ⟨rfl, hs⟩
    replace hS := hS.grow hs
    obtain ⟨t6, ht6, H⟩ := pbind H
    refine DJ.callF rfl rfl rfl rfl rfl rfl rfl hb36 rfl (impl_Pasture_stands.c _ a0 t5 _ ht6) (by rintro v w' ⟨rfl, hs⟩; exact hs) ?_
    rintro _ w1 ⟨rfl, hs⟩
    replace hS := hS.grow hs
    refine DJ.pures tU_ok 3 rfl ?_
    refine DJ.nil (EJ.next ?_)
    refine CJ.ret (?_)
    obtain rfl := Option.some.inj H
    exact EJ.fin rfl (.tmp rfl .nil) ⟨rfl, hS.ext⟩
  · replace H := pifb_f hb H
    refine DJ.pures tU_ok 8 rfl ?_
    refine DJ.nil (EJ.next ?_)
    refine CJ.ret (?_)
    obtain rfl := Option.some.inj H
    exact EJ.fin rfl (.tmp rfl .nil) ⟨rfl, hS.ext⟩
end Go.Proofs.YtbkkojdkiimdjaaGreatDoor
